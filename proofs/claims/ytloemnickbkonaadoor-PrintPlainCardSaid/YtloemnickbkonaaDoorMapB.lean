/- A map[string]bool that the call itself makes: a look-up's law; the set of keys stored so far. -/
import Derived.Maps.OwnOps
import Derived.Maps.OwnSet
import Derived.Maps.Views
import Derived.StringKeys
namespace Go.Proofs.YtloemnickbkonaaDoor
open Go.RowKit Go.Maps
set_option linter.unusedVariables false

theorem plainElem_bool_inv {H : Type} {P : Program} {e : TypeId} (he : P.underlying e = some .bool) {v : Value} {z : DataW H × List MemPlace} (h : plainElem P e v = some z) : ∃ x, v = .bool x ∧ z = (.lit (.bool x), []) := by
  unfold plainElem at h
  rw [he] at h
  cases v <;> simp at h
  exact ⟨_, rfl, h.symm⟩
theorem wpList_lookup_own_bool {H : Type} {P : Program} (w : World) {ops : Array Oper} {rest : List Oper} {o : Oper} {a : Act} {Q : Exit → Act → World → Prop}
    (hg : o.guard = none) (m x : Operand) (t : TypeId) (hop : o.op = Op.lookup t m x false)
    (k e : TypeId) (K : Keyed P k) (ht : P.underlying t = some (.map k e)) (he : P.underlying e = some .bool) (hz : (zeroValue e).run P w = .ok (.bool false) w) (b n : Nat) (D : DataW H)
    (hm : a.eval m = .map (some b)) (hown : w.ownsMap P k (plainElem P e) b n D) (key : Value) (kl : Lit) (hx : a.eval x = key) (hkey : keyOf P k key = some kl)
    (hK : ∀ c : Bool, D.atKey kl (.lit (.bool false)) = .lit (.bool c) → wpList P ops Q rest (a.put o.dst (.bool c)) w) :
    wpList P ops Q (o :: rest) a w := by
  refine wpList_plain hg fun K' hK' => ?_
  obtain ⟨v, ps, hrun, hv⟩ := hown.lookup K ht hz (plainElem_bool he false) hkey
  obtain ⟨c, rfl, hc⟩ := plainElem_bool_inv he hv
  simp only [Prod.mk.injEq] at hc
  unfold Oper.wp
  simp [execOp, hop, hm, hx, hrun, Result.andThen]
  exact hK' _ _ (hK c hc.1)

/-- The keys as data. -/
def keyL (s : ByteArray) : Lit := .string s.data.toList
def hadD (acc : List ByteArray) : DataW Unit := setOf (.lit (.bool true)) (acc.map keyL)
theorem hadD_nil : hadD [] = .map [] := rfl
theorem hadD_snoc (acc : List ByteArray) (k : ByteArray) : hadD (acc ++ [k]) = (hadD acc).put (keyL k) (.lit (.bool true)) := by
  unfold hadD; rw [List.map_append]; exact setOf_snoc _ _ _
theorem isMap_hadD (acc : List ByteArray) : IsMap (hadD acc) := by
  obtain ⟨es, h, _⟩ := tidy_setOf (.lit (.bool true) : DataW Unit) (acc.map keyL) (fun x hx => by obtain ⟨s, _, rfl⟩ := List.mem_map.1 hx; unfold keyL; trivial)
  exact ⟨es, h⟩
/-- Is the key among those? -/
def hasB (acc : List ByteArray) (k : ByteArray) : Bool := acc.any fun x => decide (x.data.toList = k.data.toList)
theorem hasB_snoc (acc : List ByteArray) (x k : ByteArray) : hasB (acc ++ [x]) k = (hasB acc k || decide (x.data.toList = k.data.toList)) := by simp [hasB]
theorem isKey_keyL (s : ByteArray) : WideAt.IsKeyLit (keyL s) := by unfold keyL; exact trivial
theorem atKey_hadD_aux (k : ByteArray) (n : Nat) : ∀ acc : List ByteArray, acc.length = n → (hadD acc).atKey (keyL k) (.lit (.bool false)) = .lit (.bool (hasB acc k)) := by
  induction n with
  | zero =>
    intro acc h
    obtain rfl := List.eq_nil_of_length_eq_zero h
    rfl
  | succ n ih =>
    intro acc h
    have hne : acc ≠ [] := by intro e; subst e; simp at h
    have hd := List.dropLast_concat_getLast hne
    generalize acc.dropLast = acc' at hd
    generalize acc.getLast hne = x at hd
    subst hd
    rw [hadD_snoc, hasB_snoc]
    by_cases e : x.data.toList = k.data.toList
    · have e' : keyL k = keyL x := by unfold keyL; rw [e]
      rw [e', atKey_put_same (isMap_hadD acc') (isKey_keyL x), decide_eq_true e, Bool.or_true]
    · have e' : keyL k ≠ keyL x := fun h => e (by unfold keyL at h; injection h with h; exact h.symm)
      rw [atKey_put_other e', ih acc' (by simpa using h), decide_eq_false e, Bool.or_false]
theorem atKey_hadD (k : ByteArray) (acc : List ByteArray) : (hadD acc).atKey (keyL k) (.lit (.bool false)) = .lit (.bool (hasB acc k)) := atKey_hadD_aux k _ acc rfl
end Go.Proofs.YtloemnickbkonaaDoor
