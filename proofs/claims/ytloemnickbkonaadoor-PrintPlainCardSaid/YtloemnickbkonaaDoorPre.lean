/- Trees in preorder: plain. -/
import Derived.Test.YtloemnickbkonaaDoorKinds
namespace Go.Proofs.YtloemnickbkonaaDoor
set_option linter.unusedVariables false

mutual
/-- The nodes in preorder, each with its level. -/
def preN (b : Int) : Nd → List (Int × Nd)
  | ⟨k, n, u, s, ks, l⟩ => (b, ⟨k, n, u, s, ks, l⟩) :: preL (b + 1) l
def preL (b : Int) : List Nd → List (Int × Nd)
  | [] => []
  | x :: r => preN b x ++ preL b r
end
mutual
/-- The depth of a tree. -/
def dpN : Nd → Nat
  | ⟨_, _, _, _, _, l⟩ => dpL l + 1
def dpL : List Nd → Nat
  | [] => 0
  | x :: r => max (dpN x) (dpL r)
end
theorem preN_eq (b : Int) (x : Nd) : preN b x = (b, x) :: preL (b + 1) x.f5 := by cases x; simp only [preN]
theorem dpN_eq (x : Nd) : dpN x = dpL x.f5 + 1 := by cases x; simp only [dpN]
theorem preL_append (b : Int) (l r : List Nd) : preL b (l ++ r) = preL b l ++ preL b r := by
  induction l with
  | nil => simp [preL]
  | cons x l ih => simp only [List.cons_append, preL, ih, List.append_assoc]
theorem dpL_mem {l : List Nd} {x : Nd} (h : x ∈ l) : dpN x ≤ dpL l := by
  induction l with
  | nil => cases h
  | cons y l ih =>
    simp only [dpL]
    rcases List.mem_cons.1 h with rfl | h
    · omega
    · have := ih h; omega
mutual
/-- All sizes within the model's bounds. -/
def okN : Nd → Prop
  | ⟨_, _, _, s, ks, l⟩ => s.size ≤ 140737488355328 ∧ ks.length ≤ 140737488355328 ∧ (∀ x ∈ ks, x.size ≤ 140737488355328) ∧ l.length ≤ 140737488355328 ∧ okL l
def okL : List Nd → Prop
  | [] => True
  | x :: r => okN x ∧ okL r
end
theorem okL_mem {l : List Nd} (h : okL l) {x : Nd} (hx : x ∈ l) : okN x := by
  induction l with
  | nil => cases hx
  | cons y l ih =>
    simp only [okL] at h
    rcases List.mem_cons.1 hx with rfl | hx
    · exact h.1
    · exact ih h.2 hx
theorem okN_eq (x : Nd) : okN x ↔ x.f3.size ≤ 140737488355328 ∧ x.f4.length ≤ 140737488355328 ∧ (∀ y ∈ x.f4, y.size ≤ 140737488355328) ∧ x.f5.length ≤ 140737488355328 ∧ okL x.f5 := by cases x; simp only [okN]
theorem okN.mem {x : Nd} (h : okN x) {y : Nd} (hy : y ∈ x.f5) : okN y := okL_mem ((okN_eq x).1 h).2.2.2.2 hy
/-- An induction over trees. -/
theorem Nd.ind {P : Nd → Prop} (h : ∀ x : Nd, (∀ y ∈ x.f5, P y) → P x) (x : Nd) : P x := by
  suffices H : ∀ n x, dpN x ≤ n → P x from H _ x (Nat.le_refl _)
  intro n
  induction n with
  | zero => intro x hx; rw [dpN_eq] at hx; omega
  | succ n ih =>
    intro x hx
    refine h x fun y hy => ih y ?_
    have := dpL_mem hy
    rw [dpN_eq] at hx
    omega
theorem okN_pre (b : Int) {x : Nd} (h : okN x) : ∀ p ∈ preN b x, okN p.2 := by
  induction x using Nd.ind generalizing b with
  | h x ih =>
    intro p hp
    rw [preN_eq] at hp
    rcases List.mem_cons.1 hp with rfl | hp
    · exact h
    · have hall : ∀ l : List Nd, (∀ y ∈ l, y ∈ x.f5) → p ∈ preL (b + 1) l → okN p.2 := by
        intro l
        induction l with
        | nil => intro _ hp; simp [preL] at hp
        | cons y l ihl =>
          intro hl hp
          simp only [preL, List.mem_append] at hp
          rcases hp with hp | hp
          · exact ih y (hl y List.mem_cons_self) (b + 1) (h.mem (hl y List.mem_cons_self)) p hp
          · exact ihl (fun z hz => hl z (List.mem_cons_of_mem _ hz)) hp
      exact hall x.f5 (fun _ h => h) hp
theorem preN_pos (b : Int) (x : Nd) : 0 < (preN b x).length := by rw [preN_eq]; simp
theorem preL_take (b : Int) (l : List Nd) (i : Nat) (hi : i < l.length) : preL b (l.take (i + 1)) = preL b (l.take i) ++ preN b l[i] := by
  rw [List.take_succ_eq_append_getElem hi, preL_append]; simp [preL]
theorem preL_take_le (b : Int) (l : List Nd) (i : Nat) : (preL b (l.take i)).length ≤ (preL b l).length := by
  have := preL_append b (l.take i) (l.drop i)
  rw [List.take_append_drop] at this
  rw [this]; simp
/-- The preorder up to child i. -/
def preTo (b : Int) (x : Nd) (i : Int) : List (Int × Nd) := (b, x) :: preL (b + 1) (x.f5.take i.toNat)
theorem preTo_zero (b : Int) (x : Nd) : preTo b x 0 = [(b, x)] := by simp [preTo, preL]
theorem rdN_at (xs : List Nd) (k : Nat) (h : k < xs.length) : rdN xs (k : Int) = xs[k] := by simp [rdN, List.getD_eq_getElem?_getD, h]
theorem rdN_mem (xs : List Nd) (i : Int) (h0 : 0 ≤ i) (h1 : i < xs.length) : rdN xs i ∈ xs := by
  obtain ⟨n, rfl⟩ := Int.eq_ofNat_of_zero_le h0
  have hn : n < xs.length := by omega
  rw [rdN_at xs n hn]; exact List.getElem_mem hn
theorem preTo_succ (b : Int) (x : Nd) (i : Int) (h0 : 0 ≤ i) (h1 : i < x.f5.length) : preTo b x (i + 1) = preTo b x i ++ preN (b + 1) (rdN x.f5 i) := by
  obtain ⟨n, rfl⟩ := Int.eq_ofNat_of_zero_le h0
  have hn : n < x.f5.length := by omega
  rw [rdN_at _ n hn]
  unfold preTo
  rw [show ((n : Int) + 1).toNat = n + 1 from by omega, Int.toNat_natCast, preL_take _ _ _ hn]
  rfl
theorem preTo_prefix (b : Int) (x : Nd) (i : Int) : preTo b x i <+: preN b x := by
  rw [preN_eq]
  refine ⟨preL (b + 1) (x.f5.drop i.toNat), ?_⟩
  unfold preTo
  rw [List.cons_append, ← preL_append, List.take_append_drop]
theorem preTo_end (b : Int) (x : Nd) (i : Int) (h : x.f5.length ≤ i) : preTo b x i = preN b x := by
  rw [preN_eq]; unfold preTo; rw [List.take_of_length_le (by omega)]
theorem preTo_cut (b : Int) (x : Nd) (i : Int) (h0 : 0 ≤ i) (h1 : i < x.f5.length) {p : List (Int × Nd)} (hp : p <+: preN (b + 1) (rdN x.f5 i)) : preTo b x i ++ p <+: preN b x := by
  have h := preTo_prefix b x (i + 1)
  rw [preTo_succ b x i h0 h1] at h
  obtain ⟨q, hq⟩ := hp
  exact List.IsPrefix.trans ⟨q, by rw [List.append_assoc, hq]⟩ h
theorem preTo_count (b : Int) (x : Nd) (i : Int) (h0 : 0 ≤ i) (h1 : i < x.f5.length) : (preTo b x i).length + (preN (b + 1) (rdN x.f5 i)).length ≤ (preN b x).length := by
  have h := (preTo_prefix b x (i + 1)).length_le
  rw [preTo_succ b x i h0 h1, List.length_append] at h
  exact h
theorem dpN_child (x : Nd) (i : Int) (h0 : 0 ≤ i) (h1 : i < x.f5.length) : dpN (rdN x.f5 i) + 1 ≤ dpN x := by
  have := dpL_mem (rdN_mem x.f5 i h0 h1)
  rw [dpN_eq x]; omega
end Go.Proofs.YtloemnickbkonaaDoor
