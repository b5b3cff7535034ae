/- PrintPlain: plain: a text has no control bytes, and spaces within literals alone. -/
import Derived.Test.YtloemnickbkonaaDoorPrP
namespace Go.Proofs.YtloemnickbkonaaDoor
open Go.RowKit Go.Proofs.YtloemnickbkonaaDoorW.PrintWords Go.Proofs.YtloemnickbkonaaDoorW.PrintLast Go.Proofs.YtloemnickbkonaaDoorW.PrintMore
set_option linter.unusedVariables false
set_option linter.unusedSimpArgs false

/-- The law's loop over the bytes that are left; none: it answered false. -/
def scanL (w : Bool) : List UInt8 → Option Bool
  | [] => some w
  | c :: r => if c < 32 || (c == 32 && !w) then none else if c == 92 then (match r with | [] => some w | _ :: r' => scanL w r') else scanL (if c == 34 then !w else w) r
theorem scanL_cons (w : Bool) (c : UInt8) (r : List UInt8) : scanL w (c :: r) = if c < 32 || (c == 32 && !w) then none else if c == 92 then (match r with | [] => some w | _ :: r' => scanL w r') else scanL (if c == 34 then !w else w) r := by cases r <;> rfl
/-- A piece that the loop passes over, outside of literals; inside. -/
def Cl (p : List UInt8) : Prop := ∀ r, scanL false (p ++ r) = scanL false r
def In (p : List UInt8) : Prop := ∀ r, scanL true (p ++ r) = scanL true r
def inB : List UInt8 → Bool
  | [] => true
  | c :: r => if c < 32 then false else if c == 92 then (match r with | [] => false | _ :: r' => inB r') else if c == 34 then false else inB r
theorem inB_cons (c : UInt8) (r : List UInt8) : inB (c :: r) = if c < 32 then false else if c == 92 then (match r with | [] => false | _ :: r' => inB r') else if c == 34 then false else inB r := by cases r <;> rfl
theorem in_of : ∀ (p : List UInt8), inB p = true → In p
  | [], _, r => rfl
  | c :: p, h, r => by
    rw [inB_cons] at h
    rw [List.cons_append, scanL_cons]
    by_cases h1 : c < 32
    · rw [if_pos h1] at h; cases h
    · rw [if_neg h1] at h
      have e : (decide (c < 32) || (c == 32 && !true)) = false := by simp [h1]
      rw [e]
      simp only [Bool.false_eq_true, if_false]
      by_cases h2 : (c == 92) = true
      · rw [if_pos h2] at h ⊢
        cases p with
        | nil => cases h
        | cons x p => exact in_of p h r
      · rw [if_neg h2] at h ⊢
        by_cases h3 : (c == 34) = true
        · rw [if_pos h3] at h; cases h
        · rw [if_neg h3] at h ⊢
          exact in_of p h r
def clB (p : List UInt8) : Bool := p.all fun c => decide (32 < c) && !(c == 92) && !(c == 34)
theorem cl_of : ∀ (p : List UInt8), clB p = true → Cl p
  | [], _, r => rfl
  | c :: p, h, r => by
    unfold clB at h
    rw [List.all_cons, Bool.and_eq_true, Bool.and_eq_true, Bool.and_eq_true, Bool.not_eq_true', Bool.not_eq_true', decide_eq_true_eq] at h
    obtain ⟨⟨⟨h1, h2⟩, h3⟩, h4⟩ := h
    rw [List.cons_append, scanL_cons]
    have e : (decide (c < 32) || (c == 32 && !false)) = false := by
      have a : ¬ c < 32 := by rw [UInt8.lt_iff_toNat_lt] at *; have : (32 : UInt8).toNat = 32 := rfl; omega
      have b : (c == 32) = false := by rw [beq_eq_false_iff_ne]; rintro rfl; exact absurd h1 (by decide)
      simp [a, b]
    rw [e, h2, h3]
    simp only [Bool.false_eq_true, if_false]
    exact cl_of p h4 r
theorem Cl.append {p q : List UInt8} (h : Cl p) (k : Cl q) : Cl (p ++ q) := fun r => by rw [List.append_assoc, h, k]
theorem In.append {p q : List UInt8} (h : In p) (k : In q) : In (p ++ q) := fun r => by rw [List.append_assoc, h, k]
theorem cl_nil : Cl [] := fun r => rfl
theorem esc_small : ((List.range 128).all fun n => inB (escL (n : Int))) = true := by kernel_rfl
theorem high_in {p : List UInt8} (h : ∀ c ∈ p, 128 ≤ c.toNat) : inB p = true := by
  induction p with
  | nil => rfl
  | cons c p ih =>
    have hc := h c List.mem_cons_self
    rw [inB_cons, if_neg (by rw [UInt8.lt_iff_toNat_lt]; have : (32 : UInt8).toNat = 32 := rfl; omega), if_neg (by rw [beq_iff_eq]; rintro rfl; exact absurd hc (by decide)), if_neg (by rw [beq_iff_eq]; rintro rfl; exact absurd hc (by decide))]
    exact ih fun z hz => h z (List.mem_cons_of_mem _ hz)
theorem enc_high {r : Int} (h : 128 ≤ r) : ∀ c ∈ Lib.encodeRune r, 128 ≤ c.toNat := by
  have hz : ∀ z ∈ Lib.encodeRuneZ r, 128 ≤ z ∧ z ≤ 255 := by
    intro z hz
    unfold Lib.encodeRuneZ at hz
    rw [if_neg (by omega)] at hz
    repeat' split at hz
    all_goals
      simp only [List.mem_cons, List.not_mem_nil, or_false] at hz
      omega
  intro c hc
  obtain ⟨z, hz1, rfl⟩ := List.mem_map.1 hc
  have := hz z hz1
  show 128 ≤ (z.toNat.toUInt8).toNat
  rw [Nat.toUInt8, UInt8.toNat_ofNat']
  omega
theorem esc_in (n : Nat) : In (escL (n : Int)) := by
  by_cases h : n < 128
  · exact in_of _ (List.all_eq_true.1 esc_small n (List.mem_range.2 h))
  · have e : escL (n : Int) = Lib.encodeRune (n : Int) := by
      unfold escL escB meantAt
      rw [if_neg (show ¬ (n : Int) < 128 by omega), if_neg (by omega), if_neg (by omega)]
    rw [e]
    exact in_of _ (high_in (enc_high (by omega)))
theorem escFrom_in (s : ByteArray) : ∀ g pos, In (escFrom s g pos)
  | 0, _ => fun r => rfl
  | g + 1, pos => by
    rw [escFrom]
    split
    · exact (esc_in _).append (escFrom_in s g _)
    · exact fun r => rfl
theorem quoteL_cl (s : ByteArray) : Cl (quoteL s) := fun r => by
  unfold quoteL
  rw [List.append_assoc, List.append_assoc, List.singleton_append, scanL_cons]
  rw [show (decide ((34 : UInt8) < 32) || ((34 : UInt8) == 32 && !false)) = false from by decide, show ((34 : UInt8) == 92) = false from by decide, show ((34 : UInt8) == 34) = true from by decide]
  simp only [Bool.false_eq_true, if_false, if_true]
  rw [show (!false) = true from rfl, escFrom_in s s.size 0, List.singleton_append, scanL_cons]
  rw [show (decide ((34 : UInt8) < 32) || ((34 : UInt8) == 32 && !true)) = false from by decide, show ((34 : UInt8) == 92) = false from by decide, show ((34 : UInt8) == 34) = true from by decide]
  simp
theorem outQ_cl (s : ByteArray) (h : (outQ s).2 = 0) : Cl (outQ s).1 := by
  have hv : Lib.validD s.data.toList = true := by
    unfold outQ quoteE at h
    by_cases hv : Lib.validD s.data.toList = true
    · exact hv
    · simp only [if_neg hv] at h; cases h
  show Cl (quoteS s).data.toList
  unfold quoteS
  rw [if_pos hv]
  exact quoteL_cl s
theorem digit_cl (c : Nat) (h : c < 10) : (decide (32 < UInt8.ofNat (48 + c)) && !(UInt8.ofNat (48 + c) == 92) && !(UInt8.ofNat (48 + c) == 34)) = true := by
  have : ((List.range 10).all fun c => decide (32 < UInt8.ofNat (48 + c)) && !(UInt8.ofNat (48 + c) == 92) && !(UInt8.ofNat (48 + c) == 34)) = true := by decide
  exact List.all_eq_true.1 this c (List.mem_range.2 h)
theorem dec_cl (u : Nat) : clB (Lib.decDigits u) = true := by
  rw [Lib.decDigits_eq]
  unfold clB
  rw [List.all_map, List.all_eq_true]
  intro t _
  exact digit_cl _ (Nat.mod_lt _ (by decide))
theorem itoa_cl (n : Int) : clB (Lib.itoa n) = true := by
  unfold Lib.itoa
  split
  · have := dec_cl n.natAbs
    unfold clB at this ⊢
    rw [List.all_cons, this]; decide
  · exact dec_cl _
/-- Signs of base64. -/
theorem sign_ok : (signL.all fun c => decide (32 < c) && !(c == 92) && !(c == 34)) = true := by decide
theorem ch_ok (p : List UInt8) (i : Nat) : (decide (32 < ch p i) && !(ch p i == 92) && !(ch p i == 34)) = true := by
  unfold ch
  split
  · decide
  · have hl : nOf p 3 / 2 ^ (6 * (3 - i)) % 64 < signL.length := Nat.lt_of_lt_of_eq (Nat.mod_lt _ (by decide)) (by decide)
    simp only [List.getD_eq_getElem?_getD, List.getElem?_eq_getElem hl, Option.getD_some]
    exact List.all_eq_true.1 sign_ok _ (List.getElem_mem hl)
theorem put64_ok : ∀ (g : Nat) (l : List UInt8), clB (put64 g l) = true
  | 0, l => rfl
  | g + 1, l => by
    rw [put64]
    split
    · rfl
    · have := put64_ok g (l.drop 3)
      unfold clB at this ⊢
      rw [List.all_append, this, Bool.and_true]
      unfold chars
      rw [List.all_map, List.all_eq_true]
      intro i _
      exact ch_ok _ _
theorem in_of_cl : ∀ (p : List UInt8), clB p = true → inB p = true
  | [], _ => rfl
  | c :: p, h => by
    unfold clB at h
    rw [List.all_cons, Bool.and_eq_true, Bool.and_eq_true, Bool.and_eq_true, Bool.not_eq_true', Bool.not_eq_true', decide_eq_true_eq] at h
    obtain ⟨⟨⟨h1, h2⟩, h3⟩, h4⟩ := h
    have a : ¬ c < 32 := by rw [UInt8.lt_iff_toNat_lt] at *; have : (32 : UInt8).toNat = 32 := rfl; omega
    rw [inB_cons, if_neg a, h2, h3]
    simp only [Bool.false_eq_true, if_false]
    exact in_of_cl p h4
theorem b64_in (l : List UInt8) : inB (b64L l) = true := in_of_cl _ (put64_ok _ _)
theorem cat_zero {p q : Out} (h : (cat p q).2 = 0) : p.2 = 0 ∧ q.2 = 0 := by
  unfold cat at h
  simp only at h
  split at h
  · exact ⟨by assumption, h⟩
  · exact absurd h (by assumption)
theorem outA_cl (f : Nd → Out) (m : Bool) (hf : ∀ x, (f x).2 = 0 → Cl (f x).1) : ∀ (l : List (ByteArray × Nd)) (sm : Bool), (outA f m sm l).2 = 0 → Cl (outA f m sm l).1
  | [], sm, _ => cl_nil
  | p :: r, sm, h => by
    rw [outA] at h ⊢
    obtain ⟨h1, h2⟩ := cat_zero h
    have k2 := outA_cl f m hf r true h2
    unfold outM at h1 ⊢
    obtain ⟨h3, h4⟩ := cat_zero h1
    obtain ⟨h5, h6⟩ := cat_zero h4
    refine Cl.append (Cl.append ?_ (Cl.append ?_ (hf _ h6))) k2
    · cases sm
      · exact cl_nil
      · exact cl_of _ (by decide)
    · cases m
      · exact cl_nil
      · simp only [if_true] at h5 ⊢
        exact Cl.append (outQ_cl _ (cat_zero h5).1) (cl_of _ (by decide))
theorem outD_cl : ∀ (d : Nat) (x : Nd), (outD d x).2 = 0 → Cl (outD d x).1
  | 0, x, _ => cl_nil
  | d + 1, x, h => by
    have ih := outD_cl d
    revert h
    rw [outD]
    by_cases h1 : x.f0 = 1
    · rw [if_pos h1]; intro _; exact cl_of _ (by decide)
    rw [if_neg h1]
    by_cases h2 : x.f0 = 2
    · rw [if_pos h2]; intro _; cases (x.f1 == 1) <;> exact cl_of _ (by decide)
    rw [if_neg h2]
    by_cases h3 : x.f0 = 3 ∨ x.f0 = 8
    · rw [if_pos h3]; intro _; exact cl_of _ (itoa_cl _)
    rw [if_neg h3]
    by_cases h4 : x.f0 = 4 ∨ x.f0 = 9
    · rw [if_pos h4]; intro _; exact cl_of _ (dec_cl _)
    rw [if_neg h4]
    by_cases h5 : x.f0 = 5 ∨ x.f0 = 6
    · rw [if_pos h5]; exact outQ_cl _
    rw [if_neg h5]
    by_cases h7 : x.f0 = 7
    · rw [if_pos h7]; intro _ r
      show scanL false (([34] ++ b64L x.f3.data.toList ++ [34]) ++ r) = _
      rw [List.append_assoc, List.append_assoc, List.singleton_append, scanL_cons]
      rw [show (decide ((34 : UInt8) < 32) || ((34 : UInt8) == 32 && !false)) = false from by decide, show ((34 : UInt8) == 92) = false from by decide, show ((34 : UInt8) == 34) = true from by decide]
      simp only [Bool.false_eq_true, if_false, if_true]
      rw [show (!false) = true from rfl, in_of _ (b64_in _), List.singleton_append, scanL_cons]
      rw [show (decide ((34 : UInt8) < 32) || ((34 : UInt8) == 32 && !true)) = false from by decide, show ((34 : UInt8) == 92) = false from by decide, show ((34 : UInt8) == 34) = true from by decide]
      simp
    rw [if_neg h7]
    by_cases h17 : x.f0 = 17
    · rw [if_pos h17]
      intro h
      have h8 := cat_zero (cat_zero h).2
      exact Cl.append (cl_of _ (by decide)) (Cl.append (outA_cl _ _ ih _ _ h8.1) (cl_of _ (by decide)))
    · rw [if_neg h17]
      intro h
      have h8 := cat_zero (cat_zero h).2
      exact Cl.append (cl_of _ (by decide)) (Cl.append (outA_cl _ _ ih _ _ h8.1) (cl_of _ (by decide)))
end Go.Proofs.YtloemnickbkonaaDoor
