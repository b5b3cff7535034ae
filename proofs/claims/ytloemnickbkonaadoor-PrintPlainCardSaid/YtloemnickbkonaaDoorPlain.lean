/- PrintPlain: the walk. -/
import Derived.Test.YtloemnickbkonaaDoorWorks
import Derived.Test.YtloemnickbkonaaDoorScan
import Derived.Test.YtloemnickbkonaaDoorCutT
namespace Go.Proofs.YtloemnickbkonaaDoor
open Go.RowKit Go.Proofs.YtloemnickbkonaaDoorW.PrintWords Go.Proofs.YtloemnickbkonaaDoorW.PrintLast Go.Proofs.YtloemnickbkonaaDoorW.PrintMore
set_option linter.unusedVariables false
set_option linter.unusedSimpArgs false
/-! #### what a cut tree is like -/
theorem NRb_shift {t : Nd} : ∀ {b c : Int}, NRb b t → NRb c t := by
  induction t using Nd.ind with
  | h t ih =>
    intro b c h p hp
    rw [preN_eq] at hp
    rcases List.mem_cons.1 hp with rfl | hp
    · exact h (b, t) (pre_self b t)
    · have : ∀ l : List Nd, (∀ y ∈ l, y ∈ t.f5) → p ∈ preL (c + 1) l → (-9223372036854775808 ≤ p.2.f1 ∧ p.2.f1 ≤ 9223372036854775807) ∧ (0 ≤ p.2.f2 ∧ p.2.f2 < 18446744073709551616) := by
        intro l
        induction l with
        | nil => intro _ hp; simp [preL] at hp
        | cons y l ihl =>
          intro hl hp
          simp only [preL, List.mem_append] at hp
          rcases hp with hp | hp
          · exact ih y (hl y List.mem_cons_self) (b := b + 1) (fun q hq => h q (pre_kid (hl y List.mem_cons_self) hq)) p hp
          · exact ihl (fun z hz => hl z (List.mem_cons_of_mem _ hz)) hp
      exact this t.f5 (fun _ h => h) hp
theorem NRb_mk {b : Int} {t : Nd} (h0 : (-9223372036854775808 ≤ t.f1 ∧ t.f1 ≤ 9223372036854775807) ∧ (0 ≤ t.f2 ∧ t.f2 < 18446744073709551616)) (h : ∀ y ∈ t.f5, NRb (b + 1) y) : NRb b t := by
  intro p hp
  rw [preN_eq] at hp
  rcases List.mem_cons.1 hp with rfl | hp
  · exact h0
  · have : ∀ l : List Nd, (∀ y ∈ l, NRb (b + 1) y) → p ∈ preL (b + 1) l → (-9223372036854775808 ≤ p.2.f1 ∧ p.2.f1 ≤ 9223372036854775807) ∧ (0 ≤ p.2.f2 ∧ p.2.f2 < 18446744073709551616) := by
      intro l
      induction l with
      | nil => intro _ hp; simp [preL] at hp
      | cons y l ihl =>
        intro hl hp
        simp only [preL, List.mem_append] at hp
        rcases hp with hp | hp
        · exact hl y List.mem_cons_self p hp
        · exact ihl (fun z hz => hl z (List.mem_cons_of_mem _ hz)) hp
    exact this t.f5 h hp
theorem cut_NR (long : Nat) (x : Nd) : ∀ (left : Nat) (b : Int), NRb b x → NRb b (cutN long left x).1 := by
  induction x using Nd.ind with
  | h x ih =>
    intro left b h
    rw [cutN_eq]
    refine NRb_mk (h _ (pre_self b x)) ?_
    have : ∀ l : List Nd, (∀ y ∈ l, y ∈ x.f5) → ∀ left, ∀ y ∈ (cutL long left l).1, NRb (b + 1) y := by
      intro l
      induction l with
      | nil => intro _ left y hy; simp [cutL] at hy
      | cons z l ihl =>
        intro hl left y hy
        rw [cutL] at hy
        split at hy
        · simp at hy
        · rcases List.mem_cons.1 hy with rfl | hy
          · exact ih z (hl z List.mem_cons_self) _ _ (fun q hq => h q (pre_kid (hl z List.mem_cons_self) hq))
          · exact ihl (fun u hu => hl u (List.mem_cons_of_mem _ hu)) _ y hy
    exact this x.f5 (fun _ h => h) left
/-- What one node of a cut tree may weigh. -/
def nodeW (long : Nat) : Nat := 32 + 6 * long + 64 * (6 * long + 4)
theorem texts_sum (ks : List ByteArray) (long : Nat) : ((textsL ks 64 long).map fun y => 6 * y.size + 4).sum ≤ 64 * (6 * long + 4) := by
  have h : ∀ l : List ByteArray, ((l.map fun s => shortB s long).map fun y => 6 * y.size + 4).sum ≤ l.length * (6 * long + 4) := by
    intro l
    induction l with
    | nil => simp
    | cons s l ih =>
      simp only [List.map_cons, List.sum_cons, List.length_cons]
      have := shortB_size s long
      rw [Nat.add_mul]
      omega
  refine Nat.le_trans (h (ks.take 64)) (Nat.mul_le_mul_right _ ?_)
  rw [List.length_take]; omega
theorem cut_wt (long : Nat) (x : Nd) : ∀ left, wt (cutN long left x).1 + 2 + (cutN long left x).2 * nodeW long ≤ (left + 1) * nodeW long := by
  induction x using Nd.ind with
  | h x ih =>
    intro left
    rw [cutN_eq, wt_eq]
    simp only
    have h1 := texts_sum x.f4 long
    have h2 := shortB_size x.f3 long
    have : ∀ l : List Nd, (∀ y ∈ l, y ∈ x.f5) → ∀ left, wtL (cutL long left l).1 + (cutL long left l).2 * nodeW long ≤ left * nodeW long := by
      intro l
      induction l with
      | nil => intro _ left; simp [cutL, wtL]
      | cons z l ihl =>
        intro hl left
        rw [cutL]
        split
        · simp [wtL]
        · have a := ih z (hl z List.mem_cons_self) (left - 1)
          have b := ihl (fun u hu => hl u (List.mem_cons_of_mem _ hu)) (cutN long (left - 1) z).2
          rw [show left - 1 + 1 = left from by omega] at a
          simp only [wtL]
          omega
    have h3 := this x.f5 (fun _ h => h) left
    rw [Nat.add_mul, Nat.one_mul]
    have h4 : nodeW long = 32 + 6 * long + 64 * (6 * long + 4) := rfl
    omega
theorem cutT_wt (x : Nd) : wt (cutT 80 60 x) ≤ 268435456 := by
  have := cut_wt 60 x 79
  have h2 : (79 + 1) * nodeW 60 ≤ 2000000 := by decide
  unfold cutT
  show wt (cutN 60 79 x).1 ≤ _
  omega
/-! #### the text's bytes, from a place on -/
theorem scan_end (w : Bool) (s : ByteArray) (i : Nat) (h : s.size ≤ i) : scanL w (s.data.toList.drop i) = some w := by
  rw [List.drop_of_length_le (by rw [data_length]; exact h)]; rfl
theorem drop_cons (s : ByteArray) (i : Nat) (h : i < s.size) : s.data.toList.drop i = s[i] :: s.data.toList.drop (i + 1) := by
  rw [List.drop_eq_getElem_cons (by rw [data_length]; exact h)]; rfl
theorem scan_step (w v : Bool) (s : ByteArray) (i : Nat) (h : i < s.size) (hs : scanL w (s.data.toList.drop i) = some v) : ¬ s[i] < 32 ∧ (s[i] == 32 && !w) = false ∧
    (s[i] = 92 → scanL w (s.data.toList.drop (i + 2)) = some v) ∧ (s[i] ≠ 92 → scanL (if s[i] = 34 then !w else w) (s.data.toList.drop (i + 1)) = some v) := by
  rw [drop_cons s i h, scanL_cons] at hs
  by_cases h1 : (decide (s[i] < 32) || (s[i] == 32 && !w)) = true
  · rw [if_pos h1] at hs; cases hs
  · rw [if_neg h1] at hs
    simp only [Bool.or_eq_true, decide_eq_true_eq, not_or] at h1
    refine ⟨h1.1, by simpa using h1.2, fun h2 => ?_, fun h2 => ?_⟩
    · rw [if_pos (by simpa using h2)] at hs
      by_cases hl : i + 1 < s.size
      · rw [drop_cons s (i + 1) hl] at hs
        exact hs
      · rw [scan_end _ _ _ (by omega)]
        rw [List.drop_of_length_le (by rw [data_length]; omega)] at hs
        exact hs
    · rw [if_neg (by simpa using h2)] at hs
      simpa using hs
end Go.Proofs.YtloemnickbkonaaDoor
