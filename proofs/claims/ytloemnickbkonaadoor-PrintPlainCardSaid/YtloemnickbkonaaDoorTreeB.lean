/- The contracts of tree.uses, tree.part, tree.such's function literal. -/
import Derived.Test.YtloemnickbkonaaDoorTreeA
import Derived.WalkKit
import Derived.WalkLawsBesides
import Derived.WalkSpells
import Derived.OwnWalk
import Derived.Deep.QuietTactic
import Derived.BigQuiet
import Derived.Lib.Hide
import Derived.Outline
namespace Go.Proofs.YtloemnickbkonaaDoor
open Go.RowKit Go.Proofs.YtloemnickbkonaaDoorW.PrintWords Go.Proofs.YtloemnickbkonaaDoorW.PrintLast Go.Proofs.YtloemnickbkonaaDoorW.PrintMore
set_option linter.unusedVariables false
set_option linter.unusedSimpArgs false

def otherB (p k : Int) : Bool := p != 0 && k != p
set_option maxRecDepth 100000 in
set_option maxHeartbeats 400000 in
theorem such1_c (p k n u : Int) (s : ByteArray) (A4 A5 : Option Addr) (l4 c4 l5 c5 : Nat) (a : Addr) (w : World) (hc : w.cell? a = some (.int .i64 p)) :
    Calls Tryd.prog 33 #[.agg #[.int .i64 k, .int .i64 n, .int .u64 u, .string s, .slice A4 l4 c4, .slice A5 l5 c5], .pointer (some a)] w fun e w' => e = .returned (.bool (otherB p k)) ∧ Below w.heap.size w w' := by
  have hlt := World.block_lt_of_cell? w _ hc
  by_cases h0 : (p != 0) = true
  · have e0 : otherB p k = (k != p) := by simp [otherB, h0]
    rw [e0]; clear e0
    go_enter Tryd.func33, Tryd.ntmps33
    go_wp2
    go_ret
    exact ⟨rfl, (Below.refl _ _).alloc (Nat.le_refl _) _⟩
  · have h0' : (p != 0) = false := by simpa using h0
    have e0 : otherB p k = false := by simp [otherB, h0']
    rw [e0]; clear e0 h0
    go_enter Tryd.func33, Tryd.ntmps33
    go_wp2
    go_ret
    exact ⟨rfl, (Below.refl _ _).alloc (Nat.le_refl _) _⟩
/-- Is there a child of another kind? -/
def anyOther (p : Int) (xs : List Nd) : Bool := xs.any fun x => otherB p x.f0
theorem rdN_get (xs : List Nd) (k : Nat) (h : k < xs.length) : rdN xs (k : Int) = xs[k] := by simp [rdN, List.getD_eq_getElem?_getD, h]
theorem none_snoc {p k : Int} {xs : List Nd} (h : ∀ j : Int, 0 ≤ j → j < k → otherB p (rdN xs j).f0 = false) (ho : otherB p (rdN xs k).f0 = false) : ∀ j : Int, 0 ≤ j → j < k + 1 → otherB p (rdN xs j).f0 = false := fun j h0 h1 => by
  by_cases e : j = k
  · rw [e]; exact ho
  · exact h j h0 (by omega)
theorem anyOther_yes {p k : Int} {xs : List Nd} (h0 : 0 ≤ k) (h1 : k < xs.length) (ho : otherB p (rdN xs k).f0 = true) : anyOther p xs = true := by
  obtain ⟨n, rfl⟩ := Int.eq_ofNat_of_zero_le h0
  have hn : n < xs.length := by omega
  rw [rdN_get xs n hn] at ho
  exact List.any_eq_true.2 ⟨xs[n], List.getElem_mem hn, ho⟩
theorem anyOther_no {p : Int} {xs : List Nd} (h : ∀ j : Int, 0 ≤ j → j < xs.length → otherB p (rdN xs j).f0 = false) : anyOther p xs = false := by
  refine List.any_eq_false.2 fun x hx => ?_
  obtain ⟨n, hn, rfl⟩ := List.mem_iff_getElem.1 hx
  have := h (n : Int) (by omega) (by omega)
  rw [rdN_get xs n hn] at this
  simp [this]
theorem below_on {B : Nat} {w w1 w2 : World} (h : Below B w w1) (k : Below w1.heap.size w1 w2) (hB : B ≤ w1.heap.size) : Below B w w2 := h.trans (k.mono hB)

set_option maxRecDepth 100000 in
set_option maxHeartbeats 400000 in
theorem indexF_c (p : Int) (xs : List Nd) (A : Option Addr) (c : Nat) (a : Addr) (w : World) (hC : kN.C w A xs.length xs) (hl : xs.length ≤ c) (hm : xs.length ≤ 9223372036854775807) (hc : w.cell? a = some (.int .i64 p)) :
    Calls Tryd.prog 45 #[.slice A xs.length c, .func (.func 33) #[] #[.pointer (some a)]] w fun e w' => ∃ i : Int, e = .returned (.int .i64 i) ∧ Aside0 (decide (0 ≤ i) = anyOther p xs) ∧ Below w.heap.size w w' := by
  have hlt := World.block_lt_of_cell? w _ hc
  go_enter Tryd.func45, Tryd.ntmps45
  go_wp2
  have HC := Aside0.mk hC
  have Hc := Aside0.mk hc
  clear hC hc
  go_loopw [5, 8] (fun v5 v8 wr => ∃ k : Int, 0 ≤ k ∧ k ≤ xs.length ∧ v8 = .int .i64 k ∧ Aside0 (∀ j : Int, 0 ≤ j → j < k → otherB p (rdN xs j).f0 = false) ∧ Aside0 (Below w.heap.size w wr)) (fun _ v8 _ => xs.length - (intOf v8).toNat)
  case atStart => exact ⟨0, by omega, by omega, rfl, ⟨fun j h h' => by omega⟩, ⟨Below.refl _ _⟩⟩
  case round =>
    obtain ⟨k, hk0, hk, rfl, HN, HB⟩ := hrel
    by_cases hlt2 : k < xs.length
    · obtain ⟨ad, A4, c4, A5, c5, rfl, h0, h1, h2, h3, h4, h5, _, _, _, _⟩ := atN (Kd.C_below HC.out HB.out) k hk0 hlt2
      have h7 : wr.cell? a = some (.int .i64 p) := (HB.out.cell hlt).trans Hc.out
      cases ho : otherB p (rdN xs k).f0
      · go_wp2_with (go_at_call 33; refine (such1_c p _ _ _ _ _ _ _ _ _ _ a _ h7).mono ?_; rw [ho]; rintro e w1 ⟨rfl, hb⟩)
        go_roundw
        case rel => exact ⟨k + 1, by omega, by omega, rfl, ⟨none_snoc HN.out ho⟩, ⟨below_on HB.out hb HB.out.size⟩⟩
        case measure => simp [intOf]; omega
      · go_wp2_with (go_at_call 33; refine (such1_c p _ _ _ _ _ _ _ _ _ _ a _ h7).mono ?_; rw [ho]; rintro e w1 ⟨rfl, hb⟩)
        go_ret
        exact ⟨k, rfl, ⟨by rw [anyOther_yes hk0 hlt2 ho]; simp [hk0]⟩, below_on HB.out hb HB.out.size⟩
    · go_wp2
      go_ret
      exact ⟨-1, rfl, ⟨by rw [anyOther_no (fun j a b => HN.out j a (by omega))]; rfl⟩, HB.out⟩


set_option maxRecDepth 100000 in
set_option maxHeartbeats 400000 in
theorem containsF_c (p : Int) (xs : List Nd) (A : Option Addr) (c : Nat) (a : Addr) (w : World) (hC : kN.C w A xs.length xs) (hl : xs.length ≤ c) (hm : xs.length ≤ 9223372036854775807) (hc : w.cell? a = some (.int .i64 p)) :
    Calls Tryd.prog 34 #[.slice A xs.length c, .func (.func 33) #[] #[.pointer (some a)]] w fun e w' => e = .returned (.bool (anyOther p xs)) ∧ Below w.heap.size w w' := by
  have HI := Lib.hid (indexF_c p xs A c a w hC hl hm hc)
  clear hC hc
  go_enter Tryd.func34, Tryd.ntmps34
  go_wp2_with (go_at_call 45; refine HI.out.mono ?_; rintro e w1 ⟨i, rfl, hi, hb⟩)
  go_ret
  exact ⟨by rw [← hi.out]; rfl, hb⟩
end Go.Proofs.YtloemnickbkonaaDoor
