/- R.Short, R.Texts: what they return, and their contracts. -/
import Derived.Test.YtloemnickbkonaaDoorPre
import Derived.WalkKit
import Derived.WalkLawsBesides
import Derived.WalkSpells
import Derived.OwnWalk
import Derived.Deep.LoopGhost
import Derived.Lib.Hide
import Derived.Outline
namespace Go.Proofs.YtloemnickbkonaaDoor
open Go.RowKit Go.Proofs.YtloemnickbkonaaDoorW.PrintWords Go.Proofs.YtloemnickbkonaaDoorW.PrintLast Go.Proofs.YtloemnickbkonaaDoorW.PrintMore
set_option linter.unusedVariables false
set_option linter.unusedSimpArgs false

def shortB (s : ByteArray) (n : Nat) : ByteArray := s.extract 0 (min s.size n)
def textsL (ks : List ByteArray) (many long : Nat) : List ByteArray := (ks.take many).map fun s => shortB s long
theorem shortB_size (s : ByteArray) (n : Nat) : (shortB s n).size = min s.size n := by unfold shortB; rw [ByteArray.size_extract]; omega
theorem textsL_length (ks : List ByteArray) (many long : Nat) : (textsL ks many long).length = min many ks.length := by simp [textsL]
theorem textsL_snoc (ks : List ByteArray) (k long : Nat) (h : k < ks.length) : textsL ks (k + 1) long = textsL ks k long ++ [shortB ks[k] long] := by
  unfold textsL; rw [List.take_succ_eq_append_getElem h, List.map_append]; rfl
set_option maxRecDepth 100000 in
set_option maxHeartbeats 400000 in
theorem short_c (s : ByteArray) (n : Nat) (w : World) (hs : s.size ≤ 140737488355328) (hn : n ≤ 140737488355328) :
    Calls Tryd.prog 27 #[.string s, .int .i64 n] w fun e w' => e = .returned (.string (shortB s n)) ∧ w = w' := by
  by_cases h : (n : Int) < (s.size : Int)
  · have hm : shortB s n = s.extract 0 n := by unfold shortB; rw [Nat.min_eq_right (by omega)]
    rw [hm]
    clear hm
    go_enter Tryd.func27, Tryd.ntmps27
    go_wp2
    go_ret
    exact ⟨rfl, rfl⟩
  · have hm : shortB s n = s.extract 0 s.size := by unfold shortB; rw [Nat.min_eq_left (by omega)]
    have h' : decide ((n : Int) < (s.size : Int)) = false := by simpa using h
    rw [hm]
    clear hm
    go_enter Tryd.func27, Tryd.ntmps27
    go_wp2
    go_ret
    exact ⟨rfl, rfl⟩
set_option maxRecDepth 100000 in
set_option maxHeartbeats 1000000 in
theorem texts_c (ks : List ByteArray) (A : Option Addr) (c many long : Nat) (w : World) (hks : ks.length ≤ 140737488355328) (hc : ks.length ≤ c) (hs : ∀ s ∈ ks, s.size ≤ 140737488355328) (hm : many ≤ 1048576) (hn : long ≤ 140737488355328) (hC : Kd.string.C w A ks.length ks) :
    Calls Tryd.prog 28 #[.slice A ks.length c, .int .i64 many, .int .i64 long] w fun e w' => ∃ v : Value, e = .returned v ∧ Kd.string.R 9 w' w.heap.size (fun _ => True) v (textsL ks many long) ∧ Below w.heap.size w w' := by
  have HC := Aside0.mk hC
  have HS := Aside0.mk hs
  clear hC hs
  go_enter Tryd.func28, Tryd.ntmps28
  go_wp2
  go_loopg [7, 8] (min many ks.length) (fun g v i w' => ∃ k : Nat, i = .int .i64 k ∧ k + g = min many ks.length ∧ Aside0 (Kd.string.R 9 w' w.heap.size (fun _ => True) v (textsL ks k long)) ∧ Aside0 (Below w.heap.size w w'))
  case atStart => exact ⟨0, rfl, by omega, ⟨Kd.R_nil _ _ _ _ _⟩, ⟨Below.refl _ _⟩⟩
  case round =>
    obtain ⟨k, rfl, hk, HR, HB⟩ := hrel
    by_cases h1 : k < ks.length
    · by_cases h2 : k < many
      · obtain ⟨gk, rfl⟩ : ∃ m, gk = m + 1 := ⟨gk - 1, by omega⟩
        obtain ⟨ad, e, hx⟩ := Kd.at_string HC.out k (by omega) (by omega)
        cases e
        replace hx := (HB.out.cell (World.block_lt_of_cell? w _ hx)).trans hx
        have hrd : rdOf ByteArray.empty ks (k : Int) = ks[k] := by simp [rdOf, List.getD_eq_getElem?_getD, h1]
        rw [hrd, Int.toNat_natCast] at hx
        have hsz := HS.out ks[k] (List.getElem_mem h1)
        have hsn := textsL_snoc ks k long h1
        have HSN := Aside0.mk hsn
        clear hsn hrd
        go_wp2_with fail
        refine (short_c ks[k] long _ hsz hn).mono ?_
        rintro e w9 ⟨rfl, rfl⟩
        go_wp2_with (at_builtin; refine Kd.R_append Kd.string (w0 := w) w.heap.size rfl (.tmp 20) (.tmp 27) 23 9 (.string ⟨#[]⟩) 16 rfl Tryd.underlying23 infoS rfl (by decide) (by omega) _ (textsL ks k long) (shortB ks[k] long) [.string (shortB ks[k] long)] (fun _ => True) (fun _ => False) rfl rfl rfl (fun _ hk => hk.elim) (fun _ _ => trivial) ?aO ?aB ?aS ?aL ?_; (case aO => exact HR.out); (case aB => exact HB.out); (case aS => exact HB.out.size); (case aL => rw [textsL_length]; omega); intro v1 w1 ho hb hg hat; rw [← HSN.out] at ho; have HO := Aside0.mk ho; have HB1 := Aside0.mk hb; clear ho hb hg hat)
        go_roundg gk
        case measure => omega
        case rel => exact ⟨k + 1, by go_num, by omega, HO, HB1⟩
      · have h2' : decide ((k : Int) < (many : Int)) = false := by simp; omega
        have hte : textsL ks k long = textsL ks many long := by
          have : k = many := by omega
          rw [this]
        rw [hte] at HR
        clear hte
        go_wp2
        go_ret
        exact ⟨_, rfl, HR.out, HB.out⟩
    · have h1' : decide ((k : Int) < (ks.length : Int)) = false := by simp; omega
      have hte : textsL ks k long = textsL ks many long := by
        unfold textsL
        rw [List.take_of_length_le (by omega), List.take_of_length_le (by omega)]
      rw [hte] at HR
      clear hte
      go_wp2
      go_ret
      exact ⟨_, rfl, HR.out, HB.out⟩
end Go.Proofs.YtloemnickbkonaaDoor
