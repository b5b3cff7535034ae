/- strings.IndexRune of a rune that is not ASCII, in a string that is. -/
import Derived.Test.YtloemnickbkonaaDoorShelf
import Derived.Test.YtloemnickbkonaaDoorBld
import Derived.Lib.OthersKept
import Derived.Laws.RangeAny
import Derived.LoopTactic
import Derived.WalkMore
import Derived.Laws.Runes
import Derived.Laws.Cover4
namespace Go.Proofs.YtloemnickbkonaaDoor
open Go.RowKit Go.Proofs.YtloemnickbkonaaDoorW.PrintWords Go.Proofs.YtloemnickbkonaaDoorW.PrintLast Go.Proofs.YtloemnickbkonaaDoorW.PrintMore
set_option linter.unusedVariables false
set_option linter.unusedSimpArgs false

def meantB : ByteArray := { data := #[34, 92, 47, 8, 12, 10, 13, 9] }
theorem meant_size : meantB.size = 8 := rfl
theorem meant_ascii (i : Nat) (h : i < meantB.size) : (meantB[i]'h).toNat < 128 := by
  have : ∀ i : Fin 8, (meantB[i.val]'i.isLt).toNat < 128 := by decide
  exact this ⟨i, h⟩
set_option maxRecDepth 100000 in
set_option maxHeartbeats 1000000 in
theorem idx_err (w : World) : Calls Tryd.prog 53 #[.string meantB, .int .i32 65533] w fun e w' => e = .returned (.int .i64 (-1)) ∧ Below w.heap.size w w' := by
  have hms := meant_size
  go_enter Tryd.func53, Tryd.ntmps53
  go_wp2_with fail
  go_loopw [5, 6] (fun v5 v6 w' => ∃ pos : Nat, w' = w.iter meantB pos ∧ pos ≤ 8) (fun _ _ w' => 8 - w'.iterPos w.heap.size)
  case atStart => exact ⟨0, rfl, by omega⟩
  case round =>
    obtain ⟨pos, rfl, hp⟩ := hrel
    by_cases hlt : pos < meantB.size
    · have hnx : ∀ ty, (Instr.next (.pointer (some ⟨w.heap.size, 0, none⟩)) true ty).run Tryd.prog (w.iter meantB pos) = _ := fun ty => run_next_ascii w meantB pos ty hlt (meant_ascii pos hlt)
      have ha := meant_ascii pos hlt
      go_wp2_with fail
      go_roundw
      case rel => exact ⟨pos + 1, rfl, by omega⟩
      case measure => simp only [World.iterPos_iter]; omega
    · have hnx : ∀ ty, (Instr.next (.pointer (some ⟨w.heap.size, 0, none⟩)) true ty).run Tryd.prog (w.iter meantB pos) = _ := fun ty => run_next_end w meantB pos ty hlt
      go_wp2_with fail
      go_ret
      exact ⟨rfl, (Below.refl _ _).alloc (Nat.le_refl _) _⟩
set_option maxRecDepth 100000 in
set_option maxHeartbeats 1000000 in
theorem idx_far (r : Int) (h0 : 128 ≤ r) (h1 : r ≤ 2147483647) (hne : r ≠ 65533) (hv : Lib.validRune r = false) (w : World) : Calls Tryd.prog 53 #[.string meantB, .int .i32 r] w fun e w' => e = .returned (.int .i64 (-1)) ∧ Below w.heap.size w w' := by
  go_enter Tryd.func53, Tryd.ntmps53
  go_wp2_with (go_at_call 64; refine (Tryd.utf8_ValidRune _ _).mono ?_; rw [hv]; rintro e w' ⟨rfl, rfl⟩)
  go_ret
  exact ⟨rfl, Below.refl _ _⟩
theorem encode_cut (r : Int) (h0 : 128 ≤ r) (hv : Lib.validRune r = true) : ∃ (l : List UInt8) (x : UInt8), 1 ≤ l.length ∧ l.length ≤ 3 ∧ 128 ≤ x.toNat ∧ Utf8.encode r = ⟨(l ++ [x]).toArray⟩ := by
  have hr : Utf8.valid r = true := by
    simp only [Lib.validRune, decide_eq_true_eq] at hv
    simp only [Utf8.valid]
    simp
    omega
  have hx : ¬ r.toNat < 128 := by omega
  have hb : ∀ n : Nat, 128 ≤ (UInt8.ofNat (0x80 + n % 64)).toNat := fun n => by rw [UInt8.toNat_ofNat']; omega
  by_cases c2 : r.toNat < 2048
  · exact ⟨[UInt8.ofNat (0xC0 + r.toNat / 64)], UInt8.ofNat (0x80 + r.toNat % 64), by simp, by simp, hb _, by simp [Utf8.encode, hr, hx, c2]⟩
  · by_cases c3 : r.toNat < 65536
    · exact ⟨[UInt8.ofNat (0xE0 + r.toNat / 4096), UInt8.ofNat (0x80 + r.toNat / 64 % 64)], UInt8.ofNat (0x80 + r.toNat % 64), by simp, by simp, hb _, by simp [Utf8.encode, hr, hx, c2, c3]⟩
    · exact ⟨[UInt8.ofNat (0xF0 + r.toNat / 262144), UInt8.ofNat (0x80 + r.toNat / 4096 % 64), UInt8.ofNat (0x80 + r.toNat / 64 % 64)], UInt8.ofNat (0x80 + r.toNat % 64), by simp, by simp, hb _, by simp [Utf8.encode, hr, hx, c2, c3]⟩
theorem encode_high (r : Int) (h0 : 128 ≤ r) (hv : Lib.validRune r = true) : ∃ n, 1 ≤ n ∧ n ≤ 3 ∧ (Utf8.encode r).size = n + 1 ∧ ∀ h : n < (Utf8.encode r).size, 128 ≤ ((Utf8.encode r)[n]'h).toNat := by
  obtain ⟨l, x, h1, h3, hx, e⟩ := encode_cut r h0 hv
  rw [e]
  refine ⟨l.length, h1, h3, by simp [ByteArray.size], fun h => ?_⟩
  show 128 ≤ ((l ++ [x]).toArray[l.length]).toNat
  simpa using hx
theorem indexByte_high : ∀ (l : List UInt8) (c : UInt8), (∀ x ∈ l, x.toNat < 128) → 128 ≤ c.toNat → Lib.indexByte l c = -1
  | [], _, _, _ => rfl
  | x :: l, c, h, hc => by
    have hx := h x (by simp)
    have hne : (x == c) = false := by
      rw [beq_eq_false_iff_ne]
      rintro rfl
      omega
    rw [Lib.indexByte, hne, indexByte_high l c (fun y hy => h y (by simp [hy])) hc]
    rfl
set_option maxRecDepth 100000 in
set_option maxHeartbeats 1000000 in
theorem idx_val (s : ByteArray) (h4 : 4 ≤ s.size) (hs8 : s.size ≤ 8) (hascii : ∀ (i : Nat) (h : i < s.size), (s[i]'h).toNat < 128) (r : Int) (h0 : 128 ≤ r) (h1 : r ≤ 2147483647) (hne : r ≠ 65533) (hv : Lib.validRune r = true) (w : World) : Calls Tryd.prog 53 #[.string s, .int .i32 r] w fun e w' => e = .returned (.int .i64 (-1)) ∧ Below w.heap.size w w' := by
  have hcv : ∀ W : World, (convert 21 9 (.int .i32 r)).run Tryd.prog W = .ok (.string (Utf8.encode r)) W := fun W => run_convert_int_string W _ _ _ _ (by kernel_rfl) Tryd.underlying9
  obtain ⟨n, n1, n3, hES, hlast⟩ := encode_high r h0 hv
  generalize Utf8.encode r = ES at hcv hES hlast
  go_enter Tryd.func53, Tryd.ntmps53
  go_wp2_with (go_at_call 64; refine (Tryd.utf8_ValidRune _ _).mono ?_; rw [hv]; rintro e w' ⟨rfl, rfl⟩)
  go_step3
  go_upto_region 5 with fail
  go_loopw [9] (fun v9 wr => v9 = .int .i64 (n : Int) ∧ wr = w') (fun _ _ => 0)
  case atStart => exact ⟨rfl, rfl⟩
  case round =>
    obtain ⟨rfl, rfl⟩ := hrel
    have hl1 : (n : Int) < (s.size : Int) := by omega
    have hl2 : n < s.size := by omega
    have hl3 : n < ES.size := by omega
    have ha := hascii n hl2
    have hb := hlast hl3
    have hab : (s[n] == ES[n]) = false := by
      rw [beq_eq_false_iff_ne]
      intro e
      rw [e] at ha
      omega
    clear hES
    go_wp2_with fail
    go_step3
    go_wp2_with fail
    go_quiet (fail)
    go_wp2_with fail
    obtain ⟨W1, hW1⟩ : ∃ W1, wr.drewN nq = W1 := ⟨_, rfl⟩
    have hB1 : Below wr.heap.size wr W1 := by rw [← hW1]; exact pw_below_drewN (Below.refl _ _) _
    rw [hW1]
    clear hW1
    have hl5 : (n : Int) + 1 ≤ (s.size : Int) := by omega
    have hwr : IntKind.i64.wrap ((n : Int) + 1) = (n : Int) + 1 := by rw [IntKind.wrap_i64]; omega
    have hl6 : (0 : Int) ≤ (n : Int) + 1 := by omega
    have hsl : ∀ W : World, (Instr.slice 9 (.string s) (some (.int .i64 ((n : Int) + 1))) none none).run Tryd.prog W = .ok (.string (s.extract (n + 1) s.size)) W := fun W => by
      rw [run_slice_string_l (ht := Tryd.underlying9) (h0 := hl6) (h1 := hl5)]
      rfl
    go_quiet (first | (go_at_call 36; exact Calls.quiet_of_same (Tryd.strings_IndexByte _ _ _)))
    have hneg : Lib.indexByte (s.extract (n + 1) s.size).data.toList ((ES[n].toNat : Int).toNat.toUInt8) = -1 := by
      refine indexByte_high _ _ (fun x hx => ?_) (by simpa using hb)
      rw [ByteArray.data_extract, Array.toList_extract] at hx
      obtain ⟨i, hi, rfl⟩ := List.getElem_of_mem ((List.drop_sublist _ _).mem ((List.take_sublist _ _).mem hx))
      exact hascii i (by simpa using hi)
    rw [hneg]
    go_wp2_with fail
    rw [Exit.noGoto_ret]
    change bodyPost Tryd.prog Tryd.f53 (fun e w' => e = Ending.returned (Value.int IntKind.i64 (-1)) ∧ Below wr.heap.size wr w') Exit.ret _ _
    go_ret
    exact ⟨rfl, pw_below_drewN hB1 _⟩
/-- Where a rune stands among those with a mark of their own. -/
def meantAt (r : Int) : Int := if r < 128 then Lib.indexByte [34, 92, 47, 8, 12, 10, 13, 9] r.toNat.toUInt8 else -1
theorem idx_c (r : Int) (h0 : 0 ≤ r) (h1 : r ≤ 2147483647) (w : World) : Calls Tryd.prog 53 #[.string { data := #[34, 92, 47, 8, 12, 10, 13, 9] }, .int .i32 r] w fun e w' => e = .returned (.int .i64 (meantAt r)) ∧ Below w.heap.size w w' := by
  unfold meantAt
  by_cases c1 : r < 128
  · rw [if_pos c1]
    refine (Tryd.strings_IndexRune_ascii _ r w h0 c1).mono ?_
    rintro e w' ⟨rfl, rfl⟩
    exact ⟨rfl, Below.refl _ _⟩
  · rw [if_neg c1]
    by_cases c2 : r = 65533
    · subst c2; exact idx_err w
    · cases c3 : Lib.validRune r
      · exact idx_far r (by omega) h1 c2 c3 w
      · exact idx_val meantB (by decide) (by decide) meant_ascii r (by omega) h1 c2 c3 w
end Go.Proofs.YtloemnickbkonaaDoor
