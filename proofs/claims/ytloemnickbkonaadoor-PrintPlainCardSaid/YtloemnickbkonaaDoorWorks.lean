/- The law's examples: works answers true. -/
import Derived.Test.YtloemnickbkonaaDoorShows
import Derived.Test.YtloemnickbkonaaDoorWorkP
namespace Go.Proofs.YtloemnickbkonaaDoor
open Go.RowKit Go.Proofs.YtloemnickbkonaaDoorW.PrintWords Go.Proofs.YtloemnickbkonaaDoorW.PrintLast Go.Proofs.YtloemnickbkonaaDoorW.PrintMore
set_option linter.unusedVariables false
set_option linter.unusedSimpArgs false
theorem lfK (W : World) (k n u : Int) (s : List UInt8) : kN.K W (lf k n u s) [.int .i64 k, .int .i64 n, .int .u64 u, .string ⟨s.toArray⟩, .slice none 0 0, .slice none 0 0] := leafK W k n u _
theorem nr_leaf (k n u : Int) (s : List UInt8) (h : (-9223372036854775808 ≤ n ∧ n ≤ 9223372036854775807) ∧ (0 ≤ u ∧ u < 18446744073709551616)) : NRb 0 (lf k n u s) := by
  intro p hp
  rw [preN_eq] at hp
  simp [lf, preL] at hp
  subst hp
  exact h
theorem wt_leaf (k n u : Int) (s : List UInt8) (h : s.length ≤ 100) : wt (lf k n u s) ≤ 268435456 := by
  rw [wt_eq]
  have e : (lf k n u s).f3.size = s.length := by show s.toArray.size = _; simp
  simp only [e]
  simp [lf, wtL]
  omega
def nrB (l : List (Int × Nd)) : Bool := l.all fun p => decide (-9223372036854775808 ≤ p.2.f1) && decide (p.2.f1 ≤ 9223372036854775807) && decide (0 ≤ p.2.f2) && decide (p.2.f2 < 18446744073709551616)
theorem nr_of {t : Nd} (h : nrB (preN 0 t) = true) : NRb 0 t := fun p hp => by
  have := List.all_eq_true.1 h p hp
  simp only [Bool.and_eq_true, decide_eq_true_eq] at this
  exact ⟨⟨this.1.1.1, this.1.1.2⟩, this.1.2, this.2⟩
theorem nr1 : NRb 0 ex1 := nr_of (by kernel_rfl)
theorem nr8 : NRb 0 ex8 := nr_of (by kernel_rfl)
theorem nr12 : NRb 0 ex12 := nr_of (by kernel_rfl)
theorem wt1 : wt ex1 ≤ 268435456 := by decide
theorem wt8 : wt ex8 ≤ 268435456 := by decide
theorem wt12 : wt ex12 ≤ 268435456 := by decide
theorem ex1K {w w1 w2 : World} (h1 : Below (w.alloc (.cells #[.string ⟨#[98]⟩, .string ⟨#[97]⟩] 9)).heap.size (w.alloc (.cells #[.string ⟨#[98]⟩, .string ⟨#[97]⟩] 9)) w1)
    (h2 : Below (w1.alloc (.cells #[.int .i64 3, .int .i64 1, .int .u64 0, .string ⟨#[]⟩, .slice none 0 0, .slice none 0 0, .int .i64 1, .int .i64 0, .int .u64 0, .string ⟨#[]⟩, .slice none 0 0, .slice none 0 0] 26)).heap.size (w1.alloc (.cells #[.int .i64 3, .int .i64 1, .int .u64 0, .string ⟨#[]⟩, .slice none 0 0, .slice none 0 0, .int .i64 1, .int .i64 0, .int .u64 0, .string ⟨#[]⟩, .slice none 0 0, .slice none 0 0] 26)) w2) :
    kN.K (w2.alloc (.cells #[.int .i64 10, .int .i64 0, .int .u64 0, .string ⟨#[]⟩, .slice none 0 0, .slice (some ⟨w1.heap.size, 0, none⟩) 2 2, .int .i64 2, .int .i64 1, .int .u64 0, .string ⟨#[]⟩, .slice none 0 0, .slice none 0 0] 26)) ex1
      [.int .i64 17, .int .i64 0, .int .u64 0, .string ⟨#[]⟩, .slice (some ⟨w.heap.size, 0, none⟩) 2 2, .slice (some ⟨w2.heap.size, 0, none⟩) 2 2] := by
  have z1 := h1.size
  have z2 := h2.size
  simp at z1 z2
  have b0 : w1.heap[w.heap.size]? = some (.cells #[.string ⟨#[98]⟩, .string ⟨#[97]⟩] 9 (0, 0)) := (h1.block _ (by simp)).trans (heap_alloc_new _ _)
  have b1 : w2.heap[w1.heap.size]? = some (.cells #[.int .i64 3, .int .i64 1, .int .u64 0, .string ⟨#[]⟩, .slice none 0 0, .slice none 0 0, .int .i64 1, .int .i64 0, .int .u64 0, .string ⟨#[]⟩, .slice none 0 0, .slice none 0 0] 26 (0, 0)) := (h2.block _ (by simp)).trans (heap_alloc_new _ _)
  have b2 : w2.heap[w.heap.size]? = some (.cells #[.string ⟨#[98]⟩, .string ⟨#[97]⟩] 9 (0, 0)) := (h2.block _ (by simp; omega)).trans ((Below.heap_alloc _ _ _ (by omega)).trans b0)
  have hin : kN.K (w2.alloc (.cells #[.int .i64 10, .int .i64 0, .int .u64 0, .string ⟨#[]⟩, .slice none 0 0, .slice (some ⟨w1.heap.size, 0, none⟩) 2 2, .int .i64 2, .int .i64 1, .int .u64 0, .string ⟨#[]⟩, .slice none 0 0, .slice none 0 0] 26)) ⟨10, 0, 0, ⟨#[]⟩, [], [numT 1, lf 1 0 0 []]⟩ [.int .i64 10, .int .i64 0, .int .u64 0, .string ⟨#[]⟩, .slice none 0 0, .slice (some ⟨w1.heap.size, 0, none⟩) 2 2] :=
    listK 10 0 0 ⟨#[]⟩ (Nat.le_refl 2) (row2 (c := [.int .i64 3, .int .i64 1, .int .u64 0, .string ⟨#[]⟩, .slice none 0 0, .slice none 0 0]) (c' := [.int .i64 1, .int .i64 0, .int .u64 0, .string ⟨#[]⟩, .slice none 0 0, .slice none 0 0]) ((Below.heap_alloc _ _ _ (by omega)).trans b1) (lfK _ 3 1 0 []) (lfK _ 1 0 0 []))
  exact mapK 17 0 0 ⟨#[]⟩ (Nat.le_refl 2) (row2 (c := [.string ⟨#[98]⟩]) (c' := [.string ⟨#[97]⟩]) ((Below.heap_alloc _ _ _ (by omega)).trans b2) (strK _ _) (strK _ _)) (Nat.le_refl 2) (row2 (c := [.int .i64 10, .int .i64 0, .int .u64 0, .string ⟨#[]⟩, .slice none 0 0, .slice (some ⟨w1.heap.size, 0, none⟩) 2 2]) (c' := [.int .i64 2, .int .i64 1, .int .u64 0, .string ⟨#[]⟩, .slice none 0 0, .slice none 0 0]) (heap_alloc_new _ _) hin (lfK _ 2 1 0 []))
theorem ex8K (w : World) : kN.K (w.alloc (.cells #[.int .i64 3, .int .i64 1, .int .u64 0, .string ⟨#[]⟩, .slice none 0 0, .slice none 0 0, .int .i64 3, .int .i64 (-2), .int .u64 0, .string ⟨#[]⟩, .slice none 0 0, .slice none 0 0] 26)) ex8 [.int .i64 15, .int .i64 0, .int .u64 0, .string ⟨#[]⟩, .slice none 0 0, .slice (some ⟨w.heap.size, 0, none⟩) 2 2] :=
  listK 15 0 0 ⟨#[]⟩ (Nat.le_refl 2) (row2 (c := [.int .i64 3, .int .i64 1, .int .u64 0, .string ⟨#[]⟩, .slice none 0 0, .slice none 0 0]) (c' := [.int .i64 3, .int .i64 (-2), .int .u64 0, .string ⟨#[]⟩, .slice none 0 0, .slice none 0 0]) (heap_alloc_new _ _) (lfK _ 3 1 0 []) (lfK _ 3 (-2) 0 []))
theorem ex12K {w w1 : World} (h1 : Below (w.alloc (.cells #[.string ⟨#[255]⟩] 9)).heap.size (w.alloc (.cells #[.string ⟨#[255]⟩] 9)) w1) :
    kN.K (w1.alloc (.cells #[.int .i64 3, .int .i64 1, .int .u64 0, .string ⟨#[]⟩, .slice none 0 0, .slice none 0 0] 26)) ex12 [.int .i64 17, .int .i64 0, .int .u64 0, .string ⟨#[]⟩, .slice (some ⟨w.heap.size, 0, none⟩) 1 1, .slice (some ⟨w1.heap.size, 0, none⟩) 1 1] := by
  have z1 := h1.size
  simp at z1
  have b0 : w1.heap[w.heap.size]? = some (.cells #[.string ⟨#[255]⟩] 9 (0, 0)) := (h1.block _ (by simp)).trans (heap_alloc_new _ _)
  exact mapK 17 0 0 ⟨#[]⟩ (Nat.le_refl 1) (row1 (c := [.string ⟨#[255]⟩]) ((Below.heap_alloc _ _ _ (by omega)).trans b0) (strK _ _)) (Nat.le_refl 1) (row1 (c := [.int .i64 3, .int .i64 1, .int .u64 0, .string ⟨#[]⟩, .slice none 0 0, .slice none 0 0]) (heap_alloc_new _ _) (lfK _ 3 1 0 []))
set_option maxRecDepth 100000 in
set_option maxHeartbeats 4000000 in
theorem works_c (w : World) (hL : Laid w) : Calls Tryd.prog 6 #[] w (YesQ w) := by
  have HL := Aside0.mk hL
  have HB := Aside0.mk (Below.refl w.heap.size w)
  clear hL
  go_enter Tryd.func6, Tryd.ntmps6
  go_wp2_with fail
  refine (num_c 1 _).mono ?_
  rintro e w1 ⟨rfl, h1⟩
  have H1 := Aside0.mk h1
  have HB1 := Aside0.mk ((HB.out.alloc (Nat.le_refl _) _).trans (h1.mono (by simp)))
  clear h1
  go_wp2_with fail
  refine (vec_c _ _ _ _).mono ?_
  rintro e w2 ⟨rfl, h2⟩
  have H2 := Aside0.mk h2
  have HB2 := Aside0.mk ((HB1.out.alloc HB1.out.size _).trans (h2.mono (by have := HB1.out.size; simp; omega)))
  clear h2
  go_wp2_with fail
  refine (shows_c ex1 _ _ _ (ex1K H1.out H2.out) wt1 nr1 (HL.out.below (HB2.out.alloc HB2.out.size _)) r1).mono ?_
  rintro e w3 ⟨rfl, h3⟩
  have HB3 := Aside0.mk ((HB2.out.alloc HB2.out.size _).trans (h3.mono (by have := HB2.out.size; simp; omega)))
  clear h3
  go_wp2_with fail
  refine (num_c (-9223372036854775808) _).mono ?_
  rintro e w4 ⟨rfl, h4⟩
  have HB4 := Aside0.mk (HB3.out.trans (h4.mono HB3.out.size))
  clear h4
  go_wp2_with fail
  refine (shows_c (lf 3 (-9223372036854775808) 0 []) _ _ ⟨#[45, 57, 50, 50, 51, 51, 55, 50, 48, 51, 54, 56, 53, 52, 55, 55, 53, 56, 48, 56]⟩ (lfK _ 3 (-9223372036854775808) 0 []) (wt_leaf _ _ _ _ (by decide)) (nr_leaf _ _ _ _ (by decide)) (HL.out.below HB4.out) r2).mono ?_
  rintro e w5 ⟨rfl, h5⟩
  have HB5 := Aside0.mk (HB4.out.trans (h5.mono HB4.out.size))
  clear h5
  go_wp2_with fail
  refine (shows_c (lf 4 0 18446744073709551615 []) _ _ ⟨#[49, 56, 52, 52, 54, 55, 52, 52, 48, 55, 51, 55, 48, 57, 53, 53, 49, 54, 49, 53]⟩ (lfK _ 4 0 18446744073709551615 []) (wt_leaf _ _ _ _ (by decide)) (nr_leaf _ _ _ _ (by decide)) (HL.out.below HB5.out) r3).mono ?_
  rintro e w6 ⟨rfl, h6⟩
  have HB6 := Aside0.mk (HB5.out.trans (h6.mono HB5.out.size))
  clear h6
  go_wp2_with fail
  refine (shows_c (lf 6 0 0 [195, 169, 32, 47, 32, 10]) _ _ ⟨#[34, 195, 169, 32, 47, 32, 92, 110, 34]⟩ (lfK _ 6 0 0 [195, 169, 32, 47, 32, 10]) (wt_leaf _ _ _ _ (by decide)) (nr_leaf _ _ _ _ (by decide)) (HL.out.below HB6.out) r4).mono ?_
  rintro e w7 ⟨rfl, h7⟩
  have HB7 := Aside0.mk (HB6.out.trans (h7.mono HB6.out.size))
  clear h7
  go_wp2_with fail
  refine (shows_c (lf 5 0 0 [92]) _ _ ⟨#[34, 92, 92, 34]⟩ (lfK _ 5 0 0 [92]) (wt_leaf _ _ _ _ (by decide)) (nr_leaf _ _ _ _ (by decide)) (HL.out.below HB7.out) r5).mono ?_
  rintro e w8 ⟨rfl, h8⟩
  have HB8 := Aside0.mk (HB7.out.trans (h8.mono HB7.out.size))
  clear h8
  go_wp2_with fail
  refine (shows_c (lf 8 7 0 []) _ _ ⟨#[55]⟩ (lfK _ 8 7 0 []) (wt_leaf _ _ _ _ (by decide)) (nr_leaf _ _ _ _ (by decide)) (HL.out.below HB8.out) r6).mono ?_
  rintro e w9 ⟨rfl, h9⟩
  have HB9 := Aside0.mk (HB8.out.trans (h9.mono HB8.out.size))
  clear h9
  go_wp2_with fail
  refine (shows_c (lf 7 0 0 [102, 111, 111]) _ _ ⟨#[34, 90, 109, 57, 118, 34]⟩ (lfK _ 7 0 0 [102, 111, 111]) (wt_leaf _ _ _ _ (by decide)) (nr_leaf _ _ _ _ (by decide)) (HL.out.below HB9.out) r7).mono ?_
  rintro e w10 ⟨rfl, h10⟩
  have HB10 := Aside0.mk (HB9.out.trans (h10.mono HB9.out.size))
  clear h10
  go_wp2_with fail
  refine (num_c 1 _).mono ?_
  rintro e w11 ⟨rfl, h11⟩
  have HB11 := Aside0.mk (HB10.out.trans (h11.mono HB10.out.size))
  clear h11
  go_wp2_with fail
  refine (num_c (-2) _).mono ?_
  rintro e w12 ⟨rfl, h12⟩
  have HB12 := Aside0.mk (HB11.out.trans (h12.mono HB11.out.size))
  clear h12
  go_wp2_with fail
  refine (shows_c ex8 _ _ _ (ex8K _) wt8 nr8 (HL.out.below (HB12.out.alloc HB12.out.size _)) r8).mono ?_
  rintro e w13 ⟨rfl, h13⟩
  have HB13 := Aside0.mk ((HB12.out.alloc HB12.out.size _).trans (h13.mono (by have := HB12.out.size; simp; omega)))
  clear h13
  go_wp2_with fail
  refine (vec_c _ _ _ _).mono ?_
  rintro e w14 ⟨rfl, h14⟩
  have HB14 := Aside0.mk (HB13.out.trans (h14.mono HB13.out.size))
  clear h14
  go_wp2_with fail
  refine (shows_c (lf 10 0 0 []) _ _ ⟨#[91, 93]⟩ (lfK _ 10 0 0 []) (wt_leaf _ _ _ _ (by decide)) (nr_leaf _ _ _ _ (by decide)) (HL.out.below HB14.out) r9).mono ?_
  rintro e w15 ⟨rfl, h15⟩
  have HB15 := Aside0.mk (HB14.out.trans (h15.mono HB14.out.size))
  clear h15
  go_wp2_with fail
  refine (shows_c (lf 17 0 0 []) _ _ ⟨#[123, 125]⟩ (lfK _ 17 0 0 []) (wt_leaf _ _ _ _ (by decide)) (nr_leaf _ _ _ _ (by decide)) (HL.out.below HB15.out) r10).mono ?_
  rintro e w16 ⟨rfl, h16⟩
  have HB16 := Aside0.mk (HB15.out.trans (h16.mono HB15.out.size))
  clear h16
  go_wp2_with fail
  refine (fails_c (lf 6 0 0 [255]) _ _ _ (lfK _ 6 0 0 [255]) (wt_leaf _ _ _ _ (by decide)) (nr_leaf _ _ _ _ (by decide)) (HL.out.below HB16.out) e11).mono ?_
  rintro e w17 ⟨rfl, h17⟩
  have HB17 := Aside0.mk (HB16.out.trans (h17.mono HB16.out.size))
  clear h17
  go_wp2_with fail
  refine (num_c 1 _).mono ?_
  rintro e w18 ⟨rfl, h18⟩
  have H18 := Aside0.mk h18
  have HB18 := Aside0.mk ((HB17.out.alloc HB17.out.size _).trans (h18.mono (by have := HB17.out.size; simp; omega)))
  clear h18
  go_wp2_with fail
  refine (fails_c ex12 _ _ _ (ex12K H18.out) wt12 nr12 (HL.out.below (HB18.out.alloc HB18.out.size _)) e12).mono ?_
  rintro e w19 ⟨rfl, h19⟩
  have HB19 := Aside0.mk ((HB18.out.alloc HB18.out.size _).trans (h19.mono (by have := HB18.out.size; simp; omega)))
  clear h19
  go_wp2_with fail
  refine (fails_c (lf 0 0 0 []) _ _ _ (lfK _ 0 0 0 []) (wt_leaf _ _ _ _ (by decide)) (nr_leaf _ _ _ _ (by decide)) (HL.out.below HB19.out) e13).mono ?_
  rintro e w20 ⟨rfl, h20⟩
  have HB20 := Aside0.mk (HB19.out.trans (h20.mono HB19.out.size))
  clear h20
  go_wp2_with fail
  go_ret
  exact ⟨rfl, HB20.out⟩
end Go.Proofs.YtloemnickbkonaaDoor
