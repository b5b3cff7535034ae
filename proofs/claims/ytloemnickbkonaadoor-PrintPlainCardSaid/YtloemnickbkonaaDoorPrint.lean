/- print.Print: its contract. -/
import Derived.Test.YtloemnickbkonaaDoorPrP
import Derived.Test.YtloemnickbkonaaDoorPutA
namespace Go.Proofs.YtloemnickbkonaaDoor
open Go.RowKit Go.Proofs.YtloemnickbkonaaDoorW.PrintWords Go.Proofs.YtloemnickbkonaaDoorW.PrintLast Go.Proofs.YtloemnickbkonaaDoorW.PrintMore
set_option linter.unusedVariables false
set_option linter.unusedSimpArgs false
/-- Text and error are returned. -/
def PrintQ (w : World) (q : List UInt8 × Int) (e : Ending) (w' : World) : Prop := e = .returned (.tuple #[.string ⟨q.1.toArray⟩, .int .i64 q.2]) ∧ Below w.heap.size w w'
theorem below_dN {B : Nat} {a w : World} (h : Below B a w) (n : Nat) : Below B a (w.drewN n) := ⟨h.os, h.tape, h.output, h.size, h.block⟩
theorem wr_new (base : Nat) (w : World) (h : base ≤ w.heap.size) : Wr base w.heap.size ([], 0) (w.alloc (.cells #[.pointer none, .slice none 0 0, .int .i64 0] 39)) :=
  ⟨#[.pointer none, .slice none 0 0, .int .i64 0], rfl, ⟨h, heap_alloc_new _ _, _, _, rfl, rfl, .inl rfl, ⟨rfl, .inl ⟨rfl, rfl⟩⟩, by simp [Value.ownBlock]⟩, rfl⟩
theorem Wr.err {base b : Nat} {o : Out} {w : World} (h : Wr base b o w) : w.cell? ⟨b, 2, none⟩ = some (.int .i64 o.2) := by
  obtain ⟨cs, h1, h2, h3⟩ := h
  rw [heap_cell h2.2.1, h3]
theorem wlen_c {base b : Nat} {o : Out} {w : World} (h : Wr base b o w) : Calls Tryd.prog 9 #[.pointer (some ⟨b, 0, none⟩)] w fun e w' => e = .returned (.int .i64 o.1.length) ∧ w = w' := by
  obtain ⟨cs, h1, h2, h3⟩ := h
  have := len_c h2
  rwa [Lib.byteCells_length] at this
theorem wstring_c {base b : Nat} {o : Out} {w : World} (h : Wr base b o w) (hB : base ≤ w.heap.size) : Calls Tryd.prog 11 #[.pointer (some ⟨b, 0, none⟩)] w fun e w' => e = .returned (.string ⟨o.1.toArray⟩) ∧ Below base w w' ∧ KeepW b w w' := by
  obtain ⟨cs, h1, h2, h3⟩ := h
  exact string_c h2 hB

set_option maxRecDepth 100000 in
set_option maxHeartbeats 400000 in
theorem print_bad (t : Nd) (cs : List Value) (w : World) (hK : kN.K w t cs) (hwt : wt t ≤ 268435456) (hc : checkE t ≠ 0) :
    Calls Tryd.prog 4 #[.agg cs.toArray] w (PrintQ w ([], checkE t)) := by
  have hchk := check_c t cs (w.alloc (.cells cs.toArray 26)) (kN.K_below ((Below.refl _ _).alloc (Nat.le_refl _) _) hK) (okN_of t (by omega)) (by have := dpN_wt t; omega)
  obtain ⟨A4, c4, A5, c5, rfl, -, -, -, -⟩ := kN_open hK
  have HC := Aside0.mk hchk
  have hcb : (checkE t != 0) = true := by simpa using hc
  have hcb' : (checkE t == 0) = false := by simpa using hc
  generalize checkE t = E at *
  clear hchk hK
  go_enter Tryd.func4, Tryd.ntmps4
  go_wp2_with fail
  refine HC.out.mono ?_
  rintro e w2 ⟨rfl, hb2⟩
  go_wp2_with fail
  go_ret2
  exact ⟨rfl, ((Below.refl _ _).alloc (Nat.le_refl _) _).trans (hb2.mono (by simp))⟩
set_option maxRecDepth 100000 in
set_option maxHeartbeats 1000000 in
theorem print_good (t : Nd) (cs : List Value) (w : World) (hK : kN.K w t cs) (hwt : wt t ≤ 268435456) (hnr : NRb 0 t) (hL : Laid w) (hc : checkE t = 0) :
    Calls Tryd.prog 4 #[.agg cs.toArray] w (PrintQ w (if (printO t).2 ≠ 0 then ([], (printO t).2) else ((printO t).1, 0))) := by
  have hg := good_of hc
  have hok := okT_of (wt t) (by omega) t 0 64 hg.1 hnr (by omega) (Nat.le_refl _) hg.2
  have hchk := check_c t cs (w.alloc (.cells cs.toArray 26)) (kN.K_below ((Below.refl _ _).alloc (Nat.le_refl _) _) hK) (okN_of t (by omega)) (by have := dpN_wt t; omega)
  rw [hc] at hchk
  have hput : ∀ (b : Nat) (w1 : World) (o : Out), Below w.heap.size w w1 → Wr w.heap.size b o w1 → o.1.length + slack (wt t) 64 ≤ 140737488355328 → Calls Tryd.prog 8 #[.pointer (some ⟨b, 0, none⟩), .agg cs.toArray] w1 fun r w' => r = .returned (.tuple #[]) ∧ Wr w.heap.size b (cat o (outD 64 t)) w' ∧ Below w.heap.size w1 w' ∧ KeepW b w1 w' :=
    fun b w1 o hB hW hl => put_c w b (wt t) hL 64 t cs w1 o hK hok hB hW hl
  have hlenq : (outD 64 t).1.length ≤ wt t := hok.2.2.1
  obtain ⟨A4, c4, A5, c5, rfl, -, -, -, -⟩ := kN_open hK
  have HC := Aside0.mk hchk
  have HP := Aside0.mk hput
  obtain ⟨q, hq⟩ : ∃ q, outD 64 t = q := ⟨_, rfl⟩
  unfold printO
  rw [hq] at HP hlenq ⊢
  simp only
  have hslk : (([], 0) : Out).1.length + slack (wt t) 64 ≤ 140737488355328 := by
    have h1 : slack (wt t) 64 ≤ slack 268435456 64 := by unfold slack; exact Nat.mul_le_mul_left _ (by omega)
    have h2 : slack 268435456 64 ≤ 140737488355328 := by decide
    simp only [List.length_nil]; omega
  clear hchk hput hK hok hg hc hnr hL hq
  by_cases h1 : q.1.length > 1048576
  · have hne : (cat q ([], 5)).2 ≠ 0 := by unfold cat; split <;> simp_all
    have h1' : (1048576 : Int) < (q.1.length : Int) := by omega
    simp only [if_pos h1, if_pos hne]
    have hneb : ((cat q ([], 5)).2 != 0) = true := by simpa using hne
    have HE := Aside0.mk hneb
    clear h1 hne hneb
    go_enter Tryd.func4, Tryd.ntmps4
    go_wp2_with fail
    refine HC.out.mono ?_
    rintro e w2 ⟨rfl, hb2⟩
    have hz2 : w.heap.size + 1 ≤ w2.heap.size := by have := hb2.size; simpa using this
    have hbx : Below w.heap.size w w2 := ((Below.refl _ _).alloc (Nat.le_refl _) _).trans (hb2.mono (by simp))
    have x0 := (Below.heap_alloc w2 (.cells #[.pointer none, .slice none 0 0, .int .i64 0] 39) w.heap.size (by omega)).trans ((hb2.block w.heap.size (by simp)).trans (heap_alloc_new w (.cells #[.int .i64 t.f0, .int .i64 t.f1, .int .u64 t.f2, .string t.f3, .slice A4 t.f4.length c4, .slice A5 t.f5.length c5] 26)))
    have y0 := cell_in x0 0
    have y1 := cell_in x0 1
    have y2 := cell_in x0 2
    have y3 := cell_in x0 3
    have y4 := cell_in x0 4
    have y5 := cell_in x0 5
    simp only [List.getElem?_toArray, List.getElem?_cons_zero, List.getElem?_cons_succ] at y0 y1 y2 y3 y4 y5
    have HW := Aside0.mk (wr_new w.heap.size w2 (by omega))
    have HBX := Aside0.mk (hbx.alloc hbx.size (.cells #[.pointer none, .slice none 0 0, .int .i64 0] 39))
    clear hbx hb2 x0
    go_wp2_with fail
    refine (HP.out w2.heap.size _ ([], 0) HBX.out HW.out hslk).mono ?_
    rintro e w4 ⟨rfl, hW4, hB4, hk4⟩
    rw [nil_cat] at hW4
    have hz4 := hB4.size
    have z2 := hW4.err
    have HW4 := Aside0.mk hW4
    have HB4 := Aside0.mk (HBX.out.trans hB4)
    clear hW4 hB4 hk4 y0 y1 y2 y3 y4 y5
    go_wp2_with fail
    refine (wlen_c HW4.out).mono ?_
    rintro e w5 ⟨rfl, rfl⟩
    go_wp2_with fail
    refine (fail_c 5 HW4.out).mono ?_
    rintro e w6 ⟨rfl, hW6, hB6, hk6⟩
    have z6 := hW6.err
    have hE := HE.out
    generalize cat q ([], 5) = q6 at *
    obtain ⟨l6, e6⟩ := q6
    simp only at hE z6 ⊢
    go_wp2_with fail
    go_quiet (fail)
    go_wp2_with fail
    go_ret2
    exact ⟨rfl, below_dN (HB4.out.trans hB6) _⟩
  · have h1' : ¬ (1048576 : Int) < (q.1.length : Int) := by omega
    have h1'' : decide ((1048576 : Int) < (q.1.length : Int)) = false := decide_eq_false h1'
    simp only [if_neg h1]
    obtain ⟨ql, qe⟩ := q
    by_cases h2 : qe = 0
    · subst h2
      simp only [ne_eq, not_true_eq_false, if_false]
      clear h1 h1'
      simp only at h1'' hlenq
      go_enter Tryd.func4, Tryd.ntmps4
      go_wp2_with fail
      refine HC.out.mono ?_
      rintro e w2 ⟨rfl, hb2⟩
      have hz2 : w.heap.size + 1 ≤ w2.heap.size := by have := hb2.size; simpa using this
      have hbx : Below w.heap.size w w2 := ((Below.refl _ _).alloc (Nat.le_refl _) _).trans (hb2.mono (by simp))
      have x0 := (Below.heap_alloc w2 (.cells #[.pointer none, .slice none 0 0, .int .i64 0] 39) w.heap.size (by omega)).trans ((hb2.block w.heap.size (by simp)).trans (heap_alloc_new w (.cells #[.int .i64 t.f0, .int .i64 t.f1, .int .u64 t.f2, .string t.f3, .slice A4 t.f4.length c4, .slice A5 t.f5.length c5] 26)))
      have y0 := cell_in x0 0
      have y1 := cell_in x0 1
      have y2 := cell_in x0 2
      have y3 := cell_in x0 3
      have y4 := cell_in x0 4
      have y5 := cell_in x0 5
      simp only [List.getElem?_toArray, List.getElem?_cons_zero, List.getElem?_cons_succ] at y0 y1 y2 y3 y4 y5
      have HW := Aside0.mk (wr_new w.heap.size w2 (by omega))
      have HBX := Aside0.mk (hbx.alloc hbx.size (.cells #[.pointer none, .slice none 0 0, .int .i64 0] 39))
      clear hbx hb2 x0
      go_wp2_with fail
      refine (HP.out w2.heap.size _ ([], 0) HBX.out HW.out hslk).mono ?_
      rintro e w4 ⟨rfl, hW4, hB4, hk4⟩
      rw [nil_cat] at hW4
      have hz4 := hB4.size
      have z2 := hW4.err
      have HW4 := Aside0.mk hW4
      have HB4 := Aside0.mk (HBX.out.trans hB4)
      clear hW4 hB4 hk4 y0 y1 y2 y3 y4 y5
      go_wp2_with fail
      refine (wlen_c HW4.out).mono ?_
      rintro e w5 ⟨rfl, rfl⟩
      go_wp2_with fail
      refine (wstring_c HW4.out HB4.out.size).mono ?_
      rintro e w6 ⟨rfl, hB6, hk6⟩
      go_wp2_with fail
      go_ret2
      exact ⟨rfl, HB4.out.trans hB6⟩
    · have hneb : (qe != 0) = true := by simpa using h2
      simp only [if_pos h2]
      clear h1 h1' h2
      simp only at h1'' hlenq
      go_enter Tryd.func4, Tryd.ntmps4
      go_wp2_with fail
      refine HC.out.mono ?_
      rintro e w2 ⟨rfl, hb2⟩
      have hz2 : w.heap.size + 1 ≤ w2.heap.size := by have := hb2.size; simpa using this
      have hbx : Below w.heap.size w w2 := ((Below.refl _ _).alloc (Nat.le_refl _) _).trans (hb2.mono (by simp))
      have x0 := (Below.heap_alloc w2 (.cells #[.pointer none, .slice none 0 0, .int .i64 0] 39) w.heap.size (by omega)).trans ((hb2.block w.heap.size (by simp)).trans (heap_alloc_new w (.cells #[.int .i64 t.f0, .int .i64 t.f1, .int .u64 t.f2, .string t.f3, .slice A4 t.f4.length c4, .slice A5 t.f5.length c5] 26)))
      have y0 := cell_in x0 0
      have y1 := cell_in x0 1
      have y2 := cell_in x0 2
      have y3 := cell_in x0 3
      have y4 := cell_in x0 4
      have y5 := cell_in x0 5
      simp only [List.getElem?_toArray, List.getElem?_cons_zero, List.getElem?_cons_succ] at y0 y1 y2 y3 y4 y5
      have HW := Aside0.mk (wr_new w.heap.size w2 (by omega))
      have HBX := Aside0.mk (hbx.alloc hbx.size (.cells #[.pointer none, .slice none 0 0, .int .i64 0] 39))
      clear hbx hb2 x0
      go_wp2_with fail
      refine (HP.out w2.heap.size _ ([], 0) HBX.out HW.out hslk).mono ?_
      rintro e w4 ⟨rfl, hW4, hB4, hk4⟩
      rw [nil_cat] at hW4
      have hz4 := hB4.size
      have z2 := hW4.err
      have HW4 := Aside0.mk hW4
      have HB4 := Aside0.mk (HBX.out.trans hB4)
      clear hW4 hB4 hk4 y0 y1 y2 y3 y4 y5
      go_wp2_with fail
      refine (wlen_c HW4.out).mono ?_
      rintro e w5 ⟨rfl, rfl⟩
      go_wp2_with fail
      go_quiet (fail)
      go_wp2_with fail
      go_ret2
      exact ⟨rfl, below_dN HB4.out _⟩
/-- print.Print. -/
theorem print_c (t : Nd) (cs : List Value) (w : World) (hK : kN.K w t cs) (hwt : wt t ≤ 268435456) (hnr : NRb 0 t) (hL : Laid w) : Calls Tryd.prog 4 #[.agg cs.toArray] w (PrintQ w (printR t)) := by
  unfold printR
  by_cases hc : checkE t = 0
  · rw [if_neg (by simpa using hc)]
    exact print_good t cs w hK hwt hnr hL hc
  · rw [if_pos hc]
    exact print_bad t cs w hK hwt hc
end Go.Proofs.YtloemnickbkonaaDoor
