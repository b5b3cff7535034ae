/- The contract of key.Order: the walk. -/
import Derived.Test.YtloemnickbkonaaDoorOrdS
namespace Go.Proofs.YtloemnickbkonaaDoor
open Go.RowKit Go.Sort Go.Proofs.YtloemnickbkonaaDoorW.PrintWords Go.Proofs.YtloemnickbkonaaDoorW.PrintLast Go.Proofs.YtloemnickbkonaaDoorW.PrintMore
set_option linter.unusedVariables false
set_option linter.unusedSimpArgs false

theorem ba_list {a b : ByteArray} (h : a.toList = b.toList) : a = b := ba_ext (by rwa [ByteArray.toList_eq, ByteArray.toList_eq] at h)
theorem info_int : (Tryd.prog.info? 3).map (fun i => (i.zero, i.size, i.bytes)) = some (some (.int .i64 0), 1, 8) := by kernel_rfl
/-- A row of places, sorted. -/
def SrtP (ks : List ByteArray) (d : List (Fin ks.length)) : Prop := d.Perm (List.finRange ks.length) ∧ (ks.Nodup → d = orderF ks) ∧ ((∀ i, 1 ≤ i → ∀ h : i < d.length, ks[d[i - 1]] ≠ ks[d[i]]) → ks.Nodup) ∧ (∀ i, 1 ≤ i → ∀ h : i < d.length, ks[d[i - 1]] = ks[d[i]] → ¬ ks.Nodup)
theorem srtP_of {ks : List ByteArray} [Inhabited (Fin ks.length)] {d : Array (Fin ks.length)} (h : PermIn 0 (place0 ks).size (place0 ks) d) (hS : SortedIn (ltOf (cmpK ks)) 0 (place0 ks).size d) : SrtP ks d.toList := by
  have hs : d.size = ks.length := h.1.trans (place0_size ks)
  have hp := permIn_all h
  refine ⟨hp, fun hn => sorted_orderF hn h hS, fun ha => adj_nodup hs (by rwa [place0_size] at hS) hp fun i h0 h1 e => ?_, fun i h0 h1 e => ?_⟩
  · rw [key_bang (by omega), key_bang (by omega)] at e
    exact ha i h0 (by simp; omega) (by simpa using e)
  · simp only [Array.length_toList] at h1
    refine adj_dup hs hp h0 (by omega) ?_
    rw [key_bang (by omega), key_bang (by omega)]
    simpa using e
theorem sort_c (ks : List ByteArray) (hm : ks.length ≤ 17592186044416) (A : Option Addr) (c b g : Nat) (w0 w : World) (hb : w.heap[b]? = some (.cells #[.slice A ks.length c] 23 (0, 0))) (hbg : b ≠ g) (hg : w.heap[g]? = some (.cells (fillR ks.length ks.length) 3 (0, 0))) (hC : Kd.string.C w0 A ks.length ks)
    (hB : Below w0.heap.size w0 w) (hgl : w0.heap.size ≤ g) : Calls Tryd.prog 68 #[.slice (some ⟨g, 0, none⟩) ks.length ks.length, .func (.func 69) #[] #[.pointer (some ⟨b, 0, none⟩)]] w fun e w' =>
      e = .returned (.tuple #[]) ∧ ∃ d, SrtP ks d ∧ w'.heap[g]? = some (.cells (d.map encP).toArray 3 (0, 0)) ∧ w'.heap[b]? = some (.cells #[.slice A ks.length c] 23 (0, 0)) ∧ Below w0.heap.size w0 w' := by
  by_cases h0 : ks.length = 0
  · have hk : ks = [] := List.eq_nil_of_length_eq_zero h0
    subst hk
    refine (Tryd.slices_SortFunc_none (α := Nat) _ _ _ _).mono ?_
    rintro e w' ⟨rfl, rfl⟩
    exact ⟨rfl, [], ⟨by simp, fun _ => by simp [orderF], fun _ => List.nodup_nil, fun i _ h => absurd h (by simp)⟩, hg, hb, hB⟩
  · haveI : Inhabited (Fin ks.length) := ⟨⟨0, by omega⟩⟩
    have hsz := place0_size ks
    rw [fillR_end] at hg
    have hcall := Tryd.slices_SortFunc (encP (n := ks.length)) encP_one (cmpK ks) (swoK ks) 69 #[.pointer (some ⟨b, 0, none⟩)] g 0 ks.length (place0 ks) w (enters_of Tryd.func69 (by kernel_rfl) rfl)
      (by rw [hsz]; exact cmp_lays ks A c b g w0 w (by rw [heap_cell hb]; rfl) (heap_lt' hb) hbg hC hB hgl) (holds_of hg) (heap_lt' hg) (by rw [hsz]; omega)
    rw [hsz] at hcall
    refine hcall.mono ?_
    rintro e w' ⟨rfl, d, n, os, hP, hS, rfl⟩
    have hgr : w.grownBy (sortWorld encP w g 0 n d os) (some g) := sorted_grown
    refine ⟨rfl, d.toList, srtP_of ((congrArg (fun n => PermIn 0 n (place0 ks) d) hsz).mpr hP) ((congrArg (fun n => SortedIn (ltOf (cmpK ks)) 0 n d) hsz).mpr hS), ?_, ?_, hB.grown hgr hB.size (fun k e => by cases e; exact hgl)⟩
    · rw [sorted_row hg (by simp [hP.1])]
      congr 2
      apply Array.toList_inj.1
      simp
    · rw [hgr.block b (heap_lt' hb) (fun e => hbg (by cases e; rfl))]
      exact hb
set_option maxRecDepth 100000 in
set_option maxHeartbeats 1000000 in
theorem order_in (ks : List ByteArray) (A : Option Addr) (c : Nat) (w : World) (hm : ks.length ≤ 17592186044416) (hC : Kd.string.C w A ks.length ks) :
    Calls Tryd.prog 56 #[.slice A ks.length c] w (OrdQ ks w) := by
  obtain ⟨ii, hii, hij⟩ := Option.map_eq_some_iff.1 info_int
  simp only [Prod.mk.injEq] at hij
  obtain ⟨iz, is', ib⟩ := hij
  have hmk := fun w : World => run_make (P := Tryd.prog) w 96 3 ii (.int .i64 0) Tryd.underlying96 hii iz .i64 .i64 ks.length ks.length (by omega) (by omega) (by rw [ib]; omega) (by omega)
  simp only [Int.toNat_natCast, is', Nat.mul_one, Value.cells, fillR_zero] at hmk
  go_enter Tryd.func56, Tryd.ntmps56
  go_wp2_with fail
  generalize hW0 : (w.alloc _).alloc _ = W0
  have hR0 : W0.heap[w.heap.size + 1]? = some (.cells (fillR ks.length 0) 3 (0, 0)) := by rw [← hW0]; have := heap_alloc_new (w.alloc (.cells #[.slice A ks.length c] 23 (0, 0))) (.cells (fillR ks.length 0) 3 (0, 0)); simpa using this
  have hS0 : W0.heap[w.heap.size]? = some (.cells #[.slice A ks.length c] 23 (0, 0)) := by rw [← hW0]; exact (Below.heap_alloc _ _ _ (by simp)).trans (heap_alloc_new _ _)
  have hB0 : Below w.heap.size w W0 := by rw [← hW0]; exact ((Below.refl _ _).alloc (Nat.le_refl _) _).alloc (by simp) _
  clear hW0
  have HC := Aside0.mk hC
  clear hC
  go_loopw [5, 12] (fun v5 v12 wr => ∃ i : Nat, i ≤ ks.length ∧ v12 = .int .i64 (i : Int) ∧ Aside0 (wr.heap[w.heap.size + 1]? = some (.cells (fillR ks.length i) 3 (0, 0))) ∧ Aside0 (wr.heap[w.heap.size]? = some (.cells #[.slice A ks.length c] 23 (0, 0))) ∧ Aside0 (Below w.heap.size w wr)) (fun _ v12 _ => ks.length - (intOf v12).toNat)
  case atStart => exact ⟨0, by omega, rfl, ⟨hR0⟩, ⟨hS0⟩, ⟨hB0⟩⟩
  case round =>
    obtain ⟨i, hi, rfl, HR, HS, HB⟩ := hrel
    clear hR0 hS0 hB0
    by_cases hlt : (i : Int) < ks.length
    · have hf := heap_thawed HR.out i
      have hc0 : wr.cell? ⟨w.heap.size + 1, i, none⟩ = some (.int .i64 0) := by
        have hh : i < ks.length := by omega
        rw [heap_cell HR.out]
        simp [fillR, hh]
      go_wp2_with fail
      go_roundw
      case rel => exact ⟨i + 1, by omega, rfl, ⟨by rw [heap_put HR.out, fillR_set _ _ (by omega)]⟩, ⟨(Below.heap_setCell _ _ _ _ (by simp)).trans HS.out⟩, ⟨HB.out.setCell (by simp) _⟩⟩
      case measure => simp [intOf]; omega
    · have hin : i = ks.length := by omega
      subst hin
      go_wp2_with (go_at_call 68; refine (sort_c ks hm A c w.heap.size (w.heap.size + 1) w wr HS.out (by omega) HR.out HC.out HB.out (by omega)).mono ?_; rintro e w' ⟨rfl, d, hd, hrow, hbx, hB⟩)
      have HD := Lib.hid hd
      have hdl : d.length = ks.length := by simpa using hd.1.length_eq
      clear hd HR HS HB
      go_loopw [6] (fun v6 wq => ∃ i : Nat, 1 ≤ i ∧ v6 = .int .i64 (i : Int) ∧ Aside0 (wq.heap[w.heap.size + 1]? = some (.cells (d.map encP).toArray 3 (0, 0))) ∧ Aside0 (wq.heap[w.heap.size]? = some (.cells #[.slice A ks.length c] 23 (0, 0))) ∧ Aside0 (Below w.heap.size w wq) ∧ Aside0 (∀ j, 1 ≤ j → j < i → ∀ h : j < d.length, ks[d[j - 1]] ≠ ks[d[j]])) (fun v6 _ => ks.length - (intOf v6).toNat)
      case atStart => exact ⟨1, by omega, rfl, ⟨hrow⟩, ⟨hbx⟩, ⟨hB⟩, ⟨fun j h1 h2 => absurd h1 (by omega)⟩⟩
      case round =>
        obtain ⟨i, hi, rfl, HR, HS, HB, HA⟩ := hrel
        clear hrow hbx hB
        by_cases hlt : (i : Int) < ks.length
        · have hi1 : i - 1 < d.length := by omega
          have hi2 : i < d.length := by omega
          have q1 : wr.cell? ⟨w.heap.size + 1, i - 1, none⟩ = some (.int .i64 (d[i - 1]).val) := by rw [heap_cell HR.out]; simp [hi1, encP]
          have q2 : wr.cell? ⟨w.heap.size + 1, i, none⟩ = some (.int .i64 (d[i]).val) := by rw [heap_cell HR.out]; simp [hi2, encP]
          obtain ⟨ad, rfl, q3⟩ := cell_at (Kd.C_below HC.out HB.out) rfl d[i - 1]
          obtain ⟨ad', e', q4⟩ := cell_at (Kd.C_below HC.out HB.out) rfl d[i]
          cases e'
          have q5 := heap_cell HS.out 0
          have l1 := (d[i - 1]).isLt
          have l2 := (d[i]).isLt
          have l3 : (i : Int) - 1 = ((i - 1 : Nat) : Int) := by omega
          go_wp2_with fail
          go_quiet (fail)
          go_wp2_with fail
          · go_ret2
            rename_i he
            exact ⟨pw_below_drewN HB.out _, .inr ⟨HD.out.2.2.2 i hi hi2 (ba_list (eq_of_beq he)), rfl⟩⟩
          · rename_i he
            go_roundw
            case rel =>
              refine ⟨i + 1, by omega, rfl, ⟨HR.out⟩, ⟨HS.out⟩, ⟨pw_below_drewN HB.out _⟩, ⟨fun j h1 h2 h e => ?_⟩⟩
              by_cases hj : j = i
              · subst hj
                have e2 : ks[(d[j - 1]).val] = ks[(d[j]).val] := e
                rw [e2] at he
                simp at he
              · exact HA.out j h1 (by omega) h e
            case measure => simp [intOf]; omega
        · go_wp2_with fail
          go_ret2
          have hN := HD.out.2.2.1 fun j h1 h => HA.out j h1 (by omega) h
          refine ⟨HB.out, .inl ⟨hN, w.heap.size + 1, by omega, ?_, rfl⟩⟩
          rw [HR.out, HD.out.2.1 hN]
          simp [orderP, encP, Function.comp_def]
end Go.Proofs.YtloemnickbkonaaDoor
