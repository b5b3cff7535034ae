/- print.entries at a map. -/
import Derived.Test.YtloemnickbkonaaDoorEnt
namespace Go.Proofs.YtloemnickbkonaaDoor
open Go.RowKit Go.Proofs.YtloemnickbkonaaDoorW.PrintWords Go.Proofs.YtloemnickbkonaaDoorW.PrintLast Go.Proofs.YtloemnickbkonaaDoorW.PrintMore
set_option linter.unusedVariables false
set_option linter.unusedSimpArgs false
attribute [local go_sem] Oper.semAt_some

theorem ordE_of {ks : List ByteArray} (h : ks.Nodup) : ordE ks = orderP ks := by unfold ordE; rw [if_pos h]
theorem ordE_dup {ks : List ByteArray} (h : ¬ ks.Nodup) : ordE ks = [] := by unfold ordE; rw [if_neg h]
theorem orderP_lt (ks : List ByteArray) (i : Nat) (h : i < (orderP ks).length) : (orderP ks)[i] < ks.length := by
  have := (orderP_perm ks).mem_iff.1 (List.getElem_mem h)
  simpa using this
theorem eTo_succ_map {t : Nd} (h : t.f0 = 17) (hn : t.f4.Nodup) (i : Nat) (hi : i < (orderP t.f4).length) : eTo t (i + 1) = eTo t i ++ [(rdOf ByteArray.empty t.f4 ((orderP t.f4)[i] : Int), rdN t.f5 ((orderP t.f4)[i] : Int))] := by
  unfold eTo
  rw [List.take_succ_eq_append_getElem (by rw [ents_map h, ordE_of hn]; simpa using hi)]
  congr 2
  simp only [ents_map h, ordE_of hn, List.getElem_map]
  rfl
theorem eTo_next_map {t : Nd} (h : t.f0 = 17) (hn : t.f4.Nodup) (i : Nat) (hi : i < (orderP t.f4).length) : eTo t i ++ [(rdOf ByteArray.empty t.f4 ((orderP t.f4)[i] : Int), rdN t.f5 ((orderP t.f4)[i] : Int))] <+: ents t := by
  rw [← eTo_succ_map h hn i hi]
  exact List.take_prefix _ _

set_option maxRecDepth 100000 in
set_option maxHeartbeats 1000000 in
theorem ents_map_in (w0 : World) (P : ByteArray × Nd → Prop) (l N B Bt n : Nat) (J Jx : List (En w0 P) → World → Prop) (hJ : AbidesFrom B J) (hJx : AbidesFrom B Jx)
    (hY : ∀ pre (x : En w0 P) W, J pre W → pre.length < N → YieldAt Fence.wide (n - 1) Tryd.prog l (env x) W fun e W' =>
      (e = .returned (.bool true) ∧ J (pre ++ [x]) W' ∧ KpE w0.heap.size W W') ∨ (e = .returned (.bool false) ∧ Jx (pre ++ [x]) W')) (x : Nd) (cs : List Value) (W : World) (hK : kN.K w0 x cs)
    (hB : Below w0.heap.size w0 W) (hok : okV x) (hPx : ∀ p ∈ ents x, P p) (hj : J [] W) (hN : (ents x).length ≤ N) (hbt : W.heap[Bt]? = some (Obj.cells cs.toArray 26 (0, 0))) (h17 : x.f0 = 17) :
    CallsIn Fence.wide n Tryd.prog 55 #[.func (.yield l) #[] #[], .pointer (some ⟨Bt, 0, none⟩)] W fun e W' => (∃ v, e = .returned v) ∧
      ((∃ ys : List (En w0 P), ys.map enr = ents x ∧ J ys W') ∨ (∃ ys : List (En w0 P), ys.map enr <+: ents x ∧ Jx ys W')) := by
  have hdd : ∀ k : Nat, (Fence.wide.depth.isSome = true → 1 ≤ k) := fun k h => by cases h
  have hfn : ∀ k, Fence.wide.fn k := fun _ => trivial
  obtain ⟨A4, c4, A5, c5, rfl, hl4, hC4, hl5, hC5⟩ := kN_open hK
  have x0 := cell_in hbt 0
  have x4 := cell_in hbt 4
  simp only [List.getElem?_toArray, List.getElem?_cons_zero, List.getElem?_cons_succ] at x0 x4
  have hv := (okV_eq x).1 hok
  have hm4 : x.f4.length ≤ 17592186044416 := hv.2.1
  have hm5 : x.f5.length ≤ 140737488355328 := hv.2.2.2.1
  have h45 : x.f4.length = x.f5.length := hv.2.2.2.2.2.2.1 h17
  have h17b : (x.f0 != 17) = false := by simp [h17]
  have HC5 := Aside0.mk hC5
  have HC4 := Aside0.mk hC4
  have HBT := Aside0.mk hbt
  have HJ0 := Aside0.mk hj
  have HY := Aside0.mk hY
  have H17 := Aside0.mk h17
  have H45 := Aside0.mk h45
  have HV := Aside0.mk hv
  clear hC5 hC4 hbt hj hY h17 h45 hv
  refine callsIn_of_wp Tryd.func55 rfl trivial ?_ rfl
  simp only [Tryd.ntmps55, List.size_toArray, List.length_cons, List.length_nil, Nat.reduceAdd, Nat.reduceSub, Array.replicate_succ, Array.replicate_zero, List.push_toArray, List.append_toArray, List.nil_append, List.cons_append]
  gi_wp2_with (first | ((try refine ⟨hdd _, ?_⟩); gi_at_call 56; refine (callsIn_wide.2 (order_in x.f4 A4 c4 W hm4 (Kd.C_below HC4.out hB))).mono ?_; rintro e W1 ⟨hb1, (⟨hnd, b, hbb, hrow, rfl⟩ | ⟨hnd, rfl⟩)⟩))
  · have hK1 : KpE w0.heap.size W W1 := (KpE.refl _ W).below hB.size hb1
    have hol : (orderP x.f4).length = x.f4.length := orderP_length x.f4
    have hEl : (ents x).length = x.f4.length := by rw [ents_map H17.out, ordE_of hnd, List.length_map, hol]
    have HROW := Aside0.mk hrow
    have HK1 := Aside0.mk hK1
    have HB1 := Aside0.mk hb1
    clear hrow hK1 hb1
    gi_loopw [32] (fun v32 wr => ∃ i : Nat, i ≤ x.f4.length ∧ v32 = .int .i64 (i : Int) ∧ Aside0 (∃ ys : List (En w0 P), ys.map enr = eTo x i ∧ J ys wr) ∧ Aside0 (KpE w0.heap.size W1 wr)) (fun v32 _ => x.f4.length - (intOf v32).toNat)
    case atStart => exact ⟨0, by omega, rfl, ⟨[], by simp [eTo], hJ _ _ _ none HJ0.out (grown_of_below HB1.out) (fun r e => by cases e)⟩, ⟨KpE.refl _ _⟩⟩
    case round =>
      obtain ⟨i, hi, rfl, HYS, HB⟩ := hrel
      by_cases hlt : (i : Int) < x.f4.length
      · have hio : i < (orderP x.f4).length := by omega
        obtain ⟨ys, hys, hj⟩ := HYS.out
        obtain ⟨p, hp⟩ : ∃ p, (orderP x.f4)[i] = p := ⟨_, rfl⟩
        have hp4 : p < x.f4.length := by rw [← hp]; exact orderP_lt _ _ hio
        have hp5 : (p : Int) < x.f5.length := by have := H45.out; omega
        have hp4' : (p : Int) < x.f4.length := by omega
        have hcell : wr.cell? ⟨b, i, none⟩ = some (.int .i64 (p : Int)) := by
          rw [heap_cell (HB.out.cells (.inr rfl) HROW.out)]
          simp [hio, hp]
        have hsucc := eTo_succ_map H17.out hnd i hio
        have hnext := eTo_next_map H17.out hnd i hio
        rw [hp] at hsucc hnext
        obtain ⟨ad4, rfl, k0⟩ := Kd.at_string HC4.out (p : Int) (by omega) hp4'
        obtain ⟨ad, B4, d4, B5, d5, rfl, e0, e1, e2, e3, e4, e5, m4, G4, m5, G5⟩ := atN HC5.out (p : Int) (by omega) hp5
        have hKel := kN_mk w0 (rdN x.f5 (p : Int)) m4 G4 m5 G5
        have hbw : Below w0.heap.size w0 wr := (hB.trans HK1.out.1).trans HB.out.1
        have tr : ∀ {a : Addr} {v : Value}, w0.cell? a = some v → wr.drew.cell? a = some v := fun h => (hbw.cell (World.block_lt_of_cell? w0 _ h)).trans h
        replace k0 := tr k0
        replace e0 := tr e0
        replace e1 := tr e1
        replace e2 := tr e2
        replace e3 := tr e3
        replace e4 := tr e4
        replace e5 := tr e5
        clear tr
        rw [Int.toNat_natCast] at k0 e0 e1 e2 e3 e4 e5
        have hlen : ys.length = i := by
          have := congrArg List.length hys
          rw [List.length_map, eTo, List.length_take] at this
          omega
        have hPe : P (rdOf ByteArray.empty x.f4 (p : Int), rdN x.f5 (p : Int)) := hPx _ (hnext.subset (by simp))
        have hself := HY.out ys ⟨(rdOf ByteArray.empty x.f4 (p : Int), rdN x.f5 (p : Int), _), hKel, hPe⟩ wr.drew (hJ _ _ _ none hj (grown_of_below (Below.drew (Below.refl _ _))) (fun r e => by cases e)) (by omega)
        dsimp only [env] at hself
        obtain ⟨fn, tmps, assign, body, hy, hR⟩ := hself
        have x5' := cell_in (HB.out.cells (.inl rfl) (HK1.out.cells (.inl rfl) HBT.out)) 5
        have x4' := cell_in (HB.out.cells (.inl rfl) (HK1.out.cells (.inl rfl) HBT.out)) 4
        simp only [List.getElem?_toArray, List.getElem?_cons_zero, List.getElem?_cons_succ] at x5' x4'
        replace x5' : wr.drew.cell? ⟨Bt, 5, none⟩ = _ := x5'
        replace x4' : wr.drew.cell? ⟨Bt, 4, none⟩ = _ := x4'
        clear x0 x4
        gi_wp2
        refine wpIn_region_still_tail 11 (by kernel_rfl) (by kernel_rfl) ?_
        simp only [List.take_succ_cons, List.take_zero, List.drop_succ_cons, List.drop_zero]
        change wpStill _ _ wr.drew (fun a' => wpListIn _ _ _ _ _ _ a' wr.drew) _ _
        repeat still_step
        try refine wpStill_nil ?_
        gi_wp2_with (first | ((try refine ⟨hdd _, ?_⟩); refine hR.mono ?_; clear hR; rintro e W2 (⟨rfl, hj1, hb1⟩ | ⟨rfl, hjx⟩)))
        · go_roundw
          case rel => exact ⟨i + 1, by omega, rfl, ⟨ys ++ [⟨(rdOf ByteArray.empty x.f4 (p : Int), rdN x.f5 (p : Int), _), hKel, hPe⟩], by rw [List.map_append, hys, hsucc]; rfl, hj1⟩, ⟨HB.out.trans (((KpE.refl _ wr).below hbw.size (Below.drew (Below.refl _ _))).trans hb1)⟩⟩
          case measure => simp [intOf]; omega
        · ((try simp only [Exit.inBlock, Exit.then]); refine bodyPost_ret (results_none rfl _ _ _) rfl ?_)
          exact ⟨⟨_, rfl⟩, .inr ⟨_, by rw [List.map_append, hys]; exact hnext, hjx⟩⟩
      · gi_wp2
        go_end0
        obtain ⟨ys, hys, hj⟩ := HYS.out
        exact ⟨⟨_, rfl⟩, .inl ⟨ys, by rw [hys, eTo, List.take_of_length_le (by omega)], hj⟩⟩
  · gi_loopw [32] (fun v32 wr => v32 = .int .i64 0 ∧ wr = W1) (fun _ _ => 0)
    case atStart => exact ⟨rfl, rfl⟩
    case round =>
      obtain ⟨rfl, rfl⟩ := hrel
      gi_wp2
      go_end0
      exact ⟨⟨_, rfl⟩, .inl ⟨[], by rw [ents_map H17.out, ordE_dup hnd]; rfl, hJ _ _ _ none HJ0.out (grown_of_below hb1) (fun r e => by cases e)⟩⟩
theorem ents_stops (w0 w : World) (P : ByteArray × Nd → Prop) (n Bt : Nat) (x : Nd) (cs : List Value) (hK : kN.K w0 x cs) (hB : Below w0.heap.size w0 w) (hok : okV x) (hPx : ∀ p ∈ ents x, P p) (hbt : w.heap[Bt]? = some (Obj.cells cs.toArray 26 (0, 0))) :
    SeqStopsK Fence.wide n Tryd.prog 55 #[.pointer (some ⟨Bt, 0, none⟩)] (fun x : En w0 P => env x) (KpE w0.heap.size) (fun ys => ys.map enr = ents x) (fun ys => ys.map enr <+: ents x) (ents x).length w := fun l J Jx W hW hJ hJx hY h0 => by
  by_cases h17 : x.f0 = 17
  · exact ents_map_in w0 P l _ W.heap.size Bt n J Jx hJ hJx hY x cs W hK (hB.trans (hW.mono hB.size)) hok hPx h0 (Nat.le_refl _) ((hW.block Bt (heap_lt' hbt)).trans hbt) h17
  · exact ents_list_in w0 P l _ W.heap.size Bt n J Jx hJ hJx hY x cs W hK (hB.trans (hW.mono hB.size)) hok hPx h0 (Nat.le_refl _) ((hW.block Bt (heap_lt' hbt)).trans hbt) h17
set_option maxRecDepth 100000 in
set_option maxHeartbeats 400000 in
theorem entries_c (x : Nd) (A4 A5 : Option Addr) (c4 c5 : Nat) (w : World) :
    Calls Tryd.prog 44 #[.agg #[.int .i64 x.f0, .int .i64 x.f1, .int .u64 x.f2, .string x.f3, .slice A4 x.f4.length c4, .slice A5 x.f5.length c5]] w fun e w' =>
      e = .returned (.func (.func 55) #[] #[.pointer (some ⟨w.heap.size, 0, none⟩)]) ∧ w' = w.alloc (.cells #[.int .i64 x.f0, .int .i64 x.f1, .int .u64 x.f2, .string x.f3, .slice A4 x.f4.length c4, .slice A5 x.f5.length c5] 26) := by
  go_enter Tryd.func44, Tryd.ntmps44
  go_wp2
  go_ret
  exact ⟨rfl, rfl⟩
end Go.Proofs.YtloemnickbkonaaDoor
