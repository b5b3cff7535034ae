/- The contract of tree.Check. -/
import Derived.Test.YtloemnickbkonaaDoorCheckP
import Derived.Test.YtloemnickbkonaaDoorWalk
import Derived.Test.YtloemnickbkonaaDoorBld
import Derived.RangeFuncWrites
import Derived.RangeFuncFrom
import Derived.Laws.Rows
namespace Go.Proofs.YtloemnickbkonaaDoor
open Go.RowKit Go.Proofs.YtloemnickbkonaaDoorW.PrintWords Go.Proofs.YtloemnickbkonaaDoorW.PrintLast Go.Proofs.YtloemnickbkonaaDoorW.PrintMore
set_option linter.unusedVariables false
set_option linter.unusedSimpArgs false
attribute [local go_sem] Oper.semAt_some

theorem KeepsFrom.of_below {B : Nat} {W W' : World} (h : Below W.heap.size W W') : KeepsFrom B W W' := ⟨h.size, fun k o _ hk _ => (h.block k (Array.getElem?_eq_some_iff.1 hk).1).trans hk⟩
/-- A block of cells abides the turn of a block that is none. -/
theorem cells_kept {W W' : World} {row : Option Nat} {b : Nat} {c : Array Value} {t : TypeId} {fr : Nat × Nat} (h : W.heap[b]? = some (Obj.cells c t fr)) (hg : W.grownBy W' row) (hr : ∀ r, row = some r → ∃ o : Obj, W.heap[r]? = some o ∧ o.isCells = false) : W'.heap[b]? = some (Obj.cells c t fr) := by
  rw [hg.block b (Array.getElem?_eq_some_iff.1 h).1 (fun e => by obtain ⟨o, ho, hc⟩ := hr b e.symm; rw [h] at ho; cases ho; cases hc)]
  exact h

/-- Between two rounds: what the two variables hold. -/
def ChkI (w : World) (pre : List (El w)) (W : World) : Prop := W.heap[w.heap.size + 1]? = some (Obj.cells #[.int .i64 0] 27 (0, 0)) ∧ W.heap[w.heap.size + 2]? = some (Obj.cells #[.int .i64 pre.length] 3 (0, 0)) ∧ passed 0 (pre.map er) ∧ Below w.heap.size w W ∧ w.heap.size + 4 ≤ W.heap.size
/-- A round has returned. -/
def ChkX (w : World) (c : Code) (pre : List (El w)) (W : World) : Prop := c = Code.ret ∧ ∃ (p : List (El w)) (x : El w), pre = p ++ [x] ∧ passed 0 (p.map er) ∧ stepE p.length (er x) ≠ 0 ∧ W.heap[w.heap.size + 1]? = some (Obj.cells #[.int .i64 (stepE p.length (er x))] 27 (0, 0)) ∧ Below w.heap.size w W
theorem chkI_own (w : World) (B : Nat) (hB : w.heap.size ≤ B) : OwnFrom B (ChkI w) := fun s W W' row h hg hr =>
  ⟨cells_kept h.1 hg (fun r e => (hr r e).2), cells_kept h.2.1 hg (fun r e => (hr r e).2), h.2.2.1, ownFrom_below (β := Unit) (Nat.le_refl _) hB () W W' row h.2.2.2.1 hg hr, Nat.le_trans h.2.2.2.2 hg.size⟩
theorem chkX_own (w : World) (c : Code) (B : Nat) (hB : w.heap.size ≤ B) : OwnFrom B (ChkX w c) := fun s W W' row h hg hr => by
  obtain ⟨rfl, p, x, h1, h2, h3, h4, h5⟩ := h
  exact ⟨rfl, p, x, h1, h2, h3, cells_kept h4 hg (fun r e => (hr r e).2), ownFrom_below (β := Unit) (Nat.le_refl _) hB () W W' row h5 hg hr⟩

theorem alloc4 (w : World) (o0 o1 o2 o3 : Obj) : ∃ W, ((((w.alloc o0).alloc o1).alloc o2).alloc o3) = W ∧ W.heap.size = w.heap.size + 4 ∧ W.heap[w.heap.size + 1]? = some o1 ∧ W.heap[w.heap.size + 2]? = some o2 ∧ W.heap[w.heap.size + 3]? = some o3 ∧ Below w.heap.size w W :=
  ⟨_, rfl, by simp, (by show ((((w.heap.push o0).push o1).push o2).push o3)[w.heap.size + 1]? = _; rw [Array.getElem?_push]; rw [if_neg (by simp), Array.getElem?_push, if_neg (by simp), Array.getElem?_push, if_pos (by simp)]), (by show ((((w.heap.push o0).push o1).push o2).push o3)[w.heap.size + 2]? = _; rw [Array.getElem?_push]; rw [if_neg (by simp), Array.getElem?_push, if_pos (by simp)]), (by show ((((w.heap.push o0).push o1).push o2).push o3)[w.heap.size + 3]? = _; rw [Array.getElem?_push]; rw [if_pos (by simp)]),
    ((((Below.refl _ _).alloc (Nat.le_refl _) _).alloc (by simp) _).alloc (by simp; omega) _).alloc (by simp; omega) _⟩

set_option maxRecDepth 100000 in
set_option maxHeartbeats 2000000 in
theorem check_in (t : Nd) (A4 A5 : Option Addr) (c4 c5 : Nat) (w : World) (hK : kN.K w t [.int .i64 t.f0, .int .i64 t.f1, .int .u64 t.f2, .string t.f3, .slice A4 t.f4.length c4, .slice A5 t.f5.length c5]) (hok : okN t) (hd : dpN t ≤ 140737488355328) :
    CallsIn Fence.wide 100 Tryd.prog 7 #[.agg #[.int .i64 t.f0, .int .i64 t.f1, .int .u64 t.f2, .string t.f3, .slice A4 t.f4.length c4, .slice A5 t.f5.length c5]] w fun e w' => e = .returned (.int .i64 (checkE t)) ∧ Below w.heap.size w w' := by
  refine callsIn_of_wp_marks Tryd.func7 rfl trivial ?_ rfl
  simp only [Tryd.ntmps7, List.size_toArray, List.length_cons, List.length_nil, Nat.reduceAdd, Nat.reduceSub, Array.replicate_succ, Array.replicate_zero, List.push_toArray, List.append_toArray, List.nil_append, List.cons_append]
  have hdd : ∀ k : Nat, (Fence.wide.depth.isSome = true → 1 ≤ k) := fun k h => by cases h
  have hfn : ∀ k, Fence.wide.fn k := fun _ => trivial
  gi_wp2_with ((try refine ⟨hdd _, ?_⟩); gi_at_call 17; refine (callsIn_wide.2 (walked_c t A4 A5 c4 c5 _)).mono ?_; rintro e w' ⟨rfl, rfl⟩)
  obtain ⟨W4, hW4, s4, b1, b2, b3, hB4⟩ := alloc4 w (.cells #[.int .i64 t.f0, .int .i64 t.f1, .int .u64 t.f2, .string t.f3, .slice A4 t.f4.length c4, .slice A5 t.f5.length c5] 26) (.cells #[.int .i64 0] 27) (.cells #[.int .i64 0] 3) (.cells #[.int .i64 t.f0, .int .i64 t.f1, .int .u64 t.f2, .string t.f3, .slice A4 t.f4.length c4, .slice A5 t.f5.length c5] 26)
  rw [hW4]
  clear hW4
  refine wpIn_rangeFunc_ownH rfl (by decide) (gf := 29) (lb := #[.pointer (some ⟨w.heap.size + 3, 0, none⟩)]) rfl trivial (enters_of Tryd.func29 (by kernel_rfl) rfl)
    (walked_stops w W4 99 (w.heap.size + 3) t _ hK hB4 hok hd b3) KpN.trans (KpN.putObj hB4.size) (Below.refl _ _) (fun _ => rfl)
    (ChkI w) (ChkX w)
    ?hI ?hIx ⟨b1, b2, trivial, hB4, by omega⟩
    (fun x a' W => ∃ Bx, W.heap[Bx]? = some (Obj.cells x.1.2.2.toArray 26 (0, 0)) ∧ w.heap.size + 4 ≤ Bx ∧ a' = { tmps := #[.agg #[.int .i64 t.f0, .int .i64 t.f1, .int .u64 t.f2, .string t.f3, .slice A4 t.f4.length c4, .slice A5 t.f5.length c5], .pointer (some ⟨w.heap.size, 0, none⟩), .pointer (some ⟨w.heap.size + 1, 0, none⟩), .pointer (some ⟨w.heap.size + 1 + 1, 0, none⟩), .int .i64 x.1.1, .pointer (some ⟨Bx, 0, none⟩), undef, .agg #[.int .i64 t.f0, .int .i64 t.f1, .int .u64 t.f2, .string t.f3, .slice A4 t.f4.length c4, .slice A5 t.f5.length c5], .func (.func 29) #[] #[.pointer (some ⟨w.heap.size + 1 + 1 + 1, 0, none⟩)], .int .i64 x.1.1, .agg x.1.2.2.toArray, undef, undef, undef, undef, undef, undef, undef, undef, undef, undef, undef, undef, undef, undef, undef, undef, undef], defers := [] })
    ?hAx ?assign ?body ?done ?stop
  case hI => exact chkI_own w _ (by omega)
  case hIx => exact fun c => chkX_own w c _ (by omega)
  case hAx =>
    rintro x a' s W W' row ⟨Bx, hb, hle, ha⟩ hg hr
    exact ⟨Bx, cells_kept hb hg (fun r e => (hr r e).2), hle, ha⟩
  case assign =>
    rintro l pre x W K hi hK
    obtain ⟨⟨b, nd, cs⟩, hx⟩ := x
    obtain ⟨C4, e4, C5, e5, rfl, -, -, -, -⟩ := kN_open (show kN.K w nd cs from hx.1)
    simp only [elv, List.zip_toArray, List.zip_cons_cons, List.zip_nil_right, List.size_toArray, List.length_cons, List.length_nil, List.foldl_toArray', List.foldl_cons, List.foldl_nil, List.setIfInBounds_toArray, List.set_cons_zero, List.set_cons_succ]
    gi_wp2
    exact hK _ _ (KeepsFrom.of_below ((Below.refl _ _).alloc (Nat.le_refl _) _)) ((KpN.refl _ W).alloc (by have := hi.2.2.2.1.size; omega) _)
      ⟨(Below.heap_alloc _ _ _ (by have := hi.2.2.2.2; omega)).trans hi.1, (Below.heap_alloc _ _ _ (by have := hi.2.2.2.2; omega)).trans hi.2.1, hi.2.2.1, hi.2.2.2.1.alloc hi.2.2.2.1.size _, by have := hi.2.2.2.2; simp; omega⟩ ⟨W.heap.size, heap_alloc_new _ _, hi.2.2.2.2, rfl⟩
  case body =>
    rintro l pre x a' W hl ⟨r, hr⟩ ⟨h1, h2, hp, hB, hs⟩ ⟨Bx, hbx, hle, rfl⟩ hlt
    obtain ⟨⟨b, nd, cs⟩, hx⟩ := x
    obtain ⟨C4, e4, C5, e5, rfl, m4, G4, m5, G5⟩ := kN_open (show kN.K w nd cs from hx.1)
    have hokx : okN nd := hx.2
    have y0 := cell_in hbx 0
    have y1 := cell_in hbx 1
    have y2 := cell_in hbx 2
    have y3 := cell_in hbx 3
    have y4 := cell_in hbx 4
    have y5 := cell_in hbx 5
    have n0 := cell_in h2 0
    have r0 := cell_in h1 0
    simp only [List.getElem?_toArray, List.getElem?_cons_zero, List.getElem?_cons_succ] at y0 y1 y2 y3 y4 y5 n0 r0
    have fn := heap_thawed h2 0
    have fr := heap_thawed h1 0
    have hlen := passed_le _ hp
    rw [List.length_map] at hlen
    have HP := Aside0.mk hp
    have H1 := Aside0.mk h1
    have H2 := Aside0.mk h2
    have HX := Aside0.mk hbx
    clear hp h1 h2 hbx hr hK
    obtain ⟨W2, hW2⟩ : ∃ W2, W.setCell ⟨w.heap.size + 1 + 1, 0, none⟩ (.int .i64 ((pre.length : Int) + 1)) = W2 := ⟨_, rfl⟩
    have g1 : W2.heap[w.heap.size + 1]? = some (Obj.cells #[.int .i64 0] 27 (0, 0)) := by rw [← hW2]; exact (Below.heap_setCell _ _ _ _ (by simp)).trans H1.out
    have g2 : W2.heap[w.heap.size + 2]? = some (Obj.cells #[.int .i64 ((pre.length : Int) + 1)] 3 (0, 0)) := by rw [← hW2]; exact heap_put H2.out 0 _
    have g3 : W2.heap[Bx]? = some (Obj.cells #[.int .i64 nd.f0, .int .i64 nd.f1, .int .u64 nd.f2, .string nd.f3, .slice C4 nd.f4.length e4, .slice C5 nd.f5.length e5] 26 (0, 0)) := by rw [← hW2]; exact (Below.heap_setCell _ _ _ _ (by simp; omega)).trans HX.out
    have gB : Below w.heap.size w W2 := by rw [← hW2]; exact hB.setCell (p := ⟨w.heap.size + 1 + 1, 0, none⟩) (by simp; omega) _
    have gK : KeepsFrom W4.heap.size W W2 := by rw [← hW2]; exact (KeepsOthers.setCell _ _ _).from _
    have gN : KpN w.heap.size W W2 := by
      rw [← hW2]
      refine ⟨(Below.refl _ W).setCell (p := ⟨w.heap.size + 1 + 1, 0, none⟩) (by simp; omega) _, by simp [World.setCell], fun i c fr hi => ?_⟩
      refine (Below.heap_setCell _ _ _ _ ?_).trans hi
      rintro rfl
      rw [show w.heap.size + 1 + 1 = w.heap.size + 2 from rfl, H2.out] at hi
      cases hi
    have sW2 : W2.heap.size = W.heap.size := by rw [← hW2]; simp [World.setCell]
    have HW2 := Lib.hid hW2
    clear hW2
    by_cases k1 : (pre.length : Int) + 1 > 4096
    · have e : stepE pre.length (er ⟨(b, nd, [.int .i64 nd.f0, .int .i64 nd.f1, .int .u64 nd.f2, .string nd.f3, .slice C4 nd.f4.length e4, .slice C5 nd.f5.length e5]), hx⟩) = 5 := by
        show stepE pre.length (b, nd) = 5
        unfold stepE; rw [if_pos (by omega)]
      have HE := Lib.hid e
      clear e g1 g2 g3 gB gK gN sW2
      gi_wp2
      refine ⟨((KeepsOthers.setCell _ _ _).trans (KeepsOthers.setCell _ _ _)).from _, rfl, pre, _, rfl, HP.out, by rw [HE.out]; decide, ?_, (hB.setCell (p := ⟨w.heap.size + 1 + 1, 0, none⟩) (by simp; omega) _).setCell (p := ⟨w.heap.size + 1, 0, none⟩) (by simp) _⟩
      rw [HE.out]
      exact heap_put ((Below.heap_setCell _ _ _ _ (by simp)).trans H1.out) 0 _
    · by_cases k2 : b ≥ 64
      · have e : stepE pre.length (er ⟨(b, nd, [.int .i64 nd.f0, .int .i64 nd.f1, .int .u64 nd.f2, .string nd.f3, .slice C4 nd.f4.length e4, .slice C5 nd.f5.length e5]), hx⟩) = 61 := by
          show stepE pre.length (b, nd) = 61
          unfold stepE; rw [if_neg (by omega), if_pos (show b ≥ 64 from k2)]
        have HE := Lib.hid e
        clear e g1 g2 g3 gB gK gN sW2
        gi_wp2
        refine ⟨((KeepsOthers.setCell _ _ _).trans (KeepsOthers.setCell _ _ _)).from _, rfl, pre, _, rfl, HP.out, by rw [HE.out]; decide, ?_, (hB.setCell (p := ⟨w.heap.size + 1 + 1, 0, none⟩) (by simp; omega) _).setCell (p := ⟨w.heap.size + 1, 0, none⟩) (by simp) _⟩
        rw [HE.out]
        exact heap_put ((Below.heap_setCell _ _ _ _ (by simp)).trans H1.out) 0 _
      · have hs5 := hB.size
        gi_wp2_with fail
        rw [HW2.out]
        obtain ⟨hk1, hk2, hk3, hk4, hk5⟩ := (okN_eq nd).1 hokx
        refine (CallsIn.inRound l (callsIn_wide.2 (such_n nd C4 C5 e4 e5 W2 m4 m5 (Kd.C_below G5 gB) (by omega) (by omega)))).mono ?_
        rintro e w5 ⟨rfl, hb5⟩
        have q1 := (hb5.block _ (heap_lt' g1)).trans g1
        have q2 := (hb5.block _ (heap_lt' g2)).trans g2
        have q3 := (hb5.block _ (heap_lt' g3)).trans g3
        have qB : Below w.heap.size w w5 := below_on gB hb5 gB.size
        have qK : KeepsFrom W4.heap.size W w5 := gK.trans (KeepsFrom.of_below hb5)
        have qN : KpN w.heap.size W w5 := gN.trans ⟨hb5.mono gB.size, KeepNd.of_below hb5⟩
        have sz5 := hb5.size
        have z0 := cell_in q3 0
        have z1 := cell_in q3 1
        have z2 := cell_in q3 2
        have z3 := cell_in q3 3
        have z4 := cell_in q3 4
        have z5 := cell_in q3 5
        have r5 := cell_in q1 0
        simp only [List.getElem?_toArray, List.getElem?_cons_zero, List.getElem?_cons_succ] at z0 z1 z2 z3 z4 z5 r5
        have f5 := heap_thawed q1 0
        have Q1 := Aside0.mk q1
        have Q2 := Aside0.mk q2
        clear g1 g2 g3 gB gK gN q1 q2 q3 y0 y1 y2 y3 y4 y5 n0 r0 fn fr hb5
        cases hsu : suchB nd
        · have e : stepE pre.length (er ⟨(b, nd, [.int .i64 nd.f0, .int .i64 nd.f1, .int .u64 nd.f2, .string nd.f3, .slice C4 nd.f4.length e4, .slice C5 nd.f5.length e5]), hx⟩) = 60 := by
            show stepE pre.length (b, nd) = 60
            unfold stepE; rw [if_neg (by omega), if_neg (show ¬ b ≥ 64 by omega), if_neg (show ¬ suchB nd = true by rw [hsu]; decide)]
          have HE := Lib.hid e
          clear e hsu
          gi_wp2
          refine ⟨qK.trans ((KeepsOthers.setCell _ _ _).from _), rfl, pre, _, rfl, HP.out, by rw [HE.out]; decide, ?_, qB.setCell (p := ⟨w.heap.size + 1, 0, none⟩) (by simp) _⟩
          rw [HE.out]
          exact heap_put Q1.out 0 _
        · have HSU := Lib.hid hsu
          clear hsu
          gi_wp2_with fail
          refine (CallsIn.inRound l (callsIn_wide.2 (keyed_n nd C4 C5 e4 e5 w5 m4 (Kd.C_below G4 qB) hk2 (fun y hy => by have := hk3 y hy; unfold maxLen; omega)))).mono ?_
          rintro e w6 ⟨rfl, hb6⟩
          have t1 := (hb6.block _ (heap_lt' Q1.out)).trans Q1.out
          have t2 := (hb6.block _ (heap_lt' Q2.out)).trans Q2.out
          have tB : Below w.heap.size w w6 := below_on qB hb6 qB.size
          have tK : KeepsFrom W4.heap.size W w6 := qK.trans (KeepsFrom.of_below hb6)
          have tN : KpN w.heap.size W w6 := qN.trans ⟨hb6.mono qB.size, KeepNd.of_below hb6⟩
          have sz6 := hb6.size
          have r6 := cell_in t1 0
          simp only [List.getElem?_toArray, List.getElem?_cons_zero, List.getElem?_cons_succ] at r6
          have f6 := heap_thawed t1 0
          have T1 := Aside0.mk t1
          have T2 := Aside0.mk t2
          clear t1 t2 qB qK qN r5 f5 z0 z1 z2 z3 z4 z5 hb6
          cases hke : (keyedE nd != 0)
          · have hk0 : keyedE nd = 0 := by simpa using hke
            have e : stepE pre.length (b, nd) = 0 := by
              unfold stepE; rw [if_neg (by omega), if_neg (show ¬ b ≥ 64 by omega), if_pos (show suchB nd = true from HSU.out)]; exact hk0
            have HE := Lib.hid e
            clear e hk0
            gi_wp2
            refine ⟨tK, tN, T1.out, ?_, ?_, tB, by omega⟩
            · rw [List.length_append]; exact T2.out
            · rw [List.map_append]; exact (passed_snoc _ _ 0).2 ⟨HP.out, by rw [Nat.zero_add, List.length_map]; exact HE.out⟩
          · have hk0 : keyedE nd ≠ 0 := by simpa using hke
            have e : stepE pre.length (b, nd) = keyedE nd := by
              unfold stepE; rw [if_neg (by omega), if_neg (show ¬ b ≥ 64 by omega), if_pos (show suchB nd = true from HSU.out)]
            have HE := Lib.hid e
            have HK0 := Lib.hid hk0
            clear e hk0
            gi_wp2
            refine ⟨tK.trans ((KeepsOthers.setCell _ _ _).from _), rfl, pre, _, rfl, HP.out, by rw [show stepE pre.length (er ⟨(b, nd, [.int .i64 nd.f0, .int .i64 nd.f1, .int .u64 nd.f2, .string nd.f3, .slice C4 nd.f4.length e4, .slice C5 nd.f5.length e5]), hx⟩) = keyedE nd from HE.out]; exact HK0.out, ?_, tB.setCell (p := ⟨w.heap.size + 1, 0, none⟩) (by simp) _⟩
            rw [show stepE pre.length (er ⟨(b, nd, [.int .i64 nd.f0, .int .i64 nd.f1, .int .u64 nd.f2, .string nd.f3, .slice C4 nd.f4.length e4, .slice C5 nd.f5.length e5]), hx⟩) = keyedE nd from HE.out]
            exact heap_put T1.out 0 _
  case done =>
    rintro D ys W hD hS ⟨h1, h2, hp, hB, hs⟩ hK1
    have r0 := cell_in h1 0
    simp only [List.getElem?_toArray, List.getElem?_cons_zero, List.getElem?_cons_succ] at r0
    have fr := heap_thawed h1 0
    have H1 := Aside0.mk h1
    have HS := Aside0.mk hS
    have HK1 := Aside0.mk hK1
    have HP := Aside0.mk hp
    clear h1 h2 hS hK1 hp
    gi_wp2
    have hD' : (W.setCell ⟨w.heap.size + 1, 0, none⟩ (.int .i64 0)).heap[D]? = some (.deferred (some [])) := (Below.heap_setCell _ _ _ _ (by simp; omega)).trans HK1.out
    refine ⟨by simp, .inl ⟨_, _, rfl, run_takeDeferred hD', ?_⟩⟩
    have hc : ((W.setCell ⟨w.heap.size + 1, 0, none⟩ (.int .i64 0)).putObj D (.deferred none)).cell? ⟨w.heap.size + 1, 0, none⟩ = some (.int .i64 0) := by
      have h := heap_put H1.out 0 (.int .i64 0)
      have h2 := cells_kept h (grownBy_putObj' _ D (.deferred none)) (fun r e => by cases e; exact ⟨_, hD', rfl⟩)
      exact (cell_in h2 0).trans rfl
    have hB' : Below w.heap.size w ((W.setCell ⟨w.heap.size + 1, 0, none⟩ (.int .i64 0)).putObj D (.deferred none)) :=
      (hB.setCell (p := ⟨w.heap.size + 1, 0, none⟩) (by simp) _).trans (belowK_b (w := W4) hB4.size _ D _ _ hD hD' rfl rfl)
    refine ⟨.int .i64 0, by simp [results, Tryd.results7, go_sem, hc], ?_, hB'⟩
    have hall : checkE t = 0 := by unfold checkE; rw [← HS.out]; exact checkL_all _ HP.out
    rw [hall]
  case stop =>
    rintro D c pre W hD hS ⟨rfl, p, x, rfl, hp, hne, h1, hB⟩ hK1
    have H1 := Aside0.mk h1
    have HS := Aside0.mk hS
    have HK1 := Aside0.mk hK1
    have HP := Aside0.mk hp
    have HN := Aside0.mk hne
    clear h1 hS hK1 hp hne
    gi_wp2
    refine ⟨by simp, .inl ⟨_, _, rfl, run_takeDeferred HK1.out, ?_⟩⟩
    have hc : (W.putObj D (.deferred none)).cell? ⟨w.heap.size + 1, 0, none⟩ = some (.int .i64 (stepE p.length (er x))) := by
      have h2 := cells_kept H1.out (grownBy_putObj' _ D (.deferred none)) (fun r e => by cases e; exact ⟨_, HK1.out, rfl⟩)
      exact (cell_in h2 0).trans rfl
    refine ⟨.int .i64 (stepE p.length (er x)), by simp [results, Tryd.results7, go_sem, hc], ?_, hB.trans (belowK_b (w := W4) hB4.size _ D _ _ hD HK1.out rfl rfl)⟩
    have hall : checkE t = stepE p.length (er x) := by
      obtain ⟨q, hq⟩ := HS.out
      unfold checkE
      rw [← hq, List.map_append, List.map_cons, List.map_nil, List.append_assoc, List.singleton_append]
      have := checkL_stop (p.map er) q (er x) HP.out (by rw [List.length_map]; exact HN.out)
      rw [this, List.length_map]
    rw [hall]

/-- tree.Check. -/
theorem check_c (t : Nd) (cs : List Value) (w : World) (hK : kN.K w t cs) (hok : okN t) (hd : dpN t ≤ 140737488355328) :
    Calls Tryd.prog 7 #[.agg cs.toArray] w fun e w' => e = .returned (.int .i64 (checkE t)) ∧ Below w.heap.size w w' := by
  obtain ⟨A4, c4, A5, c5, rfl, -, -, -, -⟩ := kN_open hK
  exact callsIn_wide.1 (check_in t A4 A5 c4 c5 w hK hok hd)
end Go.Proofs.YtloemnickbkonaaDoor
