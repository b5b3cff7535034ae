/- print.writer.all, given put for the children. -/
import Derived.Test.YtloemnickbkonaaDoorEntM
import Derived.Test.YtloemnickbkonaaDoorCheck
import Derived.Sort.CutIn
namespace Go.Proofs.YtloemnickbkonaaDoor
open Go.RowKit Go.Proofs.YtloemnickbkonaaDoorW.PrintWords Go.Proofs.YtloemnickbkonaaDoorW.PrintLast Go.Proofs.YtloemnickbkonaaDoorW.PrintMore
set_option linter.unusedVariables false
set_option linter.unusedSimpArgs false
attribute [local go_sem] Oper.semAt_some

/-- What is asked of a tree that is to be written: M bounds the text of each member. -/
def okT (M : Nat) : Nat → Nd → Prop
  | 0, _ => False
  | d + 1, t => okV t ∧ (ents t).length ≤ 4096 ∧ (outD (d + 1) t).1.length ≤ M ∧ ∀ p ∈ ents t, p.1.size ≤ 1099511627776 ∧ (outM (outD d) (t.f0 == 17) true p).1.length ≤ M ∧ okT M d p.2
/-- What is asked of a member. -/
def PM (M d : Nat) (m : Bool) (p : ByteArray × Nd) : Prop := p.1.size ≤ 1099511627776 ∧ (outM (outD d) m true p).1.length ≤ M ∧ okT M d p.2
def slack (M d : Nat) : Nat := (d + 1) * (4098 * (M + 1))
theorem slack_succ (M d : Nat) : slack M (d + 1) = slack M d + 4098 * (M + 1) := by unfold slack; rw [Nat.add_mul (d + 1) 1, Nat.one_mul]
/-- The contract of put, for trees of a depth. -/
def PutOK (w0 : World) (b M d : Nat) : Prop := ∀ (t : Nd) (cs : List Value) (w : World) (o : Out), kN.K w0 t cs → okT M d t → Below w0.heap.size w0 w → Wr w0.heap.size b o w → o.1.length + slack M d ≤ 140737488355328 →
  Calls Tryd.prog 8 #[.pointer (some ⟨b, 0, none⟩), .agg cs.toArray] w fun r w' => r = .returned (.tuple #[]) ∧ Wr w0.heap.size b (cat o (outD d t)) w' ∧ Below w0.heap.size w w' ∧ KeepW b w w'
/-- What lies between the members. -/
noncomputable def outT (d : Nat) (t : Nd) (sm : Bool) (l : List (ByteArray × Nd)) : Out := outA (outD d) (t.f0 == 17) sm l

theorem outM_len (f : Nd → Out) (m sm : Bool) (p : ByteArray × Nd) : (outM f m sm p).1.length ≤ (outM f m true p).1.length := by
  unfold outM
  rw [cat_len, cat_len (if true = true then _ else _, 0)]
  cases sm <;> simp
theorem outA_snoc (f : Nd → Out) (m : Bool) (p : ByteArray × Nd) : ∀ (l : List (ByteArray × Nd)) (sm : Bool), outA f m sm (l ++ [p]) = cat (outA f m sm l) (outM f m (sm || !l.isEmpty) p)
  | [], sm => by simp [outA, cat_nil, nil_cat]
  | q :: l, sm => by
    rw [List.cons_append, outA, outA_snoc f m p l true, outA, cat_assoc]
    simp
/-- The state within a round. -/
def StA (w0 w w2 : World) (b Bx : Nat) (nd xc : Array Value) (W : World) (o : Out) (fl : Bool) (Wx : World) : Prop :=
  Wr w0.heap.size b o Wx ∧ Wx.heap[w.heap.size]? = some (.cells #[.pointer (some ⟨b, 0, none⟩)] 55 (0, 0)) ∧ Wx.heap[w.heap.size + 1]? = some (.cells nd 26 (0, 0)) ∧ Wx.heap[w2.heap.size]? = some (.cells #[.bool fl] 4 (0, 0)) ∧
  Wx.heap[Bx]? = some (.cells xc 26 (0, 0)) ∧ Below w0.heap.size w Wx ∧ KeepW b w Wx ∧ Below w0.heap.size W Wx ∧ KeepNI W Wx ∧ KeepsFrom (w2.heap.size + 2) W Wx
theorem keepNI_of {base b : Nat} {o : Out} {W W' : World} (h : Wr base b o W) (k : KeepW b W W') (hs : W.heap.size ≤ W'.heap.size) : KeepNI W W' := ⟨hs, fun i c T fr hT hi => by
  obtain ⟨cs, -, hB, -⟩ := h
  refine k i _ hi (fun e => ?_) (fun c' fr' e => ?_)
  · subst e; rw [hB.2.1] at hi; injection hi with hi; injection hi with _ hi _; rcases hT with rfl | rfl <;> cases hi
  · injection e with _ e _; rcases hT with rfl | rfl <;> cases e⟩
theorem keepsFrom_of {B b : Nat} {W W' : World} (hb : b < B) (k : KeepW b W W') (hs : W.heap.size ≤ W'.heap.size) : KeepsFrom B W W' := ⟨hs, fun i o hi ho hc => k i o ho (by omega) (fun c fr e => by subst e; cases hc)⟩
theorem StA.step {w0 w w2 : World} {b Bx : Nat} {nd xc : Array Value} {W Wx Wy : World} {o o' : Out} {fl : Bool} (h : StA w0 w w2 b Bx nd xc W o fl Wx) (hbw : b < w.heap.size) (hww : w.heap.size ≤ w2.heap.size) (hbx : b ≠ Bx)
    (hW : Wr w0.heap.size b o' Wy) (hB : Below w0.heap.size Wx Wy) (hk : KeepW b Wx Wy) : StA w0 w w2 b Bx nd xc W o' fl Wy := by
  obtain ⟨h0, h1, h2, h3, h4, h5, h6, h7, h8, h9⟩ := h
  exact ⟨hW, hk _ _ h1 (by omega) (fun _ _ e => by cases e), hk _ _ h2 (by omega) (fun _ _ e => by cases e), hk _ _ h3 (by omega) (fun _ _ e => by cases e), hk _ _ h4 (Ne.symm hbx) (fun _ _ e => by cases e), h5.trans hB, h6.trans hk, h7.trans hB,
    h8.trans (keepNI_of h0 hk hB.size), h9.trans (keepsFrom_of (by omega) hk hB.size)⟩

theorem StA.set {w0 w w2 : World} {b Bx : Nat} {nd xc : Array Value} {W Wx : World} {o : Out} {fl : Bool} (h : StA w0 w w2 b Bx nd xc W o fl Wx) (h0w : w0.heap.size ≤ w.heap.size) (hbw : b < w.heap.size) (hww : w.heap.size + 2 ≤ w2.heap.size) (hbx : w2.heap.size + 2 ≤ Bx) :
    StA w0 w w2 b Bx nd xc W o true (Wx.setCell ⟨w2.heap.size, 0, none⟩ (.bool true)) := by
  obtain ⟨h0, h1, h2, h3, h4, h5, h6, h7, h8, h9⟩ := h
  refine ⟨?_, (Below.heap_setCell _ _ _ _ (by simp; omega)).trans h1, (Below.heap_setCell _ _ _ _ (by simp; omega)).trans h2, heap_put h3 0 _, (Below.heap_setCell _ _ _ _ (by simp; omega)).trans h4, h5.setCell (by simp; omega) _, ?_, h7.setCell (by simp; omega) _, ?_, h9.trans ((KeepsOthers.setCell _ _ _).from _)⟩
  · obtain ⟨cs, hcs, ⟨hB, hb, p, v, q0, q1, hp, hown, hne⟩, q2⟩ := h0
    refine ⟨cs, hcs, ⟨hB, (Below.heap_setCell _ _ _ _ (by simp; omega)).trans hb, p, v, q0, q1, hp, own_put hown (fun e => ?_), hne⟩, q2⟩
    rcases hown.2 with ⟨rfl, _⟩ | ⟨g, cap, cur, fz, rfl, _, hg, _⟩
    · simp [Value.ownBlock] at e
    · simp [Value.ownBlock] at e
      subst e
      rw [h3] at hg
      cases hg
  · intro k o' hk hkb hn
    have hlt := heap_lt' hk
    exact (Below.heap_setCell _ _ _ _ (by simp; omega)).trans (h6 k o' hk hkb hn)
  · refine h8.trans ⟨by simp [World.setCell], fun i c T fr hT hi => (Below.heap_setCell _ _ _ _ (fun e => ?_)).trans hi⟩
    simp at e
    subst e
    rw [h3] at hi
    injection hi with hi; injection hi with _ hi _
    rcases hT with rfl | rfl <;> cases hi
/-- Between two rounds. -/
def AllI (w0 w w2 : World) (b M d : Nat) (t : Nd) (nd : Array Value) (o1 : Out) (pre : List (En w0 (PM M d (t.f0 == 17)))) (W : World) : Prop :=
  Wr w0.heap.size b (cat o1 (outT d t false (pre.map enr))) W ∧ W.heap[w.heap.size]? = some (.cells #[.pointer (some ⟨b, 0, none⟩)] 55 (0, 0)) ∧ W.heap[w.heap.size + 1]? = some (.cells nd 26 (0, 0)) ∧
  W.heap[w2.heap.size]? = some (.cells #[.bool (!pre.isEmpty)] 4 (0, 0)) ∧ Below w0.heap.size w W ∧ KeepW b w W ∧ w2.heap.size + 2 ≤ W.heap.size ∧ (outT d t false (pre.map enr)).1.length ≤ pre.length * M
theorem keepW_own {b : Nat} {w W W' : World} {row : Option Nat} (h : KeepW b w W) (hg : W.grownBy W' row) (hr : ∀ r, row = some r → w.heap.size ≤ r) : KeepW b w W' := fun k o hk hb hn => by
  have h1 := h k o hk hb hn
  refine (hg.block k (heap_lt' h1) (fun e => ?_)).trans h1
  have := hr k e.symm
  have := heap_lt' hk
  omega
theorem allI_own (w0 w w2 : World) (b M d : Nat) (t : Nd) (nd : Array Value) (o1 : Out) (B : Nat) (hB : w.heap.size ≤ B) (h0 : w0.heap.size ≤ w.heap.size) : OwnFrom B (AllI w0 w w2 b M d t nd o1) := fun s W W' row h hg hr => by
  obtain ⟨h1, h2, h3, h4, h5, h6, h7, h8⟩ := h
  exact ⟨h1.cells fun i c T fr hi => cells_kept hi hg (fun r e => (hr r e).2), cells_kept h2 hg (fun r e => (hr r e).2), cells_kept h3 hg (fun r e => (hr r e).2), cells_kept h4 hg (fun r e => (hr r e).2),
    ownFrom_below (β := Unit) h0 (by omega) () W W' row h5 hg hr, keepW_own h6 hg (fun r e => Nat.le_trans hB (hr r e).1), Nat.le_trans h7 hg.size, h8⟩

set_option maxRecDepth 100000 in
set_option maxHeartbeats 400000 in
theorem all_in (w0 : World) (b M d : Nat) (hP : PutOK w0 b M d) (hL : Laid w0) (t : Nd) (A4 A5 : Option Addr) (c4 c5 : Nat) (w : World) (o : Out) (first last : ByteArray)
    (hK : kN.K w0 t [.int .i64 t.f0, .int .i64 t.f1, .int .u64 t.f2, .string t.f3, .slice A4 t.f4.length c4, .slice A5 t.f5.length c5]) (hok : okT M (d + 1) t) (hf : first.size ≤ 1) (hla : last.size ≤ 1) (hB : Below w0.heap.size w0 w) (hW : Wr w0.heap.size b o w)
    (hlen : o.1.length + slack M (d + 1) ≤ 140737488355328) :
    CallsIn Fence.wide 100 Tryd.prog 26 #[.pointer (some ⟨b, 0, none⟩), .agg #[.int .i64 t.f0, .int .i64 t.f1, .int .u64 t.f2, .string t.f3, .slice A4 t.f4.length c4, .slice A5 t.f5.length c5], .string first, .string last] w fun r w' =>
      r = .returned (.tuple #[]) ∧ Wr w0.heap.size b (cat o (cat (first.data.toList, 0) (cat (outT d t false (ents t)) (last.data.toList, 0)))) w' ∧ Below w0.heap.size w w' ∧ KeepW b w w' := by
  refine callsIn_of_wp_marks Tryd.func26 rfl trivial ?_ rfl
  simp only [Tryd.ntmps26, List.size_toArray, List.length_cons, List.length_nil, Nat.reduceAdd, Nat.reduceSub, Array.replicate_succ, Array.replicate_zero, List.push_toArray, List.append_toArray, List.nil_append, List.cons_append]
  have hdd : ∀ k : Nat, (Fence.wide.depth.isSome = true → 1 ≤ k) := fun k h => by cases h
  have hfn : ∀ k, Fence.wide.fn k := fun _ => trivial
  have hz0 : w0.heap.size ≤ w.heap.size := hB.size
  rw [slack_succ] at hlen
  have hWa := hW.below (((Below.refl w.heap.size w).alloc (Nat.le_refl _) (.cells #[.pointer (some ⟨b, 0, none⟩)] 55)).alloc (by simp) (.cells #[.int .i64 t.f0, .int .i64 t.f1, .int .u64 t.f2, .string t.f3, .slice A4 t.f4.length c4, .slice A5 t.f5.length c5] 26))
  have HWa := Aside0.mk hWa
  clear hWa
  have hbl : b < w.heap.size := heap_lt' hW.choose_spec.2.1.2.1
  gi_wp2_with fail
  refine (callsIn_wide.2 (wrStr_c first HWa.out (by omega) (by simp; omega))).mono ?_
  rintro r w2 ⟨rfl, hW2, hB2, hk2⟩
  have g1 : w2.heap[w.heap.size]? = some (.cells #[.pointer (some ⟨b, 0, none⟩)] 55 (0, 0)) := hk2 _ _ ((Below.heap_alloc _ _ _ (by simp)).trans (heap_alloc_new _ _)) (by omega) (fun _ _ e => by cases e)
  have g2 : w2.heap[w.heap.size + 1]? = some (.cells #[.int .i64 t.f0, .int .i64 t.f1, .int .u64 t.f2, .string t.f3, .slice A4 t.f4.length c4, .slice A5 t.f5.length c5] 26 (0, 0)) := by
    refine hk2 _ _ ?_ (by omega) (fun _ _ e => by cases e)
    have := heap_alloc_new (w.alloc (.cells #[.pointer (some ⟨b, 0, none⟩)] 55)) (.cells #[.int .i64 t.f0, .int .i64 t.f1, .int .u64 t.f2, .string t.f3, .slice A4 t.f4.length c4, .slice A5 t.f5.length c5] 26)
    simpa using this
  have hBw2 : Below w0.heap.size w w2 := ((((Below.refl _ w).alloc hz0 _).alloc (by simp; omega) _)).trans hB2
  have hKw2 : KeepW b w w2 := (((KeepW.refl b w).alloc _).alloc _).trans hk2
  have g2' : (w2.alloc (.cells #[.bool false] 4)).heap[w.heap.size + 1]? = some (.cells #[.int .i64 t.f0, .int .i64 t.f1, .int .u64 t.f2, .string t.f3, .slice A4 t.f4.length c4, .slice A5 t.f5.length c5] 26 (0, 0)) := (Below.heap_alloc _ _ _ (heap_lt' g2)).trans g2
  have y0 := cell_in g2' 0
  have y1 := cell_in g2' 1
  have y2 := cell_in g2' 2
  have y3 := cell_in g2' 3
  have y4 := cell_in g2' 4
  have y5 := cell_in g2' 5
  simp only [List.getElem?_toArray, List.getElem?_cons_zero, List.getElem?_cons_succ] at y0 y1 y2 y3 y4 y5
  have HW2 := Aside0.mk hW2
  have HK2 := Aside0.mk hk2
  have HBW2 := Aside0.mk hBw2
  have HKW2 := Aside0.mk hKw2
  have G1 := Aside0.mk g1
  have G2 := Aside0.mk g2
  have hz2 := hBw2.size
  clear hW2 hk2 hBw2 hKw2 hB2 g1 g2 g2' HWa
  gi_wp2_with ((try refine ⟨hdd _, ?_⟩); gi_at_call 44; refine (callsIn_wide.2 (entries_c t A4 A5 c4 c5 _)).mono ?_; rintro e w' ⟨rfl, rfl⟩)
  obtain ⟨W4, hW4⟩ : ∃ W4, (w2.alloc (.cells #[.bool false] 4)).alloc (.cells #[.int .i64 t.f0, .int .i64 t.f1, .int .u64 t.f2, .string t.f3, .slice A4 t.f4.length c4, .slice A5 t.f5.length c5] 26) = W4 := ⟨_, rfl⟩
  have s4 : W4.heap.size = w2.heap.size + 2 := by rw [← hW4]; simp
  have b0 : W4.heap[w2.heap.size]? = some (.cells #[.bool false] 4 (0, 0)) := by rw [← hW4]; exact (Below.heap_alloc _ _ _ (by simp)).trans (heap_alloc_new _ _)
  have b1 : W4.heap[w2.heap.size + 1]? = some (.cells #[.int .i64 t.f0, .int .i64 t.f1, .int .u64 t.f2, .string t.f3, .slice A4 t.f4.length c4, .slice A5 t.f5.length c5] 26 (0, 0)) := by
    rw [← hW4]
    have := heap_alloc_new (w2.alloc (.cells #[.bool false] 4)) (.cells #[.int .i64 t.f0, .int .i64 t.f1, .int .u64 t.f2, .string t.f3, .slice A4 t.f4.length c4, .slice A5 t.f5.length c5] 26)
    simpa using this
  have hb24 : Below w2.heap.size w2 W4 := by rw [← hW4]; exact ((Below.refl _ _).alloc (Nat.le_refl _) _).alloc (by simp) _
  rw [hW4]
  clear hW4
  have hbw4 : Below w0.heap.size w W4 := HBW2.out.trans (hb24.mono (Nat.le_trans hz0 hz2))
  refine wpIn_rangeFunc_ownH rfl (by decide) (gf := 55) (lb := #[.pointer (some ⟨w2.heap.size + 1, 0, none⟩)]) rfl trivial (enters_of Tryd.func55 (by kernel_rfl) rfl)
    (ents_stops w0 W4 (PM M d (t.f0 == 17)) 99 (w2.heap.size + 1) t _ hK (hB.trans hbw4) hok.1 hok.2.2.2 b1) KpE.trans (KpE.putObj (Nat.le_trans hz0 (by omega))) (Below.refl _ _) (fun _ => rfl)
    (AllI w0 w w2 b M d t #[.int .i64 t.f0, .int .i64 t.f1, .int .u64 t.f2, .string t.f3, .slice A4 t.f4.length c4, .slice A5 t.f5.length c5] (cat o (first.data.toList, 0))) (fun _ _ _ => False)
    ?hI ?hIx ⟨?h1, (hb24.block _ (heap_lt' G1.out)).trans G1.out, (hb24.block _ (heap_lt' G2.out)).trans G2.out, b0, hbw4, HKW2.out.below hb24, by omega, by simp [outT, outA]⟩
    (fun x a' W => ∃ Bx, W.heap[Bx]? = some (Obj.cells x.1.2.2.toArray 26 (0, 0)) ∧ w2.heap.size + 2 ≤ Bx ∧ a' = { tmps := #[.pointer (some ⟨b, 0, none⟩), .agg #[.int .i64 t.f0, .int .i64 t.f1, .int .u64 t.f2, .string t.f3, .slice A4 t.f4.length c4, .slice A5 t.f5.length c5], .string first, .string last, .pointer (some ⟨w.heap.size, 0, none⟩), .pointer (some ⟨w.heap.size + 1, 0, none⟩), undef, undef, .pointer (some ⟨w2.heap.size, 0, none⟩), .string x.1.1, .pointer (some ⟨Bx, 0, none⟩), .pointer (some ⟨b, 0, none⟩), .pointer (some ⟨b, 0, none⟩), .pointer (some ⟨b, 0, none⟩), .string first, .tuple #[.int .i64 first.size, .nilIface], .agg #[.int .i64 t.f0, .int .i64 t.f1, .int .u64 t.f2, .string t.f3, .slice A4 t.f4.length c4, .slice A5 t.f5.length c5], .func (.func 55) #[] #[.pointer (some ⟨w2.heap.size + 1, 0, none⟩)], .string x.1.1, .agg x.1.2.2.toArray, undef, undef, undef, undef, undef, undef, undef, undef, undef, undef, undef, undef, undef, undef, undef, undef, undef, undef, undef, undef, undef, undef, undef], defers := [] })
    ?hAx ?assign ?body ?done ?stop
  case h1 =>
    have := HW2.out.below hb24
    simpa [outT, outA, cat_nil] using this
  case hI => exact allI_own _ _ _ _ _ _ _ _ _ _ (by omega) hz0
  case hIx => exact fun c s W W' row h hg hr => h
  case hAx =>
    rintro x a' s W W' row ⟨Bx, hb, hle, ha⟩ hg hr
    exact ⟨Bx, cells_kept hb hg (fun r e => (hr r e).2), hle, ha⟩
  case assign =>
    rintro l pre x W K hi hK
    obtain ⟨⟨k, nd, cs⟩, hx⟩ := x
    obtain ⟨C4, e4, C5, e5, rfl, -, -, -, -⟩ := kN_open (show kN.K w0 nd cs from hx.1)
    simp only [env, List.zip_toArray, List.zip_cons_cons, List.zip_nil_right, List.size_toArray, List.length_cons, List.length_nil, List.foldl_toArray', List.foldl_cons, List.foldl_nil, List.setIfInBounds_toArray, List.set_cons_zero, List.set_cons_succ]
    gi_wp2
    obtain ⟨i1, i2, i3, i4, i5, i6, i7, i8⟩ := hi
    have ha := fun o => (Below.refl W.heap.size W).alloc (Nat.le_refl _) o
    exact hK _ _ (KeepsFrom.of_below (ha _)) ((KpE.refl _ W).below (by omega) (ha _))
      ⟨i1.below (ha _), ((ha _).block _ (heap_lt' i2)).trans i2, ((ha _).block _ (heap_lt' i3)).trans i3, ((ha _).block _ (heap_lt' i4)).trans i4, i5.alloc (by omega) _, i6.alloc _, by simp; omega, i8⟩ ⟨W.heap.size, heap_alloc_new _ _, i7, rfl⟩
  case body =>
    rintro l pre x a' W hl ⟨r, hr⟩ ⟨i1, i2, i3, i4, i5, i6, i7, i8⟩ ⟨Bx, hbx, hle, rfl⟩ hlt
    obtain ⟨⟨k, nd, cs⟩, hx⟩ := x
    obtain ⟨C4, e4, C5, e5, rfl, m4, GG4, m5, GG5⟩ := kN_open (show kN.K w0 nd cs from hx.1)
    have hbx2 : w2.heap.size + 2 ≤ Bx := by omega
    have hws2 : w.heap.size + 2 ≤ w2.heap.size := by have := heap_lt' G2.out; have := HK2.out; omega
    have hst : StA w0 w w2 b Bx #[.int .i64 t.f0, .int .i64 t.f1, .int .u64 t.f2, .string t.f3, .slice A4 t.f4.length c4, .slice A5 t.f5.length c5] #[.int .i64 nd.f0, .int .i64 nd.f1, .int .u64 nd.f2, .string nd.f3, .slice C4 nd.f4.length e4, .slice C5 nd.f5.length e5] W (cat (cat o (first.data.toList, 0)) (outT d t false (pre.map enr))) (!pre.isEmpty) W :=
      ⟨i1, i2, i3, i4, hbx, i5, i6, Below.refl _ _, KeepNI.refl _, KeepsFrom.refl _ _⟩
    have hpre : pre.length < 4096 := Nat.lt_of_lt_of_le hlt hok.2.1
    have hoc : (cat (cat o (first.data.toList, 0)) (outT d t false (pre.map enr))).1.length ≤ o.1.length + 1 + 4095 * M := by
      rw [cat_len, cat_len]
      have h1 : first.data.toList.length ≤ 1 := by rw [Array.length_toList]; exact hf
      have h2 : pre.length * M ≤ 4095 * M := Nat.mul_le_mul_right _ (by omega)
      show o.1.length + first.data.toList.length + _ ≤ _
      omega
    obtain ⟨oc, hoce⟩ : ∃ oc, cat (cat o (first.data.toList, 0)) (outT d t false (pre.map enr)) = oc := ⟨_, rfl⟩
    rw [hoce] at hst hoc
    have HST := Aside0.mk hst
    clear i1 i2 i3 i4 i5 i6 hst
    have y0 := cell_in HST.out.2.2.2.1 0
    have y1 := cell_in HST.out.2.1 0
    simp only [List.getElem?_toArray, List.getElem?_cons_zero] at y0 y1
    have hPx : PM M d (t.f0 == 17) (k, nd) := hx.2
    have hml : (outM (outD d) (t.f0 == 17) true (k, nd)).1.length ≤ M := hPx.2.1
    have hslk : 0 < slack M d := by unfold slack; exact Nat.mul_pos (by omega) (by omega)
    gi_upto_if 20 with fail
    gi_cut [] from 20 (fun wx => StA w0 w w2 b Bx #[.int .i64 t.f0, .int .i64 t.f1, .int .u64 t.f2, .string t.f3, .slice A4 t.f4.length c4, .slice A5 t.f5.length c5] #[.int .i64 nd.f0, .int .i64 nd.f1, .int .u64 nd.f2, .string nd.f3, .slice C4 nd.f4.length e4, .slice C5 nd.f5.length e5] W (cat oc (if !pre.isEmpty then [44] else [], 0)) (!pre.isEmpty) wx)
    case first =>
      cases hpe : (!pre.isEmpty)
      · gi_wp2_with fail
        gi_meet
        simpa [hpe, cat_nil] using HST.out
      · gi_wp2_with fail
        refine (CallsIn.inRound l (callsIn_wide.2 (wrStr_c ⟨#[44]⟩ HST.out.1 (by show oc.1.length + 1 ≤ _; omega) (by omega)))).mono ?_
        rintro r w5 ⟨rfl, hW5, hB5, hk5⟩
        gi_wp2_with fail
        gi_meet
        have := HST.out.step hbl (by omega) (by omega) hW5 hB5 hk5
        simpa [hpe] using this
    obtain ⟨o2, ho2⟩ : ∃ o2, cat oc (if !pre.isEmpty then [44] else [], 0) = o2 := ⟨_, rfl⟩
    rw [ho2] at hcut
    have HO2 := Aside0.mk ho2
    have HOC := Aside0.mk hoce
    clear hoce
    have hO2 : o2.1.length ≤ oc.1.length + 1 := by rw [← ho2, cat_len]; cases pre.isEmpty <;> simp
    have hM1 : (if t.f0 == 17 then (outQ k).1.length + 1 else 0) + (outD d nd).1.length + 1 ≤ M := by
      refine Nat.le_trans (Nat.le_of_eq ?_) hml
      unfold outM
      rw [cat_len, cat_len]
      cases (t.f0 == 17) <;> simp [cat_len] <;> omega
    have hset := hcut.set hz0 hbl hws2 hbx2
    have q0 := cell_in hcut.2.2.2.1 0
    have q1 := heap_thawed hcut.2.2.2.1 0
    have q2 := cell_in hset.2.2.1 0
    have q3 := cell_in hset.2.1 0
    simp only [List.getElem?_toArray, List.getElem?_cons_zero] at q0 q2 q3
    have HS2 := Aside0.mk hset
    have HM1 := Aside0.mk hM1
    clear hcut hset y0 y1 ho2 hM1
    gi_upto_region 9 with fail
    have HPx := Aside0.mk hPx
    have HML := Aside0.mk hml
    have HPU := Aside0.mk hP
    have HKx := Aside0.mk hx.1
    clear hPx hml hK hP hok
    gi_upto_if 27 with fail
    gi_cut [] from 25 (fun wx => StA w0 w w2 b Bx #[.int .i64 t.f0, .int .i64 t.f1, .int .u64 t.f2, .string t.f3, .slice A4 t.f4.length c4, .slice A5 t.f5.length c5] #[.int .i64 nd.f0, .int .i64 nd.f1, .int .u64 nd.f2, .string nd.f3, .slice C4 nd.f4.length e4, .slice C5 nd.f5.length e5] W (cat o2 (if t.f0 == 17 then cat (outQ k) ([58], 0) else ([], 0))) true wx)
    case first =>
      cases hm : (t.f0 == 17)
      · gi_wp2_with fail
        gi_meet
        simpa [hm, cat_nil] using HS2.out
      · have hM2 := HM1.out
        rw [hm] at hM2
        simp only [if_true] at hM2
        gi_wp2_with fail
        refine (CallsIn.inRound l (callsIn_wide.2 (wquote_c k HS2.out.1 HPx.out.1 (by omega) (Nat.le_trans hz0 HS2.out.2.2.2.2.2.1.size) (hL.below (hB.trans HS2.out.2.2.2.2.2.1))))).mono ?_
        rintro r w7 ⟨rfl, hW7, hB7, hk7⟩
        have hst7 := HS2.out.step hbl (by omega) (by omega) hW7 hB7 hk7
        have q7 := cell_in hst7.2.1 0
        simp only [List.getElem?_toArray, List.getElem?_cons_zero] at q7
        have HS7 := Aside0.mk hst7
        clear hst7
        gi_wp2_with fail
        refine (CallsIn.inRound l (callsIn_wide.2 (wrStr_c ⟨#[58]⟩ HS7.out.1 (by rw [cat_len]; show o2.1.length + (outQ k).1.length + 1 ≤ _; omega) (Nat.le_trans hz0 HS7.out.2.2.2.2.2.1.size)))).mono ?_
        rintro r w8 ⟨rfl, hW8, hB8, hk8⟩
        gi_wp2_with fail
        gi_meet
        have := HS7.out.step hbl (by omega) (by omega) hW8 hB8 hk8
        rw [cat_assoc] at this
        simpa [hm] using this
    obtain ⟨o3, ho3⟩ : ∃ o3, cat o2 (if t.f0 == 17 then cat (outQ k) ([58], 0) else ([], 0)) = o3 := ⟨_, rfl⟩
    rw [ho3] at hcut
    have HO3 := Aside0.mk ho3
    have hO3 : o3.1.length ≤ o2.1.length + M := by
      have := HM1.out
      rw [← ho3, cat_len]
      revert this
      cases (t.f0 == 17) <;> simp [cat_len] <;> omega
    have HS3 := Aside0.mk hcut
    have q3' := cell_in hcut.2.1 0
    have z0 := cell_in hcut.2.2.2.2.1 0
    have z1 := cell_in hcut.2.2.2.2.1 1
    have z2 := cell_in hcut.2.2.2.2.1 2
    have z3 := cell_in hcut.2.2.2.2.1 3
    have z4 := cell_in hcut.2.2.2.2.1 4
    have z5 := cell_in hcut.2.2.2.2.1 5
    simp only [List.getElem?_toArray, List.getElem?_cons_zero, List.getElem?_cons_succ] at q3' z0 z1 z2 z3 z4 z5
    clear hcut q0 q1 q2 q3 ho3
    have hput := HPU.out nd _ wc o3 HKx.out HPx.out.2.2 (hB.trans HS3.out.2.2.2.2.2.1) HS3.out.1 (by omega)
    have HPUT := Aside0.mk hput
    clear hput
    gi_wp2_with fail
    refine (CallsIn.inRound l (callsIn_wide.2 HPUT.out)).mono ?_
    rintro r w9 ⟨rfl, hW9, hB9, hk9⟩
    gi_wp2_with fail
    obtain ⟨j0, j1, j2, j3, j4, j5, j6, j7, j8, j9⟩ := HS3.out.step hbl (by omega) (by omega) hW9 hB9 hk9
    have hsz := j7.size
    have e : cat (cat o (first.data.toList, 0)) (outT d t false ((pre ++ [(⟨(k, nd, [.int .i64 nd.f0, .int .i64 nd.f1, .int .u64 nd.f2, .string nd.f3, .slice C4 nd.f4.length e4, .slice C5 nd.f5.length e5]), hx⟩ : En w0 (PM M d (t.f0 == 17)))]).map enr)) = cat o3 (outD d nd) := by
      rw [← HO3.out, ← HO2.out, ← HOC.out, List.map_append, outT, List.map_cons, List.map_nil, outA_snoc]
      simp only [outT, outM, cat_assoc, Bool.false_or, List.isEmpty_map]
      rfl
    refine ⟨by rw [s4]; exact j9, ⟨j7, j8⟩, by rw [e]; exact j0, j1, j2, by cases pre <;> exact j3, j5, j6, by omega, ?_⟩
    rw [List.map_append, List.map_cons, List.map_nil, outT, outA_snoc, cat_len, List.length_append, List.length_cons, List.length_nil, Nat.add_mul]
    have := outM_len (outD d) (t.f0 == 17) (false || !(pre.map enr).isEmpty) (k, nd)
    have h2 := HPx.out.2.1
    have h3 : (outA (outD d) (t.f0 == 17) false (pre.map enr)).1.length ≤ pre.length * M := i8
    show _ + (outM (outD d) (t.f0 == 17) (false || !(pre.map enr).isEmpty) (k, nd)).1.length ≤ _
    omega
  case done =>
    rintro D ys W hD hS ⟨i1, i2, i3, i4, i5, i6, i7, i8⟩ hK1
    have hyl : ys.length ≤ 4096 := by
      have h1 := congrArg List.length hS
      rw [List.length_map] at h1
      have := hok.2.1
      omega
    have hoc : (cat (cat o (first.data.toList, 0)) (outT d t false (ys.map enr))).1.length ≤ o.1.length + 1 + 4096 * M := by
      rw [cat_len, cat_len]
      have h1 : first.data.toList.length ≤ 1 := by rw [Array.length_toList]; exact hf
      have h2 : ys.length * M ≤ 4096 * M := Nat.mul_le_mul_right _ hyl
      show o.1.length + first.data.toList.length + _ ≤ _
      omega
    have hslk : 0 < slack M d := by unfold slack; exact Nat.mul_pos (by omega) (by omega)
    have y1 := cell_in i2 0
    simp only [List.getElem?_toArray, List.getElem?_cons_zero] at y1
    have I1 := Aside0.mk i1
    have I5 := Aside0.mk i5
    have I6 := Aside0.mk i6
    have HKK := Aside0.mk hK1
    have HSS := Aside0.mk hS
    clear hP hK hok i1 i2 i3 i4 i5 i6 hK1 hS
    gi_wp2_with fail
    refine (callsIn_wide.2 (wrStr_c last I1.out (by omega) (Nat.le_trans hz0 I5.out.size))).mono ?_
    rintro r w5 ⟨rfl, hW5, hB5, hk5⟩
    gi_wp2_with fail
    have hD' : w5.heap[D]? = some (.deferred (some [])) := hk5 _ _ HKK.out (by omega) (fun _ _ e => by cases e)
    have hg := grownBy_putObj' w5 D (.deferred none)
    refine ⟨by simp, .inl ⟨_, _, rfl, run_takeDeferred hD', ?_⟩⟩
    refine ⟨.tuple #[], by simp [results, Tryd.results26, go_sem], rfl, ?_, ?_, ?_⟩
    · have e : cat (cat (cat o (first.data.toList, 0)) (outT d t false (ys.map enr))) (last.data.toList, 0) = cat o (cat (first.data.toList, 0) (cat (outT d t false (ents t)) (last.data.toList, 0))) := by
        rw [HSS.out, cat_assoc, cat_assoc]
      rw [← e]
      exact hW5.cells fun i c T fr hi => cells_kept hi hg (fun r e => by cases e; exact ⟨_, hD', rfl⟩)
    · exact (I5.out.trans hB5).trans (belowK_b (w := W4) (Nat.le_trans hz0 (by omega)) _ D _ _ hD hD' rfl rfl)
    · exact keepW_own (I6.out.trans hk5) hg (fun r e => by cases e; omega)
  case stop => exact fun D c pre W _ _ h => h.elim
end Go.Proofs.YtloemnickbkonaaDoor
