/- print.entries: an iterator over the members of a node. -/
import Derived.Test.YtloemnickbkonaaDoorWr
import Derived.Test.YtloemnickbkonaaDoorWalk
import Derived.Test.YtloemnickbkonaaDoorOrder
import Derived.Test.YtloemnickbkonaaDoorStill
namespace Go.Proofs.YtloemnickbkonaaDoor
open Go.RowKit Go.Proofs.YtloemnickbkonaaDoorW.PrintWords Go.Proofs.YtloemnickbkonaaDoorW.PrintLast Go.Proofs.YtloemnickbkonaaDoorW.PrintMore
set_option linter.unusedVariables false
set_option linter.unusedSimpArgs false
attribute [local go_sem] Oper.semAt_some

mutual
/-- What a written tree must keep to. -/
def okV : Nd → Prop
  | ⟨k, n, u, s, ks, l⟩ => s.size ≤ 1099511627776 ∧ ks.length ≤ 17592186044416 ∧ (∀ x ∈ ks, x.size ≤ 1099511627776) ∧ l.length ≤ 140737488355328 ∧ (-9223372036854775808 ≤ n ∧ n ≤ 9223372036854775807) ∧ (0 ≤ u ∧ u < 18446744073709551616) ∧ (k = 17 → ks.length = l.length) ∧ okVL l
def okVL : List Nd → Prop
  | [] => True
  | x :: r => okV x ∧ okVL r
end
theorem okVL_mem {l : List Nd} (h : okVL l) {x : Nd} (hx : x ∈ l) : okV x := by
  induction l with
  | nil => cases hx
  | cons y l ih =>
    simp only [okVL] at h
    rcases List.mem_cons.1 hx with rfl | hx
    · exact h.1
    · exact ih h.2 hx
theorem okV_eq (x : Nd) : okV x ↔ x.f3.size ≤ 1099511627776 ∧ x.f4.length ≤ 17592186044416 ∧ (∀ y ∈ x.f4, y.size ≤ 1099511627776) ∧ x.f5.length ≤ 140737488355328 ∧ (-9223372036854775808 ≤ x.f1 ∧ x.f1 ≤ 9223372036854775807) ∧ (0 ≤ x.f2 ∧ x.f2 < 18446744073709551616) ∧ (x.f0 = 17 → x.f4.length = x.f5.length) ∧ okVL x.f5 := by cases x; simp only [okV]

/-- A member: its key, and a node with its cells, as they read in w0. -/
abbrev En (w0 : World) (P : ByteArray × Nd → Prop) := { p : ByteArray × Nd × List Value // kN.K w0 p.2.1 p.2.2 ∧ P (p.1, p.2.1) }
def env {w0 : World} {P : ByteArray × Nd → Prop} (e : En w0 P) : Array Value := #[.string e.1.1, .agg e.1.2.2.toArray]
def enr {w0 : World} {P : ByteArray × Nd → Prop} (e : En w0 P) : ByteArray × Nd := (e.1.1, e.1.2.1)
/-- What a round keeps: what lay below n, the boxes of nodes, the rows of places. -/
def KeepNI (W W' : World) : Prop := W.heap.size ≤ W'.heap.size ∧ ∀ (i : Nat) (c : Array Value) (T : TypeId) (fr : Nat × Nat), (T = 26 ∨ T = 3) → W.heap[i]? = some (Obj.cells c T fr) → W'.heap[i]? = some (Obj.cells c T fr)
theorem KeepNI.refl (W : World) : KeepNI W W := ⟨Nat.le_refl _, fun _ _ _ _ _ h => h⟩
theorem KeepNI.trans {A B C : World} (h : KeepNI A B) (k : KeepNI B C) : KeepNI A C := ⟨Nat.le_trans h.1 k.1, fun i c T fr hT hi => k.2 i c T fr hT (h.2 i c T fr hT hi)⟩
theorem KeepNI.of_below {W W' : World} (h : Below W.heap.size W W') : KeepNI W W' := ⟨h.size, fun i c T fr _ hi => (h.block i (heap_lt' hi)).trans hi⟩
def KpE (n : Nat) (W W' : World) : Prop := Below n W W' ∧ KeepNI W W'
theorem KpE.refl (n : Nat) (W : World) : KpE n W W := ⟨Below.refl _ _, KeepNI.refl _⟩
theorem KpE.trans {n : Nat} {A B C : World} (h : KpE n A B) (k : KpE n B C) : KpE n A C := ⟨h.1.trans k.1, h.2.trans k.2⟩
theorem KpE.below {n : Nat} {A B C : World} (h : KpE n A B) (hn : n ≤ B.heap.size) (k : Below B.heap.size B C) : KpE n A C := ⟨h.1.trans (k.mono hn), h.2.trans (KeepNI.of_below k)⟩
theorem KpE.putObj {n : Nat} {w : World} (hn : n ≤ w.heap.size) (W : World) (l : Nat) (o o' : Obj) (hl : w.heap.size ≤ l) (h : W.heap[l]? = some o) (hc : o.isCells = false) (hw : o.isWalk = false) : KpE n W (W.putObj l o') :=
  ⟨belowK_b hn W l o o' hl h hc hw, by
    have hg := grownBy_putObj' W l o'
    refine ⟨hg.size, fun i c T fr _ hi => ?_⟩
    rw [hg.block i (heap_lt' hi) (fun e => by cases e; rw [h] at hi; cases hi; cases hc)]
    exact hi⟩
theorem KpE.cells {n : Nat} {A B : World} (h : KpE n A B) {i : Nat} {c : Array Value} {T : TypeId} {fr : Nat × Nat} (hT : T = 26 ∨ T = 3) (hi : A.heap[i]? = some (Obj.cells c T fr)) : B.heap[i]? = some (Obj.cells c T fr) := h.2.2 i c T fr hT hi
theorem grown_of_below {W W' : World} (h : Below W.heap.size W W') : W.grownBy W' none := ⟨h.os, h.tape, h.output, h.size, fun k hk _ => h.block k hk⟩

/-- What the children's members are, so far. -/
noncomputable def eTo (t : Nd) (i : Nat) : List (ByteArray × Nd) := (ents t).take i
theorem ents_list {t : Nd} (h : t.f0 ≠ 17) : ents t = t.f5.map fun x => ((⟨#[]⟩ : ByteArray), x) := by unfold ents; rw [if_neg h]
theorem ents_map {t : Nd} (h : t.f0 = 17) : ents t = (ordE t.f4).map fun i => (t.f4.getD i ByteArray.empty, t.f5.getD i zN) := by unfold ents; rw [if_pos h]
theorem eTo_succ_list {t : Nd} (h : t.f0 ≠ 17) (i : Nat) (hi : i < t.f5.length) : eTo t (i + 1) = eTo t i ++ [((⟨#[]⟩ : ByteArray), rdN t.f5 (i : Int))] := by
  unfold eTo
  rw [List.take_succ_eq_append_getElem (by rw [ents_list h]; simpa using hi)]
  congr 2
  simp only [ents_list h, List.getElem_map]
  rw [rdN_at _ _ hi]

theorem eTo_next {t : Nd} (h : t.f0 ≠ 17) (i : Nat) (hi : i < t.f5.length) : eTo t i ++ [((⟨#[]⟩ : ByteArray), rdN t.f5 (i : Int))] <+: ents t := by
  rw [← eTo_succ_list h i hi]
  exact List.take_prefix _ _
set_option maxRecDepth 100000 in
set_option maxHeartbeats 2000000 in
theorem ents_list_in (w0 : World) (P : ByteArray × Nd → Prop) (l N B Bt n : Nat) (J Jx : List (En w0 P) → World → Prop) (hJ : AbidesFrom B J) (hJx : AbidesFrom B Jx)
    (hY : ∀ pre (x : En w0 P) W, J pre W → pre.length < N → YieldAt Fence.wide (n - 1) Tryd.prog l (env x) W fun e W' =>
      (e = .returned (.bool true) ∧ J (pre ++ [x]) W' ∧ KpE w0.heap.size W W') ∨ (e = .returned (.bool false) ∧ Jx (pre ++ [x]) W')) (x : Nd) (cs : List Value) (W : World) (hK : kN.K w0 x cs)
    (hB : Below w0.heap.size w0 W) (hok : okV x) (hPx : ∀ p ∈ ents x, P p) (hj : J [] W) (hN : (ents x).length ≤ N) (hbt : W.heap[Bt]? = some (Obj.cells cs.toArray 26 (0, 0))) (h17 : x.f0 ≠ 17) :
    CallsIn Fence.wide n Tryd.prog 55 #[.func (.yield l) #[] #[], .pointer (some ⟨Bt, 0, none⟩)] W fun e W' => (∃ v, e = .returned v) ∧
      ((∃ ys : List (En w0 P), ys.map enr = ents x ∧ J ys W') ∨ (∃ ys : List (En w0 P), ys.map enr <+: ents x ∧ Jx ys W')) := by
  have hdd : ∀ k : Nat, (Fence.wide.depth.isSome = true → 1 ≤ k) := fun k h => by cases h
  have hfn : ∀ k, Fence.wide.fn k := fun _ => trivial
  obtain ⟨A4, c4, A5, c5, rfl, hl4, hC4, hl5, hC5⟩ := kN_open hK
  have x0 := cell_in hbt 0
  have x5 := cell_in hbt 5
  simp only [List.getElem?_toArray, List.getElem?_cons_zero, List.getElem?_cons_succ] at x0 x5
  have hm5 : x.f5.length ≤ 140737488355328 := ((okV_eq x).1 hok).2.2.2.1
  have h17b : (x.f0 != 17) = true := by simpa using h17
  have hEl : (ents x).length = x.f5.length := by rw [ents_list h17]; simp
  have HC5 := Aside0.mk hC5
  have HBT := Aside0.mk hbt
  have HJ0 := Aside0.mk hj
  have HY := Aside0.mk hY
  clear hC5 hbt hj hY
  refine callsIn_of_wp Tryd.func55 rfl trivial ?_ rfl
  simp only [Tryd.ntmps55, List.size_toArray, List.length_cons, List.length_nil, Nat.reduceAdd, Nat.reduceSub, Array.replicate_succ, Array.replicate_zero, List.push_toArray, List.append_toArray, List.nil_append, List.cons_append]
  gi_wp2
  gi_loopw [15] (fun v15 wr => ∃ i : Nat, i ≤ x.f5.length ∧ v15 = .int .i64 (i : Int) ∧ Aside0 (∃ ys : List (En w0 P), ys.map enr = eTo x i ∧ J ys wr) ∧ Aside0 (KpE w0.heap.size W wr)) (fun v15 _ => x.f5.length - (intOf v15).toNat)
  case atStart => exact ⟨0, by omega, rfl, ⟨[], by simp [eTo], HJ0.out⟩, ⟨KpE.refl _ _⟩⟩
  case round =>
    obtain ⟨i, hi, rfl, HYS, HB⟩ := hrel
    by_cases hlt : (i : Int) < x.f5.length
    · obtain ⟨ad, B4, d4, B5, d5, rfl, e0, e1, e2, e3, e4, e5, m4, G4, m5, G5⟩ := atN HC5.out (i : Int) (by omega) hlt
      have hKel := kN_mk w0 (rdN x.f5 (i : Int)) m4 G4 m5 G5
      obtain ⟨ys, hys, hj⟩ := HYS.out
      have hbw : Below w0.heap.size w0 wr := hB.trans HB.out.1
      have tr : ∀ {a : Addr} {v : Value}, w0.cell? a = some v → wr.cell? a = some v := fun h => (hbw.cell (World.block_lt_of_cell? w0 _ h)).trans h
      replace e0 := tr e0
      replace e1 := tr e1
      replace e2 := tr e2
      replace e3 := tr e3
      replace e4 := tr e4
      replace e5 := tr e5
      clear tr
      rw [Int.toNat_natCast] at e0 e1 e2 e3 e4 e5
      have hlen : ys.length = i := by
        have := congrArg List.length hys
        rw [List.length_map, eTo, List.length_take] at this
        omega
      have hPe : P ((⟨#[]⟩ : ByteArray), rdN x.f5 (i : Int)) := hPx _ ((eTo_next h17 i (by omega)).subset (by simp))
      have hself := HY.out ys ⟨((⟨#[]⟩ : ByteArray), rdN x.f5 (i : Int), _), hKel, hPe⟩ (wr.alloc (.cells #[.int .i64 (rdN x.f5 (i : Int)).f0, .int .i64 (rdN x.f5 (i : Int)).f1, .int .u64 (rdN x.f5 (i : Int)).f2, .string (rdN x.f5 (i : Int)).f3, .slice B4 (rdN x.f5 (i : Int)).f4.length d4, .slice B5 (rdN x.f5 (i : Int)).f5.length d5] 26)) (hJ _ _ _ none hj (World.grownBy_alloc wr _ none) (fun r e => by cases e)) (by omega)
      dsimp only [env] at hself
      obtain ⟨fn, tmps, assign, body, hy, hR⟩ := hself
      have hwz : w0.heap.size ≤ wr.heap.size := hbw.size
      have x5' := cell_in (HB.out.cells (.inl rfl) HBT.out) 5
      gi_wp2_with (first | ((try refine ⟨hdd _, ?_⟩); refine hR.mono ?_; clear hR; rintro e W1 (⟨rfl, hj1, hb1⟩ | ⟨rfl, hjx⟩)))
      · go_roundw
        case rel => exact ⟨i + 1, by omega, rfl, ⟨ys ++ [⟨((⟨#[]⟩ : ByteArray), rdN x.f5 (i : Int), _), hKel, hPe⟩], by rw [List.map_append, hys, eTo_succ_list h17 i (by omega)]; rfl, hj1⟩, ⟨(HB.out.below (Nat.le_trans hB.size HB.out.1.size) ((Below.refl _ _).alloc (Nat.le_refl _) _)).trans hb1⟩⟩
        case measure => simp [intOf]; omega
      · ((try simp only [Exit.inBlock, Exit.then]); refine bodyPost_ret (results_none rfl _ _ _) rfl ?_)
        exact ⟨⟨_, rfl⟩, .inr ⟨_, by rw [List.map_append, hys]; exact eTo_next h17 i (by omega), hjx⟩⟩
    · gi_wp2
      ((try simp only [Exit.inBlock, Exit.then]); refine bodyPost_ret (results_none rfl _ _ _) rfl ?_)
      obtain ⟨ys, hys, hj⟩ := HYS.out
      exact ⟨⟨_, rfl⟩, .inl ⟨ys, by rw [hys, eTo, List.take_of_length_le (by omega)], hj⟩⟩

end Go.Proofs.YtloemnickbkonaaDoor
