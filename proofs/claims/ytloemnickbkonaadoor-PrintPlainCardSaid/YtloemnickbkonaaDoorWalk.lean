/- The contract of tree.walk, tree.walked: an iterator over a tree in preorder. -/
import Derived.Test.YtloemnickbkonaaDoorPre
import Derived.RangeFuncKeeps
import Derived.RangeFuncBound
import Derived.RangeFuncLeaves
import Derived.RangeFuncNested
import Derived.WalkKit
import Derived.OwnWalkIn
import Derived.TacticsInMore
import Derived.LoopNIn
import Derived.LoopIn
import Derived.Lib.Hide
import Derived.Outline
namespace Go.Proofs.YtloemnickbkonaaDoor
open Go.RowKit Go.Proofs.YtloemnickbkonaaDoorW.PrintWords Go.Proofs.YtloemnickbkonaaDoorW.PrintLast Go.Proofs.YtloemnickbkonaaDoorW.PrintMore
set_option linter.unusedVariables false
set_option linter.unusedSimpArgs false
attribute [local go_sem] Oper.semAt_some

theorem room_wide' (k : Nat) : Fence.wide.room k := fun d h => by cases h
theorem RoundIn.anyD {m m' : Nat} {P : Program} {l : Nat} {f : FuncId} {tmps : Array Value} {assign body : Code} {w : World} {R : Ending → World → Prop}
    (h : RoundIn Fence.wide m P l f tmps assign body w R) : RoundIn Fence.wide m' P l f tmps assign body w R := ⟨h.1, fun c cs _ => h.2 c cs (room_wide' _)⟩
theorem YieldAt.anyD {m : Nat} (m' : Nat) {P : Program} {l : Nat} {args : Array Value} {W : World} {R : Ending → World → Prop} (h : YieldAt Fence.wide m P l args W R) : YieldAt Fence.wide m' P l args W R := by
  obtain ⟨fn, tmps, assign, body, hy, hR⟩ := h
  exact ⟨fn, tmps, assign, body, hy, RoundIn.anyD hR⟩
theorem CallsIn.anyD {n : Nat} (n' : Nat) {P : Program} {f : FuncId} {args : Array Value} {w : World} {R : Ending → World → Prop} (h : CallsIn Fence.wide n P f args w R) : CallsIn Fence.wide n' P f args w R := ⟨h.1, fun cs _ => h.2 cs (room_wide' _)⟩

theorem cell_in {w : World} {b : Nat} {cs : Array Value} {T : TypeId} {fr : Nat × Nat} (hb : w.heap[b]? = some (.cells cs T fr)) (j : Nat) : w.cell? ⟨b, j, none⟩ = cs[j]? := by simp [World.cell?, hb]
/-- A node with its level and its cells, as it reads in w0. -/
abbrev El (w0 : World) := { p : Int × Nd × List Value // kN.K w0 p.2.1 p.2.2 ∧ okN p.2.1 }
def elv {w0 : World} (e : El w0) : Array Value := #[.int .i64 e.1.1, .agg e.1.2.2.toArray]
def er {w0 : World} (e : El w0) : Int × Nd := (e.1.1, e.1.2.1)

/-- The boxes of nodes stay as they are. -/
def KeepNd (W W' : World) : Prop := W.heap.size ≤ W'.heap.size ∧ ∀ (i : Nat) (c : Array Value) (fr : Nat × Nat), W.heap[i]? = some (Obj.cells c 26 fr) → W'.heap[i]? = some (Obj.cells c 26 fr)
theorem KeepNd.refl (W : World) : KeepNd W W := ⟨Nat.le_refl _, fun _ _ _ h => h⟩
theorem KeepNd.trans {A B C : World} (h : KeepNd A B) (k : KeepNd B C) : KeepNd A C := ⟨Nat.le_trans h.1 k.1, fun i c fr hi => k.2 i c fr (h.2 i c fr hi)⟩
theorem KeepNd.of_below {W W' : World} (h : Below W.heap.size W W') : KeepNd W W' := ⟨h.size, fun i c fr hi => (h.block i (Array.getElem?_eq_some_iff.1 hi).1).trans hi⟩
theorem KeepNd.alloc (W : World) (o : Obj) : KeepNd W (W.alloc o) := KeepNd.of_below ((Below.refl _ _).alloc (Nat.le_refl _) _)
/-- What a round keeps: what lay below n, and the boxes. -/
def KpN (n : Nat) (W W' : World) : Prop := Below n W W' ∧ KeepNd W W'
theorem KpN.refl (n : Nat) (W : World) : KpN n W W := ⟨Below.refl _ _, KeepNd.refl _⟩
theorem KpN.trans {n : Nat} {A B C : World} (h : KpN n A B) (k : KpN n B C) : KpN n A C := ⟨h.1.trans k.1, h.2.trans k.2⟩
theorem KpN.alloc {n : Nat} {A B : World} (h : KpN n A B) (hn : n ≤ B.heap.size) (o : Obj) : KpN n A (B.alloc o) := ⟨h.1.alloc hn _, h.2.trans (KeepNd.alloc _ _)⟩
theorem KpN.putObj {n : Nat} {w : World} (hn : n ≤ w.heap.size) (W : World) (l : Nat) (o o' : Obj) (hl : w.heap.size ≤ l) (h : W.heap[l]? = some o) (hc : o.isCells = false) (hw : o.isWalk = false) : KpN n W (W.putObj l o') :=
  ⟨belowK_b hn W l o o' hl h hc hw, by
    have hg := grownBy_putObj' W l o'
    refine ⟨hg.size, fun i c fr hi => ?_⟩
    rw [hg.block i (Array.getElem?_eq_some_iff.1 hi).1 (fun e => by cases e; rw [h] at hi; cases hi; cases hc)]
    exact hi⟩
theorem KpN.box {n : Nat} {A B : World} (h : KpN n A B) {i : Nat} {c : Array Value} {fr : Nat × Nat} (hi : A.heap[i]? = some (Obj.cells c 26 fr)) : B.heap[i]? = some (Obj.cells c 26 fr) := h.2.2 i c fr hi

set_option maxRecDepth 100000 in
set_option maxHeartbeats 2000000 in
theorem walk_in (w0 : World) (l N B : Nat) (J Jx : List (El w0) → World → Prop) (hJ : AbidesFrom B J) (hJx : AbidesFrom B Jx)
    (hY : ∀ m pre (x : El w0) W, J pre W → pre.length < N → YieldAt Fence.wide m Tryd.prog l (elv x) W fun e W' =>
      (e = .returned (.bool true) ∧ J (pre ++ [x]) W' ∧ KpN w0.heap.size W W') ∨ (e = .returned (.bool false) ∧ Jx (pre ++ [x]) W')) (x : Nd) :
    ∀ (cs : List Value) (b : Int) (pre : List (El w0)) (W : World) (n : Nat), kN.K w0 x cs → Below w0.heap.size w0 W → okN x → 0 ≤ b → b + dpN x ≤ 4611686018427387904 → J pre W → pre.length + (preN b x).length ≤ N →
      CallsIn Fence.wide n Tryd.prog 30 #[.agg cs.toArray, .int .i64 b, .func (.yield l) #[] #[]] W fun e W' =>
        (e = .returned (.bool true) ∧ ∃ ys : List (El w0), ys.map er = preN b x ∧ J (pre ++ ys) W' ∧ KpN w0.heap.size W W') ∨
        (e = .returned (.bool false) ∧ ∃ ys : List (El w0), ys.map er <+: preN b x ∧ Jx (pre ++ ys) W') := by
  induction x using Nd.ind with
  | h x ih =>
    intro cs b pre W n hK hB hok hb0 hd hj hN
    have hdd : ∀ k : Nat, (Fence.wide.depth.isSome = true → 1 ≤ k) := fun k h => by cases h
    have hfn : ∀ k, Fence.wide.fn k := fun _ => trivial
    obtain ⟨A4, c4, A5, c5, rfl, hl4, hC4, hl5, hC5⟩ := kN_open hK
    have hself : YieldAt Fence.wide (n - 1) Tryd.prog l #[.int .i64 b, .agg #[.int .i64 x.f0, .int .i64 x.f1, .int .u64 x.f2, .string x.f3, .slice A4 x.f4.length c4, .slice A5 x.f5.length c5]] (W.alloc (.cells #[.int .i64 x.f0, .int .i64 x.f1, .int .u64 x.f2, .string x.f3, .slice A4 x.f4.length c4, .slice A5 x.f5.length c5] 26)) fun e W' =>
      (e = .returned (.bool true) ∧ J (pre ++ [⟨(b, x, _), ⟨hK, hok⟩⟩]) W' ∧ KpN w0.heap.size (W.alloc (.cells #[.int .i64 x.f0, .int .i64 x.f1, .int .u64 x.f2, .string x.f3, .slice A4 x.f4.length c4, .slice A5 x.f5.length c5] 26)) W') ∨ (e = .returned (.bool false) ∧ Jx (pre ++ [⟨(b, x, _), ⟨hK, hok⟩⟩]) W') :=
      hY (n - 1) pre ⟨(b, x, _), ⟨hK, hok⟩⟩ _ (hJ _ _ _ none hj (World.grownBy_alloc W _ none) (fun r e => by cases e)) (by have := preN_pos b x; omega)
    obtain ⟨fn, tmps, assign, body, hy, hR⟩ := hself
    refine callsIn_of_wp Tryd.func30 rfl trivial ?_ rfl
    simp only [Tryd.ntmps30, List.size_toArray, List.length_cons, List.length_nil, Nat.reduceAdd, Nat.reduceSub, Array.replicate_succ, Array.replicate_zero, List.push_toArray, List.append_toArray, List.nil_append, List.cons_append]
    gi_wp2_with (first | ((try refine ⟨hdd _, ?_⟩); refine hR.mono ?_; clear hR; rintro e W1 (⟨rfl, hj1, hb1⟩ | ⟨rfl, hjx⟩); (have hbox := hb1.box (heap_alloc_new W _); have hx5 := cell_in hbox 5; simp only [List.getElem?_toArray, List.getElem?_cons_zero, List.getElem?_cons_succ] at hx5)))
    · have HX := Aside0.mk hx5
      have HJ0 := Aside0.mk hj1
      have HB1 := Aside0.mk hb1
      have HBx := Aside0.mk hbox
      have HC5 := Aside0.mk hC5
      have hm5 : x.f5.length ≤ 140737488355328 := ((okN_eq x).1 hok).2.2.2.1
      clear hj1 hb1 hbox hC5 hy
      gi_wp2
      gi_loopw [17] (fun v17 wr => ∃ i : Int, 0 ≤ i ∧ i ≤ x.f5.length ∧ v17 = .int .i64 i ∧ Aside0 (∃ ys : List (El w0), ys.map er = preTo b x i ∧ J (pre ++ ys) wr) ∧ Aside0 (KpN w0.heap.size W1 wr)) (fun v17 _ => x.f5.length - (intOf v17).toNat)
      case atStart => exact ⟨0, by omega, by omega, rfl, ⟨[⟨(b, x, _), ⟨hK, hok⟩⟩], by rw [preTo_zero]; rfl, HJ0.out⟩, ⟨KpN.refl _ _⟩⟩
      case round =>
        obtain ⟨i, hi0, hi, rfl, HY, HB⟩ := hrel
        by_cases hlt : i < x.f5.length
        · obtain ⟨ad, B4, d4, B5, d5, rfl, e0, e1, e2, e3, e4, e5, m4, G4, m5, G5⟩ := atN HC5.out i hi0 hlt
          have hKel := kN_mk w0 (rdN x.f5 i) m4 G4 m5 G5
          obtain ⟨ys, hys, hj⟩ := HY.out
          have hbw : Below w0.heap.size w0 wr := (hB.alloc hB.size _).trans (HB1.out.trans HB.out).1
          have tr : ∀ {a : Addr} {v : Value}, w0.cell? a = some v → wr.cell? a = some v := fun h => (hbw.cell (World.block_lt_of_cell? w0 _ h)).trans h
          replace e0 := tr e0
          replace e1 := tr e1
          replace e2 := tr e2
          replace e3 := tr e3
          replace e4 := tr e4
          replace e5 := tr e5
          clear tr
          have hc := preTo_count b x i hi0 hlt
          have hdc := dpN_child x i hi0 hlt
          have hcall := ih (rdN x.f5 i) (rdN_mem x.f5 i hi0 hlt) _ (b + 1) (pre ++ ys) (wr.alloc (.cells #[.int .i64 (rdN x.f5 i).f0, .int .i64 (rdN x.f5 i).f1, .int .u64 (rdN x.f5 i).f2, .string (rdN x.f5 i).f3, .slice B4 (rdN x.f5 i).f4.length d4, .slice B5 (rdN x.f5 i).f5.length d5] 26)) (n - 1) hKel (hbw.alloc hbw.size _) (hok.mem (rdN_mem x.f5 i hi0 hlt)) (by omega) (by omega)
            (hJ _ _ _ none hj (World.grownBy_alloc wr _ none) (fun r e => by cases e)) (by rw [List.length_append]; have := congrArg List.length hys; rw [List.length_map] at this; omega)
          have HCALL := Lib.hid hcall
          clear hcall hc ih hY HY
          gi_wp2_with (first | ((try refine ⟨hdd _, ?_⟩); gi_at_call 30; refine HCALL.out.mono ?_; rintro e W3 (⟨rfl, zs, hzs, hj3, hk3⟩ | ⟨rfl, zs, hzs, hjx3⟩)))
          · go_roundw
            case rel => exact ⟨i + 1, by omega, by omega, rfl, ⟨ys ++ zs, by rw [List.map_append, hys, hzs, preTo_succ b x i hi0 hlt], by rw [← List.append_assoc]; exact hj3⟩, ⟨((HB.out.alloc (by have := hbw.size; omega) _).trans hk3)⟩⟩
            case measure => simp [intOf]; omega
          · go_ret
            exact .inr ⟨rfl, ys ++ zs, by rw [List.map_append, hys]; exact preTo_cut b x i hi0 hlt hzs, by rw [← List.append_assoc]; exact hjx3⟩
        · gi_wp2
          go_ret
          obtain ⟨ys, hys, hj⟩ := HY.out
          exact .inl ⟨rfl, ys, by rw [hys, preTo_end b x i (by omega)], hj, (KpN.alloc (KpN.refl _ W) hB.size _).trans (HB1.out.trans HB.out)⟩
    · go_ret
      exact .inr ⟨rfl, [⟨(b, x, _), ⟨hK, hok⟩⟩], by rw [preN_eq]; exact ⟨_, rfl⟩, hjx⟩

set_option maxRecDepth 100000 in
set_option maxHeartbeats 1000000 in
theorem walked1_in (w0 : World) (l N B Bt n : Nat) (J Jx : List (El w0) → World → Prop) (hJ : AbidesFrom B J) (hJx : AbidesFrom B Jx)
    (hY : ∀ pre (x : El w0) W, J pre W → pre.length < N → YieldAt Fence.wide (n - 1) Tryd.prog l (elv x) W fun e W' =>
      (e = .returned (.bool true) ∧ J (pre ++ [x]) W' ∧ KpN w0.heap.size W W') ∨ (e = .returned (.bool false) ∧ Jx (pre ++ [x]) W')) (x : Nd) (cs : List Value) (W : World) (hK : kN.K w0 x cs)
    (hB : Below w0.heap.size w0 W) (hok : okN x) (hd : dpN x ≤ 140737488355328) (hj : J [] W) (hN : (preN 0 x).length ≤ N) (hbt : W.heap[Bt]? = some (Obj.cells cs.toArray 26 (0, 0))) :
    CallsIn Fence.wide n Tryd.prog 29 #[.func (.yield l) #[] #[], .pointer (some ⟨Bt, 0, none⟩)] W fun e W' => (∃ v, e = .returned v) ∧
      ((∃ ys : List (El w0), ys.map er = preN 0 x ∧ J ys W') ∨ (∃ ys : List (El w0), ys.map er <+: preN 0 x ∧ Jx ys W')) := by
  have hdd : ∀ k : Nat, (Fence.wide.depth.isSome = true → 1 ≤ k) := fun k h => by cases h
  have hfn : ∀ k, Fence.wide.fn k := fun _ => trivial
  have hp := walk_in w0 l N B J Jx hJ hJx (fun m pre x W hj hl => YieldAt.anyD m (hY pre x W hj hl)) x cs 0 [] W (n - 1) hK hB hok (by omega) (by omega) hj (by simpa using hN)
  obtain ⟨A4, c4, A5, c5, rfl, -, -, -, -⟩ := kN_open hK
  have HP := Lib.hid hp
  have x0 := cell_in hbt 0
  have x1 := cell_in hbt 1
  have x2 := cell_in hbt 2
  have x3 := cell_in hbt 3
  have x4 := cell_in hbt 4
  have x5 := cell_in hbt 5
  simp only [List.getElem?_toArray, List.getElem?_cons_zero, List.getElem?_cons_succ] at x0 x1 x2 x3 x4 x5
  clear hp hbt hY
  refine callsIn_of_wp Tryd.func29 rfl trivial ?_ rfl
  simp only [Tryd.ntmps29, List.size_toArray, List.length_cons, List.length_nil, Nat.reduceAdd, Nat.reduceSub, Array.replicate_succ, Array.replicate_zero, List.push_toArray, List.append_toArray, List.nil_append, List.cons_append]
  gi_wp2_with ((try refine ⟨hdd _, ?_⟩); gi_at_call 30; refine HP.out.mono ?_; rintro e W3 (⟨rfl, zs, hzs, hj3, hk3⟩ | ⟨rfl, zs, hzs, hjx3⟩))
  · go_end0
    exact ⟨⟨_, rfl⟩, .inl ⟨zs, hzs, by simpa using hj3⟩⟩
  · go_end0
    exact ⟨⟨_, rfl⟩, .inr ⟨zs, hzs, by simpa using hjx3⟩⟩

theorem walked_stops (w0 w : World) (n Bt : Nat) (x : Nd) (cs : List Value) (hK : kN.K w0 x cs) (hB : Below w0.heap.size w0 w) (hok : okN x) (hd : dpN x ≤ 140737488355328) (hbt : w.heap[Bt]? = some (Obj.cells cs.toArray 26 (0, 0))) :
    SeqStopsK Fence.wide n Tryd.prog 29 #[.pointer (some ⟨Bt, 0, none⟩)] (fun x : El w0 => elv x) (KpN w0.heap.size) (fun ys => ys.map er = preN 0 x) (fun ys => ys.map er <+: preN 0 x) (preN 0 x).length w := fun l J Jx W hW hJ hJx hY h0 =>
  walked1_in w0 l _ W.heap.size Bt n J Jx hJ hJx hY x cs W hK (hB.trans (hW.mono hB.size)) hok hd h0 (Nat.le_refl _) ((hW.block Bt (Array.getElem?_eq_some_iff.1 hbt).1).trans hbt)

set_option maxRecDepth 100000 in
set_option maxHeartbeats 400000 in
theorem walked_c (x : Nd) (A4 A5 : Option Addr) (c4 c5 : Nat) (w : World) :
    Calls Tryd.prog 17 #[.agg #[.int .i64 x.f0, .int .i64 x.f1, .int .u64 x.f2, .string x.f3, .slice A4 x.f4.length c4, .slice A5 x.f5.length c5]] w fun e w' =>
      e = .returned (.func (.func 29) #[] #[.pointer (some ⟨w.heap.size, 0, none⟩)]) ∧ w' = w.alloc (.cells #[.int .i64 x.f0, .int .i64 x.f1, .int .u64 x.f2, .string x.f3, .slice A4 x.f4.length c4, .slice A5 x.f5.length c5] 26) := by
  go_enter Tryd.func17, Tryd.ntmps17
  go_wp2
  go_ret
  exact ⟨rfl, rfl⟩
end Go.Proofs.YtloemnickbkonaaDoor
