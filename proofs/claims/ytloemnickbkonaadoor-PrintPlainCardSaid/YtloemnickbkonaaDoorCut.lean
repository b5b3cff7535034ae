/- R.room.cut, R.Cut: what they return, and their contracts. -/
import Derived.Test.YtloemnickbkonaaDoorShort
import Derived.Test.YtloemnickbkonaaDoorBld
import Derived.Test.YtloemnickbkonaaDoorTreeC
import Derived.Deep.DeepCutAuto
import Derived.Deep.RegionHeld3
namespace Go.Proofs.YtloemnickbkonaaDoor
open Go.RowKit Go.Proofs.YtloemnickbkonaaDoorW.PrintWords Go.Proofs.YtloemnickbkonaaDoorW.PrintLast Go.Proofs.YtloemnickbkonaaDoorW.PrintMore
set_option linter.unusedVariables false
set_option linter.unusedSimpArgs false

mutual
/-- room.cut: the copy, and the room that is left. -/
def cutN (long : Nat) (left : Nat) : Nd → Nd × Nat
  | ⟨k, n, u, s, ks, l⟩ => (⟨k, n, u, shortB s long, textsL ks 64 long, (cutL long left l).1⟩, (cutL long left l).2)
def cutL (long : Nat) (left : Nat) : List Nd → List Nd × Nat
  | [] => ([], left)
  | x :: r => if left = 0 then ([], 0) else ((cutN long (left - 1) x).1 :: (cutL long (cutN long (left - 1) x).2 r).1, (cutL long (cutN long (left - 1) x).2 r).2)
end
theorem cutN_eq (long left : Nat) (x : Nd) : cutN long left x = (⟨x.f0, x.f1, x.f2, shortB x.f3 long, textsL x.f4 64 long, (cutL long left x.f5).1⟩, (cutL long left x.f5).2) := by cases x; simp only [cutN]
/-- room.cut's loop, from child i on. -/
def cutFrom (long left : Nat) (l : List Nd) (i : Nat) : List Nd × Nat := cutL long left (l.drop i)
theorem cutFrom_end (long left : Nat) (l : List Nd) (i : Nat) (h : l.length ≤ i) : cutFrom long left l i = ([], left) := by unfold cutFrom; rw [List.drop_of_length_le h, cutL]
theorem cutFrom_zero (long : Nat) (l : List Nd) (i : Nat) : cutFrom long 0 l i = ([], 0) := by
  unfold cutFrom
  cases l.drop i with
  | nil => simp [cutL]
  | cons x r => simp [cutL]
theorem cutFrom_step (long left : Nat) (l : List Nd) (i : Nat) (h : i < l.length) : cutFrom long (left + 1) l i = ((cutN long left l[i]).1 :: (cutFrom long (cutN long left l[i]).2 l (i + 1)).1, (cutFrom long (cutN long left l[i]).2 l (i + 1)).2) := by
  unfold cutFrom
  rw [List.drop_eq_getElem_cons h, cutL, if_neg (by omega)]
  simp

theorem bcell {W w1 : World} (hb : Below W.heap.size W w1) : (∀ b o, b < W.heap.size → w1.cell? ⟨b, o, none⟩ = W.cell? ⟨b, o, none⟩) ∧ (∀ b o, b < W.heap.size → w1.frozen? ⟨b, o, none⟩ = W.frozen? ⟨b, o, none⟩) :=
  ⟨fun b o h => hb.cell (p := ⟨b, o, none⟩) h, fun b o h => hb.frozen (p := ⟨b, o, none⟩) h⟩
theorem cell_alloc3 {w : World} {a : Addr} {v : Value} (h : w.cell? a = some v) (o1 o2 o3 : Obj) : (((w.alloc o1).alloc o2).alloc o3).drew.cell? a = some v :=
  ((((((Below.refl w.heap.size w).alloc (Nat.le_refl _) o1).alloc (by simp) o2).alloc (by simp; omega) o3).drew).cell (World.block_lt_of_cell? w _ h)).trans h
theorem tb_below3 (w : World) (o o1 o2 : Obj) : Below w.heap.size w (((w.alloc o).alloc o1).alloc o2).drew := ((((Below.refl _ _).alloc (Nat.le_refl _) _).alloc (by simp) _).alloc (by simp; omega) _).drew
theorem cell_set6 {w : World} {a : Addr} {b : Nat} {v : Value} (hne : a.block ≠ b) (h : w.cell? a = some v) (u0 u1 u2 u3 u4 u5 : Value) :
    ((((((w.setCell ⟨b, 0, none⟩ u0).setCell ⟨b, 1, none⟩ u1).setCell ⟨b, 2, none⟩ u2).setCell ⟨b, 3, none⟩ u3).setCell ⟨b, 4, none⟩ u4).setCell ⟨b, 5, none⟩ u5).cell? a = some v := by
  have k : ∀ (W : World) (j : Nat) (u : Value), (W.setCell ⟨b, j, none⟩ u).cell? a = W.cell? a := fun W j u => World.cell?_setCell_other W _ _ u (fun e => hne (by rw [← e]))
  rw [k, k, k, k, k, k]; exact h
/-- What room.cut leaves. -/
def CutQ (w : World) (R : Nat) (long left : Nat) (x : Nd) (e : Ending) (w' : World) : Prop := ∃ cs : List Value, e = .returned (.agg cs.toArray) ∧ kN.M w' w.heap.size (fun k => w.heap.size ≤ k) (cutN long left x).1 cs ∧
  w'.heap[R]? = some (.cells #[.int .i64 (cutN long left x).2, .int .i64 long] 46 (0, 0)) ∧ w.grownBy w' (some R)
/-- Behind the first statement. -/
def CutS (w : World) (R b : Nat) (long left : Nat) (x : Nd) (v4 : Value) (c : Array Value) (W : World) : Prop :=
  W.heap[b]? = some (.cells #[.int .i64 x.f0, .int .i64 x.f1, .int .u64 x.f2, .string (shortB x.f3 long), v4, .slice none 0 0] 26 (0, 0)) ∧ w.heap.size + 2 ≤ b ∧ W.heap[w.heap.size]? = some (.cells c 26 (0, 0)) ∧ (∃ c1, W.heap[w.heap.size + 1]? = some (.cells c1 26 (0, 0)) ∧ c1.size = 6) ∧
  Kd.string.R 9 W w.heap.size (fun k => w.heap.size ≤ k) v4 (textsL x.f4 64 long) ∧ Below w.heap.size w W

theorem keysR {w W w9 : World} {v4 : Value} {l : List ByteArray} (h : Kd.string.R 9 w9 W.heap.size (fun _ => True) v4 l) (hle : w.heap.size ≤ W.heap.size) : Kd.string.R 9 w9 w.heap.size (fun k => W.heap.size ≤ k) v4 l :=
  Kd.R_lower (Kd.R_mono (Kd.R_bound h) fun k hk => hk.2.1) hle
theorem cutS_a {w w9 : World} {R long left : Nat} {x : Nd} {v4 : Value} {c c1 : Array Value} {c1s : c1.size = 6} (hb : Below ((w.alloc (.cells c 26)).alloc (.cells c1 26)).drew.heap.size ((w.alloc (.cells c 26)).alloc (.cells c1 26)).drew w9)
    (hR : Kd.string.R 9 w9 ((w.alloc (.cells c 26)).alloc (.cells c1 26)).drew.heap.size (fun _ => True) v4 (textsL x.f4 64 long)) :
    CutS w R w9.heap.size long left x v4 c (w9.alloc (.cells #[.int .i64 x.f0, .int .i64 x.f1, .int .u64 x.f2, .string (shortB x.f3 long), v4, .slice none 0 0] 26)) := by
  have hs := hb.size
  have h2 : ((w.alloc (.cells c 26)).alloc (.cells c1 26)).drew.heap.size = w.heap.size + 2 := by simp
  rw [h2] at hs
  have hB : Below w.heap.size w w9 := (tb_below w _ _).trans (hb.mono (by rw [h2]; omega))
  refine ⟨heap_alloc_new _ _, by omega, ?_, ⟨c1, ?_, c1s⟩, ?_, hB.alloc hB.size _⟩
  · exact (Below.heap_alloc _ _ _ (by omega)).trans ((hb.block _ (by rw [h2]; omega)).trans (tb_heap0 _ _ _))
  · exact (Below.heap_alloc _ _ _ (by omega)).trans ((hb.block _ (by rw [h2]; omega)).trans (tb_heap1 _ _ _))
  · exact Kd.R_mono (Kd.R_below (keysR hR (by rw [h2]; omega)) ((Below.refl _ _).alloc (Nat.le_refl _) _)) (fun k hk => by rw [h2] at hk; omega)
theorem cutS_b {w w9 : World} {R long left : Nat} {x : Nd} {v4 : Value} {c c1 c2 : Array Value} {c1s : c1.size = 6} {c2s : c2.size = 6} (hb : Below (((w.alloc (.cells c 26)).alloc (.cells c1 26)).alloc (.cells c2 26)).drew.heap.size (((w.alloc (.cells c 26)).alloc (.cells c1 26)).alloc (.cells c2 26)).drew w9)
    (hR : Kd.string.R 9 w9 (((w.alloc (.cells c 26)).alloc (.cells c1 26)).alloc (.cells c2 26)).drew.heap.size (fun _ => True) v4 (textsL x.f4 64 long)) :
    CutS w R (w.heap.size + 1 + 1) long left x v4 c ((((((w9.setCell ⟨w.heap.size + 1 + 1, 0, none⟩ (.int .i64 x.f0)).setCell ⟨w.heap.size + 1 + 1, 1, none⟩ (.int .i64 x.f1)).setCell ⟨w.heap.size + 1 + 1, 2, none⟩ (.int .u64 x.f2)).setCell ⟨w.heap.size + 1 + 1, 3, none⟩ (.string (shortB x.f3 long))).setCell ⟨w.heap.size + 1 + 1, 4, none⟩ v4).setCell ⟨w.heap.size + 1 + 1, 5, none⟩ (.slice none 0 0)) := by
  have hs := hb.size
  have h2 : (((w.alloc (.cells c 26)).alloc (.cells c1 26)).alloc (.cells c2 26)).drew.heap.size = w.heap.size + 3 := by simp
  rw [h2] at hs
  have hB0 : Below w.heap.size w (((w.alloc (.cells c 26)).alloc (.cells c1 26)).alloc (.cells c2 26)).drew := ((((Below.refl _ _).alloc (Nat.le_refl _) _).alloc (by simp) _).alloc (by simp; omega) _).drew
  have hB : Below w.heap.size w w9 := hB0.trans (hb.mono (by rw [h2]; omega))
  have k0 : w9.heap[w.heap.size]? = some (.cells c 26 (0, 0)) := (hb.block _ (by rw [h2]; omega)).trans ((Below.heap_alloc _ _ _ (by simp; omega)).trans (tb_heap0 _ _ _))
  have k1 : w9.heap[w.heap.size + 1]? = some (.cells c1 26 (0, 0)) := (hb.block _ (by rw [h2]; omega)).trans ((Below.heap_alloc _ _ _ (by simp)).trans (tb_heap1 _ _ _))
  have k2 : w9.heap[w.heap.size + 1 + 1]? = some (.cells c2 26 (0, 0)) := (hb.block _ (by rw [h2]; omega)).trans (by
    have := heap_alloc_new ((w.alloc (.cells c 26)).alloc (.cells c1 26)) (.cells c2 26)
    rw [show ((w.alloc (.cells c 26)).alloc (.cells c1 26)).heap.size = w.heap.size + 1 + 1 from by simp] at this
    exact this)
  have far : ∀ (W : World) (j i : Nat) (u : Value), i ≠ w.heap.size + 1 + 1 → (W.setCell ⟨w.heap.size + 1 + 1, j, none⟩ u).heap[i]? = W.heap[i]? := fun W j i u h => Below.heap_setCell _ _ _ _ h
  have hRk := keysR (w := w) hR (by rw [h2]; omega)
  have hset : ∀ (W : World) (j : Nat) (u : Value), Kd.string.R 9 W w.heap.size (fun k => (((w.alloc (.cells c 26)).alloc (.cells c1 26)).alloc (.cells c2 26)).drew.heap.size ≤ k) v4 (textsL x.f4 64 long) → Kd.string.R 9 (W.setCell ⟨w.heap.size + 1 + 1, j, none⟩ u) w.heap.size (fun k => (((w.alloc (.cells c 26)).alloc (.cells c1 26)).alloc (.cells c2 26)).drew.heap.size ≤ k) v4 (textsL x.f4 64 long) := fun W j u h =>
    Kd.R_far (p := ⟨w.heap.size + 1 + 1, j, none⟩) h (fun k hk => by rw [h2] at hk; show k ≠ w.heap.size + 1 + 1; omega) u
  have bset : ∀ (W : World) (j : Nat) (u : Value), Below w.heap.size w W → Below w.heap.size w (W.setCell ⟨w.heap.size + 1 + 1, j, none⟩ u) := fun W j u h => h.setCell (by show w.heap.size ≤ w.heap.size + 1 + 1; omega) u
  refine ⟨?_, by omega, ?_, ⟨c1, ?_, c1s⟩, ?_, bset _ _ _ (bset _ _ _ (bset _ _ _ (bset _ _ _ (bset _ _ _ (bset _ _ _ hB)))))⟩
  · rw [heap_put (heap_put (heap_put (heap_put (heap_put (heap_put k2 0 _) 1 _) 2 _) 3 _) 4 _) 5 _]
    obtain ⟨l⟩ := c2
    obtain ⟨a0, a1, a2, a3, a4, a5, rfl⟩ : ∃ a0 a1 a2 a3 a4 a5, l = [a0, a1, a2, a3, a4, a5] := by
      match l, c2s with
      | [a0, a1, a2, a3, a4, a5], _ => exact ⟨a0, a1, a2, a3, a4, a5, rfl⟩
    rfl
  · rw [far, far, far, far, far, far] <;> first | exact k0 | omega
  · rw [far, far, far, far, far, far] <;> first | exact k1 | omega
  · exact Kd.R_mono (hset _ _ _ (hset _ _ _ (hset _ _ _ (hset _ _ _ (hset _ _ _ (hset _ _ _ hRk)))))) (fun k hk => by rw [h2] at hk; omega)

/-- Between two rounds. -/
def CutJ (w wc : World) (R long left : Nat) (x : Nd) (i lf : Nat) (v6 : Value) (dn : List Nd) (wr : World) : Prop :=
  wr.heap[R]? = some (.cells #[.int .i64 lf, .int .i64 long] 46 (0, 0)) ∧ kN.R 26 wr w.heap.size (fun k => wc.heap.size ≤ k) v6 dn ∧ dn ++ (cutFrom long lf x.f5 i).1 = (cutL long left x.f5).1 ∧ (cutFrom long lf x.f5 i).2 = (cutL long left x.f5).2 ∧
    dn.length + lf ≤ left ∧ wc.grownBy wr (some R)
theorem infoN : (Tryd.prog.info? 26).map (fun i => (i.zero, i.size, i.bytes)) = some (some (.agg #[.int .i64 0, .int .i64 0, .int .u64 0, .string ⟨#[]⟩, .slice none 0 0, .slice none 0 0]), 6, 88) := by kernel_rfl
theorem kN_pos : 0 < kN.sz := by decide
theorem cutN_le (long : Nat) (x : Nd) : ∀ left, (cutN long left x).2 ≤ left := by
  induction x using Nd.ind with
  | h x ih =>
    intro left
    rw [cutN_eq]
    have hall : ∀ l : List Nd, (∀ y ∈ l, y ∈ x.f5) → ∀ left, (cutL long left l).2 ≤ left := by
      intro l
      induction l with
      | nil => intro _ left; simp [cutL]
      | cons y l ihl =>
        intro hl left
        rw [cutL]
        split
        · omega
        · have h1 := ih y (hl y List.mem_cons_self) (left - 1)
          have h2 := ihl (fun z hz => hl z (List.mem_cons_of_mem _ hz)) (cutN long (left - 1) y).2
          simp only
          omega
    exact hall x.f5 (fun _ h => h) left
theorem cutJ_step {w wc wr w8 w1 : World} {R long left : Nat} {x : Nd} {i m : Nat} {v6 v1 : Value} {dn : List Nd} (HJ : CutJ w wc R long left x i (m + 1) v6 dn wr) (h1 : i < x.f5.length) (hRl : R < w.heap.size) (hw : w.heap.size ≤ wc.heap.size)
    (hr8 : w8.heap[R]? = some (.cells #[.int .i64 (cutN long m (rdN x.f5 i)).2, .int .i64 long] 46 (0, 0))) (hg8 : (wr.setCell ⟨R, 0, none⟩ (.int .i64 m)).grownBy w8 (some R)) (ho : kN.R 26 w1 w.heap.size (fun k => wc.heap.size ≤ k) v1 (dn ++ [(cutN long m (rdN x.f5 i)).1]))
    (hg : w8.grownBy w1 v6.ownBlock) : CutJ w wc R long left x (i + 1) (cutN long m (rdN x.f5 i)).2 v1 (dn ++ [(cutN long m (rdN x.f5 i)).1]) w1 := by
  obtain ⟨j0, j1, j2, j3, j4, j6⟩ := HJ
  have hle := cutN_le long (rdN x.f5 i) m
  have hst := cutFrom_step long m x.f5 i h1
  rw [rdN_at _ _ h1] at *
  rw [hst] at j2 j3
  have hv : ∀ k, v6.ownBlock = some k → wc.heap.size ≤ k := j1.1
  have hRv : some R ≠ v6.ownBlock := fun e => by have := hv R e.symm; omega
  refine ⟨(hg.block R (heap_lt' hr8) hRv).trans hr8, ho, ?_, j3, by rw [List.length_append, List.length_singleton]; omega, ?_⟩
  · rw [List.append_assoc]; exact j2
  · have hs1 : wr.heap.size = (wr.setCell ⟨R, 0, none⟩ (.int .i64 m)).heap.size := by simp [World.setCell]
    have z1 := j6.size
    have z2 := hg8.size
    refine ⟨hg.os.trans (hg8.os.trans j6.os), hg.tape.trans (hg8.tape.trans j6.tape), hg.output.trans (hg8.output.trans j6.output), by have := hg.size; omega, fun k hk hne => ?_⟩
    refine (hg.block k (by omega) (fun e => by have := hv k e.symm; omega)).trans ((hg8.block k (by omega) hne).trans ((Below.heap_setCell _ _ _ _ (fun e => hne (by rw [e]))).trans (j6.block k hk hne)))
theorem grown_set {a w : World} {g : Nat} (h : a.grownBy w (some g)) {p : Addr} (hp : a.heap.size ≤ p.block) (u : Value) : a.grownBy (w.setCell p u) (some g) :=
  ⟨h.os, h.tape, h.output, by simpa [World.setCell] using h.size, fun i hi hne => (Below.heap_setCell w p u i (by omega)).trans (h.block i hi hne)⟩
theorem grown_after {a b c : World} {g : Nat} (h : Below a.heap.size a b) (k : b.grownBy c (some g)) : a.grownBy c (some g) :=
  ⟨k.os.trans h.os, k.tape.trans h.tape, k.output.trans h.output, Nat.le_trans h.size k.size, fun i hi hne => (k.block i (Nat.lt_of_lt_of_le hi h.size) hne).trans (h.block i hi)⟩
theorem cutQ_of {w wc wr : World} {R long left : Nat} {x : Nd} {i lf b : Nat} {dn : List Nd} {A6 A7 : Option Addr} {c6 c7 n7 : Nat} (HJ : CutJ w wc R long left x i lf (.slice A6 dn.length c6) dn wr) (hend : cutFrom long lf x.f5 i = ([], lf))
    (hk : Kd.string.R 9 wc w.heap.size (fun k => w.heap.size ≤ k) (.slice A7 n7 c7) (textsL x.f4 64 long)) (hb : wc.heap[b]? = some (.cells #[.int .i64 x.f0, .int .i64 x.f1, .int .u64 x.f2, .string (shortB x.f3 long), (.slice A7 n7 c7), .slice none 0 0] 26 (0, 0)))
    {a : Array Value} (h4 : wc.heap[w.heap.size + 1]? = some (.cells a 26 (0, 0))) (hbl : w.heap.size + 2 ≤ b) (hRl : R < w.heap.size) (hB : Below w.heap.size w wc) (u0 u1 u2 u3 u4 u5 : Value) :
    CutQ w R long left x (.returned (.agg #[.int .i64 x.f0, .int .i64 x.f1, .int .u64 x.f2, .string (shortB x.f3 long), .slice A7 n7 c7, .slice A6 dn.length c6]))
      (((((((wr.setCell ⟨b, 5, none⟩ (.slice A6 dn.length c6)).setCell ⟨w.heap.size + 1, 0, none⟩ u0).setCell ⟨w.heap.size + 1, 1, none⟩ u1).setCell ⟨w.heap.size + 1, 2, none⟩ u2).setCell ⟨w.heap.size + 1, 3, none⟩ u3).setCell ⟨w.heap.size + 1, 4, none⟩ u4).setCell ⟨w.heap.size + 1, 5, none⟩ u5) := by
  obtain ⟨j0, j1, j2, j3, j4, j6⟩ := HJ
  have hbw := heap_lt' hb
  have hws := heap_lt' h4
  rw [hend] at j2 j3
  simp only [List.append_nil] at j2 j3
  have far : ∀ (W : World) (p : Addr) (u : Value), R ≠ p.block → (W.setCell p u).heap[R]? = W.heap[R]? := fun W p u h => Below.heap_setCell _ _ _ _ h
  refine ⟨[.int .i64 x.f0, .int .i64 x.f1, .int .u64 x.f2, .string (shortB x.f3 long), .slice A7 n7 c7, .slice A6 dn.length c6], rfl, ?_, ?_, ?_⟩
  · rw [cutN_eq, ← j2]
    have hk2 : Kd.string.R 9 wr w.heap.size (fun k => w.heap.size ≤ k) (.slice A7 n7 c7) (textsL x.f4 64 long) := Kd.R_grown hk j6 (fun k hk e => by injection e with e; omega)
    have hbr := (j6.block b hbw (by simp; omega)).trans hb
    have h4r := (j6.block _ hws (by simp; omega)).trans h4
    have hty : ∀ q, q ∈ 9 :: (Kd.string).E → q ≠ 26 := by intro q hq; simp [Kd.string, Kd.scalar] at hq; rw [hq]; decide
    have h4b : ∀ (cs : Array Value) (j : Nat) (u : Value) (W : World), W.heap[w.heap.size + 1]? = some (.cells cs 26 (0, 0)) → (W.setCell ⟨w.heap.size + 1, j, none⟩ u).heap[w.heap.size + 1]? = some (.cells (cs.setIfInBounds j u) 26 (0, 0)) := fun cs j u W h => heap_put h j u
    have k0 := Kd.R_set hk2 hbr hty 5 (.slice A6 dn.length c6)
    have m0 : (wr.setCell ⟨b, 5, none⟩ (.slice A6 dn.length c6)).heap[w.heap.size + 1]? = some (.cells a 26 (0, 0)) := (Below.heap_setCell _ _ _ _ (by show w.heap.size + 1 ≠ b; omega)).trans h4r
    have k1 := Kd.R_set k0 m0 hty 0 u0
    have m1 := h4b _ 0 u0 _ m0
    have k2 := Kd.R_set k1 m1 hty 1 u1
    have m2 := h4b _ 1 u1 _ m1
    have k3 := Kd.R_set k2 m2 hty 2 u2
    have m3 := h4b _ 2 u2 _ m2
    have k4 := Kd.R_set k3 m3 hty 3 u3
    have m4 := h4b _ 3 u3 _ m3
    have k5 := Kd.R_set k4 m4 hty 4 u4
    have m5 := h4b _ 4 u4 _ m4
    have k6 := Kd.R_set k5 m5 hty 5 u5
    have fr : ∀ (W : World) (j : Nat) (u : Value), kN.R 26 W w.heap.size (fun k => wc.heap.size ≤ k) (.slice A6 dn.length c6) dn → kN.R 26 (W.setCell ⟨w.heap.size + 1, j, none⟩ u) w.heap.size (fun k => wc.heap.size ≤ k) (.slice A6 dn.length c6) dn := fun W j u h => Kd.R_far (p := ⟨w.heap.size + 1, j, none⟩) h (fun k hk => by show k ≠ w.heap.size + 1; omega) u
    have q0 : kN.R 26 (wr.setCell ⟨b, 5, none⟩ (.slice A6 dn.length c6)) w.heap.size (fun k => wc.heap.size ≤ k) (.slice A6 dn.length c6) dn := Kd.R_far (p := ⟨b, 5, none⟩) j1 (fun k hk => by show k ≠ b; omega) _
    have q6 := fr _ 5 u5 (fr _ 4 u4 (fr _ 3 u3 (fr _ 2 u2 (fr _ 1 u1 (fr _ 0 u0 q0)))))
    exact kN_mkM _ _ _ ⟨x.f0, x.f1, x.f2, shortB x.f3 long, textsL x.f4 64 long, dn⟩ k6 (Kd.R_mono q6 (fun k hk => Nat.le_trans hB.size hk))
  · rw [far, far, far, far, far, far, far, j0, cutN_eq, ← j3] <;> first | omega | (show R ≠ b; omega) | (show R ≠ w.heap.size + 1; omega)
  · exact grown_set (grown_set (grown_set (grown_set (grown_set (grown_set (grown_set (grown_after hB j6) (by show _ ≤ b; omega) _) (by simp) _) (by simp) _) (by simp) _) (by simp) _) (by simp) _) (by simp) _
set_option maxRecDepth 100000 in
set_option maxHeartbeats 4000000 in
theorem cut_in (w0 : World) (long : Nat) (hlong : long ≤ 1048576) (x : Nd) : ∀ (cs : List Value) (left R : Nat) (w : World), kN.K w0 x cs → okN x → Below w0.heap.size w0 w → w0.heap.size ≤ R → left ≤ 1048576 →
    w.heap[R]? = some (.cells #[.int .i64 left, .int .i64 long] 46 (0, 0)) → 
    Calls Tryd.prog 12 #[.pointer (some ⟨R, 0, none⟩), .agg cs.toArray] w (CutQ w R long left x) := by
  induction x using Nd.ind with
  | h x ih =>
    intro cs left R w hK hok hB hR hleft hr
    obtain ⟨A4, c4, A5, c5, rfl, hl4, hC4, hl5, hC5⟩ := kN_open hK
    obtain ⟨hs3, hk4, hk4s, hm5, hokL⟩ := (okN_eq x).1 hok
    have hC4w : Kd.string.C w A4 x.f4.length x.f4 := Kd.C_below hC4 hB
    have HC4 := Aside0.mk hC4w
    have HC5 := Aside0.mk hC5
    have HB := Aside0.mk hB
    have Hk4s := Aside0.mk hk4s
    have hRl : R < w.heap.size := heap_lt' hr
    have r0 := cell_in hr 0
    have r1 := cell_in hr 1
    simp only [List.getElem?_toArray, List.getElem?_cons_zero, List.getElem?_cons_succ] at r0 r1
    have HR := Aside0.mk hr
    clear hC4 hC4w hC5 hB hk4s hr hK hokL
    go_enter Tryd.func12, Tryd.ntmps12
    go_upto_region 1 with fail
    go_cut [5] (fun s5 wx => ∃ b v4, s5 = .pointer (some ⟨b, 0, none⟩) ∧ CutS w R b long left x v4 #[.int .i64 x.f0, .int .i64 x.f1, .int .u64 x.f2, .string x.f3, .slice A4 x.f4.length c4, .slice A5 x.f5.length c5] wx)
    case first =>
      have hR2 : R < w.heap.size + 1 + 1 := by omega
      have hR3 : R < w.heap.size + 1 + 1 + 1 := by omega
      have hR2' : R < w.heap.size + 2 := by omega
      have hR3' : R < w.heap.size + 3 := by omega
      have := World.new_ne w _ r1
      go_region_held3 (fun w2 => w2.cell? ⟨w.heap.size, 0, none⟩ = some (.int .i64 x.f0) ∧ w2.cell? ⟨w.heap.size, 1, none⟩ = some (.int .i64 x.f1) ∧ w2.cell? ⟨w.heap.size, 2, none⟩ = some (.int .u64 x.f2) ∧ w2.cell? ⟨w.heap.size, 3, none⟩ = some (.string x.f3) ∧ w2.cell? ⟨w.heap.size, 4, none⟩ = some (.slice A4 x.f4.length c4) ∧ w2.cell? ⟨R, 1, none⟩ = some (.int .i64 long))
        ((refine ⟨?_, ?_, ?_, ?_, ?_, ?_⟩ <;> first | (go_keep; done) | ((rw [hc9 _ _ (by simp; omega)]); go_keep; done) | ((rw [hc9 _ _ (by simp)]); go_keep; done) | (with_reducible exact cell_alloc3 r1 _ _ _) | ((rw [World.cell?_alloc_lt _ _ _ (by simp; omega)]); (rw [hc9 _ _ (by simp; omega)]); go_keep; done) | ((with_reducible refine cell_set6 ?_ ?_ _ _ _ _ _ _); (first | (simp; done) | (simp; omega) | omega); (rw [hc9 _ _ (by simp <;> omega)]); (first | (go_keep; done) | (with_reducible exact cell_alloc3 r1 _ _ _))) | (trace_state; fail)))
        (first | (go_at_call 27; refine (short_c x.f3 long _ hs3 (by omega)).mono ?_; rintro e w' ⟨rfl, rfl⟩) | (go_at_call 28; refine (texts_c x.f4 A4 c4 64 long _ hk4 hl4 Hk4s.out (by omega) (by omega) ?_).mono ?_; (first | exact Kd.C_below HC4.out (tb_below _ _ _) | exact Kd.C_below HC4.out (tb_below3 _ _ _ _)); rintro e w9 ⟨v4, rfl, hR9, hb9⟩; obtain ⟨A9, d9, rfl⟩ := Kd.R_slice hR9; have HR9 := Aside0.mk hR9; clear hR9; obtain ⟨hc9, hf9⟩ := bcell hb9; (have hn9 : R ≠ w9.heap.size := by have := hb9.size; simp at this; omega); (have hn9' : R < w9.heap.size := by have := hb9.size; simp at this; omega); (have hz9 : w.heap.size + 1 < w9.heap.size := by have := hb9.size; simp at this; omega); have HB9 := Aside0.mk hb9; clear hb9))
      all_goals (go_wp2_with fail; go_meet)
      · exact ⟨_, _, rfl, cutS_a (c1s := rfl) HB9.out HR9.out⟩
      · exact ⟨_, _, rfl, cutS_b (c1s := rfl) (c2s := rfl) HB9.out HR9.out⟩
      · exact ⟨_, _, rfl, cutS_b (c1s := rfl) (c2s := rfl) HB9.out HR9.out⟩
    case rest =>
      obtain ⟨b, v4, rfl, hb, hbl, h3, ⟨c1, h4, hc1⟩, hR4, hBw⟩ := hcut
      obtain ⟨a0, a1, a2, a3, a4, a5, rfl⟩ : ∃ a0 a1 a2 a3 a4 a5, c1 = #[a0, a1, a2, a3, a4, a5] := by
        obtain ⟨l⟩ := c1
        match l, hc1 with
        | [a0, a1, a2, a3, a4, a5], _ => exact ⟨a0, a1, a2, a3, a4, a5, rfl⟩
      obtain ⟨A7, c7, rfl⟩ := Kd.R_slice hR4
      have hwc := hBw.size
      have hbc : b < wc.heap.size := heap_lt' hb
      have HS := Aside0.mk (And.intro hb (And.intro h3 (And.intro h4 hR4)))
      have HBw := Aside0.mk hBw
      have hRc : wc.heap[R]? = some (.cells #[.int .i64 left, .int .i64 long] 46 (0, 0)) := (hBw.block _ hRl).trans HR.out
      have HJ0 : Aside0 (CutJ w wc R long left x 0 left (.slice none 0 0) [] wc) := ⟨hRc, Kd.R_nil _ _ _ _ _, rfl, rfl, by simp, World.grownBy.refl _ _⟩
      clear hb h3 h4 hR4 hBw hRc r0 r1
      go_wp2_with fail
      go_loopw [6, 7] (fun v6 v7 wr => ∃ (i lf : Nat) (dn : List Nd), i ≤ x.f5.length ∧ v7 = .int .i64 i ∧ Aside0 (CutJ w wc R long left x i lf v6 dn wr)) (fun _ v7 _ => x.f5.length - (intOf v7).toNat)
      case atStart => exact ⟨0, left, [], by omega, rfl, HJ0⟩
      case round =>
        clear HJ0
        obtain ⟨i, lf, dn, hi, rfl, HJ⟩ := hrel
        obtain ⟨A6, c6, rfl⟩ := Kd.R_slice HJ.out.2.1
        have hr := HJ.out.1
        have hg := HJ.out.2.2.2.2.2
        have hlf := HJ.out.2.2.2.2.1
        have x3 := (hg.block _ (by omega) (by simp; omega)).trans HS.out.2.1
        have y5 := cell_in x3 5
        have r0 := cell_in hr 0
        simp only [List.getElem?_toArray, List.getElem?_cons_zero, List.getElem?_cons_succ] at y5 r0
        clear hr x3
        by_cases h1 : i < x.f5.length
        · cases lf with
          | zero =>
            have r0' : wr.cell? ⟨R, 0, none⟩ = some (.int .i64 0) := r0
            clear r0
            have hbr := (hg.block b (by omega) (by simp; omega)).trans HS.out.1
            have h4r := (hg.block _ (by omega) (by simp; omega)).trans HS.out.2.2.1
            have b0 := cell_in hbr 0
            have b1 := cell_in hbr 1
            have b2 := cell_in hbr 2
            have b3 := cell_in hbr 3
            have b4 := cell_in hbr 4
            have b5 := cell_in hbr 5
            have d0 := cell_in h4r 0
            have d1 := cell_in h4r 1
            have d2 := cell_in h4r 2
            have d3 := cell_in h4r 3
            have d4 := cell_in h4r 4
            have d5 := cell_in h4r 5
            have fb := fun j => heap_thawed hbr j
            have fd := fun j => heap_thawed h4r j
            simp only [List.getElem?_toArray, List.getElem?_cons_zero, List.getElem?_cons_succ] at b0 b1 b2 b3 b4 b5 d0 d1 d2 d3 d4 d5
            have hbne : b ≠ w.heap.size + 1 := by omega
            clear hg hbr h4r
            go_wp2_with fail
            refine bodyPost_ret (v := .agg #[.int .i64 x.f0, .int .i64 x.f1, .int .u64 x.f2, .string (shortB x.f3 long), .slice A7 (textsL x.f4 64 long).length c7, .slice A6 dn.length c6]) (by simp [results, Tryd.results12, go_sem, d0, d1, d2, d3, d4, d5, hbne, Ne.symm hbne]) rfl ?_
            exact cutQ_of HJ.out (cutFrom_zero _ _ _) HS.out.2.2.2 HS.out.1 HS.out.2.2.1 hbl hRl HBw.out _ _ _ _ _ _
          | succ m =>
            have r0' : wr.cell? ⟨R, 0, none⟩ = some (.int .i64 ((m : Int) + 1)) := r0
            have fR := heap_thawed HJ.out.1 0
            have hlt : (i : Int) < (x.f5.length : Int) := by omega
            have hi0 : (0 : Int) ≤ (i : Int) := by omega
            obtain ⟨ad, B4, e4, B5, e5, e, g0, g1, g2, g3, g4, g5, m4, G4, m5, G5⟩ := atN HC5.out i hi0 hlt
            cases e
            have hmem : rdN x.f5 (i : Int) ∈ x.f5 := rdN_mem x.f5 i hi0 hlt
            have hbw : Below w0.heap.size w0 wr := HB.out.trans ((HBw.out.mono HB.out.size).trans ⟨hg.os, hg.tape, hg.output, hg.size, fun k hk => hg.block k (by have := HB.out.size; omega) (by simp; omega)⟩)
            have tr : ∀ {a : Addr} {v : Value}, w0.cell? a = some v → (wr.setCell ⟨R, 0, none⟩ (.int .i64 m)).cell? a = some v := fun {a} {v} h => (World.cell?_setCell_other wr ⟨R, 0, none⟩ a _ (fun e => by have hl := World.block_lt_of_cell? w0 _ h; subst e; exact absurd hl (by show ¬ R < _; omega))).trans ((hbw.cell (World.block_lt_of_cell? w0 _ h)).trans h)
            replace g0 := tr g0
            replace g1 := tr g1
            replace g2 := tr g2
            replace g3 := tr g3
            replace g4 := tr g4
            replace g5 := tr g5
            have hcall := ih (rdN x.f5 (i : Int)) hmem _ m R (wr.setCell ⟨R, 0, none⟩ (.int .i64 m)) (kN_mk w0 (rdN x.f5 (i : Int)) m4 G4 m5 G5) (hok.mem hmem) (hbw.setCell hR _) hR (by omega) (by rw [heap_put HJ.out.1]; rfl)
            have HCALL := Aside0.mk hcall
            simp only [Int.toNat_natCast] at g0 g1 g2 g3 g4 g5
            clear hcall tr hbw m4 G4 m5 G5 ih hg
            go_wp2_with fail
            refine HCALL.out.mono ?_
            rintro e w8 ⟨cs8, rfl, hM8, hr8, hg8⟩
            obtain ⟨v8, v9, rfl, hk8, hk9⟩ := kN_openM hM8
            obtain ⟨A8, c8, rfl⟩ := Kd.R_slice hk8
            obtain ⟨A9, c9, rfl⟩ := Kd.R_slice hk9
            have hs1 : (wr.setCell ⟨R, 0, none⟩ (.int .i64 m)).heap.size = wr.heap.size := by simp [World.setCell]
            have hz8 := hg8.size
            have hzr := HJ.out.2.2.2.2.2.size
            rw [hs1] at hz8
            have hO8 : kN.R 26 w8 w.heap.size (fun k => wc.heap.size ≤ k) (.slice A6 dn.length c6) dn := Kd.R_grown (Kd.R_far (p := ⟨R, 0, none⟩) HJ.out.2.1 (fun k hk => by show k ≠ R; omega) _) hg8 (fun k hk e => by injection e with e; omega)
            have hv6 : ∀ k, (Value.slice A6 dn.length c6).ownBlock = some k → k < wr.heap.size := fun k hk => ((Kd.R_bound HJ.out.2.1).1 k hk).2.2.1
            have HO8 := Aside0.mk hO8
            have HV6 := Aside0.mk hv6
            have hM8' := kN.M_mono (ok' := fun k => wr.heap.size ≤ k) (fun k hk => by rw [hs1] at hk; exact hk) (kN.M_lower (base' := w.heap.size) (by omega) hM8)
            have HM8 := Aside0.mk hM8'
            have HR8 := Aside0.mk (And.intro hr8 hg8)
            clear hM8 hM8' hr8 hg8 hk8 hk9 hO8 hv6 hs1 HCALL g0 g1 g2 g3 g4 g5
            go_wp2_with (at_builtin; refine Kd.R_append kN (w0 := w8) w.heap.size rfl (.tmp 51) (.tmp 59) 24 26 _ 88 rfl Tryd.underlying24 infoN rfl kN_pos (by omega) (.slice A6 dn.length c6) dn (cutN long m (rdN x.f5 (i : Int))).1 _ (fun k => wc.heap.size ≤ k) (fun k => wr.heap.size ≤ k) rfl rfl ?aP ?aK ?aF ?aO ?aB ?aS ?aL ?_; (case aP => exact HM8.out); (case aK => exact fun k hk => ⟨by omega, fun e => by have := HV6.out k e.symm; omega⟩); (case aF => exact fun k hk => by omega); (case aO => exact HO8.out); (case aB => exact Below.refl _ _); (case aS => omega); (case aL => omega); intro v1 w1 ho hb hg9 hat; have HO9 := Aside0.mk ho; have HG9 := Aside0.mk hg9; clear ho hb hg9 hat)
            go_roundw
            case rel => exact ⟨i + 1, _, _, by omega, by go_num, ⟨cutJ_step HJ.out h1 hRl hwc HR8.out.1 HR8.out.2 HO9.out HG9.out⟩⟩
            case measure => simp [intOf]; omega
        · have h1' : decide ((i : Int) < (x.f5.length : Int)) = false := by simp; omega
          have hbr := (hg.block b (by omega) (by simp; omega)).trans HS.out.1
          have h4r := (hg.block _ (by omega) (by simp; omega)).trans HS.out.2.2.1
          have b0 := cell_in hbr 0
          have b1 := cell_in hbr 1
          have b2 := cell_in hbr 2
          have b3 := cell_in hbr 3
          have b4 := cell_in hbr 4
          have b5 := cell_in hbr 5
          have d0 := cell_in h4r 0
          have d1 := cell_in h4r 1
          have d2 := cell_in h4r 2
          have d3 := cell_in h4r 3
          have d4 := cell_in h4r 4
          have d5 := cell_in h4r 5
          have fb := fun j => heap_thawed hbr j
          have fd := fun j => heap_thawed h4r j
          simp only [List.getElem?_toArray, List.getElem?_cons_zero, List.getElem?_cons_succ] at b0 b1 b2 b3 b4 b5 d0 d1 d2 d3 d4 d5
          have hbne : b ≠ w.heap.size + 1 := by omega
          clear hg hbr h4r
          go_wp2_with fail
          refine bodyPost_ret (v := .agg #[.int .i64 x.f0, .int .i64 x.f1, .int .u64 x.f2, .string (shortB x.f3 long), .slice A7 (textsL x.f4 64 long).length c7, .slice A6 dn.length c6]) (by simp [results, Tryd.results12, go_sem, d0, d1, d2, d3, d4, d5, hbne, Ne.symm hbne]) rfl ?_
          exact cutQ_of HJ.out (cutFrom_end _ _ _ _ (by omega)) HS.out.2.2.2 HS.out.1 HS.out.2.2.1 hbl hRl HBw.out _ _ _ _ _ _
end Go.Proofs.YtloemnickbkonaaDoor
