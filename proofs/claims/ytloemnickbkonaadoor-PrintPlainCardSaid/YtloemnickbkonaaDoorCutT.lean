/- R.Cut: its contract. -/
import Derived.Test.YtloemnickbkonaaDoorCut
namespace Go.Proofs.YtloemnickbkonaaDoor
open Go.RowKit Go.Proofs.YtloemnickbkonaaDoorW.PrintWords Go.Proofs.YtloemnickbkonaaDoorW.PrintLast Go.Proofs.YtloemnickbkonaaDoorW.PrintMore
set_option linter.unusedVariables false
set_option linter.unusedSimpArgs false
/-- R.Cut. -/
def cutT (nodes long : Nat) (x : Nd) : Nd := (cutN long (nodes - 1) x).1
/-- A tree that the call made. -/
def MadeQ (x : Nd) (w : World) (e : Ending) (w' : World) : Prop := ∃ cs : List Value, e = .returned (.agg cs.toArray) ∧ kN.M w' w.heap.size (fun k => w.heap.size ≤ k) x cs ∧ Below w.heap.size w w'
theorem tb_heap1' (w : World) (o o' : Obj) : ((w.alloc o).alloc o').heap[w.heap.size + 1]? = some o' := tb_heap1 w o o'
theorem cutT_made {w w8 : World} {o o1 o2 : Obj} {x : Nd} {cs : List Value} (hM : kN.M w8 (((w.alloc o).alloc o1).alloc o2).heap.size (fun k => (((w.alloc o).alloc o1).alloc o2).heap.size ≤ k) x cs) (hg : (((w.alloc o).alloc o1).alloc o2).grownBy w8 (some (w.heap.size + 1 + 1))) (u0 u1 u2 u3 u4 u5 : Value) :
    MadeQ x w (.returned (.agg cs.toArray)) ((((((w8.setCell ⟨w.heap.size + 1, 0, none⟩ u0).setCell ⟨w.heap.size + 1, 1, none⟩ u1).setCell ⟨w.heap.size + 1, 2, none⟩ u2).setCell ⟨w.heap.size + 1, 3, none⟩ u3).setCell ⟨w.heap.size + 1, 4, none⟩ u4).setCell ⟨w.heap.size + 1, 5, none⟩ u5) := by
  have hsz : (((w.alloc o).alloc o1).alloc o2).heap.size = w.heap.size + 3 := by simp
  have hB : Below w.heap.size w (((w.alloc o).alloc o1).alloc o2) := (((Below.refl _ _).alloc (Nat.le_refl _) _).alloc (by simp) _).alloc (by simp; omega) _
  have hB8 : Below w.heap.size w w8 := ⟨hg.os.trans hB.os, hg.tape.trans hB.tape, hg.output.trans hB.output, Nat.le_trans hB.size hg.size, fun k hk => (hg.block k (by omega) (by simp; omega)).trans (hB.block k hk)⟩
  have bset : ∀ (W : World) (j : Nat) (u : Value), Below w.heap.size w W → Below w.heap.size w (W.setCell ⟨w.heap.size + 1, j, none⟩ u) := fun W j u h => h.setCell (by show w.heap.size ≤ w.heap.size + 1; omega) u
  have fr : ∀ (W : World) (j : Nat) (u : Value), kN.M W w.heap.size (fun k => w.heap.size + 3 ≤ k) x cs → kN.M (W.setCell ⟨w.heap.size + 1, j, none⟩ u) w.heap.size (fun k => w.heap.size + 3 ≤ k) x cs := fun W j u h => Kd.M_far (p := ⟨w.heap.size + 1, j, none⟩) h (fun k hk => by show k ≠ w.heap.size + 1; omega) u
  rw [hsz] at hM
  exact ⟨cs, rfl, kN.M_mono (fun k hk => by omega) (fr _ 5 u5 (fr _ 4 u4 (fr _ 3 u3 (fr _ 2 u2 (fr _ 1 u1 (fr _ 0 u0 (kN.M_lower (by omega) hM))))))), bset _ _ _ (bset _ _ _ (bset _ _ _ (bset _ _ _ (bset _ _ _ (bset _ _ _ hB8)))))⟩
set_option maxRecDepth 100000 in
set_option maxHeartbeats 1000000 in
theorem cut_c (x : Nd) (cs : List Value) (nodes long : Nat) (w : World) (hK : kN.K w x cs) (hok : okN x) (hn : 1 ≤ nodes) (hn2 : nodes ≤ 1048576) (hlong : long ≤ 1048576) :
    Calls Tryd.prog 5 #[.agg cs.toArray, .int .i64 nodes, .int .i64 long] w (MadeQ (cutT nodes long x) w) := by
  obtain ⟨m, rfl⟩ : ∃ m, nodes = m + 1 := ⟨nodes - 1, by omega⟩
  have h1 : ((m + 1 : Nat) : Int) = (m : Int) + 1 := rfl
  have hm : ((m : Int) + 1) - 1 = (m : Int) := by omega
  have hcall := cut_in w long hlong x cs m (w.heap.size + 1 + 1) (((w.alloc (.cells cs.toArray 26)).alloc (.cells #[.int .i64 0, .int .i64 0, .int .u64 0, .string ⟨#[]⟩, .slice none 0 0, .slice none 0 0] 26)).alloc (.cells #[.int .i64 m, .int .i64 long] 46)) hK hok
    ((((Below.refl _ _).alloc (Nat.le_refl _) _).alloc (by simp) _).alloc (by simp; omega) _) (by omega) (by omega) (by
      have := heap_alloc_new ((w.alloc (.cells cs.toArray 26)).alloc (.cells #[.int .i64 0, .int .i64 0, .int .u64 0, .string ⟨#[]⟩, .slice none 0 0, .slice none 0 0] 26)) (.cells #[.int .i64 m, .int .i64 long] 46)
      rw [show ((w.alloc (.cells cs.toArray 26)).alloc (.cells #[.int .i64 0, .int .i64 0, .int .u64 0, .string ⟨#[]⟩, .slice none 0 0, .slice none 0 0] 26)).heap.size = w.heap.size + 1 + 1 from by simp] at this
      exact this)
  obtain ⟨A4, c4, A5, c5, rfl, -, -, -, -⟩ := kN_open hK
  have HCALL := Aside0.mk hcall
  rw [h1]
  clear hcall hK hok h1
  go_enter Tryd.func5, Tryd.ntmps5
  go_wp2_with fail
  refine HCALL.out.mono ?_
  rintro e w8 ⟨cs8, rfl, hM8, hr8, hg8⟩
  obtain ⟨v8, v9, rfl, hk8, hk9⟩ := kN_openM hM8
  obtain ⟨A8, c8, rfl⟩ := Kd.R_slice hk8
  obtain ⟨A9, c9, rfl⟩ := Kd.R_slice hk9
  have hb1 := (hg8.block (w.heap.size + 1) (by simp) (by simp)).trans ((Below.heap_alloc _ _ _ (by simp)).trans (tb_heap1' _ _ _))
  have d0 := cell_in hb1 0
  have d1 := cell_in hb1 1
  have d2 := cell_in hb1 2
  have d3 := cell_in hb1 3
  have d4 := cell_in hb1 4
  have d5 := cell_in hb1 5
  have fd := fun j => heap_thawed hb1 j
  simp only [List.getElem?_toArray, List.getElem?_cons_zero, List.getElem?_cons_succ] at d0 d1 d2 d3 d4 d5
  have HK := Aside0.mk (And.intro hM8 (And.intro hg8 hb1))
  clear hM8 hr8 hg8 hk8 hk9 hb1 HCALL
  go_wp2_with fail
  refine bodyPost_ret (v := .agg #[.int .i64 (cutN long m x).1.f0, .int .i64 (cutN long m x).1.f1, .int .u64 (cutN long m x).1.f2, .string (cutN long m x).1.f3, .slice A8 (cutN long m x).1.f4.length c8, .slice A9 (cutN long m x).1.f5.length c9]) (by simp [results, Tryd.results5, go_sem, d0, d1, d2, d3, d4, d5]) rfl ?_
  exact cutT_made HK.out.1 HK.out.2.1 _ _ _ _ _ _
end Go.Proofs.YtloemnickbkonaaDoor
