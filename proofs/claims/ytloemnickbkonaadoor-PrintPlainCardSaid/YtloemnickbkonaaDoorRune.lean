/- A Builder's WriteRune, out of the shelf's contract of utf8.AppendRune. -/
import Derived.Test.YtloemnickbkonaaDoorBld
import Derived.Shelf.Strings.BuilderRune
namespace Go.Proofs.YtloemnickbkonaaDoor
open Go.RowKit Go.Shelf Go.Proofs.YtloemnickbkonaaDoorW.PrintWords Go.Proofs.YtloemnickbkonaaDoorW.PrintLast Go.Proofs.YtloemnickbkonaaDoorW.PrintMore
set_option linter.unusedVariables false
set_option linter.unusedSimpArgs false

def lays242_ren : Go.Shelf.Ren := ⟨fun | 242 => 54 | 278 => 67 | n => n, fun | 72 => 37 | 4 => 4 | 5 => 5 | 21 => 21 | 37 => 35 | 46 => 77 | 51 => 101 | n => n, fun | n => n⟩
theorem lays242 : Go.Proofs.Lays.n242 Tryd.prog lays242_ren := {
  mixed := by kernel_rfl
  f242 := Tryd.func54.trans (congrArg some (by kernel_rfl))
  f278 := Tryd.func67.trans (congrArg some (by kernel_rfl))
  t4 := Tryd.underlying4
  a4 := Tryd.isAgg4
  z4 := Tryd.sizeOf4
  v4 := Tryd.zeroValue4
  t5 := Tryd.underlying5
  a5 := Tryd.isAgg5
  z5 := Tryd.sizeOf5
  v5 := Tryd.zeroValue5
  t21 := Tryd.underlying21
  a21 := Tryd.isAgg21
  z21 := Tryd.sizeOf21
  v21 := Tryd.zeroValue21
  t37 := Tryd.underlying35
  a37 := Tryd.isAgg35
  z37 := Tryd.sizeOf35
  v37 := Tryd.zeroValue35
  t46 := Tryd.underlying77
  a46 := Tryd.isAgg77
  z46 := Tryd.sizeOf77
  v46 := Tryd.zeroValue77
  t51 := Tryd.underlying101
  a51 := Tryd.isAgg101
  z51 := Tryd.sizeOf101
  v51 := Tryd.zeroValue101 }
theorem bextra : Builder.Extra Tryd.prog lays242_ren where
  sizeBuilder := by kernel_rfl
  liesBuilder := by kernel_rfl
  t5 := Tryd.underlying5
  a5 := Tryd.isAgg5
  z5 := Tryd.sizeOf5
  v5 := Tryd.zeroValue5
  infoByte := by kernel_rfl
  cellsByte := by kernel_rfl
  sizeByte := by kernel_rfl
  neB5 := by decide
theorem appendRune_c (B : Nat) (v : Value) (n : Nat) (xs : List Value) (r : Int) (hr0 : -2147483648 ≤ r) (hr1 : r ≤ 2147483647) (w : World) (hown : w.ownsRowF B 5 1 v n xs) (hlen : n + 4 ≤ 140737488355328) (hBw : B ≤ w.heap.size) :
    Calls Tryd.prog 54 #[v, .int .i32 r] w fun e w' => ∃ v', e = .returned v' ∧ w'.ownsRowF B 5 1 v' (n + (Lib.runeCells r).length) (xs ++ Lib.runeCells r) ∧ ∃ o, (w.alloc o).grownBy w' v.ownBlock :=
  Any.utf8_AppendRune_own lays242 bextra B v n xs r hr0 hr1 w hown hlen hBw

set_option maxHeartbeats 1000000 in
set_option maxRecDepth 100000 in
/-- WriteRune. -/
theorem writeRune_c {base b o : Nat} {l : List UInt8} {cs : Array Value} {T : TypeId} {w : World} (r : Int) (h0 : 0 ≤ r) (h1 : r ≤ 2147483647) (h : Bld base b o (Lib.byteCells l) cs T w) (hT : BldT T cs.size o) (hlen : l.length + 4 ≤ 140737488355328) (hBw : base ≤ w.heap.size) :
    Calls Tryd.prog 42 #[.pointer (some ⟨b, o, none⟩), .int .i32 r] w fun e w' => (∃ n : Int, e = .returned (.tuple #[.int .i64 n, .nilIface])) ∧ ∃ cs', Bld base b o (Lib.byteCells (l ++ Lib.encodeRune r)) cs' T w' ∧ SameBut o cs cs' ∧ Below base w w' ∧ KeepW b w w' := by
  have hTn := hT.ne
  go_enter Tryd.func42, Tryd.ntmps42
  go_wp2_with (go_at_call 37; refine (copyCheck_c h hT).mono ?_)
  rintro e w1 ⟨rfl, cs1, ⟨hB, hb, p, v, h0', h1', hp, hown, hne⟩, hs1, hb1, hk1⟩
  obtain ⟨A, c, rfl⟩ := own_len hown
  have c1 : w1.cell? ⟨b, o + 1, none⟩ = some (.slice A (Lib.byteCells l).length c) := by rw [heap_cell hb, h1']
  rw [Lib.byteCells_length] at c1 hown
  rw [Lib.byteCells_length] at h1' hne
  have HB := Aside0.mk hb
  have HS := Aside0.mk hs1
  have HP := Aside0.mk hp
  have HB1 := Aside0.mk hb1
  have HK1 := Aside0.mk hk1
  have H0 := Aside0.mk h0'
  have H1 := Aside0.mk h1'
  have HO := Aside0.mk hown
  have hsz : base ≤ w1.heap.size := Nat.le_trans hBw hb1.size
  clear hb hs1 hp hb1 hk1 h0' h1' h hT hown
  go_wp2_with (go_at_call 54; refine (appendRune_c base _ l.length _ r (by omega) (by omega) _ HO.out (by omega) hsz).mono ?_)
  rintro e w2 ⟨v', rfl, hown', ob, hg⟩
  have hlt := heap_lt' HB.out
  have hb2 : w2.heap[b]? = some (.cells cs1 T (0, 0)) := by
    rw [hg.block b (by simp; omega) (fun e => hne e.symm), Lib.alloc_old w1 _ b hlt]
    exact HB.out
  have hb2' : Below base w w2 := (HB1.out.alloc hsz _).grown hg (by simp; omega) (fun k hk => (HO.out.lt k hk).1)
  have d1 : w2.cell? ⟨b, o + 1, none⟩ = some (.slice A l.length c) := by rw [heap_cell hb2, H1.out]
  have f1 : w2.frozen? ⟨b, o + 1, none⟩ = false := heap_thawed hb2 _
  have hne' := Lib.ownBlock_neF hown' hb2 hTn
  obtain ⟨ao, cap, rfl⟩ := own_len hown'
  have HO' := Aside0.mk hown'
  clear hown'
  go_wp2
  go_ret2
  refine ⟨⟨_, rfl⟩, cs1.setIfInBounds (o + 1) _, ⟨hB, heap_put hb2 _ _, p, _, by rw [get_set_other (by omega)]; exact H0.out, get_set_same H1.out, HP.out, ?_, hne'⟩, HS.out.trans (SameBut.set1 _ _ _), hb2'.setCell (p := ⟨b, o + 1, none⟩) hB _, ((HK1.out.alloc _).grown hg (HO.out.alloc _)).setCell _ _⟩
  have he : Lib.byteCells (l ++ Lib.encodeRune r) = Lib.byteCells l ++ Lib.runeCells r := by rw [← Lib.byteCells_encodeRune]; simp [Lib.byteCells]
  have hl : (Lib.byteCells (l ++ Lib.encodeRune r)).length = l.length + (Lib.runeCells r).length := by rw [he]; simp [Lib.byteCells_length]
  rw [hl, he]
  exact own_put HO'.out hne'
end Go.Proofs.YtloemnickbkonaaDoor
