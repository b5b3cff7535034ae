/- strings.Builder at any place: alone in a block, or a field of a struct (its first cell at offset o of block b). The contracts of copyCheck, WriteString, WriteByte, Len, String. -/
import Derived.Test.YtloemnickbkonaaDoorKinds
import Derived.WalkKit
import Derived.WalkLawsBesides
import Derived.WalkSpells
import Derived.OwnWalk
import Derived.Deep.QuietTactic
import Derived.BigQuiet
import Derived.Lib.Hide
import Derived.Outline
import Derived.RegionTactic
import Derived.Lib.Builder
import Derived.Lib.FrozenHead2
import Derived.Lib.AppendStr
import Derived.Lib.UnsafeStr
namespace Go.Proofs.YtloemnickbkonaaDoor
open Go.RowKit Go.Proofs.YtloemnickbkonaaDoorW.PrintWords Go.Proofs.YtloemnickbkonaaDoorW.PrintLast Go.Proofs.YtloemnickbkonaaDoorW.PrintMore
set_option linter.unusedVariables false
set_option linter.unusedSimpArgs false

/-- A block of n cells of type T bears a Builder at offset o. -/
structure BldT (T n o : Nat) : Prop where
  lies : liesAt Tryd.prog Tryd.prog.depth T (n / Tryd.prog.cellsOf T) o 37 1 = true
  ne : T ≠ 5
  room : o + 1 < n

/-- The Builder at offset o of block b holds the bytes bs; cs are the block's cells. -/
def Bld (base b o : Nat) (bs : List Value) (cs : Array Value) (T : TypeId) (w : World) : Prop :=
  base ≤ b ∧ w.heap[b]? = some (.cells cs T (0, 0)) ∧ ∃ p v, cs[o]? = some p ∧ cs[o + 1]? = some v ∧ (p = .pointer none ∨ p = .pointer (some ⟨b, o, none⟩)) ∧ w.ownsRowF base 5 1 v bs.length bs ∧ v.ownBlock ≠ some b

/-- All cells but the Builder's two. -/
def SameBut (o : Nat) (cs cs' : Array Value) : Prop := cs'.size = cs.size ∧ ∀ j, j ≠ o → j ≠ o + 1 → cs'[j]? = cs[j]?
theorem SameBut.refl (o : Nat) (cs : Array Value) : SameBut o cs cs := ⟨rfl, fun _ _ _ => rfl⟩
theorem SameBut.trans {o : Nat} {a b c : Array Value} (h : SameBut o a b) (k : SameBut o b c) : SameBut o a c := ⟨k.1.trans h.1, fun j h1 h2 => (k.2 j h1 h2).trans (h.2 j h1 h2)⟩
theorem SameBut.set0 (o : Nat) (cs : Array Value) (v : Value) : SameBut o cs (cs.setIfInBounds o v) := ⟨by simp, fun j h1 _ => by rw [Array.getElem?_setIfInBounds]; simp [Ne.symm h1]⟩
theorem SameBut.set1 (o : Nat) (cs : Array Value) (v : Value) : SameBut o cs (cs.setIfInBounds (o + 1) v) := ⟨by simp, fun j _ h2 => by rw [Array.getElem?_setIfInBounds]; simp [Ne.symm h2]⟩

theorem info_byte : (Tryd.prog.info? 5).map (fun i => (i.zero, i.size, i.bytes)) = some (some (.int .u8 0), 1, 1) := by kernel_rfl
theorem info_builder : (Tryd.prog.info? 37).map (fun i => i.size) = some 2 := by kernel_rfl
theorem cells_byte : Tryd.prog.cellsOf 5 = 1 := by kernel_rfl
theorem heap_cell {w : World} {b : Nat} {cs : Array Value} {T : TypeId} {fr : Nat × Nat} (hb : w.heap[b]? = some (.cells cs T fr)) (j : Nat) : w.cell? ⟨b, j, none⟩ = cs[j]? := by simp [World.cell?, hb]
theorem heap_thawed {w : World} {b : Nat} {cs : Array Value} {T : TypeId} (hb : w.heap[b]? = some (.cells cs T (0, 0))) (j : Nat) : w.frozen? ⟨b, j, none⟩ = false := by simp [World.frozen?, hb]
theorem heap_put {w : World} {b : Nat} {cs : Array Value} {T : TypeId} (hb : w.heap[b]? = some (.cells cs T (0, 0))) (j : Nat) (v : Value) : (w.setCell ⟨b, j, none⟩ v).heap[b]? = some (.cells (cs.setIfInBounds j v) T (0, 0)) := by
  simp [World.setCell, Array.getElem?_modify, hb]
theorem own_put {w : World} {base b j : Nat} {e : TypeId} {v u : Value} {n : Nat} {xs : List Value} (h : w.ownsRowF base e 1 v n xs) (hne : v.ownBlock ≠ some b) : (w.setCell ⟨b, j, none⟩ u).ownsRowF base e 1 v n xs :=
  h.kept (row := some b) ⟨rfl, rfl, rfl, by simp [World.setCell], fun k _ hk => Below.heap_setCell _ _ _ _ (fun e => hk (by simp [e]))⟩ (Or.inr hne)
theorem heap_lt' {w : World} {b : Nat} {o : Obj} (hb : w.heap[b]? = some o) : b < w.heap.size := (Array.getElem?_eq_some_iff.1 hb).1

theorem get_set_same {cs : Array Value} {j : Nat} {u v : Value} (h : cs[j]? = some u) : (cs.setIfInBounds j v)[j]? = some v := by
  have := (Array.getElem?_eq_some_iff.1 h).1
  rw [Array.getElem?_setIfInBounds]; simp [this]
theorem get_set_other {cs : Array Value} {i j : Nat} {v : Value} (h : i ≠ j) : (cs.setIfInBounds i v)[j]? = cs[j]? := by rw [Array.getElem?_setIfInBounds]; simp [h]

/-- An object that is no row of bytes. -/
def NoByte (o : Obj) : Prop := ∀ c fr, o ≠ .cells c 5 fr
/-- Whatever is no row of bytes stays, but for block b. -/
def KeepW (b : Nat) (W W' : World) : Prop := ∀ k o, W.heap[k]? = some o → k ≠ b → NoByte o → W'.heap[k]? = some o
theorem KeepW.refl (b : Nat) (W : World) : KeepW b W W := fun _ _ h _ _ => h
theorem KeepW.trans {b : Nat} {A B C : World} (h : KeepW b A B) (k : KeepW b B C) : KeepW b A C := fun i o hi hb hn => k i o (h i o hi hb hn) hb hn
theorem KeepW.below {b : Nat} {A B C : World} (h : KeepW b A B) (k : Below B.heap.size B C) : KeepW b A C := fun i o hi hb hn => (k.block i (heap_lt' (h i o hi hb hn))).trans (h i o hi hb hn)
theorem KeepW.alloc {b : Nat} {A B : World} (h : KeepW b A B) (o : Obj) : KeepW b A (B.alloc o) := h.below ((Below.refl _ _).alloc (Nat.le_refl _) _)
theorem KeepW.setCell {b : Nat} {A B : World} (h : KeepW b A B) (j : Nat) (v : Value) : KeepW b A (B.setCell ⟨b, j, none⟩ v) := fun i o hi hb hn => (Below.heap_setCell _ _ _ _ (fun e => hb e)).trans (h i o hi hb hn)
theorem KeepW.grown {b base n : Nat} {A B C : World} {v : Value} {xs : List Value} (h : KeepW b A B) (hg : B.grownBy C v.ownBlock) (hown : B.ownsRowF base 5 1 v n xs) : KeepW b A C := fun i o hi hb hn => by
  have hB := h i o hi hb hn
  refine (hg.block i (heap_lt' hB) (fun e => ?_)).trans hB
  rcases hown.2 with ⟨rfl, _⟩ | ⟨g, cap, cur, fz, rfl, _, hgg, _⟩
  · simp [Value.ownBlock] at e
  · simp [Value.ownBlock] at e
    subst e
    rw [hgg] at hB
    cases hB
    exact hn _ _ rfl
theorem KeepW.drew {b : Nat} {A B : World} (h : KeepW b A B) : KeepW b A B.drew := h
theorem KeepW.freeze {b g : Nat} {A B : World} {cur : Array Value} {fz : Nat × Nat} (h : KeepW b A B) (hg : B.heap[g]? = some (.cells cur 5 fz)) (n : Nat) : KeepW b A (B.freeze ⟨g, 0, none⟩ n) := fun i o hi hb hn => by
  have hB := h i o hi hb hn
  by_cases e : i = g
  · subst e; rw [hg] at hB; cases hB; exact absurd rfl (hn _ _)
  · rw [← hB]
    unfold World.freeze
    split
    · rfl
    · simp [Array.getElem?_modify, Ne.symm e]

set_option maxHeartbeats 1000000 in
set_option maxRecDepth 100000 in
theorem copyCheck_used (b o : Nat) (w : World) (h0 : w.cell? ⟨b, o, none⟩ = some (.pointer (some ⟨b, o, none⟩))) :
    Calls Tryd.prog 37 #[.pointer (some ⟨b, o, none⟩)] w fun e w' => e = .returned (.tuple #[]) ∧ w = w' := by
  obtain ⟨j, hj, hjs⟩ := Option.map_eq_some_iff.1 info_builder
  go_enter Tryd.func37, Tryd.ntmps37
  go_wp2
  rw [Lib.run_neq_ptr_same w _ Tryd.underlying34 hj]
  go_wp2
  go_end0
  exact ⟨rfl, rfl⟩

set_option maxHeartbeats 1000000 in
set_option maxRecDepth 100000 in
theorem copyCheck_fresh (b o n : Nat) (T : TypeId) (w : World) (h0 : w.cell? ⟨b, o, none⟩ = some (.pointer none)) (hsh : w.shape? b = some (T, n)) (hT : BldT T n o) (hfz : w.frozen? ⟨b, o, none⟩ = false) :
    Calls Tryd.prog 37 #[.pointer (some ⟨b, o, none⟩)] w fun e w' => e = .returned (.tuple #[]) ∧ w' = w.setCell ⟨b, o, none⟩ (.pointer (some ⟨b, o, none⟩)) := by
  obtain ⟨j, hj, hjs⟩ := Option.map_eq_some_iff.1 info_builder
  have H1 := Lib.hid (Lib.run_to_unsafe w ⟨b, o, none⟩ Tryd.underlying34 Tryd.underlying85 hj (by rw [hjs]; decide) hsh (show o < n from by have := hT.room; omega))
  have H2 := Lib.hid (Lib.run_from_unsafe w ⟨b, o, none⟩ Tryd.underlying85 Tryd.underlying34 hj hsh hT.lies)
  clear hsh hT hj hjs
  go_enter Tryd.func37, Tryd.ntmps37
  go_wp2
  rw [H1.out]
  simp only [Result.andThen]
  rw [Oper.upon_value]
  go_wp2
  rw [run_callFunc_extern Tryd.func47 (by kernel_rfl) (by kernel_rfl) (by kernel_rfl) (e := Extern.AbiNoEscape.same) (by kernel_rfl)]
  rw [Lib.run_noEscape]
  simp only [Result.andThen]
  rw [Oper.upon_value]
  go_wp2
  rw [H2.out]
  simp only [Result.andThen]
  rw [Oper.upon_value]
  go_wp2
  go_end0
  exact ⟨rfl, rfl⟩

theorem copyCheck_c {base b o : Nat} {bs : List Value} {cs : Array Value} {T : TypeId} {w : World} (h : Bld base b o bs cs T w) (hT : BldT T cs.size o) :
    Calls Tryd.prog 37 #[.pointer (some ⟨b, o, none⟩)] w fun e w' => e = .returned (.tuple #[]) ∧ ∃ cs', Bld base b o bs cs' T w' ∧ SameBut o cs cs' ∧ Below base w w' ∧ KeepW b w w' := by
  obtain ⟨hB, hb, p, v, h0, h1, hp, hown, hne⟩ := h
  rcases hp with rfl | rfl
  · refine (copyCheck_fresh b o cs.size T w (by rw [heap_cell hb, h0]) (by simp [World.shape?, hb]) hT (heap_thawed hb _)).mono ?_
    rintro e w' ⟨rfl, rfl⟩
    refine ⟨rfl, _, ⟨hB, heap_put hb _ _, _, v, get_set_same h0, by rw [get_set_other (by omega)]; exact h1, .inr rfl, own_put hown hne, hne⟩, SameBut.set0 _ _ _, (Below.refl _ _).setCell (p := ⟨b, o, none⟩) hB _, (KeepW.refl _ _).setCell _ _⟩
  · refine (copyCheck_used b o w (by rw [heap_cell hb, h0])).mono ?_
    rintro e w' ⟨rfl, rfl⟩
    exact ⟨rfl, cs, ⟨hB, hb, _, v, h0, h1, .inr rfl, hown, hne⟩, SameBut.refl _ _, Below.refl _ _, KeepW.refl _ _⟩

set_option maxHeartbeats 1000000 in
set_option maxRecDepth 100000 in
/-- WriteString. -/
theorem writeString_c {base b o : Nat} {bs : List Value} {cs : Array Value} {T : TypeId} {w : World} (s : ByteArray) (h : Bld base b o bs cs T w) (hT : BldT T cs.size o) (hlen : bs.length + s.size ≤ 140737488355328) (hBw : base ≤ w.heap.size) :
    Calls Tryd.prog 20 #[.pointer (some ⟨b, o, none⟩), .string s] w fun e w' => e = .returned (.tuple #[.int .i64 s.size, .nilIface]) ∧ ∃ cs', Bld base b o (bs ++ Lib.strCells s) cs' T w' ∧ SameBut o cs cs' ∧ Below base w w' ∧ KeepW b w w' := by
  have hTn := hT.ne
  obtain ⟨i0, hi, hz0, hz1, hz2⟩ := info_parts info_byte
  go_enter Tryd.func20, Tryd.ntmps20
  go_wp2_with (go_at_call 37; refine (copyCheck_c h hT).mono ?_)
  rintro e w1 ⟨rfl, cs1, ⟨hB, hb, p, v, h0, h1, hp, hown, hne⟩, hs1, hb1, hk1⟩
  have c1 : w1.cell? ⟨b, o + 1, none⟩ = some v := by rw [heap_cell hb, h1]
  have HB := Aside0.mk hb
  have HOW := Aside0.mk hown
  have HS := Aside0.mk hs1
  have HP := Aside0.mk hp
  have HB1 := Aside0.mk hb1
  have HK1 := Aside0.mk hk1
  have H0 := Aside0.mk h0
  have H1 := Aside0.mk h1
  clear hb hs1 hp hb1 hk1 h0 h1 h hT
  go_wp2_with (at_builtin; refine Lib.wpList_append_own_stringF _ rfl _ _ 35 9 rfl base 5 i0 Tryd.underlying35 Tryd.underlying9 hi hz0 hz1 hz2 _ _ _ rfl hown s rfl ?c3 ?c4 ?c5 ?_)
  case c3 => unfold maxLen; omega
  case c4 => omega
  case c5 => have := HB1.out.size; omega
  intro v' w2 hown' hgrow _
  have hb2 : w2.heap[b]? = some (.cells cs1 T (0, 0)) := by
    rw [hgrow.block b (heap_lt' HB.out) (fun e => hne e.symm)]
    exact HB.out
  have d1 : w2.cell? ⟨b, o + 1, none⟩ = some v := by rw [heap_cell hb2, H1.out]
  have f1 : w2.frozen? ⟨b, o + 1, none⟩ = false := heap_thawed hb2 _
  obtain ⟨ao, n', cap, rfl⟩ : ∃ ao n' cap, v' = .slice ao n' cap := by
    rcases hown'.2 with ⟨hv, _⟩ | ⟨g, cap, cur, fz, hv, _⟩
    · exact ⟨_, _, _, hv⟩
    · exact ⟨_, _, _, hv⟩
  go_wp2
  go_ret2
  refine ⟨rfl, cs1.setIfInBounds (o + 1) (.slice ao n' cap), ⟨hB, heap_put hb2 _ _, p, _, ?_, get_set_same H1.out, HP.out, own_put (by simpa [Lib.strCells_length] using hown') ?_, ?_⟩, HS.out.trans (SameBut.set1 _ _ _), ?_, (HK1.out.grown hgrow HOW.out).setCell _ _⟩
  · rw [get_set_other (by omega)]; exact H0.out
  · exact Lib.ownBlock_neF hown' hb2 hTn
  · exact Lib.ownBlock_neF hown' hb2 hTn
  · exact (HB1.out.grown hgrow (by have := HB1.out.size; omega) (fun k hk => (hown.lt k hk).1)).setCell (p := ⟨b, o + 1, none⟩) hB _

theorem own_len {w : World} {base n : Nat} {e : TypeId} {v : Value} {xs : List Value} (h : w.ownsRowF base e 1 v n xs) : ∃ A c, v = .slice A n c := by
  rcases h.2 with ⟨rfl, rfl⟩ | ⟨g, cap, cur, fz, rfl, _⟩
  · exact ⟨_, _, rfl⟩
  · exact ⟨_, _, rfl⟩

set_option maxHeartbeats 1000000 in
set_option maxRecDepth 100000 in
/-- Len. -/
theorem len_c {base b o : Nat} {bs : List Value} {cs : Array Value} {T : TypeId} {w : World} (h : Bld base b o bs cs T w) :
    Calls Tryd.prog 9 #[.pointer (some ⟨b, o, none⟩)] w fun e w' => e = .returned (.int .i64 bs.length) ∧ w = w' := by
  obtain ⟨hB, hb, p, v, h0, h1, hp, hown, hne⟩ := h
  obtain ⟨A, c, rfl⟩ := own_len hown
  have c1 : w.cell? ⟨b, o + 1, none⟩ = some (.slice A bs.length c) := by rw [heap_cell hb, h1]
  clear h1 hb hp h0 hown hne
  go_enter Tryd.func9, Tryd.ntmps9
  go_wp2
  go_ret
  exact ⟨rfl, rfl⟩

set_option maxHeartbeats 1000000 in
set_option maxRecDepth 100000 in
/-- WriteByte. -/
theorem writeByte_c {base b o : Nat} {bs : List Value} {cs : Array Value} {T : TypeId} {w : World} (x : Int) (h : Bld base b o bs cs T w) (hT : BldT T cs.size o) (hlen : bs.length + 1 ≤ 140737488355328) (hBw : base ≤ w.heap.size) :
    Calls Tryd.prog 43 #[.pointer (some ⟨b, o, none⟩), .int .u8 x] w fun e w' => e = .returned (.nilIface) ∧ ∃ cs', Bld base b o (bs ++ [.int .u8 x]) cs' T w' ∧ SameBut o cs cs' ∧ Below base w w' ∧ KeepW b w w' := by
  have hTn := hT.ne
  obtain ⟨i0, hi, hz0, hz1, hz2⟩ := info_parts info_byte
  go_enter Tryd.func43, Tryd.ntmps43
  go_wp2_with (go_at_call 37; refine (copyCheck_c h hT).mono ?_)
  rintro e w1 ⟨rfl, cs1, ⟨hB, hb, p, v, h0, h1, hp, hown, hne⟩, hs1, hb1, hk1⟩
  have c1 : w1.cell? ⟨b, o + 1, none⟩ = some v := by rw [heap_cell hb, h1]
  have HB := Aside0.mk hb
  have HOW := Aside0.mk hown
  have HS := Aside0.mk hs1
  have HP := Aside0.mk hp
  have HB1 := Aside0.mk hb1
  have HK1 := Aside0.mk hk1
  have H0 := Aside0.mk h0
  have H1 := Aside0.mk h1
  have hsz : base ≤ w1.heap.size := Nat.le_trans hBw hb1.size
  clear hb hs1 hp hb1 hk1 h0 h1 h hT
  go_wp2_with (at_builtin; refine wpList_append_ownF _ rfl _ _ 35 rfl base 5 i0 (.int .u8 0) 1 1 Tryd.underlying35 hi hz0 hz1 hz2 rfl (by decide) _ _ _ rfl (hown.alloc _) ⟨w1.heap.size, 0, none⟩ 1 1 [.int .u8 x] rfl rfl ?c1 ?c2 ?c3 ?c4 ?c5 ?_)
  case c1 =>
    intro j u hj
    match j, hj with
    | 0, hj => simp at hj; subst hj; simp [Addr.add]
  case c2 => intro u hu; simp at hu; subst hu; rfl
  case c3 => unfold maxLen; omega
  case c4 => omega
  case c5 => simp; omega
  intro v' w2 hown' hgrow _
  have hb2' : Below base w w2 := (HB1.out.alloc hsz _).grown hgrow (by simp; omega) (fun k hk => (hown.lt k hk).1)
  have hb2 : w2.heap[b]? = some (.cells cs1 T (0, 0)) := by
    have hlt := heap_lt' HB.out
    rw [hgrow.block b (by simp; omega) (fun e => hne e.symm), Lib.alloc_old w1 _ b hlt]
    exact HB.out
  have d1 : w2.cell? ⟨b, o + 1, none⟩ = some v := by rw [heap_cell hb2, H1.out]
  have f1 : w2.frozen? ⟨b, o + 1, none⟩ = false := heap_thawed hb2 _
  obtain ⟨ao, cap, rfl⟩ := own_len hown'
  have hne' := Lib.ownBlock_neF hown' hb2 hTn
  go_wp2
  go_ret
  exact ⟨rfl, cs1.setIfInBounds (o + 1) _, ⟨hB, heap_put hb2 _ _, p, _, by rw [get_set_other (by omega)]; exact H0.out, get_set_same H1.out, HP.out, (by simpa using own_put (j := o + 1) (u := .slice ao (bs.length + [Value.int .u8 x].length) cap) hown' hne'), hne'⟩, HS.out.trans (SameBut.set1 _ _ _), hb2'.setCell (p := ⟨b, o + 1, none⟩) hB _, ((HK1.out.alloc _).grown hgrow (HOW.out.alloc _)).setCell _ _⟩

theorem unsafe_none (W : World) (q : Option Addr) : (Builtin.unsafeString_ #[66, 3] 9 #[.pointer q, .int .i64 0]).run Tryd.prog W = .ok (.string .empty) W := Lib.run_unsafeString_none W _ _ _ q

set_option maxHeartbeats 2000000 in
set_option maxRecDepth 100000 in
theorem string_some {base b o g cap : Nat} {cur : Array Value} {fz : Nat × Nat} {l : List UInt8} {w : World} (h0 : l ≠ []) (hc : w.cell? ⟨b, o + 1, none⟩ = some (.slice (some ⟨g, 0, none⟩) l.length cap)) (hbg : base ≤ g) (hg : w.heap[g]? = some (.cells cur 5 fz))
    (hnc : l.length ≤ cap) (hcm : cap ≤ maxLen) (hcs : cur.size = cap * 1) (hcell : ∀ j u, (Lib.byteCells l)[j]? = some u → w.cell? ((⟨g, 0, none⟩ : Addr).add j) = some u) :
    Calls Tryd.prog 11 #[.pointer (some ⟨b, o, none⟩)] w fun e w' => e = .returned (.string ⟨l.toArray⟩) ∧ Below base w w' ∧ KeepW b w w' := by
  have hl0 : l.length ≠ 0 := by simpa using h0
  have HG := Aside0.mk hg
  have c1 : w.drew.cell? ⟨b, o + 1, none⟩ = some (.slice (some ⟨g, 0, none⟩) l.length cap) := hc
  have hSD : (Builtin.unsafeSliceData_ #[35] 66 #[.slice (some ⟨g, 0, none⟩) l.length cap]).run Tryd.prog w.drew = .ok (.pointer (some ⟨g, 0, none⟩)) w.drew :=
    Lib.run_unsafeSliceData_row _ _ _ _ _ _ (by omega)
  have hUS : (Builtin.unsafeString_ #[66, 3] 9 #[.pointer (some ⟨g, 0, none⟩), .int .i64 l.length]).run Tryd.prog w.drew = .ok (.string ⟨l.toArray⟩) (w.drew.freeze ⟨g, 0, none⟩ l.length) := by
    refine Lib.run_unsafeString_row w.drew 66 3 9 5 Tryd.underlying66 cells_byte g cur.size (by have hg' : w.drew.heap[g]? = some (.cells cur 5 fz) := hg; simp [World.shape?, hg']) l h0 (by omega) (by unfold maxLen at hcm; omega) ?_
    intro j x hx
    exact hcell j (.int .u8 x.toNat) (by simp [Lib.byteCells, hx])
  clear hc hcell
  go_enter Tryd.func11, Tryd.ntmps11
  go_wp2
  go_region
  all_goals (go_wp2; go_ret; exact ⟨rfl, Lib.below_freeze (Below.drew (Below.refl base w)) (p := ⟨g, 0, none⟩) hbg _, (KeepW.refl b w).drew.freeze HG.out _⟩)

set_option maxHeartbeats 2000000 in
set_option maxRecDepth 100000 in
theorem string_nil {base b o : Nat} {w : World} (hc : w.cell? ⟨b, o + 1, none⟩ = some (.slice none 0 0)) :
    Calls Tryd.prog 11 #[.pointer (some ⟨b, o, none⟩)] w fun e w' => e = .returned (.string ⟨#[]⟩) ∧ Below base w w' ∧ KeepW b w w' := by
  have hUS := unsafe_none
  have c1 : w.drew.cell? ⟨b, o + 1, none⟩ = some (.slice none 0 0) := hc
  have hSD : (Builtin.unsafeSliceData_ #[35] 66 #[.slice none 0 0]).run Tryd.prog w.drew = .ok (.pointer none) w.drew := rfl
  clear hc
  go_enter Tryd.func11, Tryd.ntmps11
  go_wp2
  go_region
  all_goals (go_wp2; go_ret; exact ⟨rfl, Below.drew (Below.refl base w), KeepW.refl b w⟩)

set_option maxHeartbeats 2000000 in
set_option maxRecDepth 100000 in
theorem string_noroom {base b o g : Nat} {cur : Array Value} {fz : Nat × Nat} {w : World} (hBw : base ≤ w.heap.size) (hlt : b < w.heap.size) (hc : w.cell? ⟨b, o + 1, none⟩ = some (.slice (some ⟨g, 0, none⟩) 0 0)) (hg : w.heap[g]? = some (.cells cur 5 fz)) :
    Calls Tryd.prog 11 #[.pointer (some ⟨b, o, none⟩)] w fun e w' => e = .returned (.string ⟨#[]⟩) ∧ Below base w w' ∧ KeepW b w w' := by
  have hUS := unsafe_none
  have c1 : w.drew.cell? ⟨b, o + 1, none⟩ = some (.slice (some ⟨g, 0, none⟩) 0 0) := hc
  have hSD : (Builtin.unsafeSliceData_ #[35] 66 #[.slice (some ⟨g, 0, none⟩) 0 0]).run Tryd.prog w.drew = .ok (.pointer (some ⟨w.drew.heap.size, 0, none⟩)) (w.drew.alloc (.view ⟨g, 0, none⟩ 5)) :=
    Lib.run_unsafeSliceData_zero w.drew _ _ 5 Tryd.underlying66 ⟨g, 0, none⟩ 0 (5, cur.size) (by have hg' : w.drew.heap[g]? = some (.cells cur 5 fz) := hg; simp [World.shape?, hg'])
  have c3 : (w.alloc (.view ⟨g, 0, none⟩ 5)).drew.cell? ⟨b, o + 1, none⟩ = some (.slice (some ⟨g, 0, none⟩) 0 0) := (World.cell?_alloc_lt w (.view ⟨g, 0, none⟩ 5) ⟨b, o + 1, none⟩ hlt).trans hc
  go_enter Tryd.func11, Tryd.ntmps11
  go_wp2
  go_region
  all_goals (go_wp2; go_ret; exact ⟨rfl, (Below.drew (Below.refl base w)).alloc hBw _, (KeepW.refl b w).drew.alloc _⟩)

set_option maxHeartbeats 2000000 in
set_option maxRecDepth 100000 in
theorem string_room {base b o g cap : Nat} {w : World} (hc0 : cap ≠ 0) (hc : w.cell? ⟨b, o + 1, none⟩ = some (.slice (some ⟨g, 0, none⟩) 0 cap)) :
    Calls Tryd.prog 11 #[.pointer (some ⟨b, o, none⟩)] w fun e w' => e = .returned (.string ⟨#[]⟩) ∧ Below base w w' ∧ KeepW b w w' := by
  have hUS := unsafe_none
  have c1 : w.drew.cell? ⟨b, o + 1, none⟩ = some (.slice (some ⟨g, 0, none⟩) 0 cap) := hc
  have hSD : (Builtin.unsafeSliceData_ #[35] 66 #[.slice (some ⟨g, 0, none⟩) 0 cap]).run Tryd.prog w.drew = .ok (.pointer (some ⟨g, 0, none⟩)) w.drew :=
    Lib.run_unsafeSliceData_row _ _ _ _ _ _ hc0
  clear hc0 hc
  go_enter Tryd.func11, Tryd.ntmps11
  go_wp2
  go_region
  all_goals (go_wp2; go_ret; exact ⟨rfl, Below.drew (Below.refl base w), KeepW.refl b w⟩)

/-- String. -/
theorem string_c {base b o : Nat} {l : List UInt8} {cs : Array Value} {T : TypeId} {w : World} (h : Bld base b o (Lib.byteCells l) cs T w) (hBw : base ≤ w.heap.size) :
    Calls Tryd.prog 11 #[.pointer (some ⟨b, o, none⟩)] w fun e w' => e = .returned (.string ⟨l.toArray⟩) ∧ Below base w w' ∧ KeepW b w w' := by
  obtain ⟨hB, hb, p, v, h0, h1, hp, hown, hne⟩ := h
  have hc : w.cell? ⟨b, o + 1, none⟩ = some v := by rw [heap_cell hb, h1]
  rw [Lib.byteCells_length] at hown
  cases l with
  | nil =>
    rcases hown.2 with ⟨rfl, _⟩ | ⟨g, cap, cur, fz, rfl, hbg, hg, _, _, _, _, _⟩
    · exact string_nil hc
    · by_cases hc0 : cap = 0
      · subst hc0
        exact string_noroom hBw (heap_lt' hb) hc hg
      · exact string_room hc0 hc
  | cons x r =>
    rcases hown.2 with ⟨_, hz⟩ | ⟨g, cap, cur, fz, rfl, hbg, hg, hfz, hnc, hcm, hcs, htake⟩
    · simp at hz
    · exact string_some (by simp) hc hbg hg hnc hcm hcs (fun j u hu => hown.cells (g := g) rfl j u hu)
end Go.Proofs.YtloemnickbkonaaDoor
