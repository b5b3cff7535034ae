/- The contract of tree.such. -/
/- The contracts of tree.uses, tree.part, tree.such's function literal. -/
import Derived.Test.YtloemnickbkonaaDoorTreeB
import Derived.WalkKit
import Derived.WalkLawsBesides
import Derived.WalkSpells
import Derived.OwnWalk
import Derived.Deep.QuietTactic
import Derived.BigQuiet
import Derived.Lib.Hide
import Derived.Outline
namespace Go.Proofs.YtloemnickbkonaaDoor
open Go.RowKit Go.Proofs.YtloemnickbkonaaDoorW.PrintWords Go.Proofs.YtloemnickbkonaaDoorW.PrintLast Go.Proofs.YtloemnickbkonaaDoorW.PrintMore
set_option linter.unusedVariables false
set_option linter.unusedSimpArgs false

/-- The tests of 'such', one after the other. -/
def sd1 (u n : Int) : Bool := (Go.bits .and .i64 u 1 == 0) && (n != 0)
def sd2 (u v : Int) : Bool := (Go.bits .and .i64 u 2 == 0) && (v != 0)
def sd3 (u : Int) (s : ByteArray) : Bool := (Go.bits .and .i64 u 4 == 0) && !s.toList.isEmpty
def sd4 (u : Int) (l : Nat) : Bool := (Go.bits .and .i64 u 8 == 0) && decide (0 < (l : Int))
def sd5 (k n : Int) : Bool := (k == 2) && (n != 0) && (n != 1)
def sd6 (k : Int) (l m : Nat) : Bool := (k == 17) && ((l : Int) != (m : Int))
def sd7 (k : Int) (l : Nat) : Bool := (k == 15 || k == 16) && (decide ((l : Int) < 2) || decide ((l : Int) > 4))
def suchB (x : Nd) : Bool := decide (1 ≤ x.f0) && decide (x.f0 ≤ 17) && !(sd1 (usesK x.f0) x.f1) && !(sd2 (usesK x.f0) x.f2) && !(sd3 (usesK x.f0) x.f3) && !(sd4 (usesK x.f0) x.f4.length)
  && !(sd5 x.f0 x.f1) && !(sd6 x.f0 x.f4.length x.f5.length) && !(sd7 x.f0 x.f5.length) && !(anyOther (partK x.f0) x.f5)

theorem cell_in {w : World} {b : Nat} {cs : Array Value} {T : TypeId} {fr : Nat × Nat} (hb : w.heap[b]? = some (.cells cs T fr)) (j : Nat) : w.cell? ⟨b, j, none⟩ = cs[j]? := by simp [World.cell?, hb]
theorem tb_heap0 (w : World) (o o' : Obj) : ((w.alloc o).alloc o').drew.heap[w.heap.size]? = some o := (Below.heap_alloc _ _ _ (by simp)).trans (heap_alloc_new w o)
theorem tb_heap1 (w : World) (o o' : Obj) : ((w.alloc o).alloc o').drew.heap[w.heap.size + 1]? = some o' := by
  have := heap_alloc_new (w.alloc o) o'
  rwa [World.size_alloc] at this
theorem tb_cell1 (w : World) (o : Obj) (v : Value) (t : TypeId) : ((w.alloc o).alloc (.cells #[v] t)).drew.cell? ⟨w.heap.size + 1, 0, none⟩ = some v := by
  have h := tb_heap1 w o (.cells #[v] t)
  exact (cell_in h 0).trans rfl
theorem tb_below (w : World) (o o' : Obj) : Below w.heap.size w ((w.alloc o).alloc o').drew := (((Below.refl _ _).alloc (Nat.le_refl _) _).alloc (by simp) _).drew

set_option maxRecDepth 100000 in
set_option maxHeartbeats 2000000 in
theorem such_in (k n u : Int) (s : ByteArray) (ks : List ByteArray) (xs : List Nd) (A4 A5 : Option Addr) (c4 c5 : Nat) (w : World) (hl4 : ks.length ≤ c4) (hl5 : xs.length ≤ c5) (hC : kN.C w A5 xs.length xs) 
    (hm4 : ks.length ≤ 9223372036854775807) (hm : xs.length ≤ 9223372036854775807) (h0 : 1 ≤ k) (h1 : k ≤ 17) :
    Calls Tryd.prog 18 #[.agg #[.int .i64 k, .int .i64 n, .int .u64 u, .string s, .slice A4 ks.length c4, .slice A5 xs.length c5]] w fun e w' => e = .returned (.bool (suchB ⟨k, n, u, s, ks, xs⟩)) ∧ Below w.heap.size w w' := by
  have HC := Aside0.mk hC
  clear hC
  have HU' := Lib.hid (uses_c k h0 h1)
  have HP' := Lib.hid (part_c k h0 h1)
  go_enter Tryd.func18, Tryd.ntmps18
  go_upto_region 3 with fail
  go_cut [3, 4] (fun s3 s4 wx => s3 = .int .i64 (usesK k) ∧ ∃ b, s4 = .pointer (some ⟨b, 0, none⟩) ∧ wx.cell? ⟨b, 0, none⟩ = some (.int .i64 (partK k)) ∧ wx.heap[w.heap.size]? = some (.cells #[.int .i64 k, .int .i64 n, .int .u64 u, .string s, .slice A4 ks.length c4, .slice A5 xs.length c5] 26 (0, 0)) ∧ Below w.heap.size w wx)
  case first =>
    go_region_held3 (fun w2 => w2.cell? ⟨w.heap.size, 0, none⟩ = some (.int .i64 k)) (go_keep) (first | (go_at_call 31; refine (HU'.out _).mono ?_; rintro e w' ⟨rfl, rfl⟩) | (go_at_call 32; refine (HP'.out _).mono ?_; rintro e w' ⟨rfl, rfl⟩))
    all_goals (go_wp2_with fail; go_meet; exact ⟨rfl, w.heap.size + 1, rfl, tb_cell1 _ _ _ _, tb_heap0 _ _ _, tb_below _ _ _⟩)
  case rest =>
    obtain ⟨rfl, b, rfl, hb, hx, hB⟩ := hcut
    have HB := Aside0.mk hB
    have Hb := Aside0.mk hb
    clear hB hb
    have x0 := cell_in hx 0
    have x1 := cell_in hx 1
    have x2 := cell_in hx 2
    have x3 := cell_in hx 3
    have x4 := cell_in hx 4
    have x5 := cell_in hx 5
    simp only [List.getElem?_toArray, List.getElem?_cons_zero, List.getElem?_cons_succ] at x0 x1 x2 x3 x4 x5
    clear hx
    go_upto_region 5 with fail
    go_cut [21] (fun s21 wy => s21 = .bool (sd1 (usesK k) n) ∧ wy = wc)
    case first =>
      cases g : (Go.bits .and .i64 (usesK k) 1 == 0)
      all_goals (go_wp2_with fail; go_meet; exact ⟨by simp [sd1, g], rfl⟩)
    obtain ⟨rfl, rfl⟩ := hcut
    cases e5 : sd1 (usesK k) n
    rotate_left
    · go_wp2
      go_ret
      exact ⟨by simp [suchB, e5], HB.out⟩
    have E5 := Lib.hid e5
    clear e5
    go_upto_region 6 with fail
    go_cut [21] (fun s21 wy => s21 = .bool (sd2 (usesK k) u) ∧ wy = wc)
    case first =>
      cases g : (Go.bits .and .i64 (usesK k) 2 == 0)
      all_goals (go_wp2_with fail; go_meet; exact ⟨by simp [sd2, g], rfl⟩)
    obtain ⟨rfl, rfl⟩ := hcut
    cases e6 : sd2 (usesK k) u
    rotate_left
    · go_wp2
      go_ret
      exact ⟨by simp [suchB, E5.out, e6], HB.out⟩
    have E6 := Lib.hid e6
    clear e6
    go_upto_region 7 with fail
    go_cut [21] (fun s21 wy => s21 = .bool (sd3 (usesK k) s) ∧ wy = wc)
    case first =>
      cases g : (Go.bits .and .i64 (usesK k) 4 == 0)
      all_goals (go_wp2_with fail; go_meet; exact ⟨by simp [sd3, g], rfl⟩)
    obtain ⟨rfl, rfl⟩ := hcut
    cases e7 : sd3 (usesK k) s
    rotate_left
    · go_wp2
      go_ret
      exact ⟨by simp [suchB, E5.out, E6.out, e7], HB.out⟩
    have E7 := Lib.hid e7
    clear e7
    go_upto_region 8 with fail
    go_cut [21] (fun s21 wy => s21 = .bool (sd4 (usesK k) ks.length) ∧ wy = wc)
    case first =>
      cases g : (Go.bits .and .i64 (usesK k) 8 == 0)
      all_goals (go_wp2_with fail; go_meet; exact ⟨by simp [sd4, g], rfl⟩)
    obtain ⟨rfl, rfl⟩ := hcut
    cases e8 : sd4 (usesK k) ks.length
    rotate_left
    · go_wp2
      go_ret
      exact ⟨by simp [suchB, E5.out, E6.out, E7.out, e8], HB.out⟩
    have E8 := Lib.hid e8
    clear e8
    go_upto_region 10 with fail
    go_cut [55] (fun s21 wy => s21 = .bool (sd5 k n) ∧ wy = wc)
    case first =>
      cases g : (k == 2) <;> cases g1 : (n != 0)
      all_goals (go_wp2_with fail; go_meet; exact ⟨by simp [sd5, g, g1], rfl⟩)
    obtain ⟨rfl, rfl⟩ := hcut
    cases e10 : sd5 k n
    rotate_left
    · go_wp2
      go_ret
      exact ⟨by simp [suchB, E5.out, E6.out, E7.out, E8.out, e10], HB.out⟩
    have E10 := Lib.hid e10
    clear e10
    go_upto_region 12 with fail
    go_cut [69] (fun s21 wy => s21 = .bool (sd6 k ks.length xs.length) ∧ wy = wc)
    case first =>
      cases g : (k == 17)
      all_goals (go_wp2_with fail; go_meet; exact ⟨by simp [sd6, g], rfl⟩)
    obtain ⟨rfl, rfl⟩ := hcut
    cases e12 : sd6 k ks.length xs.length
    rotate_left
    · go_wp2
      go_ret
      exact ⟨by simp [suchB, E5.out, E6.out, E7.out, E8.out, E10.out, e12], HB.out⟩
    have E12 := Lib.hid e12
    clear e12
    go_upto_region 14 with fail
    go_cut [82] (fun s21 wy => s21 = .bool (sd7 k xs.length) ∧ wy = wc)
    case first =>
      cases g : (k == 15) <;> cases g1 : (k == 16) <;> cases g2 : decide ((xs.length : Int) < 2)
      all_goals (go_wp2_with fail; go_meet; exact ⟨by simp [sd7, g, g1, g2], rfl⟩)
    obtain ⟨rfl, rfl⟩ := hcut
    cases e14 : sd7 k xs.length
    rotate_left
    · go_wp2
      go_ret
      exact ⟨by simp [suchB, E5.out, E6.out, E7.out, E8.out, E10.out, E12.out, e14], HB.out⟩
    have E14 := Lib.hid e14
    clear e14
    go_wp2_with (go_at_call 34; refine (containsF_c (partK k) xs A5 c5 ⟨b, 0, none⟩ _ (Kd.C_below HC.out HB.out) hl5 hm Hb.out).mono ?_; rintro e w1 ⟨rfl, hb1⟩)
    go_ret
    exact ⟨by simp [suchB, h0, h1, E5.out, E6.out, E7.out, E8.out, E10.out, E12.out, E14.out], below_on HB.out hb1 HB.out.size⟩

set_option maxRecDepth 100000 in
set_option maxHeartbeats 1000000 in
theorem such_out (k n u : Int) (s : ByteArray) (ks : List ByteArray) (xs : List Nd) (A4 A5 : Option Addr) (c4 c5 : Nat) (w : World) (h : k < 1 ∨ 17 < k) :
    Calls Tryd.prog 18 #[.agg #[.int .i64 k, .int .i64 n, .int .u64 u, .string s, .slice A4 ks.length c4, .slice A5 xs.length c5]] w fun e w' => e = .returned (.bool (suchB ⟨k, n, u, s, ks, xs⟩)) ∧ Below w.heap.size w w' := by
  have hs : suchB ⟨k, n, u, s, ks, xs⟩ = false := by
    have h' : (decide (1 ≤ k) && decide (k ≤ 17)) = false := by rcases h with h | h <;> simp <;> omega
    simp only [suchB, h', Bool.false_and]
  rw [hs]
  clear hs
  rcases h with h | h
  · go_enter Tryd.func18, Tryd.ntmps18
    go_wp2
    go_ret
    exact ⟨rfl, (Below.refl _ _).alloc (Nat.le_refl _) _⟩
  · have h' : ¬ k < 1 := by omega
    go_enter Tryd.func18, Tryd.ntmps18
    go_wp2
    go_ret
    exact ⟨rfl, (Below.refl _ _).alloc (Nat.le_refl _) _⟩

/-- tree.such: the answer, and nothing that was there has turned. -/
theorem such_c (k n u : Int) (s : ByteArray) (ks : List ByteArray) (xs : List Nd) (A4 A5 : Option Addr) (c4 c5 : Nat) (w : World) (hl4 : ks.length ≤ c4) (hl5 : xs.length ≤ c5) (hC : kN.C w A5 xs.length xs)
    (hm4 : ks.length ≤ 9223372036854775807) (hm : xs.length ≤ 9223372036854775807) :
    Calls Tryd.prog 18 #[.agg #[.int .i64 k, .int .i64 n, .int .u64 u, .string s, .slice A4 ks.length c4, .slice A5 xs.length c5]] w fun e w' => e = .returned (.bool (suchB ⟨k, n, u, s, ks, xs⟩)) ∧ Below w.heap.size w w' := by
  by_cases h0 : 1 ≤ k
  · by_cases h1 : k ≤ 17
    · exact such_in k n u s ks xs A4 A5 c4 c5 w hl4 hl5 hC hm4 hm h0 h1
    · exact such_out k n u s ks xs A4 A5 c4 c5 w (.inr (by omega))
  · exact such_out k n u s ks xs A4 A5 c4 c5 w (.inl (by omega))
theorem such_n (x : Nd) (A4 A5 : Option Addr) (c4 c5 : Nat) (w : World) (hl4 : x.f4.length ≤ c4) (hl5 : x.f5.length ≤ c5) (hC : kN.C w A5 x.f5.length x.f5) (hm4 : x.f4.length ≤ 9223372036854775807) (hm : x.f5.length ≤ 9223372036854775807) :
    Calls Tryd.prog 18 #[.agg #[.int .i64 x.f0, .int .i64 x.f1, .int .u64 x.f2, .string x.f3, .slice A4 x.f4.length c4, .slice A5 x.f5.length c5]] w fun e w' => e = .returned (.bool (suchB x)) ∧ Below w.heap.size w w' :=
  such_c x.f0 x.f1 x.f2 x.f3 x.f4 x.f5 A4 A5 c4 c5 w hl4 hl5 hC hm4 hm
end Go.Proofs.YtloemnickbkonaaDoor
