/- print.writer.put: leaves. -/
import Derived.Test.YtloemnickbkonaaDoorAll
import Derived.Deep.DeepCutAuto
import Derived.Deep.RegionHeld3
namespace Go.Proofs.YtloemnickbkonaaDoor
open Go.RowKit Go.Proofs.YtloemnickbkonaaDoorW.PrintWords Go.Proofs.YtloemnickbkonaaDoorW.PrintLast Go.Proofs.YtloemnickbkonaaDoorW.PrintMore
set_option linter.unusedVariables false
set_option linter.unusedSimpArgs false
def PutQ (w0 w : World) (b : Nat) (o : Out) (r : Ending) (w' : World) : Prop := r = .returned (.tuple #[]) ∧ Wr w0.heap.size b o w' ∧ Below w0.heap.size w w' ∧ KeepW b w w'
theorem put_start {w0 w : World} {b : Nat} {o : Out} (hB : Below w0.heap.size w0 w) (hW : Wr w0.heap.size b o w) (ob : Obj) : Wr w0.heap.size b o (w.alloc ob) ∧ Below w0.heap.size w (w.alloc ob) ∧ KeepW b w (w.alloc ob) ∧ w0.heap.size ≤ (w.alloc ob).heap.size :=
  ⟨hW.below ((Below.refl _ _).alloc (Nat.le_refl _) _), (Below.refl _ _).alloc hB.size _, (KeepW.refl _ _).alloc _, by have := hB.size; simp; omega⟩
theorem put_drew {w0 w w1 : World} {b : Nat} {o : Out} (h : Wr w0.heap.size b o w1 ∧ Below w0.heap.size w w1 ∧ KeepW b w w1 ∧ w0.heap.size ≤ w1.heap.size) : Wr w0.heap.size b o w1.drew ∧ Below w0.heap.size w w1.drew ∧ KeepW b w w1.drew ∧ w0.heap.size ≤ w1.drew.heap.size :=
  ⟨h.1, h.2.1.drew, h.2.2.1.drew, h.2.2.2⟩
theorem put_keep {w w1 w4 w5 : World} {b T j : Nat} {cs : Array Value} {v : Value} (hk : KeepW b w4 w5) (hb : b < w.heap.size) (h4 : Below w1.drew.heap.size w1.drew w4) (h : w1.heap[w.heap.size]? = some (.cells cs T (0, 0))) (hv : cs[j]? = some v) (hT : T ≠ 5 := by decide) : w5.cell? ⟨w.heap.size, j, none⟩ = some v := by
  have h1 : w4.heap[w.heap.size]? = some (.cells cs T (0, 0)) := (h4.block _ (heap_lt' h)).trans h
  rw [heap_cell (hk _ _ h1 (by omega) (fun c fr e => by injection e with _ e _; exact hT e)), hv]
set_option maxRecDepth 100000 in
set_option maxHeartbeats 400000 in
theorem put_null (w0 w : World) (b : Nat) (n u : Int) (s : ByteArray) (l4 l5 : Nat) (A4 A5 : Option Addr) (c4 c5 : Nat) (o : Out) (hB : Below w0.heap.size w0 w) (hW : Wr w0.heap.size b o w) (hlen : o.1.length + 4 ≤ 140737488355328) :
    Calls Tryd.prog 8 #[.pointer (some ⟨b, 0, none⟩), .agg #[.int .i64 1, .int .i64 n, .int .u64 u, .string s, .slice A4 l4 c4, .slice A5 l5 c5]] w (PutQ w0 w b (cat o ([110, 117, 108, 108], 0))) := by
  have HS := Aside0.mk (put_start hB hW (.cells #[.int .i64 1, .int .i64 n, .int .u64 u, .string s, .slice A4 l4 c4, .slice A5 l5 c5] 26))
  clear hB hW
  go_enter Tryd.func8, Tryd.ntmps8
  go_wp2_with (go_at_call 20; refine (wrStr_c { data := #[110, 117, 108, 108] } HS.out.1 hlen HS.out.2.2.2).mono ?_; rintro r w5 ⟨rfl, hW5, hB5, hk5⟩)
  go_end0
  exact ⟨rfl, hW5, HS.out.2.1.trans hB5, HS.out.2.2.1.trans hk5⟩
set_option maxRecDepth 100000 in
set_option maxHeartbeats 400000 in
theorem put_str (w0 w : World) (b : Nat) (k n u : Int) (s : ByteArray) (l4 l5 : Nat) (A4 A5 : Option Addr) (c4 c5 : Nat) (o : Out) (hk : k = 5 ∨ k = 6) (hB : Below w0.heap.size w0 w) (hW : Wr w0.heap.size b o w) (hL : Laid w0) (hs : s.size ≤ 1099511627776) (hlen : o.1.length + (outQ s).1.length ≤ 140737488355328) :
    Calls Tryd.prog 8 #[.pointer (some ⟨b, 0, none⟩), .agg #[.int .i64 k, .int .i64 n, .int .u64 u, .string s, .slice A4 l4 c4, .slice A5 l5 c5]] w (PutQ w0 w b (cat o (outQ s))) := by
  have HS := Aside0.mk (put_start hB hW (.cells #[.int .i64 k, .int .i64 n, .int .u64 u, .string s, .slice A4 l4 c4, .slice A5 l5 c5] 26))
  have HL := Aside0.mk (hL.below (hB.trans HS.out.2.1))
  clear hB hW hL
  rcases hk with rfl | rfl
  all_goals
    go_enter Tryd.func8, Tryd.ntmps8
    go_wp2_with (go_at_call 24; refine (wquote_c s HS.out.1 hs hlen HS.out.2.2.2 HL.out).mono ?_; rintro r w5 ⟨rfl, hW5, hB5, hk5⟩)
    go_end0
    exact ⟨rfl, hW5, HS.out.2.1.trans hB5, HS.out.2.2.1.trans hk5⟩
set_option maxRecDepth 100000 in
set_option maxHeartbeats 400000 in
theorem put_int (w0 w : World) (b : Nat) (k n u : Int) (s : ByteArray) (l4 l5 : Nat) (A4 A5 : Option Addr) (c4 c5 : Nat) (o : Out) (hk : k = 3 ∨ k = 8) (hn0 : -9223372036854775808 ≤ n) (hn1 : n ≤ 9223372036854775807) (hB : Below w0.heap.size w0 w) (hW : Wr w0.heap.size b o w) (hL : Laid w0) (hlen : o.1.length + (Lib.itoa n).length ≤ 140737488355328) :
    Calls Tryd.prog 8 #[.pointer (some ⟨b, 0, none⟩), .agg #[.int .i64 k, .int .i64 n, .int .u64 u, .string s, .slice A4 l4 c4, .slice A5 l5 c5]] w (PutQ w0 w b (cat o (Lib.itoa n, 0))) := by
  have HS := Aside0.mk (put_start hB hW (.cells #[.int .i64 k, .int .i64 n, .int .u64 u, .string s, .slice A4 l4 c4, .slice A5 l5 c5] 26))
  have HL := Aside0.mk (hL.below (hB.trans HS.out.2.1))
  have hbw : b < w.heap.size := heap_lt' hW.choose_spec.2.1.2.1
  have hli : o.1.length + (⟨(Lib.itoa n).toArray⟩ : ByteArray).size ≤ 140737488355328 := hlen
  clear hB hW hL
  have x1 := cell_in (heap_alloc_new w (.cells #[.int .i64 k, .int .i64 n, .int .u64 u, .string s, .slice A4 l4 c4, .slice A5 l5 c5] 26)) 1
  simp only [List.getElem?_toArray, List.getElem?_cons_zero, List.getElem?_cons_succ] at x1
  rcases hk with rfl | rfl
  · have HD := Aside0.mk (put_drew HS.out)
    have HLD : Aside0 (Laid (w.alloc (.cells #[.int .i64 3, .int .i64 n, .int .u64 u, .string s, .slice A4 l4 c4, .slice A5 l5 c5] 26)).drew) := ⟨HL.out⟩
    have y1 : (w.alloc (.cells #[.int .i64 3, .int .i64 n, .int .u64 u, .string s, .slice A4 l4 c4, .slice A5 l5 c5] 26)).drew.cell? ⟨w.heap.size, 1, none⟩ = some (.int .i64 n) := x1
    have hb1 : b < w.heap.size := hbw
    have Y2 := Aside0.mk (heap_alloc_new w (.cells #[.int .i64 3, .int .i64 n, .int .u64 u, .string s, .slice A4 l4 c4, .slice A5 l5 c5] 26))
    go_enter Tryd.func8, Tryd.ntmps8
    go_wp2_with fail
    go_region_held3 (fun w2 => w2.cell? ⟨w.heap.size, 1, none⟩ = some (.int .i64 n)) ((first | (go_keep; done) | exact q4 | exact q5))
      (first | (go_at_call 22; refine (formatInt_c n hn0 hn1 _ HLD.out.2).mono ?_; rintro e w4 ⟨rfl, hb4⟩; (have q4 : w4.cell? ⟨w.heap.size, 1, none⟩ = some (.int .i64 n) := (hb4.cell (by simp)).trans y1); have h4 := HD.out.1.below hb4; (have hz4 : w0.heap.size ≤ w4.heap.size := Nat.le_trans HD.out.2.2.2 hb4.size); have HB4 := Aside0.mk hb4; clear hb4) | (go_at_call 20; refine (wrStr_c _ h4 hli hz4).mono ?_; rintro r w5 ⟨rfl, hW5, hB5, hk5⟩; (have q5 : w5.cell? ⟨w.heap.size, 1, none⟩ = some (.int .i64 n) := put_keep hk5 hbw HB4.out Y2.out rfl)))
    go_wp2_with fail
    go_end0
    exact ⟨rfl, hW5, (HD.out.2.1.trans (HB4.out.mono HD.out.2.2.2)).trans hB5, (HD.out.2.2.1.below HB4.out).trans hk5⟩
  · have HD := Aside0.mk (put_drew HS.out)
    have HLD : Aside0 (Laid (w.alloc (.cells #[.int .i64 8, .int .i64 n, .int .u64 u, .string s, .slice A4 l4 c4, .slice A5 l5 c5] 26)).drew) := ⟨HL.out⟩
    have y1 : (w.alloc (.cells #[.int .i64 8, .int .i64 n, .int .u64 u, .string s, .slice A4 l4 c4, .slice A5 l5 c5] 26)).drew.cell? ⟨w.heap.size, 1, none⟩ = some (.int .i64 n) := x1
    have hb1 : b < w.heap.size := hbw
    have Y2 := Aside0.mk (heap_alloc_new w (.cells #[.int .i64 8, .int .i64 n, .int .u64 u, .string s, .slice A4 l4 c4, .slice A5 l5 c5] 26))
    go_enter Tryd.func8, Tryd.ntmps8
    go_wp2_with fail
    go_region_held3 (fun w2 => w2.cell? ⟨w.heap.size, 1, none⟩ = some (.int .i64 n)) ((first | (go_keep; done) | exact q4 | exact q5))
      (first | (go_at_call 22; refine (formatInt_c n hn0 hn1 _ HLD.out.2).mono ?_; rintro e w4 ⟨rfl, hb4⟩; (have q4 : w4.cell? ⟨w.heap.size, 1, none⟩ = some (.int .i64 n) := (hb4.cell (by simp)).trans y1); have h4 := HD.out.1.below hb4; (have hz4 : w0.heap.size ≤ w4.heap.size := Nat.le_trans HD.out.2.2.2 hb4.size); have HB4 := Aside0.mk hb4; clear hb4) | (go_at_call 20; refine (wrStr_c _ h4 hli hz4).mono ?_; rintro r w5 ⟨rfl, hW5, hB5, hk5⟩; (have q5 : w5.cell? ⟨w.heap.size, 1, none⟩ = some (.int .i64 n) := put_keep hk5 hbw HB4.out Y2.out rfl)))
    go_wp2_with fail
    go_end0
    exact ⟨rfl, hW5, (HD.out.2.1.trans (HB4.out.mono HD.out.2.2.2)).trans hB5, (HD.out.2.2.1.below HB4.out).trans hk5⟩
set_option maxRecDepth 100000 in
set_option maxHeartbeats 400000 in
theorem put_uint (w0 w : World) (b : Nat) (k n : Int) (u : Nat) (s : ByteArray) (l4 l5 : Nat) (A4 A5 : Option Addr) (c4 c5 : Nat) (o : Out) (hk : k = 4 ∨ k = 9) (hu : u < 18446744073709551616) (hB : Below w0.heap.size w0 w) (hW : Wr w0.heap.size b o w) (hL : Laid w0) (hlen : o.1.length + (Lib.decDigits u).length ≤ 140737488355328) :
    Calls Tryd.prog 8 #[.pointer (some ⟨b, 0, none⟩), .agg #[.int .i64 k, .int .i64 n, .int .u64 u, .string s, .slice A4 l4 c4, .slice A5 l5 c5]] w (PutQ w0 w b (cat o (Lib.decDigits u, 0))) := by
  have HS := Aside0.mk (put_start hB hW (.cells #[.int .i64 k, .int .i64 n, .int .u64 u, .string s, .slice A4 l4 c4, .slice A5 l5 c5] 26))
  have HL := Aside0.mk (hL.below (hB.trans HS.out.2.1))
  have hbw : b < w.heap.size := heap_lt' hW.choose_spec.2.1.2.1
  have hli : o.1.length + (⟨(Lib.decDigits u).toArray⟩ : ByteArray).size ≤ 140737488355328 := hlen
  clear hB hW hL
  have x1 := cell_in (heap_alloc_new w (.cells #[.int .i64 k, .int .i64 n, .int .u64 u, .string s, .slice A4 l4 c4, .slice A5 l5 c5] 26)) 2
  simp only [List.getElem?_toArray, List.getElem?_cons_zero, List.getElem?_cons_succ] at x1
  rcases hk with rfl | rfl
  · have HD := Aside0.mk (put_drew HS.out)
    have HLD : Aside0 (Laid (w.alloc (.cells #[.int .i64 4, .int .i64 n, .int .u64 u, .string s, .slice A4 l4 c4, .slice A5 l5 c5] 26)).drew) := ⟨HL.out⟩
    have y1 : (w.alloc (.cells #[.int .i64 4, .int .i64 n, .int .u64 u, .string s, .slice A4 l4 c4, .slice A5 l5 c5] 26)).drew.cell? ⟨w.heap.size, 2, none⟩ = some (.int .u64 u) := x1
    have hb1 : b < w.heap.size := hbw
    have Y2 := Aside0.mk (heap_alloc_new w (.cells #[.int .i64 4, .int .i64 n, .int .u64 u, .string s, .slice A4 l4 c4, .slice A5 l5 c5] 26))
    go_enter Tryd.func8, Tryd.ntmps8
    go_wp2_with fail
    go_region_held3 (fun w2 => w2.cell? ⟨w.heap.size, 2, none⟩ = some (.int .u64 u)) ((first | (go_keep; done) | exact q4 | exact q5))
      (first | (go_at_call 23; refine (formatUint_c u hu _ HLD.out.2).mono ?_; rintro e w4 ⟨rfl, hb4⟩; (have q4 : w4.cell? ⟨w.heap.size, 2, none⟩ = some (.int .u64 u) := (hb4.cell (by simp)).trans y1); have h4 := HD.out.1.below hb4; (have hz4 : w0.heap.size ≤ w4.heap.size := Nat.le_trans HD.out.2.2.2 hb4.size); have HB4 := Aside0.mk hb4; clear hb4) | (go_at_call 20; refine (wrStr_c _ h4 hli hz4).mono ?_; rintro r w5 ⟨rfl, hW5, hB5, hk5⟩; (have q5 : w5.cell? ⟨w.heap.size, 2, none⟩ = some (.int .u64 u) := put_keep hk5 hbw HB4.out Y2.out rfl)))
    go_wp2_with fail
    go_end0
    exact ⟨rfl, hW5, (HD.out.2.1.trans (HB4.out.mono HD.out.2.2.2)).trans hB5, (HD.out.2.2.1.below HB4.out).trans hk5⟩
  · have HD := Aside0.mk (put_drew HS.out)
    have HLD : Aside0 (Laid (w.alloc (.cells #[.int .i64 9, .int .i64 n, .int .u64 u, .string s, .slice A4 l4 c4, .slice A5 l5 c5] 26)).drew) := ⟨HL.out⟩
    have y1 : (w.alloc (.cells #[.int .i64 9, .int .i64 n, .int .u64 u, .string s, .slice A4 l4 c4, .slice A5 l5 c5] 26)).drew.cell? ⟨w.heap.size, 2, none⟩ = some (.int .u64 u) := x1
    have hb1 : b < w.heap.size := hbw
    have Y2 := Aside0.mk (heap_alloc_new w (.cells #[.int .i64 9, .int .i64 n, .int .u64 u, .string s, .slice A4 l4 c4, .slice A5 l5 c5] 26))
    go_enter Tryd.func8, Tryd.ntmps8
    go_wp2_with fail
    go_region_held3 (fun w2 => w2.cell? ⟨w.heap.size, 2, none⟩ = some (.int .u64 u)) ((first | (go_keep; done) | exact q4 | exact q5))
      (first | (go_at_call 23; refine (formatUint_c u hu _ HLD.out.2).mono ?_; rintro e w4 ⟨rfl, hb4⟩; (have q4 : w4.cell? ⟨w.heap.size, 2, none⟩ = some (.int .u64 u) := (hb4.cell (by simp)).trans y1); have h4 := HD.out.1.below hb4; (have hz4 : w0.heap.size ≤ w4.heap.size := Nat.le_trans HD.out.2.2.2 hb4.size); have HB4 := Aside0.mk hb4; clear hb4) | (go_at_call 20; refine (wrStr_c _ h4 hli hz4).mono ?_; rintro r w5 ⟨rfl, hW5, hB5, hk5⟩; (have q5 : w5.cell? ⟨w.heap.size, 2, none⟩ = some (.int .u64 u) := put_keep hk5 hbw HB4.out Y2.out rfl)))
    go_wp2_with fail
    go_end0
    exact ⟨rfl, hW5, (HD.out.2.1.trans (HB4.out.mono HD.out.2.2.2)).trans hB5, (HD.out.2.2.1.below HB4.out).trans hk5⟩
set_option maxRecDepth 100000 in
set_option maxHeartbeats 400000 in
theorem put_bool (w0 w : World) (b : Nat) (n u : Int) (s : ByteArray) (l4 l5 : Nat) (A4 A5 : Option Addr) (c4 c5 : Nat) (o : Out) (hB : Below w0.heap.size w0 w) (hW : Wr w0.heap.size b o w) (hlen : o.1.length + 5 ≤ 140737488355328) :
    Calls Tryd.prog 8 #[.pointer (some ⟨b, 0, none⟩), .agg #[.int .i64 2, .int .i64 n, .int .u64 u, .string s, .slice A4 l4 c4, .slice A5 l5 c5]] w (PutQ w0 w b (cat o (Lib.formatBool (n == 1), 0))) := by
  have HS := Aside0.mk (put_start hB hW (.cells #[.int .i64 2, .int .i64 n, .int .u64 u, .string s, .slice A4 l4 c4, .slice A5 l5 c5] 26))
  have hbw : b < w.heap.size := heap_lt' hW.choose_spec.2.1.2.1
  have Y2 := Aside0.mk (heap_alloc_new w (.cells #[.int .i64 2, .int .i64 n, .int .u64 u, .string s, .slice A4 l4 c4, .slice A5 l5 c5] 26))
  clear hB hW
  have x1 : (w.alloc (.cells #[.int .i64 2, .int .i64 n, .int .u64 u, .string s, .slice A4 l4 c4, .slice A5 l5 c5] 26)).drew.cell? ⟨w.heap.size, 1, none⟩ = some (.int .i64 n) := (cell_in (heap_alloc_new w (.cells #[.int .i64 2, .int .i64 n, .int .u64 u, .string s, .slice A4 l4 c4, .slice A5 l5 c5] 26)) 1).trans rfl
  have HD := Aside0.mk (put_drew HS.out)
  have hlb : o.1.length + (⟨(Lib.formatBool (n == 1)).toArray⟩ : ByteArray).size ≤ 140737488355328 := by
    have : (⟨(Lib.formatBool (n == 1)).toArray⟩ : ByteArray).size ≤ 5 := by cases (n == 1) <;> decide
    omega
  go_enter Tryd.func8, Tryd.ntmps8
  go_wp2_with fail
  go_region_held3 (fun w2 => w2.cell? ⟨w.heap.size, 1, none⟩ = some (.int .i64 n)) ((first | (go_keep; done) | exact x1 | exact q5))
    (first | (go_at_call 21; refine (Tryd.strconv_FormatBool _ _).mono ?_; rintro e w' ⟨rfl, rfl⟩) | (go_at_call 20; refine (wrStr_c _ HD.out.1 hlb HD.out.2.2.2).mono ?_; rintro r w5 ⟨rfl, hW5, hB5, hk5⟩; (have q5 : w5.cell? ⟨w.heap.size, 1, none⟩ = some (.int .i64 n) := put_keep hk5 hbw (Below.refl _ _) Y2.out rfl)))
  go_wp2_with fail
  go_end0
  exact ⟨rfl, hW5, HD.out.2.1.trans hB5, HD.out.2.2.1.trans hk5⟩
theorem put_bytes {w0 w w1 : World} {b : Nat} {o : Out} (s : ByteArray) (h : Wr w0.heap.size b o w1 ∧ Below w0.heap.size w w1 ∧ KeepW b w w1 ∧ w0.heap.size ≤ w1.heap.size) : Wr w0.heap.size b o (Lib.bytesWorld w1 5 s) ∧ Below w0.heap.size w (Lib.bytesWorld w1 5 s) ∧ KeepW b w (Lib.bytesWorld w1 5 s) ∧ w0.heap.size ≤ (Lib.bytesWorld w1 5 s).heap.size := by
  have hb := bytes_below (Below.refl w1.heap.size w1) (Nat.le_refl _) 5 s
  exact ⟨h.1.below hb, h.2.1.trans (hb.mono h.2.2.2), h.2.2.1.below hb, Nat.le_trans h.2.2.2 hb.size⟩
theorem bytes_C (W : World) (s : ByteArray) (hs : s.size ≤ 9223372036854775807) (g : Nat) (hg : W.heap.size = g) : (Kd.int .u8).C (Lib.bytesWorld W 5 s) (some ⟨g, 0, none⟩) (bi s.data.toList).length (bi s.data.toList) := by
  subst hg
  have h := bytes_reads W 5 s hs
  have e : (bi s.data.toList).length = s.size := by rw [bi_len, data_length]
  rw [e]
  exact Kd.C_of_reads (d := (0 : Int)) h
set_option maxRecDepth 100000 in
set_option maxHeartbeats 400000 in
theorem put_blob (w0 w : World) (b : Nat) (n u : Int) (s : ByteArray) (l4 l5 : Nat) (A4 A5 : Option Addr) (c4 c5 : Nat) (o : Out) (hs : s.size ≤ 1099511627776) (hB : Below w0.heap.size w0 w) (hW : Wr w0.heap.size b o w) (hlen : o.1.length + ([34] ++ b64L s.data.toList ++ [34]).length ≤ 140737488355328) :
    Calls Tryd.prog 8 #[.pointer (some ⟨b, 0, none⟩), .agg #[.int .i64 7, .int .i64 n, .int .u64 u, .string s, .slice A4 l4 c4, .slice A5 l5 c5]] w (PutQ w0 w b (cat o ([34] ++ b64L s.data.toList ++ [34], 0))) := by
  have HS := Aside0.mk (put_start hB hW (.cells #[.int .i64 7, .int .i64 n, .int .u64 u, .string s, .slice A4 l4 c4, .slice A5 l5 c5] 26))
  have hbw : b < w.heap.size := heap_lt' hW.choose_spec.2.1.2.1
  obtain ⟨X, hX⟩ : ∃ X : ByteArray, (⟨(b64L s.data.toList).toArray⟩ : ByteArray) = X := ⟨_, rfl⟩
  have hda : (({ data := #[34] } : ByteArray) ++ X ++ { data := #[34] }).data.toList = [34] ++ b64L s.data.toList ++ [34] := by
    rw [← hX, ByteArray.data_append, ByteArray.data_append, Array.toList_append, Array.toList_append]
  have hsz : (({ data := #[34] } : ByteArray) ++ X ++ { data := #[34] }).size = ([34] ++ b64L s.data.toList ++ [34]).length := by rw [← hda]; rfl
  have hX1 : (({ data := #[34] } : ByteArray) ++ X).size = 1 + X.size := by rw [ByteArray.size_append]; rfl
  have hX2 : (({ data := #[34] } : ByteArray) ++ X ++ { data := #[34] }).size = 1 + X.size + 1 := by rw [ByteArray.size_append, hX1]; rfl
  have hXs : X.size + 2 ≤ 140737488355328 := by omega
  have c1 : ∀ W : World, (Op.stringOp .add ({ data := #[34] } : ByteArray) X).run Tryd.prog W = .ok (.string (({ data := #[34] } : ByteArray) ++ X)) W := fun W => run_string_add_sum W _ _ (by have : ({ data := #[34] } : ByteArray).size = 1 := rfl; omega)
  have hput : ∀ (A : Option Addr) (c : Nat) (w : World), s.data.toList.length ≤ c → (Kd.int .u8).C w A (bi s.data.toList).length (bi s.data.toList) → Calls Tryd.prog 25 #[.slice A s.data.toList.length c] w fun e w' => e = .returned (.string X) ∧ Below w.heap.size w w' := by
    intro A c w h1 h2
    rw [← hX]
    exact put_in s.data.toList A c w (by rw [data_length]; exact hs) h1 h2
  have HPUT := Aside0.mk hput
  obtain ⟨Y, hY⟩ : ∃ Y : ByteArray, ({ data := #[34] } : ByteArray) ++ X = Y := ⟨_, rfl⟩
  have c2 : ∀ W : World, (Op.stringOp .add Y ({ data := #[34] } : ByteArray)).run Tryd.prog W = .ok (.string (Y ++ ({ data := #[34] } : ByteArray))) W := fun W => run_string_add_sum W _ _ (by have : ({ data := #[34] } : ByteArray).size = 1 := rfl; rw [← hY]; omega)
  rw [hY] at c1 hda hsz
  have hli : o.1.length + (Y ++ ({ data := #[34] } : ByteArray)).size ≤ 140737488355328 := by rw [hsz]; exact hlen
  clear hX hY hX1 hX2 hsz hput
  have HDA := Aside0.mk hda
  clear hB hW hda
  have x1 := cell_in (heap_alloc_new w (.cells #[.int .i64 7, .int .i64 n, .int .u64 u, .string s, .slice A4 l4 c4, .slice A5 l5 c5] 26)) 3
  simp only [List.getElem?_toArray, List.getElem?_cons_zero, List.getElem?_cons_succ] at x1
  have HD := Aside0.mk (put_drew HS.out)
  have y1 : (w.alloc (.cells #[.int .i64 7, .int .i64 n, .int .u64 u, .string s, .slice A4 l4 c4, .slice A5 l5 c5] 26)).drew.cell? ⟨w.heap.size, 3, none⟩ = some (.string s) := x1
  have hb1 : b < w.heap.size := hbw
  have Y2 := Aside0.mk (heap_alloc_new w (.cells #[.int .i64 7, .int .i64 n, .int .u64 u, .string s, .slice A4 l4 c4, .slice A5 l5 c5] 26))
  have HD2 := Aside0.mk (put_bytes s HD.out)
  have HBB := Aside0.mk (bytes_below (Below.refl (w.alloc (.cells #[.int .i64 7, .int .i64 n, .int .u64 u, .string s, .slice A4 l4 c4, .slice A5 l5 c5] 26)).drew.heap.size (w.alloc (.cells #[.int .i64 7, .int .i64 n, .int .u64 u, .string s, .slice A4 l4 c4, .slice A5 l5 c5] 26)).drew) (Nat.le_refl _) 5 s)
  have z2 : (Lib.bytesWorld (w.alloc (.cells #[.int .i64 7, .int .i64 n, .int .u64 u, .string s, .slice A4 l4 c4, .slice A5 l5 c5] 26)).drew 5 s).cell? ⟨w.heap.size, 3, none⟩ = some (.string s) := (Lib.bytesWorld_old _ _ _ _ (by simp)).trans y1
  have HBC := Aside0.mk (bytes_C (w.alloc (.cells #[.int .i64 7, .int .i64 n, .int .u64 u, .string s, .slice A4 l4 c4, .slice A5 l5 c5] 26)).drew s (by omega) (w.heap.size + 1) (by simp))
  have hbz : w.heap.size < (Lib.bytesWorld (w.alloc (.cells #[.int .i64 7, .int .i64 n, .int .u64 u, .string s, .slice A4 l4 c4, .slice A5 l5 c5] 26)).drew 5 s).heap.size := by rw [Lib.bytesWorld_size]; simp; omega
  have HBZ := Aside0.mk hbz
  clear hbz
  have HGE := Aside0.mk (show s.data.toList.length ≤ grownCap (w.alloc (.cells #[.int .i64 7, .int .i64 n, .int .u64 u, .string s, .slice A4 l4 c4, .slice A5 l5 c5] 26)).drew s.size 0 5 from by rw [data_length]; exact grownCap_ge _ _ _ _)
  have kb : ∀ W : World, (convert 9 35 (.string s)).run Tryd.prog W = .ok (.slice (some ⟨W.heap.size, 0, none⟩) s.data.toList.length (grownCap W s.size 0 5)) (Lib.bytesWorld W 5 s) := fun W => by rw [data_length]; exact print_bytes (P := Tryd.prog) 9 35 5 Tryd.underlying9 Tryd.underlying35 Tryd.underlying5 s W
  go_enter Tryd.func8, Tryd.ntmps8
  go_wp2_with fail
  go_region_held (fun w2 => w2.cell? ⟨w.heap.size, 3, none⟩ = some (.string s)) ((first | (go_keep; done) | exact q4 | exact q5 | exact z2))
    (first | (go_at_call 25; refine (HPUT.out (some ⟨w.heap.size + 1, 0, none⟩) _ _ HGE.out HBC.out).mono ?_; rintro e w4 ⟨rfl, hb4⟩; (have q4 : w4.cell? ⟨w.heap.size, 3, none⟩ = some (.string s) := (hb4.cell HBZ.out).trans z2); have h4 := HD2.out.1.below hb4; (have hz4 : w0.heap.size ≤ w4.heap.size := Nat.le_trans HD2.out.2.2.2 hb4.size); have HB4 := Aside0.mk hb4; clear hb4) | (go_at_call 20; refine (wrStr_c _ h4 hli hz4).mono ?_; rintro r w5 ⟨rfl, hW5, hB5, hk5⟩; (have q5 : w5.cell? ⟨w.heap.size, 3, none⟩ = some (.string s) := put_keep hk5 hbw (HBB.out.trans (HB4.out.mono HBB.out.size)) Y2.out rfl)))
  go_wp2_with fail
  go_end0
  rw [HDA.out] at hW5
  exact ⟨rfl, hW5, (HD2.out.2.1.trans (HB4.out.mono HD2.out.2.2.2)).trans hB5, (HD2.out.2.2.1.below HB4.out).trans hk5⟩
end Go.Proofs.YtloemnickbkonaaDoor
