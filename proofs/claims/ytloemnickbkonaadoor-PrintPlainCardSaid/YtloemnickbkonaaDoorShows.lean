/- The law's helpers shows, fails, vec, num: their contracts; small trees in memory. -/
import Derived.Test.YtloemnickbkonaaDoorPrint
namespace Go.Proofs.YtloemnickbkonaaDoor
open Go.RowKit Go.Proofs.YtloemnickbkonaaDoorW.PrintWords Go.Proofs.YtloemnickbkonaaDoorW.PrintLast Go.Proofs.YtloemnickbkonaaDoorW.PrintMore
set_option linter.unusedVariables false
set_option linter.unusedSimpArgs false
theorem row1 {α : Type} {d : Kd α} {W : World} {g T : Nat} {fr : Nat × Nat} {c : List Value} {x : α} (hb : W.heap[g]? = some (.cells c.toArray T fr)) (hK : d.K W x c) : d.C W (some ⟨g, 0, none⟩) 1 [x] := by
  refine ⟨rfl, by omega, fun _ => ⟨_, rfl, fun j p hj => ?_⟩⟩
  rcases j with _ | j
  · simp at hj
    subst hj
    refine ⟨c, d.K_len hK, hK, fun i u hu => ?_⟩
    rw [add_plain, heap_cell hb]
    simpa using hu
  · simp at hj
theorem row2 {α : Type} {d : Kd α} {W : World} {g T : Nat} {fr : Nat × Nat} {c c' : List Value} {x y : α} (hb : W.heap[g]? = some (.cells (c ++ c').toArray T fr)) (hK : d.K W x c) (hK' : d.K W y c') : d.C W (some ⟨g, 0, none⟩) 2 [x, y] := by
  refine ⟨rfl, by omega, fun _ => ⟨_, rfl, fun j p hj => ?_⟩⟩
  rcases j with _ | _ | j
  · simp at hj
    subst hj
    refine ⟨c, d.K_len hK, hK, fun i u hu => ?_⟩
    rw [add_plain, heap_cell hb]
    have hi : i < c.length := (List.getElem?_eq_some_iff.1 hu).1
    simp only [Nat.zero_mul, Nat.zero_add, List.getElem?_toArray, List.getElem?_append_left hi, hu]
  · simp at hj
    subst hj
    refine ⟨c', d.K_len hK', hK', fun i u hu => ?_⟩
    rw [add_plain, heap_cell hb]
    have hl := d.K_len hK
    simp only [Nat.zero_add, Nat.one_mul, List.getElem?_toArray]
    rw [List.getElem?_append_right (by omega), ← hu]
    congr 1
    omega
  · simp at hj
theorem leafK (W : World) (k n u : Int) (s : ByteArray) : kN.K W ⟨k, n, u, s, [], []⟩ [.int .i64 k, .int .i64 n, .int .u64 u, .string s, .slice none 0 0, .slice none 0 0] :=
  kN_mk W ⟨k, n, u, s, [], []⟩ (Nat.le_refl _) (Kd.C_nil _ _) (Nat.le_refl _) (Kd.C_nil _ _)
theorem listK {W : World} {A : Option Addr} {xs : List Nd} {c : Nat} (k n u : Int) (s : ByteArray) (hc : xs.length ≤ c) (h : kN.C W A xs.length xs) : kN.K W ⟨k, n, u, s, [], xs⟩ [.int .i64 k, .int .i64 n, .int .u64 u, .string s, .slice none 0 0, .slice A xs.length c] :=
  kN_mk W ⟨k, n, u, s, [], xs⟩ (Nat.le_refl _) (Kd.C_nil _ _) hc h
theorem mapK {W : World} {A B : Option Addr} {ks : List ByteArray} {xs : List Nd} {c e : Nat} (k n u : Int) (s : ByteArray) (he : ks.length ≤ e) (hk : Kd.string.C W B ks.length ks) (hc : xs.length ≤ c) (h : kN.C W A xs.length xs) : kN.K W ⟨k, n, u, s, ks, xs⟩ [.int .i64 k, .int .i64 n, .int .u64 u, .string s, .slice B ks.length e, .slice A xs.length c] :=
  kN_mk W ⟨k, n, u, s, ks, xs⟩ he hk hc h
theorem strK (W : World) (s : ByteArray) : Kd.string.K W s [.string s] := rfl
theorem ba_mk (s : ByteArray) : (⟨s.data.toList.toArray⟩ : ByteArray) = s := by cases s; rfl
/-- The answer true. -/
def YesQ (w : World) (e : Ending) (w' : World) : Prop := e = .returned (.bool true) ∧ Below w.heap.size w w'
set_option maxRecDepth 100000 in
set_option maxHeartbeats 400000 in
theorem shows_c (t : Nd) (cs : List Value) (w : World) (want : ByteArray) (hK : kN.K w t cs) (hwt : wt t ≤ 268435456) (hnr : NRb 0 t) (hL : Laid w) (hp : printR t = (want.data.toList, 0)) :
    Calls Tryd.prog 13 #[.agg cs.toArray, .string want] w (YesQ w) := by
  have hB : Below w.heap.size w (w.alloc (.cells cs.toArray 26)) := (Below.refl _ _).alloc (Nat.le_refl _) _
  have hpr := print_c t cs (w.alloc (.cells cs.toArray 26)) (kN.K_below hB hK) hwt hnr (hL.below hB)
  rw [hp] at hpr
  obtain ⟨A4, c4, A5, c5, rfl, -, -, -, -⟩ := kN_open hK
  have HP := Aside0.mk hpr
  clear hpr hp hL hnr hK
  go_enter Tryd.func13, Tryd.ntmps13
  go_wp2_with fail
  refine HP.out.mono ?_
  rintro e w2 ⟨rfl, hb⟩
  rw [ba_mk]
  go_wp2_with fail
  go_ret
  exact ⟨rfl, hB.trans (hb.mono (by simp))⟩
set_option maxRecDepth 100000 in
set_option maxHeartbeats 400000 in
theorem fails_c (t : Nd) (cs : List Value) (w : World) (E : Int) (hK : kN.K w t cs) (hwt : wt t ≤ 268435456) (hnr : NRb 0 t) (hL : Laid w) (hp : printR t = ([], E)) :
    Calls Tryd.prog 16 #[.agg cs.toArray, .int .i64 E] w (YesQ w) := by
  have hB : Below w.heap.size w (w.alloc (.cells cs.toArray 26)) := (Below.refl _ _).alloc (Nat.le_refl _) _
  have hpr := print_c t cs (w.alloc (.cells cs.toArray 26)) (kN.K_below hB hK) hwt hnr (hL.below hB)
  rw [hp] at hpr
  obtain ⟨A4, c4, A5, c5, rfl, -, -, -, -⟩ := kN_open hK
  have HP := Aside0.mk hpr
  clear hpr hp hL hnr hK
  go_enter Tryd.func16, Tryd.ntmps16
  go_wp2_with fail
  refine HP.out.mono ?_
  rintro e w2 ⟨rfl, hb⟩
  go_wp2_with fail
  go_ret
  exact ⟨rfl, hB.trans (hb.mono (by simp))⟩
/-- An aggregate is returned, and memory was made. -/
def AggQ (w : World) (cs : Array Value) (e : Ending) (w' : World) : Prop := e = .returned (.agg cs) ∧ Below w.heap.size w w'
set_option maxRecDepth 100000 in
set_option maxHeartbeats 400000 in
theorem num_c (n : Int) (w : World) : Calls Tryd.prog 15 #[.int .i64 n] w (AggQ w #[.int .i64 3, .int .i64 n, .int .u64 0, .string ⟨#[]⟩, .slice none 0 0, .slice none 0 0]) := by
  go_enter Tryd.func15, Tryd.ntmps15
  go_wp2
  exact bodyPost_ret (v := .agg #[.int .i64 3, .int .i64 n, .int .u64 0, .string ⟨#[]⟩, .slice none 0 0, .slice none 0 0]) (by simp [results, Tryd.results15, go_sem]) rfl ⟨rfl, (Below.refl _ _).alloc (Nat.le_refl _) _⟩
set_option maxRecDepth 100000 in
set_option maxHeartbeats 400000 in
theorem vec_c (A : Option Addr) (n c : Nat) (w : World) : Calls Tryd.prog 14 #[.slice A n c] w (AggQ w #[.int .i64 10, .int .i64 0, .int .u64 0, .string ⟨#[]⟩, .slice none 0 0, .slice A n c]) := by
  go_enter Tryd.func14, Tryd.ntmps14
  go_wp2
  exact bodyPost_ret (v := .agg #[.int .i64 10, .int .i64 0, .int .u64 0, .string ⟨#[]⟩, .slice none 0 0, .slice A n c]) (by simp [results, Tryd.results14, go_sem]) rfl ⟨rfl, (Below.refl _ _).alloc (Nat.le_refl _) _⟩
end Go.Proofs.YtloemnickbkonaaDoor
