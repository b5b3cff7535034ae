/- The contract of key.Order: the places of the keys in their order, or the error if two are one. -/
import Derived.Test.YtloemnickbkonaaDoorOrdP
import Derived.Deep.DeepCutAuto
import Derived.Laws.OwnMore
namespace Go.Proofs.YtloemnickbkonaaDoor
open Go.RowKit Go.Sort Go.Proofs.YtloemnickbkonaaDoorW.PrintWords Go.Proofs.YtloemnickbkonaaDoorW.PrintLast Go.Proofs.YtloemnickbkonaaDoorW.PrintMore
set_option linter.unusedVariables false
set_option linter.unusedSimpArgs false

theorem cell_at {A : Option Addr} {n : Nat} {ks : List ByteArray} {w : World} (hC : Kd.string.C w A n ks) (hn : n = ks.length) (i : Fin ks.length) : ∃ ad, A = some ad ∧ w.cell? (ad.add i.val) = some (.string ks[i]) := by
  subst hn
  obtain ⟨ad, h1, h2⟩ := Kd.at_string hC (i.val : Int) (by omega) (by have := i.isLt; omega)
  refine ⟨ad, h1, ?_⟩
  rw [Int.toNat_natCast] at h2
  rw [h2]
  simp [rdOf, List.getD_eq_getElem?_getD]
set_option maxHeartbeats 400000 in
theorem cmp_c (ks : List ByteArray) (A : Option Addr) (c b : Nat) (w : World) (hb : w.cell? ⟨b, 0, none⟩ = some (.slice A ks.length c)) (hC : Kd.string.C w A ks.length ks) (i j : Fin ks.length) :
    Calls Tryd.prog 69 #[.int .i64 i.val, .int .i64 j.val, .pointer (some ⟨b, 0, none⟩)] w fun e w' => e = .returned (.int .i64 (cmpK ks i j)) ∧ ∃ q, w' = w.drewN q := by
  obtain ⟨ad, rfl, hi⟩ := cell_at hC rfl i
  obtain ⟨ad', e', hj⟩ := cell_at hC rfl j
  cases e'
  have hil := i.isLt
  have hjl := j.isLt
  go_enter Tryd.func69, Tryd.ntmps69
  go_wp2_with fail
  go_quiet (first | (go_at_call 70; exact Calls.quiet_of_same (Tryd.strings_Compare _ _ _)))
  go_wp2
  go_ret
  exact ⟨rfl, _, rfl⟩

/-- A place as a cell. -/
def encP {n : Nat} (i : Fin n) : Value := .int .i64 i.val
theorem encP_one {n : Nat} : OneCell (encP (n := n)) := fun _ => rfl
theorem sorted_grown {ks : List ByteArray} {W : World} {g n : Nat} {d : Array (Fin ks.length)} [Inhabited (Fin ks.length)] {os : Array Obj} : W.grownBy (sortWorld encP W g 0 n d os) (some g) := by
  refine ⟨rfl, rfl, rfl, by simp [sortWorld, size_putRow, Sort.ahead], fun k hk hne => ?_⟩
  unfold sortWorld
  rw [heap_grow_old _ _ (by rw [size_putRow]; exact hk)]
  have : g ≠ k := fun e => hne (by rw [e])
  simp [putRow, mapBlock, Sort.ahead, Array.getElem?_modify, this]
theorem sorted_row {ks : List ByteArray} {W : World} {g n T : Nat} {d : Array (Fin ks.length)} [Inhabited (Fin ks.length)] {os : Array Obj} {cs : Array Value} (hb : W.heap[g]? = some (.cells cs T (0, 0))) (hs : cs.size = d.size) :
    (sortWorld encP W g 0 n d os).heap[g]? = some (.cells (d.map encP) T (0, 0)) := by
  unfold sortWorld
  rw [heap_grow_old _ _ (by rw [size_putRow]; exact heap_lt' hb)]
  simp only [putRow, mapBlock, Sort.ahead, Array.getElem?_modify, hb, if_true, Option.map_some]
  refine congrArg (fun x => some (Obj.cells x T (0, 0))) (?_ : putCells encP 0 d cs = d.map encP)
  apply Array.ext
  · simp [putCells, hs]
  · intro i h1 h2
    simp only [putCells, Array.getElem_mapIdx, Array.getElem_map]
    have : i < d.size := by simpa using h2
    rw [if_pos ⟨Nat.zero_le _, by omega⟩, Nat.sub_zero, getElem!_pos d i this]
theorem holds_of {n : Nat} [Inhabited (Fin n)] {W : World} {g T : Nat} {d : Array (Fin n)} (hb : W.heap[g]? = some (.cells (d.map encP) T (0, 0))) : Holds encP W g 0 d := fun j hj => by
  refine ⟨?_, heap_thawed hb _⟩
  rw [Nat.zero_add, heap_cell hb]
  simp [hj]
/-- cmp, in every world that the sort passes through. -/
theorem cmp_lays (ks : List ByteArray) [Inhabited (Fin ks.length)] (A : Option Addr) (c b g : Nat) (w0 w : World) (hb : w.cell? ⟨b, 0, none⟩ = some (.slice A ks.length c)) (hbl : b < w.heap.size) (hbg : b ≠ g) (hC : Kd.string.C w0 A ks.length ks)
    (hB : Below w0.heap.size w0 w) (hg : w0.heap.size ≤ g) : CmpLays1 Tryd.prog 69 #[.pointer (some ⟨b, 0, none⟩)] encP (cmpK ks) g 0 ks.length w := fun m os dk hs x y => by
  have hgr : w.grownBy (sortWorld encP w g 0 m dk os) (some g) := sorted_grown
  refine (cmp_c ks A c b _ ?_ (Kd.C_below hC (hB.grown hgr hB.size (fun k e => by cases e; exact hg))) x y).mono ?_
  · rw [← hb]
    unfold World.cell?
    rw [hgr.block b hbl (fun e => hbg (by cases e; rfl))]
  · rintro e w' ⟨rfl, q, rfl⟩
    exact ⟨rfl, q, #[], (grow_empty _).symm⟩

/-- What Order leaves. -/
def OrdQ (ks : List ByteArray) (w : World) (e : Ending) (w' : World) : Prop := Below w.heap.size w w' ∧
  ((ks.Nodup ∧ ∃ b, w.heap.size ≤ b ∧ w'.heap[b]? = some (.cells ((orderP ks).map fun (i : Nat) => Value.int .i64 i).toArray 3 (0, 0)) ∧ e = .returned (.tuple #[.slice (some ⟨b, 0, none⟩) ks.length ks.length, .int .i64 0])) ∨
   (¬ ks.Nodup ∧ e = .returned (.tuple #[.slice none 0 0, .int .i64 71])))
/-- The row of places while it is filled. -/
def fillR (n i : Nat) : Array Value := ((List.range n).map fun j => if j < i then Value.int .i64 j else .int .i64 0).toArray
theorem fillR_zero (n : Nat) : (madeCells #[Value.int .i64 0] n) = fillR n 0 := by
  apply Array.toList_inj.1
  rw [toList_madeCells_one]
  simp [fillR, List.map_const']
theorem fillR_set (n i : Nat) (h : i < n) : (fillR n i).setIfInBounds i (.int .i64 i) = fillR n (i + 1) := by
  apply Array.ext
  · simp [fillR]
  · intro j h1 h2
    simp only [fillR, List.setIfInBounds_toArray, List.getElem_toArray, List.getElem_set, List.getElem_map, List.getElem_range]
    split
    · rename_i e; subst e; rw [if_pos (by omega)]
    · rename_i e
      have : (j < i ↔ j < i + 1) := by omega
      simp only [this]
theorem fillR_end (ks : List ByteArray) : fillR ks.length ks.length = (place0 ks).map encP := by
  apply Array.ext
  · simp [fillR, place0]
  · intro j h1 h2
    have : j < ks.length := by simpa [fillR] using h1
    simp [fillR, place0, encP, this]
end Go.Proofs.YtloemnickbkonaaDoor
