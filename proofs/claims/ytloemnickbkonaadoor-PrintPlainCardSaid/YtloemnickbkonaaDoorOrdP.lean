/- The order of the keys, in plain words: how byte strings compare; sorted places; keys that part. -/
import Derived.Test.YtloemnickbkonaaDoorBld
import Derived.Test.YtloemnickbkonaaDoorShelf
namespace Go.Proofs.YtloemnickbkonaaDoor
open Go.RowKit Go.Sort
set_option linter.unusedVariables false
set_option linter.unusedSimpArgs false

theorem cb_self : ∀ a : List UInt8, Lib.compareBytes a a = 0
  | [] => rfl
  | x :: a => by simp only [Lib.compareBytes]; rw [if_neg (by simp), if_neg (by simp)]; exact cb_self a
theorem cb_eq : ∀ {a b : List UInt8}, Lib.compareBytes a b = 0 → a = b
  | [], [], _ => rfl
  | [], _ :: _, h => by simp [Lib.compareBytes] at h
  | _ :: _, [], h => by simp [Lib.compareBytes] at h
  | x :: a, y :: b, h => by
    simp only [Lib.compareBytes] at h
    split at h
    · cases h
    · split at h
      · cases h
      · have : x = y := by rename_i h1 h2; exact UInt8.le_antisymm (UInt8.not_lt.1 h2) (UInt8.not_lt.1 h1)
        rw [this, cb_eq h]
theorem cb_flip : ∀ a b : List UInt8, Lib.compareBytes b a = - Lib.compareBytes a b
  | [], [] => rfl
  | [], _ :: _ => rfl
  | _ :: _, [] => rfl
  | x :: a, y :: b => by
    simp only [Lib.compareBytes]
    by_cases h1 : x < y
    · rw [if_pos h1, if_neg (UInt8.lt_asymm h1), if_pos h1]; rfl
    · rw [if_neg h1]
      by_cases h2 : y < x
      · rw [if_pos h2, if_pos h2, if_neg h1]
      · rw [if_neg h2, if_neg h2, if_neg h1]; exact cb_flip a b
theorem cb_trans : ∀ {a b c : List UInt8}, Lib.compareBytes a b < 0 → Lib.compareBytes b c < 0 → Lib.compareBytes a c < 0
  | [], [], _, h, _ => by simp [Lib.compareBytes] at h
  | [], _ :: _, [], _, h => by simp [Lib.compareBytes] at h
  | [], _ :: _, _ :: _, _, _ => by simp [Lib.compareBytes]
  | _ :: _, [], _, h, _ => by simp [Lib.compareBytes] at h
  | _ :: _, _ :: _, [], _, h => by simp [Lib.compareBytes] at h
  | x :: a, y :: b, z :: c, h, k => by
    simp only [Lib.compareBytes] at h k ⊢
    by_cases h1 : x < y
    · by_cases k1 : y < z
      · rw [if_pos (UInt8.lt_trans h1 k1)]; decide
      · rw [if_neg k1] at k
        by_cases k2 : z < y
        · rw [if_pos k2] at k; exact absurd k (by decide)
        · have e : y = z := UInt8.le_antisymm (UInt8.not_lt.1 k2) (UInt8.not_lt.1 k1)
          rw [if_pos (e ▸ h1)]; decide
    · rw [if_neg h1] at h
      by_cases h2 : y < x
      · rw [if_pos h2] at h; exact absurd h (by decide)
      · rw [if_neg h2] at h
        have e : x = y := UInt8.le_antisymm (UInt8.not_lt.1 h2) (UInt8.not_lt.1 h1)
        subst e
        by_cases k1 : x < z
        · rw [if_pos k1]; decide
        · rw [if_neg k1] at k ⊢
          by_cases k2 : z < x
          · rw [if_pos k2] at k; exact absurd k (by decide)
          · rw [if_neg k2] at k ⊢
            exact cb_trans h k

/-- How two places compare: as their keys do. -/
def cmpK (ks : List ByteArray) (i j : Fin ks.length) : Int := Lib.compareBytes (ks[i]).data.toList (ks[j]).data.toList
theorem ba_ext {a b : ByteArray} (h : a.data.toList = b.data.toList) : a = b := by
  cases a; cases b; congr; exact Array.toList_inj.1 h
theorem ltK (ks : List ByteArray) (i j : Fin ks.length) : ltOf (cmpK ks) i j = true ↔ Lib.compareBytes (ks[i]).data.toList (ks[j]).data.toList < 0 := decide_eq_true_iff
theorem ltK_f (ks : List ByteArray) (i j : Fin ks.length) : ltOf (cmpK ks) i j = false ↔ Lib.compareBytes (ks[j]).data.toList (ks[i]).data.toList ≤ 0 := by
  rw [cb_flip (ks[i]).data.toList]; unfold ltOf cmpK; rw [decide_eq_false_iff_not]; omega
theorem cb_le_trans {a b c : List UInt8} (h : Lib.compareBytes a b ≤ 0) (k : Lib.compareBytes b c ≤ 0) : Lib.compareBytes a c ≤ 0 := by
  by_cases e : Lib.compareBytes a b = 0
  · rw [cb_eq e]; exact k
  · by_cases f : Lib.compareBytes b c = 0
    · rw [← cb_eq f]; exact h
    · exact Int.le_of_lt (cb_trans (b := b) (by omega) (by omega))
theorem swoK (ks : List ByteArray) : SWO (ltOf (cmpK ks)) where
  irrefl x := by rw [ltK_f, cb_self]; decide
  trans x y z h k := by rw [ltK] at *; exact cb_trans h k
  ntrans x y z h k := by rw [ltK_f] at *; exact cb_le_trans k h
theorem totK {ks : List ByteArray} (hn : ks.Nodup) (x y : Fin ks.length) (h : ltOf (cmpK ks) x y = false) (k : ltOf (cmpK ks) y x = false) : x = y := by
  rw [ltK_f] at h k
  have e : ks[x] = ks[y] := ba_ext (cb_eq (by have := cb_flip (ks[x]).data.toList (ks[y]).data.toList; omega))
  rcases Nat.lt_trichotomy x.val y.val with g | g | g
  · exact absurd e ((List.pairwise_iff_getElem.1 hn) x.val y.val x.isLt y.isLt g)
  · exact Fin.ext g
  · exact absurd e.symm ((List.pairwise_iff_getElem.1 hn) y.val x.val y.isLt x.isLt g)
/-- The places in the order of their keys. -/
def orderF (ks : List ByteArray) : List (Fin ks.length) := (List.finRange ks.length).mergeSort fun x y => !ltOf (cmpK ks) y x
def orderP (ks : List ByteArray) : List Nat := (orderF ks).map (·.val)
theorem orderF_perm (ks : List ByteArray) : (orderF ks).Perm (List.finRange ks.length) := List.mergeSort_perm _ _
theorem orderP_perm (ks : List ByteArray) : (orderP ks).Perm (List.range ks.length) := by
  have := (orderF_perm ks).map (·.val)
  have e : (List.finRange ks.length).map (·.val) = List.range ks.length := by
    apply List.ext_getElem <;> simp
  rwa [e] at this
theorem orderP_length (ks : List ByteArray) : (orderP ks).length = ks.length := by simpa using (orderP_perm ks).length_eq
theorem keys_range (ks : List ByteArray) : (List.finRange ks.length).map (fun i => ks[i]) = ks := by
  apply List.ext_getElem <;> simp
theorem key_bang {ks : List ByteArray} [Inhabited (Fin ks.length)] {d : Array (Fin ks.length)} {i : Nat} (hi : i < d.size) : ks[d[i]!] = ks[d[i]] := congrArg (fun x : Fin ks.length => ks[x]) (getElem!_pos d i hi)
/-- The places as they begin. -/
def place0 (ks : List ByteArray) : Array (Fin ks.length) := (List.finRange ks.length).toArray
theorem place0_size (ks : List ByteArray) : (place0 ks).size = ks.length := by simp [place0]
theorem perm_keys {ks : List ByteArray} {d : Array (Fin ks.length)} (h : d.toList.Perm (List.finRange ks.length)) : (d.toList.map fun i => ks[i]).Perm ks := by
  have := h.map (fun i => ks[i])
  rwa [keys_range] at this
theorem permIn_all {ks : List ByteArray} [Inhabited (Fin ks.length)] {d : Array (Fin ks.length)} (h : PermIn 0 (place0 ks).size (place0 ks) d) : d.toList.Perm (List.finRange ks.length) := by
  obtain ⟨h1, -, h3⟩ := h
  rw [Array.extract_eq_self_of_le (by omega), Array.extract_eq_self_of_le (by omega)] at h3
  simpa [place0] using h3
theorem adj_strict {ks : List ByteArray} [Inhabited (Fin ks.length)] {d : Array (Fin ks.length)} (hs : d.size = ks.length) (hS : SortedIn (ltOf (cmpK ks)) 0 ks.length d)
    (ha : ∀ i, 1 ≤ i → i < ks.length → ks[d[i - 1]!] ≠ ks[d[i]!]) (i : Nat) : ∀ j, i < j → j < ks.length → Lib.compareBytes (ks[d[i]!]).data.toList (ks[d[j]!]).data.toList < 0
  | 0, h, _ => absurd h (by omega)
  | j + 1, h, hj => by
    have h1 := (ltK_f ks _ _).1 (hS j (j + 1) (by omega) (by omega) hj)
    have h2 : Lib.compareBytes (ks[d[j]!]).data.toList (ks[d[j + 1]!]).data.toList ≠ 0 := fun e => ha (j + 1) (by omega) hj (ba_ext (cb_eq e))
    by_cases e : i = j
    · subst e; omega
    · exact cb_trans (adj_strict hs hS ha i j (by omega) (by omega)) (by omega)
theorem adj_nodup {ks : List ByteArray} [Inhabited (Fin ks.length)] {d : Array (Fin ks.length)} (hs : d.size = ks.length) (hS : SortedIn (ltOf (cmpK ks)) 0 ks.length d) (hp : d.toList.Perm (List.finRange ks.length))
    (ha : ∀ i, 1 ≤ i → i < ks.length → ks[d[i - 1]!] ≠ ks[d[i]!]) : ks.Nodup := by
  refine (perm_keys hp).nodup_iff.1 ?_
  refine List.pairwise_iff_getElem.2 fun i j hi hj hij e => ?_
  simp only [List.length_map, Array.length_toList] at hi hj
  simp only [List.getElem_map, Array.getElem_toList] at e
  have := adj_strict hs hS ha i j hij (by omega)
  rw [key_bang hi, key_bang hj, e, cb_self] at this
  exact absurd this (by decide)
theorem adj_dup {ks : List ByteArray} [Inhabited (Fin ks.length)] {d : Array (Fin ks.length)} (hs : d.size = ks.length) (hp : d.toList.Perm (List.finRange ks.length)) {i : Nat} (h0 : 1 ≤ i) (h1 : i < ks.length)
    (he : ks[d[i - 1]!] = ks[d[i]!]) : ¬ ks.Nodup := by
  intro hn
  have hL := (perm_keys hp).nodup_iff.2 hn
  have := (List.pairwise_iff_getElem.1 hL) (i - 1) i (by simp; omega) (by simp; omega) (by omega)
  simp only [List.getElem_map, Array.getElem_toList] at this
  rw [key_bang (by omega), key_bang (by omega)] at he
  exact this he
theorem sorted_orderF {ks : List ByteArray} [Inhabited (Fin ks.length)] {d : Array (Fin ks.length)} (hn : ks.Nodup) (h : PermIn 0 (place0 ks).size (place0 ks) d) (hS : SortedIn (ltOf (cmpK ks)) 0 (place0 ks).size d) : d.toList = orderF ks := by
  have := Go.Sort.sorted_unique_holds (lt := ltOf (cmpK ks)) (swoK ks) (totK hn) (place0 ks) d h hS
  simpa [orderF, place0] using this
end Go.Proofs.YtloemnickbkonaaDoor
