/- utf.Quote: what it writes, and its contract. -/
import Derived.Test.YtloemnickbkonaaDoorValid
import Derived.Test.YtloemnickbkonaaDoorIdx
import Derived.Test.YtloemnickbkonaaDoorRune
import Derived.Deep.DeepCutAuto
import Derived.StillTailTactics
import Derived.Lib.FieldsP
import Derived.Lib.FieldsU
import Derived.Lib.QuoteBits
namespace Go.Proofs.YtloemnickbkonaaDoor
open Go.RowKit Go.Proofs.YtloemnickbkonaaDoorW.PrintWords Go.Proofs.YtloemnickbkonaaDoorW.PrintLast Go.Proofs.YtloemnickbkonaaDoorW.PrintMore
set_option linter.unusedVariables false
set_option linter.unusedSimpArgs false

def marksB : ByteArray := { data := #[34, 92, 47, 98, 102, 110, 114, 116] }
def hexB : ByteArray := { data := #[48, 49, 50, 51, 52, 53, 54, 55, 56, 57, 97, 98, 99, 100, 101, 102] }
/-- A rune within a string literal. -/
def escB (r : Int) : ByteArray :=
  if 0 ≤ meantAt r ∧ r ≠ 47 then ({ data := #[92] } : ByteArray) ++ marksB.extract (meantAt r).toNat (meantAt r + 1).toNat
  else if r < 32 then ({ data := #[92, 117, 48, 48] } : ByteArray) ++ hexB.extract (r / 16).toNat (r / 16 + 1).toNat ++ hexB.extract (r % 16).toNat (r % 16 + 1).toNat
  else ⟨(Lib.encodeRune r).toArray⟩
def escL (r : Int) : List UInt8 := (escB r).data.toList
def escFrom (s : ByteArray) : Nat → Nat → List UInt8
  | 0, _ => []
  | g + 1, pos => if pos < s.size then escL (Utf8.decode s pos).1 ++ escFrom s g (pos + (Utf8.decode s pos).2) else []
def quoteL (s : ByteArray) : List UInt8 := [34] ++ escFrom s s.size 0 ++ [34]
def quoteS (s : ByteArray) : ByteArray := if Lib.validD s.data.toList then ⟨(quoteL s).toArray⟩ else ⟨#[]⟩
def quoteE (s : ByteArray) : Int := if Lib.validD s.data.toList then 0 else 40
theorem escFrom_end (s : ByteArray) (g pos : Nat) (h : ¬ pos < s.size) : escFrom s g pos = [] := by
  cases g with
  | zero => rfl
  | succ g => rw [escFrom, if_neg h]
theorem byteCells_append (a b : List UInt8) : Lib.byteCells (a ++ b) = Lib.byteCells a ++ Lib.byteCells b := by simp [Lib.byteCells]
theorem bldT_own : BldT 37 2 0 := ⟨by kernel_rfl, by decide, by decide⟩
theorem bld_new (w : World) : Bld w.heap.size w.heap.size 0 (Lib.byteCells []) #[.pointer none, .slice none 0 0] 37 (w.alloc (.cells #[.pointer none, .slice none 0 0] 37)) :=
  ⟨Nat.le_refl _, heap_alloc_new _ _, _, _, rfl, rfl, .inl rfl, ⟨rfl, .inl ⟨rfl, rfl⟩⟩, by simp [Value.ownBlock]⟩

theorem Bld.cells {base b o : Nat} {bs : List Value} {cs : Array Value} {T : TypeId} {w w' : World} (h : Bld base b o bs cs T w) (k : ∀ (i : Nat) (c : Array Value) (t : TypeId) (fr : Nat × Nat), w.heap[i]? = some (Obj.cells c t fr) → w'.heap[i]? = some (Obj.cells c t fr)) : Bld base b o bs cs T w' := by
  obtain ⟨hB, hb, p, v, h0, h1, hp, hown, hne⟩ := h
  refine ⟨hB, k _ _ _ _ hb, p, v, h0, h1, hp, ⟨hown.1, ?_⟩, hne⟩
  rcases hown.2 with h | ⟨g, cap, cur, fz, hv, hbg, hg, rest⟩
  · exact .inl h
  · exact .inr ⟨g, cap, cur, fz, hv, hbg, k _ _ _ _ hg, rest⟩
theorem Bld.below {base b o : Nat} {bs : List Value} {cs : Array Value} {T : TypeId} {w w' : World} (h : Bld base b o bs cs T w) (k : Below w.heap.size w w') : Bld base b o bs cs T w' :=
  h.cells fun i c t fr hi => (k.block i (heap_lt' hi)).trans hi
theorem Bld.iterAt {base b o : Nat} {bs : List Value} {cs : Array Value} {T : TypeId} {w : World} {it : Nat} {s : ByteArray} {pos : Nat} (h : Bld base b o bs cs T w) (k : w.heap[it]? = some (.stringIter s pos)) (pos' : Nat) : Bld base b o bs cs T (w.iterAt it s pos') :=
  h.cells fun i c t fr hi => (Lib.iterAt_other w it i s pos' (fun e => by subst e; rw [k] at hi; cases hi)).trans hi

/-- Between two rounds. -/
def QI (s : ByteArray) (w1 : World) (it : Nat) (wr : World) (pos : Nat) : Prop := ∃ (g : Nat) (l : List UInt8) (cs : Array Value), cs.size = 2 ∧ s.size ≤ pos + g ∧ pos ≤ s.size ∧ l.length ≤ 1 + 6 * pos ∧ l ++ escFrom s g pos ++ [34] = quoteL s ∧
  Bld w1.heap.size w1.heap.size 0 (Lib.byteCells l) cs 37 wr ∧ wr.heap[it]? = some (.stringIter s pos) ∧ Below w1.heap.size w1 wr ∧ it ≠ w1.heap.size
theorem meantAt_le (r : Int) : -1 ≤ meantAt r ∧ meantAt r < 8 := by
  unfold meantAt
  split
  · exact ⟨Lib.indexByte_ge _ _, by simp only [Lib.indexByte]; repeat' split <;> try omega⟩
  · decide
theorem enc_len (r : Int) : (Lib.encodeRune r).length ≤ 4 := by
  unfold Lib.encodeRune Lib.encodeRuneZ
  rw [List.length_map]
  repeat' split
  all_goals simp
theorem ex_len (s : ByteArray) (n : Nat) : (s.extract n (n + 1)).size ≤ 1 := by
  rw [ByteArray.size_extract]
  omega
theorem escL_size (r : Int) : (escL r).length = (escB r).size := by
  show (escB r).data.toList.length = _
  rw [Array.length_toList]
  rfl
theorem iterPos_of {w : World} {k : Nat} {s : ByteArray} {p : Nat} (h : w.heap[k]? = some (.stringIter s p)) : w.iterPos k = p := by simp [World.iterPos, h]
theorem esc_len (r : Int) : (escL r).length ≤ 6 := by
  rw [escL_size]
  unfold escB
  split
  · rename_i h
    rw [ByteArray.size_append, show (meantAt r + 1).toNat = (meantAt r).toNat + 1 from by omega]
    have := ex_len marksB (meantAt r).toNat
    have e : ({ data := #[92] } : ByteArray).size = 1 := rfl
    omega
  · split
    · rw [ByteArray.size_append, ByteArray.size_append]
      have e : ({ data := #[92, 117, 48, 48] } : ByteArray).size = 4 := rfl
      have h1 : (hexB.extract (r / 16).toNat (r / 16 + 1).toNat).size ≤ 1 := by rw [ByteArray.size_extract]; omega
      have h2 : (hexB.extract (r % 16).toNat (r % 16 + 1).toNat).size ≤ 1 := by rw [ByteArray.size_extract]; omega
      omega
    · have := enc_len r
      show (Lib.encodeRune r).toArray.size ≤ 6
      simp
      omega

theorem slice_hex (i : Int) (h0 : 0 ≤ i) (h1 : i < 16) (W : World) : (Instr.slice 9 (.string { data := #[48, 49, 50, 51, 52, 53, 54, 55, 56, 57, 97, 98, 99, 100, 101, 102] }) (some (.int .i32 i)) (some (.int .i32 (i + 1))) none).run Tryd.prog W = .ok (.string (hexB.extract i.toNat (i + 1).toNat)) W := by
  have g1 : i ≤ i + 1 := by omega
  have g2 : i + 1 ≤ 16 := by omega
  have g3 : 0 ≤ i + 1 := by omega
  have g4 : ((i + 1).toNat : Int) = i + 1 := Int.toNat_of_nonneg g3
  have hz : ({ data := #[48, 49, 50, 51, 52, 53, 54, 55, 56, 57, 97, 98, 99, 100, 101, 102] } : ByteArray).size = 16 := rfl
  simp [Instr.slice, run_underlying Tryd.underlying9, Instr.sliceBounds, run_sliceBound, sliced, hexB, *]
theorem QI.step {s : ByteArray} {w1 w4 : World} {it pos g K : Nat} {R : Int} {l : List UInt8} {cs : Array Value} (hcs : cs.size = 2) (hg : s.size ≤ pos + (g + 1)) (hwd : 1 ≤ K) (hwn : pos + K ≤ s.size) (hl : l.length ≤ 1 + 6 * pos)
    (HE : l ++ (escL R ++ escFrom s g (pos + K)) ++ [34] = quoteL s) (hB : Bld w1.heap.size w1.heap.size 0 (Lib.byteCells (l ++ escL R)) cs 37 w4) (hit : w4.heap[it]? = some (.stringIter s (pos + K))) (hBw : Below w1.heap.size w1 w4) (hine : it ≠ w1.heap.size) : QI s w1 it w4 (pos + K) :=
  ⟨g, l ++ escL R, cs, hcs, by omega, hwn, by have := esc_len R; rw [List.length_append]; omega, by rw [← HE]; simp, hB, hit, hBw, hine⟩
theorem cells_esc {R : Int} {l : List UInt8} {x : ByteArray} (h : escB R = x) : Lib.byteCells l ++ Lib.strCells x = Lib.byteCells (l ++ escL R) := by
  subst h
  rw [byteCells_append]
  rfl

theorem esc_rune {R : Int} (h : escB R = ⟨(Lib.encodeRune R).toArray⟩) : escL R = Lib.encodeRune R := by
  unfold escL
  rw [h]
set_option maxRecDepth 100000 in
set_option maxHeartbeats 1000000 in
theorem quote_bad (s : ByteArray) (w : World) (hs : s.size ≤ 1099511627776) (hT : Tabs w) (hv : Lib.validD s.data.toList = false) :
    Calls Tryd.prog 41 #[.string s] w fun e w' => e = .returned (.tuple #[.string ⟨#[]⟩, .int .i64 40]) ∧ Below w.heap.size w w' := by
  go_enter Tryd.func41, Tryd.ntmps41
  go_wp2_with (go_at_call 52; refine (valid_c s _ (by omega) hT).mono ?_; rw [hv]; rintro e w' ⟨rfl, hB⟩)
  go_ret2
  exact ⟨rfl, hB⟩
set_option maxRecDepth 100000 in
set_option maxHeartbeats 1000000 in
theorem quote_good (s : ByteArray) (w : World) (hs : s.size ≤ 1099511627776) (hT : Tabs w) (hv : Lib.validD s.data.toList = true) :
    Calls Tryd.prog 41 #[.string s] w fun e w' => e = .returned (.tuple #[.string ⟨(quoteL s).toArray⟩, .int .i64 0]) ∧ Below w.heap.size w w' := by
  go_enter Tryd.func41, Tryd.ntmps41
  go_wp2_with (go_at_call 52; refine (valid_c s _ (by omega) hT).mono ?_; rw [hv]; rintro e w1 ⟨rfl, hB1⟩)
  have HB1 := Aside0.mk hB1
  have HT := Aside0.mk (bldT_own)
  clear hB1 hT
  have hN := bld_new w1
  have hA : w1.heap.size ≤ (w1.alloc (.cells #[.pointer none, .slice none 0 0] 37)).heap.size := by simp
  go_wp2_with (go_at_call 42; refine (writeRune_c 34 (by decide) (by decide) hN HT.out (by decide) hA).mono ?_; rintro e w2 ⟨⟨n0, rfl⟩, cs, hBld, hsame, hB2, -⟩)
  have hcs : cs.size = 2 := hsame.1
  have HBL := Aside0.mk hBld
  have HB2 := Aside0.mk hB2
  have hz2 : w1.heap.size ≤ w2.heap.size := Nat.le_trans hA hB2.size
  clear hN hA hBld hB2 hsame
  go_loopw [6] (fun v6 wr => ∃ pos : Nat, QI s w1 w2.heap.size wr pos) (fun _ wr => s.size - wr.iterPos w2.heap.size)
  case atStart =>
    refine ⟨0, s.size, [34], cs, hcs, by omega, by omega, by simp, rfl, HBL.out.below ((Below.refl _ _).alloc (Nat.le_refl _) _), heap_alloc_new _ _, ?_, ?_⟩
    · exact (((Below.refl _ _).alloc (Nat.le_refl _) _).trans HB2.out).alloc hz2 _
    · have := HB2.out.size; simp at this; omega
  case round =>
    obtain ⟨pos, g, l, cs', hcs', hg, hpos, hl, HE, hB, hit, hBw, hine⟩ := hrel
    by_cases hlt : pos < s.size
    · obtain ⟨g, rfl⟩ : ∃ g', g = g' + 1 := ⟨g - 1, by omega⟩
      have hnx : ∀ ty, (Instr.next (.pointer (some ⟨w2.heap.size, 0, none⟩)) true ty).run Tryd.prog wr = _ := fun ty => Lib.run_next_any_at wr w2.heap.size s pos ty hit hlt
      have hwd := Lib.width_pos s pos
      have hwn : pos + (Utf8.decode s pos).2 ≤ s.size := by
        have := Lib.decodeN_le_n' (s.size - pos) (s.get! pos).toNat (s.get! (pos + 1)).toNat (s.get! (pos + 2)).toNat (s.get! (pos + 3)).toNat (by omega)
        rw [← Lib.decode_at] at this
        omega
      have hRl := decode_le s pos
      rw [escFrom, if_pos hlt] at HE
      obtain ⟨R, hR⟩ : ∃ R, (Utf8.decode s pos).1 = R := ⟨_, rfl⟩
      obtain ⟨K, hK⟩ : ∃ K, (Utf8.decode s pos).2 = K := ⟨_, rfl⟩
      rw [hR, hK] at hnx HE
      rw [hK] at hwd hwn
      rw [hR] at hRl
      have hB2 := hB.iterAt hit (pos + K)
      have hit2 := Lib.iterAt_heap wr w2.heap.size s pos (pos + K) hit
      have hBw2 := Lib.below_iterAt hBw (k := w2.heap.size) hz2 s (pos + K)
      generalize hWi : wr.iterAt w2.heap.size s (pos + K) = Wi at hnx hB2 hit2 hBw2
      have hip := iterPos_of hit
      clear hWi hit hB hBw
      have hmr := meantAt_le R
      have hel := esc_len R
      by_cases q1 : 0 ≤ meantAt R ∧ (R : Int) ≠ 47
      · have hes : escB R = ({ data := #[92] } : ByteArray) ++ marksB.extract (meantAt R).toNat (meantAt R + 1).toNat := by unfold escB; rw [if_pos q1]
        obtain ⟨q0, q2⟩ := q1
        generalize hM : meantAt R = M at *
        go_wp2_with (go_at_call 53; refine (idx_c R (by omega) (by omega) _).mono ?_; rintro e w3 ⟨rfl, hb3⟩)
        have hB3 := hB2.below hb3
        have hz3 : w1.heap.size ≤ w3.heap.size := Nat.le_trans hBw2.size hb3.size
        refine (writeString_c _ hB3 (by rw [hcs']; exact HT.out) ?hlen hz3).mono ?_
        rotate_left
        rintro e w4 ⟨rfl, cs4, hB4, hsame, hb4, hK4⟩
        go_wp2_with fail
        case hlen =>
          have : (({ data := #[92] } : ByteArray) ++ ({ data := #[34, 92, 47, 98, 102, 110, 114, 116] } : ByteArray).extract M.toNat (M + 1).toNat).size ≤ 6 := by
            rw [escL_size, hes] at hel
            exact hel
          rw [Lib.byteCells_length]
          omega
        have hB5 : Bld w1.heap.size w1.heap.size 0 (Lib.byteCells (l ++ escL R)) cs4 37 w4 := by rw [← cells_esc hes]; exact hB4
        have hit4 := hK4 _ _ ((hb3.block _ (heap_lt' hit2)).trans hit2) hine (fun _ _ e => by cases e)
        go_roundw
        case rel => exact ⟨pos + K, QI.step (hsame.1.trans hcs') hg hwd hwn hl HE hB5 hit4 ((hBw2.trans (hb3.mono hBw2.size)).trans hb4) hine⟩
        case measure => rw [hip, iterPos_of hit4]; omega
      · by_cases q3 : (R : Int) < 32
        · have hes : escB R = ({ data := #[92, 117, 48, 48] } : ByteArray) ++ hexB.extract ((R : Int) / 16).toNat ((R : Int) / 16 + 1).toNat ++ hexB.extract ((R : Int) % 16).toNat ((R : Int) % 16 + 1).toNat := by unfold escB; rw [if_neg q1, if_pos q3]
          have q4 : meantAt R < 0 := by
            by_cases e : meantAt R < 0
            · exact e
            · exact absurd ⟨by omega, by omega⟩ q1
          generalize hM : meantAt R = M at *
          clear q1
          go_wp2_with (go_at_call 53; refine (idx_c R (by omega) (by omega) _).mono ?_; rintro e w3 ⟨rfl, hb3⟩)
          have d1 : 0 ≤ (R : Int) / 16 := by omega
          have d2 : (R : Int) / 16 < 16 := by omega
          have d3 : IntKind.i32.wrap ((R : Int) / 16 + 1) = (R : Int) / 16 + 1 := by rw [IntKind.wrap_i32]; omega
          have d4 : (R : Int) / 16 + 1 ≤ 16 := by omega
          have d5 : 0 ≤ (R : Int) / 16 + 1 := by omega
          have e0 : bits .and .i32 (R : Int) 15 = (R : Int) % 16 := by rw [Lib.and15_i32 R (by omega)]; rfl
          have e1 : 0 ≤ (R : Int) % 16 := by omega
          have e2 : (R : Int) % 16 < 16 := by omega
          have e3 : IntKind.i32.wrap ((R : Int) % 16 + 1) = (R : Int) % 16 + 1 := by rw [IntKind.wrap_i32]; omega
          have f1 := fun W : World => slice_hex ((R : Int) / 16) d1 d2 W
          have f2 := fun W : World => slice_hex ((R : Int) % 16) e1 e2 W
          have z1 : (hexB.extract ((R : Int) / 16).toNat ((R : Int) / 16 + 1).toNat).size ≤ 1 := by rw [ByteArray.size_extract]; omega
          have z2 : (hexB.extract ((R : Int) % 16).toNat ((R : Int) % 16 + 1).toNat).size ≤ 1 := by rw [ByteArray.size_extract]; omega
          generalize hX1 : hexB.extract ((R : Int) / 16).toNat ((R : Int) / 16 + 1).toNat = X1 at f1 z1 hes
          generalize hX2 : hexB.extract ((R : Int) % 16).toNat ((R : Int) % 16 + 1).toNat = X2 at f2 z2 hes
          clear hX1 hX2
          have c1 : ∀ W : World, (Op.stringOp .add ({ data := #[92, 117, 48, 48] } : ByteArray) X1).run Tryd.prog W = .ok (.string (({ data := #[92, 117, 48, 48] } : ByteArray) ++ X1)) W := fun W => run_string_add_sum W _ _ (by have : ({ data := #[92, 117, 48, 48] } : ByteArray).size = 4 := rfl; omega)
          generalize hX3 : ({ data := #[92, 117, 48, 48] } : ByteArray) ++ X1 = X3 at c1 hes
          have z3 : X3.size ≤ 5 := by rw [← hX3, ByteArray.size_append]; have : ({ data := #[92, 117, 48, 48] } : ByteArray).size = 4 := rfl; omega
          have c2 : ∀ W : World, (Op.stringOp .add X3 X2).run Tryd.prog W = .ok (.string (X3 ++ X2)) W := fun W => run_string_add_sum W _ _ (by omega)
          clear hX3
          go_still_tail 14, (by kernel_rfl)
          change wpList _ _ _ _ _ w3.drew
          have hb3' : Below Wi.heap.size Wi w3.drew := hb3.drew
          clear hb3
          generalize w3.drew = w3' at *
          go_wp2_with fail
          have hB3 := hB2.below hb3'
          have hz3 : w1.heap.size ≤ w3'.heap.size := Nat.le_trans hBw2.size hb3'.size
          refine (writeString_c _ hB3 (by rw [hcs']; exact HT.out) ?hlen2 hz3).mono ?_
          case hlen2 => rw [Lib.byteCells_length, ByteArray.size_append]; omega
          rintro e w4 ⟨rfl, cs4, hB4, hsame, hb4, hK4⟩
          go_wp2_with fail
          have hB5 : Bld w1.heap.size w1.heap.size 0 (Lib.byteCells (l ++ escL R)) cs4 37 w4 := by rw [← cells_esc hes]; exact hB4
          have hit4 := hK4 _ _ ((hb3'.block _ (heap_lt' hit2)).trans hit2) hine (fun _ _ e => by cases e)
          go_roundw
          case rel => exact ⟨pos + K, QI.step (hsame.1.trans hcs') hg hwd hwn hl HE hB5 hit4 ((hBw2.trans (hb3'.mono hBw2.size)).trans hb4) hine⟩
          case measure => rw [hip, iterPos_of hit4]; omega
        · have hes : escB R = ⟨(Lib.encodeRune R).toArray⟩ := by unfold escB; rw [if_neg q1, if_neg q3]
          generalize hM : meantAt R = M at *
          have hor : ∀ W : World, True := fun _ => trivial
          by_cases q4 : 0 ≤ M
          · have q5 : (R : Int) = 47 := by
              by_cases e : (R : Int) = 47
              · exact e
              · exact absurd ⟨q4, e⟩ q1
            have q6 : (((R : Int)) == 47) = true := by rw [q5]; rfl
            have q7 : (R : Int) ≤ 2147483647 := by omega
            clear q5 q1
            go_wp2_with (go_at_call 53; refine (idx_c R (Int.natCast_nonneg R) q7 _).mono ?_; rintro e w3 ⟨rfl, hb3⟩)
            have hB3 := hB2.below hb3
            have hz3 : w1.heap.size ≤ w3.heap.size := Nat.le_trans hBw2.size hb3.size
            refine (writeRune_c R (Int.natCast_nonneg R) q7 hB3 (by rw [hcs']; exact HT.out) (by omega) hz3).mono ?_
            rintro e w4 ⟨⟨n4, rfl⟩, cs4, hB4, hsame, hb4, hK4⟩
            go_wp2_with fail
            have hB5 : Bld w1.heap.size w1.heap.size 0 (Lib.byteCells (l ++ escL R)) cs4 37 w4 := by rw [← esc_rune hes] at hB4; exact hB4
            have hit4 := hK4 _ _ ((hb3.block _ (heap_lt' hit2)).trans hit2) hine (fun _ _ e => by cases e)
            go_roundw
            case rel => exact ⟨pos + K, QI.step (hsame.1.trans hcs') hg hwd hwn hl HE hB5 hit4 ((hBw2.trans (hb3.mono hBw2.size)).trans hb4) hine⟩
            case measure => rw [hip, iterPos_of hit4]; omega
          · have q7 : (R : Int) ≤ 2147483647 := by omega
            go_wp2_with (go_at_call 53; refine (idx_c R (by omega) (by omega) _).mono ?_; rintro e w3 ⟨rfl, hb3⟩)
            have hB3 := hB2.below hb3
            have hz3 : w1.heap.size ≤ w3.heap.size := Nat.le_trans hBw2.size hb3.size
            refine (writeRune_c R (Int.natCast_nonneg R) q7 hB3 (by rw [hcs']; exact HT.out) (by omega) hz3).mono ?_
            rintro e w4 ⟨⟨n4, rfl⟩, cs4, hB4, hsame, hb4, hK4⟩
            go_wp2_with fail
            have hB5 : Bld w1.heap.size w1.heap.size 0 (Lib.byteCells (l ++ escL R)) cs4 37 w4 := by rw [← esc_rune hes] at hB4; exact hB4
            have hit4 := hK4 _ _ ((hb3.block _ (heap_lt' hit2)).trans hit2) hine (fun _ _ e => by cases e)
            go_roundw
            case rel => exact ⟨pos + K, QI.step (hsame.1.trans hcs') hg hwd hwn hl HE hB5 hit4 ((hBw2.trans (hb3.mono hBw2.size)).trans hb4) hine⟩
            case measure => rw [hip, iterPos_of hit4]; omega
    · have hnx : ∀ ty, (Instr.next (.pointer (some ⟨w2.heap.size, 0, none⟩)) true ty).run Tryd.prog wr = _ := fun ty => Lib.run_next_end_at wr w2.heap.size s pos ty hit hlt
      have hz3 : w1.heap.size ≤ wr.heap.size := hBw.size
      have HE2 : l ++ [34] = quoteL s := by rw [← HE, escFrom_end s g pos hlt]; simp
      clear HE
      go_wp2_with (go_at_call 42; refine (writeRune_c 34 (by decide) (by decide) hB (by rw [hcs']; exact HT.out) (by omega) hz3).mono ?_; rintro e w4 ⟨⟨n4, rfl⟩, cs4, hB4, hsame, hb4, hK4⟩)
      have hz4 : w1.heap.size ≤ w4.heap.size := Nat.le_trans hz3 hb4.size
      have he34 : Lib.encodeRune 34 = [34] := rfl
      rw [he34, HE2] at hB4
      go_wp2_with (go_at_call 11; refine (string_c hB4 hz4).mono ?_; rintro e w5 ⟨rfl, hb5, -⟩)
      go_ret2
      exact ⟨rfl, HB1.out.trans ((((hBw.trans hb4).trans hb5)).mono HB1.out.size)⟩
/-- utf.Quote. -/
theorem quote_c (s : ByteArray) (w : World) (hs : s.size ≤ 1099511627776) (hT : Tabs w) :
    Calls Tryd.prog 41 #[.string s] w fun e w' => e = .returned (.tuple #[.string (quoteS s), .int .i64 (quoteE s)]) ∧ Below w.heap.size w w' := by
  unfold quoteS quoteE
  cases hv : Lib.validD s.data.toList
  · exact quote_bad s w hs hT hv
  · exact quote_good s w hs hT hv
end Go.Proofs.YtloemnickbkonaaDoor
