/- b64.Put. -/
import Derived.Test.YtloemnickbkonaaDoorQuote
import Derived.Test.YtloemnickbkonaaDoorUint
namespace Go.Proofs.YtloemnickbkonaaDoor
open Go.RowKit Go.Proofs.YtloemnickbkonaaDoorW.PrintWords Go.Proofs.YtloemnickbkonaaDoorW.PrintLast Go.Proofs.YtloemnickbkonaaDoorW.PrintMore
set_option linter.unusedVariables false
set_option linter.unusedSimpArgs false

theorem or_i64_nat (a b : Nat) (ha : a < 9223372036854775808) (hb : b < 9223372036854775808) : bits .or .i64 (a : Int) (b : Int) = ((a ||| b : Nat) : Int) := by
  have hx : a ||| b < 2 ^ 63 := Nat.or_lt_two_pow (by omega) (by omega)
  have h1 : (BitVec.ofInt 64 (a : Int)).toNat = a := by
    rw [BitVec.ofInt_natCast, BitVec.toNat_ofNat]; exact Nat.mod_eq_of_lt (by omega)
  have h2 : (BitVec.ofInt 64 (b : Int)).toNat = b := by
    rw [BitVec.ofInt_natCast, BitVec.toNat_ofNat]; exact Nat.mod_eq_of_lt (by omega)
  show IntKind.i64.wrap ((BitVec.ofInt 64 (a : Int) ||| BitVec.ofInt 64 (b : Int)).toNat : Int) = _
  rw [BitVec.toNat_or, h1, h2, IntKind.wrap_i64]
  omega
theorem and63_nat (a : Nat) (ha : a < 9223372036854775808) : bits .and .i64 (a : Int) 63 = ((a % 64 : Nat) : Int) := by
  have := bits_mask .i64 63 (by decide) (fun n h0 h1 => by rw [IntKind.wrap_i64]; omega) 6 (by decide) (a : Int) (by omega) (by omega)
  rw [show (2 : Int) ^ 6 - 1 = 63 from rfl] at this
  rw [this]
  omega
/-- The number that a group forms, after so many rounds. -/
def nOf (p : List UInt8) : Nat → Nat
  | 0 => 0
  | i + 1 => if h : i < p.length then (nOf p i * 256) ||| (p[i]).toNat else nOf p i * 256
theorem nOf_lt (p : List UInt8) : ∀ i, nOf p i < 2 ^ (8 * i)
  | 0 => by simp [nOf]
  | i + 1 => by
    have h := nOf_lt p i
    have h2 : nOf p i * 256 < 2 ^ (8 * (i + 1)) := by rw [Nat.mul_add, Nat.pow_add]; omega
    rw [nOf]
    split
    · rename_i hi
      refine Nat.or_lt_two_pow h2 (Nat.lt_of_lt_of_le (UInt8.toNat_lt _) ?_)
      rw [Nat.mul_add, Nat.pow_add]
      exact Nat.le_mul_of_pos_left _ (Nat.two_pow_pos _)
    · exact h2
def signL : List UInt8 := [65, 66, 67, 68, 69, 70, 71, 72, 73, 74, 75, 76, 77, 78, 79, 80, 81, 82, 83, 84, 85, 86, 87, 88, 89, 90, 97, 98, 99, 100, 101, 102, 103, 104, 105, 106, 107, 108, 109, 110, 111, 112, 113, 114, 115, 116, 117, 118, 119, 120, 121, 122, 48, 49, 50, 51, 52, 53, 54, 55, 56, 57, 43, 47]
def ch (p : List UInt8) (i : Nat) : UInt8 := if i > p.length then 61 else signL.getD (nOf p 3 / 2 ^ (6 * (3 - i)) % 64) 0
def chars (p : List UInt8) (k : Nat) : List UInt8 := (List.range k).map (ch p)
def put64 : Nat → List UInt8 → List UInt8
  | 0, _ => []
  | g + 1, l => if l = [] then [] else chars (l.take 3) 4 ++ put64 g (l.drop 3)
def b64L (l : List UInt8) : List UInt8 := put64 l.length l
theorem chars_succ (p : List UInt8) (k : Nat) : chars p (k + 1) = chars p k ++ [ch p k] := by simp [chars, List.range_succ]
theorem put64_nil (g : Nat) : put64 g [] = [] := by cases g <;> simp [put64]
/-- Bytes as the words' integers. -/
def bi (l : List UInt8) : List Int := l.map fun b => (b.toNat : Int)

def sliceLen : Value → Nat
  | .slice _ n _ => n
  | _ => 0
def PutI (l : List UInt8) (w : World) (v0 : Value) (wr : World) (k : Nat) : Prop := ∃ (r acc : List UInt8) (A' : Option Addr) (c' g : Nat) (cs : Array Value), v0 = .slice A' r.length c' ∧ r.length = k ∧ r.length ≤ c' ∧ (Kd.int .u8).C w A' (bi r).length (bi r) ∧ cs.size = 2 ∧
  Bld w.heap.size w.heap.size 0 (Lib.byteCells acc) cs 37 wr ∧ Below w.heap.size w wr ∧ acc ++ put64 g r = b64L l ∧ r.length ≤ g ∧ acc.length + 4 * r.length ≤ 4 * l.length
theorem bi_at (p : List UInt8) (i : Nat) (h : i < p.length) : rd (bi p) (i : Int) = ((p[i]).toNat : Int) := by
  simp [rd, bi, h]
/-- Between two signs. -/
def PutJ (w : World) (acc p : List UInt8) (wq : World) (j : Nat) : Prop := ∃ cs : Array Value, cs.size = 2 ∧ Bld w.heap.size w.heap.size 0 (Lib.byteCells (acc ++ chars p j)) cs 37 wq ∧ Below w.heap.size w wq
theorem and63_shift (n k X : Nat) (hn : n < 16777216) (h : n / 2 ^ k % 64 = X) : bits BinOp.and IntKind.i64 ((n : Int) / 2 ^ k) 63 = (X : Int) := by
  have e : (n : Int) / 2 ^ k = ((n / 2 ^ k : Nat) : Int) := by rw [Int.natCast_ediv]; norm_cast
  rw [e, and63_nat _ (Nat.lt_of_le_of_lt (Nat.div_le_self _ _) (by omega)), h]
def signB : ByteArray := ⟨signL.toArray⟩
theorem sign_at (X : Nat) (h : X < 64) : (signB[X]'h).toNat = (signL.getD X 0).toNat := by
  have : ∀ i : Fin 64, (signB[i.val]'i.isLt).toNat = (signL.getD i.val 0).toNat := by decide
  exact this ⟨X, h⟩
theorem nOf_small (p : List UInt8) (i : Nat) (h : i ≤ 3) : nOf p i < 16777216 := Nat.lt_of_lt_of_le (nOf_lt p i) (by have : 2 ^ (8 * i) ≤ 2 ^ 24 := Nat.pow_le_pow_right (by decide) (by omega); exact this)
theorem step_shl (p : List UInt8) (i : Nat) (h : i < 3) (h2 : ¬ i < p.length) : Value.int .i64 (wrap64 ((nOf p i : Nat) * 256)) = .int .i64 (nOf p (i + 1) : Nat) := by
  have := nOf_small p i (by omega)
  have e1 : wrap64 ((nOf p i : Nat) * 256) = ((nOf p i * 256 : Nat) : Int) := by unfold wrap64; omega
  rw [e1, nOf, dif_neg h2]
theorem step_or (p : List UInt8) (i : Nat) (h : i < 3) (h2 : i < p.length) : Value.int .i64 (bits .or .i64 (wrap64 ((nOf p i : Nat) * 256)) (wrap64 ((p[i]).toNat : Int))) = .int .i64 (nOf p (i + 1) : Nat) := by
  have h4 := nOf_small p i (by omega)
  have h5 := UInt8.toNat_lt (p[i])
  have e1 : wrap64 ((nOf p i : Nat) * 256) = ((nOf p i * 256 : Nat) : Int) := by unfold wrap64; omega
  have e2 : wrap64 ((p[i]).toNat : Int) = ((p[i]).toNat : Int) := by unfold wrap64; omega
  rw [e1, e2, or_i64_nat _ _ (by omega) (by omega), nOf, dif_pos h2]
theorem bi_len (l : List UInt8) : (bi l).length = l.length := by simp [bi]

set_option maxRecDepth 100000 in
set_option maxHeartbeats 1000000 in
theorem put_in (l : List UInt8) (A : Option Addr) (c : Nat) (w : World) (hl : l.length ≤ 1099511627776) (hc : l.length ≤ c) (hC : (Kd.int .u8).C w A (bi l).length (bi l)) :
    Calls Tryd.prog 25 #[.slice A l.length c] w fun e w' => e = .returned (.string ⟨(b64L l).toArray⟩) ∧ Below w.heap.size w w' := by
  have HT := Aside0.mk (bldT_own)
  have HC := Aside0.mk hC
  clear hC
  have hN := bld_new w
  have HN := Aside0.mk hN
  clear hN
  go_enter Tryd.func25, Tryd.ntmps25
  go_wp2_with fail
  have hA : Below w.heap.size w (w.alloc (.cells #[.pointer none, .slice none 0 0] 37)) := (Below.refl _ _).alloc (Nat.le_refl _) _
  generalize w.alloc (.cells #[.pointer none, .slice none 0 0] 37) = w1 at *
  go_loopw [0] (fun v0 wr => ∃ k, PutI l w v0 wr k) (fun v0 _ => (sliceLen v0))
  case atStart => exact ⟨l.length, l, [], A, c, l.length, _, rfl, rfl, hc, HC.out, rfl, HN.out, hA, rfl, Nat.le_refl _, by simp⟩
  case round =>
    obtain ⟨k, r, acc, A', c', g, cs, rfl, hk, hrc, hC, hcs, hB, hBw, hE, hg, hacc⟩ := hrel
    clear hk k
    by_cases hlt : (0 : Int) < r.length
    · have hp : (min (3 : Int) (r.length : Int)).toNat = (r.take 3).length := by rw [List.length_take]; omega
      have hp3 : (r.take 3).length ≤ 3 := by rw [List.length_take]; omega
      have hCp : (Kd.int .u8).C wr A' (bi (r.take 3)).length (bi (r.take 3)) := by
        have hh := Kd.C_take (m := (r.take 3).length) (Kd.C_below hC hBw) (by rw [bi_len, List.length_take]; omega)
        have e : (bi r).take (r.take 3).length = bi (r.take 3) := by
          rw [bi, bi, ← List.map_take]; congr 1; rw [List.length_take, ← List.take_eq_take_min]
        rw [e] at hh
        exact hh
      obtain ⟨p, hpe⟩ : ∃ p, r.take 3 = p := ⟨_, rfl⟩
      rw [hpe] at hp hp3 hCp
      go_upto_region 5 with fail
      have hB0 := Aside0.mk hB
      have hBw0 := Aside0.mk hBw
      clear hB hBw
      go_wp2_with fail
      go_loopw [5, 6, 21] (fun v5 v6 v21 wq => ∃ i : Nat, i ≤ 3 ∧ v5 = .int .i64 (nOf p i : Nat) ∧ v21 = .int .i64 (i : Int) ∧ wq = wr) (fun _ _ v21 _ => 3 - (intOf v21).toNat)
      case atStart => exact ⟨0, by omega, rfl, rfl, rfl⟩
      case round =>
        obtain ⟨i, hi, rfl, rfl, rfl⟩ := hrel
        have hn := nOf_lt p i
        by_cases hi3 : (i : Int) < 3
        · by_cases hip : (i : Int) < p.length
          · obtain ⟨ad, rfl, hcell⟩ := Kd.at_int hCp (i : Int) (by omega) (by rw [bi_len]; exact hip)
            rw [Int.toNat_natCast, bi_at p i (by omega)] at hcell
            go_wp2_with fail
            go_roundw
            case rel => exact ⟨i + 1, by omega, by rw [step_or p i (by omega) (by omega)], rfl, trivial⟩
            case measure => simp [intOf]; omega
          · go_wp2_with fail
            go_roundw
            case rel => exact ⟨i + 1, by omega, by rw [step_shl p i (by omega) (by omega)], rfl, trivial⟩
            case measure => simp [intOf]; omega
        · have e3 : i = 3 := by omega
          subst e3
          go_wp2_with fail
          have hn3 := nOf_small p 3 (by omega)
          have hAc : acc.length ≤ 4398046511104 := by omega
          have HB0 := Aside0.mk hBw0.out.size
          go_loopw [7, 38] (fun v7 v38 wq => ∃ j : Nat, j ≤ 4 ∧ v38 = .int .i64 (j : Int) ∧ PutJ w acc p wq j) (fun _ v38 _ => 4 - (intOf v38).toNat)
          case atStart => exact ⟨0, by omega, rfl, cs, hcs, by simpa [chars] using hB0.out, hBw0.out⟩
          case round =>
            obtain ⟨j, hj, rfl, cs1, hcs1, hB1, hBw1⟩ := hrel
            clear HN hA
            have hz : w.heap.size ≤ wr.heap.size := hBw1.size
            have hlen : (acc ++ chars p j).length + 4 ≤ 140737488355328 := by simp [chars]; omega
            by_cases hj4 : (j : Int) < 4
            · by_cases hjp : (p.length : Int) < (j : Int)
              · go_wp2_with (go_at_call 42; refine (writeRune_c 61 (by decide) (by decide) hB1 (by rw [hcs1]; exact HT.out) hlen hz).mono ?_; rintro e w4 ⟨⟨n4, rfl⟩, cs4, hB4, hsame, hb4, hK4⟩)
                have he : acc ++ chars p j ++ Lib.encodeRune 61 = acc ++ chars p (j + 1) := by rw [chars_succ, List.append_assoc, ch, if_pos (by omega)]; rfl
                rw [he] at hB4
                go_roundw
                case rel => exact ⟨j + 1, by omega, rfl, cs4, hsame.1.trans hcs1, hB4, hBw1.trans hb4⟩
                case measure => simp [intOf]; omega
              · obtain ⟨X, hX⟩ : ∃ X, nOf p 3 / 2 ^ (6 * (3 - j)) % 64 = X := ⟨_, rfl⟩
                have hX64 : (X : Int) < 64 := by omega
                have hX0 : 0 ≤ (X : Int) := by omega
                have hx : bits BinOp.and IntKind.i64 ((nOf p 3 : Int) / 2 ^ (6 * (3 - j))) 63 = (X : Int) := and63_shift _ _ _ hn3 hX
                go_wp2_with fail
                refine (writeByte_c _ hB1 (by rw [hcs1]; exact HT.out) (by rw [Lib.byteCells_length]; omega) hz).mono ?_
                rintro e w4 ⟨rfl, cs4, hB4, hsame, hb4, hK4⟩
                go_wp2_with fail
                have he : Lib.byteCells (acc ++ chars p j) ++ [Value.int .u8 (((signL.getD X 0).toNat : Nat) : Int)] = Lib.byteCells (acc ++ chars p (j + 1)) := by
                  rw [chars_succ, ← List.append_assoc, byteCells_append (acc ++ chars p j), ch, if_neg (by omega), hX]
                  rfl
                go_roundw
                case rel =>
                  refine ⟨j + 1, by omega, rfl, cs4, hsame.1.trans hcs1, ?_, hBw1.trans hb4⟩
                  rw [← he]
                  have hs := sign_at X (by omega)
                  rw [← hs]
                  exact hB4
                case measure => simp [intOf]; omega
            · have e4 : j = 4 := by omega
              subst e4
              go_wp2_with fail
              have hpl : p.length = min 3 r.length := by rw [← hpe, List.length_take]
              have hdl : (r.drop 3).length = r.length - p.length := by rw [List.length_drop]; omega
              have hdd : (bi r).drop p.length = bi (r.drop 3) := by
                rw [bi, bi, ← List.map_drop]
                congr 1
                by_cases h3 : 3 ≤ r.length
                · rw [show p.length = 3 by omega]
                · rw [List.drop_of_length_le (by omega), List.drop_of_length_le (by omega)]
              have hC2 := Kd.C_drop hC (m := p.length) (by rw [bi_len]; omega) (by rw [bi_len]; exact hrc)
              rw [hdd, show p.length * (Kd.int .u8).sz = p.length from Nat.mul_one _] at hC2
              go_roundw
              case rel =>
                refine ⟨_, r.drop 3, acc ++ chars p 4, _, c' - p.length, g - 1, cs1, by rw [hdl], rfl, by omega, hC2, hcs1, hB1, hBw1, ?_, by omega, ?_⟩
                · rw [← hE]
                  obtain ⟨g', rfl⟩ : ∃ g', g = g' + 1 := ⟨g - 1, by omega⟩
                  rw [put64, if_neg (by intro e; rw [e] at hlt; simp at hlt), hpe, List.append_assoc]
                  rfl
                · simp [chars]; omega
              case measure => show r.length - p.length < r.length; omega
    · have hr0 : r = [] := List.eq_nil_of_length_eq_zero (by omega)
      subst hr0
      rw [put64_nil, List.append_nil] at hE
      have hz : w.heap.size ≤ wr.heap.size := hBw.size
      go_wp2_with (go_at_call 11; refine (string_c hB hz).mono ?_; rintro e w5 ⟨rfl, hb5, -⟩)
      go_ret
      exact ⟨rfl, hBw.trans hb5⟩
end Go.Proofs.YtloemnickbkonaaDoor
