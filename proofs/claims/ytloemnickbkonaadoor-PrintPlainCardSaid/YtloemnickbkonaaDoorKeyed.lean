/- The contract of tree.keyed. -/
import Derived.Test.YtloemnickbkonaaDoorTreeC
import Derived.Test.YtloemnickbkonaaDoorMapB
import Derived.Test.YtloemnickbkonaaDoorShelf
import Derived.Deep.DeepCutAuto
namespace Go.Proofs.YtloemnickbkonaaDoor
open Go.RowKit Go.Maps Go.Proofs.YtloemnickbkonaaDoorW.PrintWords Go.Proofs.YtloemnickbkonaaDoorW.PrintLast Go.Proofs.YtloemnickbkonaaDoorW.PrintMore
set_option linter.unusedVariables false
set_option linter.unusedSimpArgs false

/-- Does a string hold the byte 0? -/
def zeroB (s : ByteArray) : Bool := decide (0 ≤ Lib.indexByte s.data.toList ((0 : Int).toNat.toUInt8))
set_option maxHeartbeats 400000 in
theorem zero_c (s : ByteArray) (w : World) : Calls Tryd.prog 35 #[.string s] w fun e w' => e = .returned (.bool (zeroB s)) ∧ w = w' := by
  go_enter Tryd.func35, Tryd.ntmps35
  go_wp2_with (go_at_call 36; refine (Tryd.strings_IndexByte s 0 _).mono ?_; rintro e w' ⟨rfl, rfl⟩)
  go_ret
  exact ⟨rfl, rfl⟩

/-- What keyed finds among the keys, acc being those before. -/
def keyedL (acc : List ByteArray) : List ByteArray → Int
  | [] => 0
  | k :: r => if zeroB k then 70 else if hasB acc k then 71 else keyedL (acc ++ [k]) r
def keyedE (x : Nd) : Int := if x.f0 == 5 && zeroB x.f3 then 70 else keyedL [] x.f4
theorem keyedL_at (ks : List ByteArray) (i : Int) (h0 : 0 ≤ i) (h1 : i < ks.length) : keyedL (ks.take i.toNat) (ks.drop i.toNat) =
    if zeroB (rdOf ByteArray.empty ks i) then 70 else if hasB (ks.take i.toNat) (rdOf ByteArray.empty ks i) then 71 else keyedL (ks.take (i + 1).toNat) (ks.drop (i + 1).toNat) := by
  obtain ⟨n, rfl⟩ := Int.eq_ofNat_of_zero_le h0
  have hn : n < ks.length := by omega
  rw [show ((n : Int) + 1).toNat = n + 1 from by omega, Int.toNat_natCast]
  have hr : rdOf ByteArray.empty ks (n : Int) = ks[n] := by simp [rdOf, List.getD_eq_getElem?_getD, hn]
  rw [hr, List.drop_eq_getElem_cons hn, keyedL, List.take_succ_eq_append_getElem hn]
theorem keyedL_end (ks acc : List ByteArray) (i : Int) (h1 : ks.length ≤ i) : keyedL acc (ks.drop i.toNat) = 0 := by
  rw [List.drop_of_length_le (by omega)]; rfl
theorem rdOf_mem (ks : List ByteArray) (i : Int) (h0 : 0 ≤ i) (h1 : i < ks.length) : rdOf ByteArray.empty ks i ∈ ks := by
  obtain ⟨n, rfl⟩ := Int.eq_ofNat_of_zero_le h0
  have hn : n < ks.length := by omega
  simp [rdOf, List.getD_eq_getElem?_getD, hn]
theorem take_at (ks : List ByteArray) (i : Int) (h0 : 0 ≤ i) (h1 : i < ks.length) : ks.take (i + 1).toNat = ks.take i.toNat ++ [rdOf ByteArray.empty ks i] := by
  obtain ⟨n, rfl⟩ := Int.eq_ofNat_of_zero_le h0
  have hn : n < ks.length := by omega
  rw [show ((n : Int) + 1).toNat = n + 1 from by omega, Int.toNat_natCast, List.take_succ_eq_append_getElem hn]
  simp [rdOf, List.getD_eq_getElem?_getD, hn]
theorem zero_bool : ∀ W : World, (zeroValue 4).run Tryd.prog W = .ok (.bool false) W := Tryd.zeroValue4

set_option maxRecDepth 100000 in
set_option maxHeartbeats 1000000 in
theorem keyed_in (k n u : Int) (s : ByteArray) (ks : List ByteArray) (A4 A5 : Option Addr) (c4 l5 c5 : Nat) (w : World) (hl4 : ks.length ≤ c4) (hC : Kd.string.C w A4 ks.length ks) (hm4 : ks.length ≤ 140737488355328)
    (hsz : ∀ x ∈ ks, x.size ≤ maxLen) (hz : ((k == 5) && zeroB s) = false) :
    Calls Tryd.prog 19 #[.agg #[.int .i64 k, .int .i64 n, .int .u64 u, .string s, .slice A4 ks.length c4, .slice A5 l5 c5]] w fun e w' => e = .returned (.int .i64 (keyedL [] ks)) ∧ Below w.heap.size w w' := by
  have HC := Aside0.mk hC
  have HZ := Aside0.mk hsz
  have hmm := @run_makeMap Tryd.prog
  clear hC hsz
  go_enter Tryd.func19, Tryd.ntmps19
  go_upto_region 2 with fail
  go_cut [15] (fun s15 wy => s15 = .bool ((k == 5) && zeroB s) ∧ wy = w.alloc (.cells #[.int .i64 k, .int .i64 n, .int .u64 u, .string s, .slice A4 ks.length c4, .slice A5 l5 c5] 26))
  case first =>
    cases g : (k == 5)
    · go_wp2_with fail
      go_meet
      exact ⟨by simp [g], rfl⟩
    · go_wp2_with (go_at_call 35; refine (zero_c _ _).mono ?_; rintro e w' ⟨rfl, rfl⟩)
      go_meet
      exact ⟨by simp [g], rfl⟩
  obtain ⟨rfl, rfl⟩ := hcut
  rw [hz]
  go_wp2
  go_loopw [6, 20] (fun v6 v20 wr => ∃ i : Int, 0 ≤ i ∧ i ≤ ks.length ∧ v20 = .int .i64 i ∧ Aside0 (keyedL [] ks = keyedL (ks.take i.toNat) (ks.drop i.toNat)) ∧ Aside0 (wr.ownsMap Tryd.prog 9 (plainElem Tryd.prog 4) (w.heap.size + 1) i.toNat (hadD (ks.take i.toNat))) ∧ Aside0 (Below w.heap.size w wr)) (fun _ v20 _ => ks.length - (intOf v20).toNat)
  case atStart =>
    refine ⟨0, by omega, by omega, rfl, ⟨rfl⟩, ⟨?_⟩, ⟨((Below.refl _ _).alloc (Nat.le_refl _) _).alloc (by simp) _⟩⟩
    have h := World.ownsMap_made (H := Unit) (w.alloc (.cells #[.int .i64 k, .int .i64 n, .int .u64 u, .string s, .slice A4 ks.length c4, .slice A5 l5 c5] 26)) Tryd.prog 9 (plainElem Tryd.prog 4)
    simpa [hadD_nil] using h
  case round =>
    obtain ⟨i, hi0, hi, rfl, HE, HM, HB⟩ := hrel
    by_cases hlt : i < ks.length
    · obtain ⟨ad, rfl, hk⟩ := Kd.at_string (Kd.C_below HC.out HB.out) i hi0 hlt
      have hkey := WideMaps.keyOf_string_mk (P := Tryd.prog) (k := 9) Tryd.underlying9 (HZ.out (rdOf ByteArray.empty ks i) (rdOf_mem ks i hi0 hlt))
      have HK := Lib.hid hkey
      clear hkey
      have hat := atKey_hadD (rdOf ByteArray.empty ks i) (ks.take i.toNat)
      have HA := Lib.hid hat
      clear hat
      have hstep := keyedL_at ks i hi0 hlt
      have HS := Lib.hid hstep
      clear hstep
      cases hzk : zeroB (rdOf ByteArray.empty ks i)
      · have HZK := Lib.hid hzk
        clear hzk
        cases hb : hasB (ks.take i.toNat) (rdOf ByteArray.empty ks i)
        · have HBK := Lib.hid hb
          clear hb
          go_wp2_with (first
            | (go_at_call 35; refine (zero_c _ _).mono ?_; rw [HZK.out]; rintro e w' ⟨rfl, rfl⟩)
            | (at_lookup; refine wpList_lookup_own_bool _ rfl _ _ 75 rfl 9 4 (Maps.string_keyed Tryd.underlying9) Tryd.underlying75 Tryd.underlying4 (zero_bool _) (w.heap.size + 1) i.toNat (hadD (ks.take i.toNat)) rfl HM.out _ (keyL (rdOf ByteArray.empty ks i)) rfl HK.out ?_; intro c hc; rw [HA.out, HBK.out] at hc; injection hc with hc; injection hc with hc; subst hc)
            | (at_mapUpdate; refine wpList_mapUpdate_own _ rfl _ _ _ 75 rfl 9 4 (Maps.string_keyed Tryd.underlying9) Tryd.underlying75 (plainElem Tryd.prog 4) (w.heap.size + 1) i.toNat (hadD (ks.take i.toNat)) rfl HM.out (by unfold maxLen; omega) _ (.bool true) (keyL (rdOf ByteArray.empty ks i)) rfl rfl HK.out (.lit (.bool true)) [] (plainElem_bool Tryd.underlying4 true) ?_; intro w1 hown1 hgrow1))
          go_roundw
          case rel => exact ⟨i + 1, by omega, by omega, rfl, ⟨by rw [HE.out, HS.out, if_neg (by rw [HZK.out]; decide), if_neg (by rw [HBK.out]; decide)]⟩, ⟨by rw [take_at ks i hi0 hlt, hadD_snoc, show (i + 1).toNat = i.toNat + 1 from by omega]; exact hown1⟩, ⟨HB.out.grown hgrow1 HB.out.size (fun k e => by cases e; exact Nat.le_succ _)⟩⟩
          case measure => simp [intOf]; omega
        · have HBK := Lib.hid hb
          clear hb
          go_wp2_with (first
            | (go_at_call 35; refine (zero_c _ _).mono ?_; rw [HZK.out]; rintro e w' ⟨rfl, rfl⟩)
            | (at_lookup; refine wpList_lookup_own_bool _ rfl _ _ 75 rfl 9 4 (Maps.string_keyed Tryd.underlying9) Tryd.underlying75 Tryd.underlying4 (zero_bool _) (w.heap.size + 1) i.toNat (hadD (ks.take i.toNat)) rfl HM.out _ (keyL (rdOf ByteArray.empty ks i)) rfl HK.out ?_; intro c hc; rw [HA.out, HBK.out] at hc; injection hc with hc; injection hc with hc; subst hc))
          go_ret
          exact ⟨by rw [HE.out, HS.out, if_neg (by rw [HZK.out]; decide), if_pos HBK.out]; rfl, HB.out⟩
      · have HZK := Lib.hid hzk
        clear hzk
        go_wp2_with (go_at_call 35; refine (zero_c _ _).mono ?_; rw [HZK.out]; rintro e w' ⟨rfl, rfl⟩)
        go_ret
        exact ⟨by rw [HE.out, HS.out, if_pos HZK.out]; rfl, HB.out⟩
    · go_wp2
      go_ret
      exact ⟨by rw [HE.out, keyedL_end ks _ i (by omega)]; rfl, HB.out⟩

set_option maxRecDepth 100000 in
set_option maxHeartbeats 400000 in
theorem keyed_key (n u : Int) (s : ByteArray) (l4 : Nat) (A4 A5 : Option Addr) (c4 l5 c5 : Nat) (w : World) (hz : zeroB s = true) :
    Calls Tryd.prog 19 #[.agg #[.int .i64 5, .int .i64 n, .int .u64 u, .string s, .slice A4 l4 c4, .slice A5 l5 c5]] w fun e w' => e = .returned (.int .i64 70) ∧ Below w.heap.size w w' := by
  have HZ := Lib.hid hz
  clear hz
  go_enter Tryd.func19, Tryd.ntmps19
  go_wp2_with (go_at_call 35; refine (zero_c _ _).mono ?_; rw [HZ.out]; rintro e w' ⟨rfl, rfl⟩)
  go_ret
  exact ⟨rfl, (Below.refl _ _).alloc (Nat.le_refl _) _⟩

/-- tree.keyed: the answer, and nothing that was there has turned. -/
theorem keyed_c (k n u : Int) (s : ByteArray) (ks : List ByteArray) (xs : List Nd) (A4 A5 : Option Addr) (c4 c5 : Nat) (w : World) (hl4 : ks.length ≤ c4) (hC : Kd.string.C w A4 ks.length ks) (hm4 : ks.length ≤ 140737488355328)
    (hsz : ∀ x ∈ ks, x.size ≤ maxLen) :
    Calls Tryd.prog 19 #[.agg #[.int .i64 k, .int .i64 n, .int .u64 u, .string s, .slice A4 ks.length c4, .slice A5 xs.length c5]] w fun e w' => e = .returned (.int .i64 (keyedE ⟨k, n, u, s, ks, xs⟩)) ∧ Below w.heap.size w w' := by
  by_cases hz : ((k == 5) && zeroB s) = true
  · have h5 : k = 5 := by simp at hz; exact hz.1
    have h6 : zeroB s = true := by simp at hz; exact hz.2
    have he : keyedE ⟨k, n, u, s, ks, xs⟩ = 70 := by simp only [keyedE]; rw [if_pos hz]
    rw [he]
    subst h5
    exact keyed_key n u s _ A4 A5 c4 _ c5 w h6
  · have he : keyedE ⟨k, n, u, s, ks, xs⟩ = keyedL [] ks := by simp only [keyedE]; rw [if_neg hz]
    rw [he]
    exact keyed_in k n u s ks A4 A5 c4 _ c5 w hl4 hC hm4 hsz (by simpa using hz)
theorem keyed_n (x : Nd) (A4 A5 : Option Addr) (c4 c5 : Nat) (w : World) (hl4 : x.f4.length ≤ c4) (hC : Kd.string.C w A4 x.f4.length x.f4) (hm4 : x.f4.length ≤ 140737488355328) (hsz : ∀ y ∈ x.f4, y.size ≤ maxLen) :
    Calls Tryd.prog 19 #[.agg #[.int .i64 x.f0, .int .i64 x.f1, .int .u64 x.f2, .string x.f3, .slice A4 x.f4.length c4, .slice A5 x.f5.length c5]] w fun e w' => e = .returned (.int .i64 (keyedE x)) ∧ Below w.heap.size w w' :=
  keyed_c x.f0 x.f1 x.f2 x.f3 x.f4 x.f5 A4 A5 c4 c5 w hl4 hC hm4 hsz
end Go.Proofs.YtloemnickbkonaaDoor
