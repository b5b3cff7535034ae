/- PrintPlain: the walk. -/
import Derived.Test.YtloemnickbkonaaDoorPlain
namespace Go.Proofs.YtloemnickbkonaaDoor
open Go.RowKit Go.Proofs.YtloemnickbkonaaDoorW.PrintWords Go.Proofs.YtloemnickbkonaaDoorW.PrintLast Go.Proofs.YtloemnickbkonaaDoorW.PrintMore
set_option linter.unusedVariables false
set_option linter.unusedSimpArgs false
/-- What Print answers: an error without a text, or a text that the law's loop passes. -/
theorem print_plain (t : Nd) : ((printR t).2 ≠ 0 → (printR t).1 = []) ∧ ((printR t).2 = 0 → scanL false (printR t).1 = some false ∧ (printR t).1 ≠ []) := by
  unfold printR
  by_cases h1 : checkE t ≠ 0
  · rw [if_pos h1]; exact ⟨fun _ => rfl, fun h => absurd h h1⟩
  · rw [if_neg h1]
    by_cases h2 : (printO t).2 ≠ 0
    · rw [if_pos h2]; exact ⟨fun _ => rfl, fun h => absurd h h2⟩
    · rw [if_neg h2]
      refine ⟨fun h => absurd rfl h, fun _ => ?_⟩
      have h3 : (printO t).2 = 0 := by simpa using h2
      have h4 : printO t = outD 64 t := by
        unfold printO at h3 ⊢
        simp only at h3 ⊢
        split at h3
        · exact absurd (cat_zero h3).2 (by decide)
        · rename_i hn; rw [if_neg hn]
      rw [h4] at h3 ⊢
      have hc := outD_cl 64 t h3 []
      rw [List.append_nil] at hc
      refine ⟨hc, ?_⟩
      show (outD (63 + 1) t).1 ≠ []
      rw [outD]
      repeat' split
      all_goals first
        | (intro e; cases e; done)
        | (intro e; have := congrArg List.length e; simp [cat] at this; done)
        | skip
      · intro e; have := congrArg List.length e; revert this; cases (t.f1 == 1) <;> decide
      · intro e; have := congrArg List.length e
        unfold Lib.itoa at this
        split at this
        · simp at this
        · rw [Lib.decDigits_length, Lib.nDigits] at this; split at this <;> simp at this
      · intro e; have := congrArg List.length e
        rw [Lib.decDigits_length, Lib.nDigits] at this; split at this <;> simp at this
      · intro e
        have h5 : (t.f0 = 5 ∨ t.f0 = 6) := by assumption
        have h6 : outD 64 t = outQ t.f3 := by
          show outD (63 + 1) t = _
          rw [outD, if_neg (by omega), if_neg (by omega), if_neg (by omega), if_neg (by omega), if_pos h5]
        rw [h6] at h3
        unfold outQ quoteE at h3
        have hv : Lib.validD t.f3.data.toList = true := by
          by_cases hv : Lib.validD t.f3.data.toList = true
          · exact hv
          · simp only [if_neg hv] at h3; cases h3
        have e2 : (quoteS t.f3).data.toList = [] := e
        unfold quoteS at e2
        rw [if_pos hv] at e2
        simp [quoteL] at e2
set_option maxRecDepth 100000 in
set_option maxHeartbeats 1000000 in
theorem plain_bad (w : World) (hL : Laid w) (x : Nd) (cs : List Value) (hK : kN.K w x cs) (hok : okN x) (hnr : NRb 0 x) (he : (printR (cutT 80 60 x)).2 ≠ 0) :
    Calls Tryd.prog 3 #[.agg cs.toArray] w (YesQ w) := by
  have hB : Below w.heap.size w (w.alloc (.cells cs.toArray 26)) := (Below.refl _ _).alloc (Nat.le_refl _) _
  have hcut := cut_c x cs 80 60 (w.alloc (.cells cs.toArray 26)) (kN.K_below hB hK) hok (by decide) (by decide) (by decide)
  have hpr : ∀ (cs' : List Value) (W : World), kN.K W (cutT 80 60 x) cs' → Laid W → Calls Tryd.prog 4 #[.agg cs'.toArray] W (PrintQ W (printR (cutT 80 60 x))) := fun cs' W hK hL => print_c _ cs' W hK (cutT_wt x) (cut_NR 60 x 79 0 hnr) hL
  have hpp := (print_plain (cutT 80 60 x)).1 he
  generalize printR (cutT 80 60 x) = q at *
  obtain ⟨l, e⟩ := q
  simp only at he hpp
  subst hpp
  have heb : (e != 0) = true := by simpa using he
  obtain ⟨A4, c4, A5, c5, rfl, -, -, -, -⟩ := kN_open hK
  have HC := Aside0.mk hcut
  have HP := Aside0.mk hpr
  have HL := Aside0.mk hL
  clear hcut hpr hL hK hok hnr he
  go_enter Tryd.func3, Tryd.ntmps3
  go_wp2_with fail
  refine HC.out.mono ?_
  rintro e1 w2 ⟨cs2, rfl, hM2, hb2⟩
  have HB2 := Aside0.mk (hB.trans (hb2.mono (by simp)))
  have hp2 := HP.out cs2 w2 (kN.K_of_M hM2) (HL.out.below HB2.out)
  obtain ⟨v4, v5, rfl, -, -⟩ := kN_openM hM2
  have HP2 := Aside0.mk hp2
  clear hM2 hb2 hp2
  go_wp2_with fail
  refine HP2.out.mono ?_
  rintro e2 w3 ⟨rfl, hb3⟩
  have HB3 := Aside0.mk (HB2.out.trans (hb3.mono HB2.out.size))
  clear hb3
  go_wp2_with fail
  refine (works_c w3 (HL.out.below HB3.out)).mono ?_
  rintro e3 w4 ⟨rfl, hb4⟩
  go_wp2_with fail
  go_ret
  exact ⟨rfl, HB3.out.trans (hb4.mono HB3.out.size)⟩
set_option maxRecDepth 100000 in
set_option maxHeartbeats 2000000 in
theorem plain_good (w : World) (hL : Laid w) (x : Nd) (cs : List Value) (hK : kN.K w x cs) (hok : okN x) (hnr : NRb 0 x) (he : (printR (cutT 80 60 x)).2 = 0) (hle : (printR (cutT 80 60 x)).1.length ≤ 1048576) :
    Calls Tryd.prog 3 #[.agg cs.toArray] w (YesQ w) := by
  have hB : Below w.heap.size w (w.alloc (.cells cs.toArray 26)) := (Below.refl _ _).alloc (Nat.le_refl _) _
  have hcut := cut_c x cs 80 60 (w.alloc (.cells cs.toArray 26)) (kN.K_below hB hK) hok (by decide) (by decide) (by decide)
  have hpr : ∀ (cs' : List Value) (W : World), kN.K W (cutT 80 60 x) cs' → Laid W → Calls Tryd.prog 4 #[.agg cs'.toArray] W (PrintQ W (printR (cutT 80 60 x))) := fun cs' W hK hL => print_c _ cs' W hK (cutT_wt x) (cut_NR 60 x 79 0 hnr) hL
  have hpp := (print_plain (cutT 80 60 x)).2 he
  generalize printR (cutT 80 60 x) = q at *
  obtain ⟨l, e⟩ := q
  simp only at he hpp hle
  subst he
  obtain ⟨s, hs⟩ : ∃ s : ByteArray, (⟨l.toArray⟩ : ByteArray) = s := ⟨_, rfl⟩
  have hsl : s.data.toList = l := by rw [← hs]
  have hsz : s.size ≤ 1048576 := by rw [← data_length, hsl]; exact hle
  have hscan : scanL false (s.data.toList.drop 0) = some false := by rw [List.drop_zero, hsl]; exact hpp.1
  have hne : s.data.toList ≠ [] := by rw [hsl]; exact hpp.2
  have hpr2 : ∀ (cs' : List Value) (W : World), kN.K W (cutT 80 60 x) cs' → Laid W → Calls Tryd.prog 4 #[.agg cs'.toArray] W fun e w' => e = .returned (.tuple #[.string s, .int .i64 0]) ∧ Below W.heap.size W w' := by
    intro cs' W hK hL
    have := hpr cs' W hK hL
    unfold PrintQ at this
    rwa [hs] at this
  have hne1 : s.toList ≠ [] := by rw [ByteArray.toList_eq]; exact hne
  have hne2 : (s.toList == []) = false := by simpa using hne1
  have hne3 : s.toList.isEmpty = false := by simpa [List.isEmpty_iff] using hne1
  obtain ⟨A4, c4, A5, c5, rfl, -, -, -, -⟩ := kN_open hK
  have HC := Aside0.mk hcut
  have HP := Aside0.mk hpr2
  have HL := Aside0.mk hL
  have HSC := Aside0.mk hscan
  clear hcut hpr hpr2 hL hK hok hnr hpp hs hsl hscan hne hle
  go_enter Tryd.func3, Tryd.ntmps3
  go_wp2_with fail
  refine HC.out.mono ?_
  rintro e1 w2 ⟨cs2, rfl, hM2, hb2⟩
  have HB2 := Aside0.mk (hB.trans (hb2.mono (by simp)))
  have hp2 := HP.out cs2 w2 (kN.K_of_M hM2) (HL.out.below HB2.out)
  obtain ⟨v4, v5, rfl, -, -⟩ := kN_openM hM2
  have HP2 := Aside0.mk hp2
  clear hM2 hb2 hp2
  go_wp2_with fail
  refine HP2.out.mono ?_
  rintro e2 w3 ⟨rfl, hb3⟩
  have HB3 := Aside0.mk (HB2.out.trans (hb3.mono HB2.out.size))
  clear hb3
  go_wp2_with fail
  go_loop [5, 6] (fun v5 v6 => ∃ (b : Bool) (k : Nat), v5 = .bool b ∧ v6 = .int .i64 k ∧ k ≤ s.size + 1 ∧ Aside0 (scanL b (s.data.toList.drop k) = some false)) (fun _ v6 => s.size + 2 - (intOf v6).toNat)
  case atStart => exact ⟨false, 0, rfl, rfl, by omega, HSC⟩
  case round =>
    clear HSC
    obtain ⟨b, k, rfl, rfl, hk, HS⟩ := hrel
    by_cases hlt : k < s.size
    · obtain ⟨g1, g2, g3, g4⟩ := scan_step b false s k hlt HS.out
      have f1 : ¬ ((s[k].toNat : Int) < 32) := by
        rw [UInt8.lt_iff_toNat_lt] at g1
        have : (32 : UInt8).toNat = 32 := rfl
        omega
      have f1' : decide ((s[k].toNat : Int) < 32) = false := decide_eq_false f1
      by_cases h92 : s[k] = 92
      · have G3 := Aside0.mk (g3 h92)
        have e1 : (s[k].toNat : Int) = 92 := by rw [h92]; rfl
        have e2 : ((s[k].toNat : Int) == 32) = false := by rw [e1]; decide
        have e3 : ((s[k].toNat : Int) == 92) = true := by rw [e1]; decide
        clear g1 g2 g3 g4 h92 e1 f1
        go_wp2_with fail
        go_round
        case rel => exact ⟨b, k + 2, rfl, by go_num, by omega, G3⟩
        case measure => simp [intOf]; omega
      · have e3 : ((s[k].toNat : Int) == 92) = false := by
          have : s[k].toNat ≠ 92 := fun e => h92 (UInt8.toNat_inj.1 e)
          simp; omega
        have G4 := g4 h92
        by_cases h34 : s[k] = 34
        · have e1 : (s[k].toNat : Int) = 34 := by rw [h34]; rfl
          have e2 : ((s[k].toNat : Int) == 32) = false := by rw [e1]; decide
          have e4 : ((s[k].toNat : Int) == 34) = true := by rw [e1]; decide
          rw [if_pos h34] at G4
          have HG := Aside0.mk G4
          clear g1 g2 g3 g4 h92 e1 f1 h34 G4
          go_wp2_with fail
          go_round
          case rel => exact ⟨!b, k + 1, rfl, by go_num, by omega, HG⟩
          case measure => simp [intOf]; omega
        · have e4 : ((s[k].toNat : Int) == 34) = false := by
            have : s[k].toNat ≠ 34 := fun e => h34 (UInt8.toNat_inj.1 e)
            simp; omega
          rw [if_neg h34] at G4
          have HG := Aside0.mk G4
          clear g1 g3 g4 h92 f1 h34 G4
          by_cases h32 : s[k] = 32
          · have e2 : ((s[k].toNat : Int) == 32) = true := by rw [h32]; rfl
            have hbt : b = true := by
              rw [h32] at g2
              simpa using g2
            subst hbt
            clear g2 h32
            go_wp2_with fail
            go_round
            case rel => exact ⟨true, k + 1, rfl, by go_num, by omega, HG⟩
            case measure => simp [intOf]; omega
          · have e2 : ((s[k].toNat : Int) == 32) = false := by
              have : s[k].toNat ≠ 32 := fun e => h32 (UInt8.toNat_inj.1 e)
              simp; omega
            clear g2 h32
            go_wp2_with fail
            go_round
            case rel => exact ⟨b, k + 1, rfl, by go_num, by omega, HG⟩
            case measure => simp [intOf]; omega
    · have hlt' : decide ((k : Int) < (s.size : Int)) = false := decide_eq_false (by omega)
      have hb := HS.out
      rw [scan_end _ _ _ (by omega)] at hb
      obtain rfl : b = false := by simpa using hb
      clear hb
      go_wp2_with fail
      refine (works_c w3 (HL.out.below HB3.out)).mono ?_
      rintro e3 w4 ⟨rfl, hb4⟩
      go_wp2_with fail
      go_ret
      exact ⟨rfl, HB3.out.trans (hb4.mono HB3.out.size)⟩
/-- PrintPlain. -/
theorem printR_len (t : Nd) : (printR t).1.length ≤ 1048576 := by
  unfold printR
  split
  · simp
  · split
    · simp
    · rename_i h
      have h3 : (printO t).2 = 0 := by simpa using h
      unfold printO at h3 ⊢
      simp only at h3 ⊢
      split at h3
      · exact absurd (cat_zero h3).2 (by decide)
      · rename_i hn; rw [if_neg hn]; omega
theorem plain_c (w : World) (hL : Laid w) (x : Nd) (cs : List Value) (hK : kN.K w x cs) (hok : okN x) (hnr : NRb 0 x) : Calls Tryd.prog 3 #[.agg cs.toArray] w (YesQ w) := by
  by_cases he : (printR (cutT 80 60 x)).2 = 0
  · exact plain_good w hL x cs hK hok hnr he (printR_len _)
  · exact plain_bad w hL x cs hK hok hnr he
end Go.Proofs.YtloemnickbkonaaDoor
