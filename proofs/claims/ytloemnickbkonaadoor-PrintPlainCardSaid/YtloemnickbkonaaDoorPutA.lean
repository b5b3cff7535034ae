/- print.writer.put: lists, maps; its contract, by induction on the depth. -/
import Derived.Test.YtloemnickbkonaaDoorPut
namespace Go.Proofs.YtloemnickbkonaaDoor
open Go.RowKit Go.Proofs.YtloemnickbkonaaDoorW.PrintWords Go.Proofs.YtloemnickbkonaaDoorW.PrintLast Go.Proofs.YtloemnickbkonaaDoorW.PrintMore
set_option linter.unusedVariables false
set_option linter.unusedSimpArgs false
set_option maxRecDepth 100000 in
set_option maxHeartbeats 400000 in
theorem put_all (w0 w : World) (b M d : Nat) (hP : PutOK w0 b M d) (hL : Laid w0) (t : Nd) (A4 A5 : Option Addr) (c4 c5 : Nat) (o : Out) (f l : ByteArray) (hk : (t.f0 = 17 ∧ f = ⟨#[123]⟩ ∧ l = ⟨#[125]⟩) ∨ ((∀ j : Int, 1 ≤ j → j ≤ 9 → t.f0 ≠ j) ∧ t.f0 ≠ 17 ∧ f = ⟨#[91]⟩ ∧ l = ⟨#[93]⟩))
    (hK : kN.K w0 t [.int .i64 t.f0, .int .i64 t.f1, .int .u64 t.f2, .string t.f3, .slice A4 t.f4.length c4, .slice A5 t.f5.length c5]) (hok : okT M (d + 1) t) (hB : Below w0.heap.size w0 w) (hW : Wr w0.heap.size b o w) (hlen : o.1.length + slack M (d + 1) ≤ 140737488355328) :
    Calls Tryd.prog 8 #[.pointer (some ⟨b, 0, none⟩), .agg #[.int .i64 t.f0, .int .i64 t.f1, .int .u64 t.f2, .string t.f3, .slice A4 t.f4.length c4, .slice A5 t.f5.length c5]] w (PutQ w0 w b (cat o (cat (f.data.toList, 0) (cat (outT d t false (ents t)) (l.data.toList, 0))))) := by
  have HS := Aside0.mk (put_start hB hW (.cells #[.int .i64 t.f0, .int .i64 t.f1, .int .u64 t.f2, .string t.f3, .slice A4 t.f4.length c4, .slice A5 t.f5.length c5] 26))
  have hall := callsIn_wide.1 (all_in w0 b M d hP hL t A4 A5 c4 c5 (w.alloc (.cells #[.int .i64 t.f0, .int .i64 t.f1, .int .u64 t.f2, .string t.f3, .slice A4 t.f4.length c4, .slice A5 t.f5.length c5] 26)) o f l hK hok (by rcases hk with ⟨_, rfl, _⟩ | ⟨_, _, rfl, _⟩ <;> decide) (by rcases hk with ⟨_, _, rfl⟩ | ⟨_, _, _, rfl⟩ <;> decide) (hB.trans HS.out.2.1) HS.out.1 hlen)
  have HALL := Aside0.mk hall
  clear hall hB hW hP hok hK
  obtain ⟨k, n, u, s, ks, xs⟩ := t
  simp only at hk HALL HS ⊢
  rcases hk with ⟨rfl, rfl, rfl⟩ | ⟨hk, hk17, rfl, rfl⟩
  · go_enter Tryd.func8, Tryd.ntmps8
    go_wp2_with fail
    refine HALL.out.mono ?_
    rintro r w5 ⟨rfl, hW5, hB5, hk5⟩
    go_wp2_with fail
    go_end0
    exact ⟨rfl, hW5, HS.out.2.1.trans hB5, HS.out.2.2.1.trans hk5⟩
  · have e1 : (k == 1) = false := by have := hk 1 (by omega) (by omega); simpa using this
    have e2 : (k == 2) = false := by have := hk 2 (by omega) (by omega); simpa using this
    have e3 : (k == 3) = false := by have := hk 3 (by omega) (by omega); simpa using this
    have e4 : (k == 4) = false := by have := hk 4 (by omega) (by omega); simpa using this
    have e5 : (k == 5) = false := by have := hk 5 (by omega) (by omega); simpa using this
    have e6 : (k == 6) = false := by have := hk 6 (by omega) (by omega); simpa using this
    have e7 : (k == 7) = false := by have := hk 7 (by omega) (by omega); simpa using this
    have e8 : (k == 8) = false := by have := hk 8 (by omega) (by omega); simpa using this
    have e9 : (k == 9) = false := by have := hk 9 (by omega) (by omega); simpa using this
    have e17 : (k == 17) = false := by simpa using hk17
    clear hk hk17
    go_enter Tryd.func8, Tryd.ntmps8
    go_wp2_with fail
    refine HALL.out.mono ?_
    rintro r w5 ⟨rfl, hW5, hB5, hk5⟩
    go_wp2_with fail
    go_end0
    exact ⟨rfl, hW5, HS.out.2.1.trans hB5, HS.out.2.2.1.trans hk5⟩
theorem slack_ge (M d : Nat) : M + 1 ≤ slack M d := by
  unfold slack
  have h1 : 1 * (4098 * (M + 1)) ≤ (d + 1) * (4098 * (M + 1)) := Nat.mul_le_mul_right _ (by omega)
  omega
/-- print.writer.put. -/
theorem put_c (w0 : World) (b M : Nat) (hL : Laid w0) : ∀ d, PutOK w0 b M d := by
  intro d
  induction d with
  | zero => intro t cs w o _ hok; exact hok.elim
  | succ d ih =>
    intro t cs w o hK hok hB hW hlen
    obtain ⟨A4, c4, A5, c5, rfl, -, -, -, -⟩ := kN_open hK
    obtain ⟨v1, v2, v3, v4, v5, v6, v7, v8⟩ := (okV_eq t).1 hok.1
    have hM : (outD (d + 1) t).1.length ≤ M := hok.2.2.1
    have hsl := slack_ge M (d + 1)
    show Calls Tryd.prog 8 #[.pointer (some ⟨b, 0, none⟩), .agg #[.int .i64 t.f0, .int .i64 t.f1, .int .u64 t.f2, .string t.f3, .slice A4 t.f4.length c4, .slice A5 t.f5.length c5]] w (PutQ w0 w b (cat o (outD (d + 1) t)))
    have hA := fun f l h => put_all w0 w b M d ih hL t A4 A5 c4 c5 o f l h hK hok hB hW hlen
    clear ih hK
    revert hM hA
    obtain ⟨k, n, u, s, ks, xs⟩ := t
    simp only at v1 v2 v3 v4 v5 v6 v7 v8 ⊢
    intro hM hA
    by_cases h1 : k = 1
    · subst h1
      rw [outD, if_pos rfl] at hM ⊢
      exact put_null w0 w b n u s _ _ A4 A5 c4 c5 o hB hW (by simp at hM; omega)
    by_cases h2 : k = 2
    · subst h2
      rw [outD, if_neg h1, if_pos rfl] at hM ⊢
      exact put_bool w0 w b n u s _ _ A4 A5 c4 c5 o hB hW (by have : (Lib.formatBool (n == 1)).length ≤ 5 := by cases (n == 1) <;> decide
                                                              have h4 : 5 ≤ slack M (d + 1) := by unfold slack; have h1 : 1 * (4098 * (M + 1)) ≤ (d + 1 + 1) * (4098 * (M + 1)) := Nat.mul_le_mul_right _ (by omega)
                                                                                                  omega
                                                              omega)
    by_cases h3 : k = 3 ∨ k = 8
    · rw [outD, if_neg h1, if_neg h2, if_pos h3] at hM ⊢
      exact put_int w0 w b k n u s _ _ A4 A5 c4 c5 o h3 v5.1 v5.2 hB hW hL (by simp only at hM; omega)
    by_cases h4 : k = 4 ∨ k = 9
    · rw [outD, if_neg h1, if_neg h2, if_neg h3, if_pos h4] at hM ⊢
      simp only at hM ⊢
      obtain ⟨u', rfl⟩ := Int.eq_ofNat_of_zero_le v6.1
      rw [Int.toNat_natCast] at hM ⊢
      exact put_uint w0 w b k n u' s _ _ A4 A5 c4 c5 o h4 (by omega) hB hW hL (by omega)
    by_cases h5 : k = 5 ∨ k = 6
    · rw [outD, if_neg h1, if_neg h2, if_neg h3, if_neg h4, if_pos h5] at hM ⊢
      exact put_str w0 w b k n u s _ _ A4 A5 c4 c5 o h5 hB hW hL v1 (by simp only at hM; omega)
    by_cases h7 : k = 7
    · subst h7
      rw [outD, if_neg h1, if_neg h2, if_neg h3, if_neg h4, if_neg h5, if_pos rfl] at hM ⊢
      exact put_blob w0 w b n u s _ _ A4 A5 c4 c5 o v1 hB hW (by simp only at hM; omega)
    by_cases h17 : k = 17
    · subst h17
      rw [outD, if_neg h1, if_neg h2, if_neg h3, if_neg h4, if_neg h5, if_neg h7, if_pos rfl]
      exact hA ⟨#[123]⟩ ⟨#[125]⟩ (.inl ⟨rfl, rfl, rfl⟩)
    · rw [outD, if_neg h1, if_neg h2, if_neg h3, if_neg h4, if_neg h5, if_neg h7, if_neg h17]
      have := hA ⟨#[91]⟩ ⟨#[93]⟩ (.inr ⟨fun j ha hb e => by omega, h17, rfl, rfl⟩)
      have e : outT d ⟨k, n, u, s, ks, xs⟩ false (ents ⟨k, n, u, s, ks, xs⟩) = outA (outD d) false false (ents ⟨k, n, u, s, ks, xs⟩) := by
        unfold outT
        rw [show (k == 17) = false from by simpa using h17]
      rw [e] at this
      exact this
end Go.Proofs.YtloemnickbkonaaDoor
