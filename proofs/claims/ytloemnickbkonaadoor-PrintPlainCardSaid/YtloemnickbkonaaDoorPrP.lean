/- print.Print: plain: how long a tree's text may be; what print asks of a tree that passed the check. -/
import Derived.Test.YtloemnickbkonaaDoorAll
import Derived.Lib.ItoaLen
namespace Go.Proofs.YtloemnickbkonaaDoor
open Go.RowKit Go.Proofs.YtloemnickbkonaaDoorW.PrintWords Go.Proofs.YtloemnickbkonaaDoorW.PrintLast Go.Proofs.YtloemnickbkonaaDoorW.PrintMore
set_option linter.unusedVariables false
set_option linter.unusedSimpArgs false

mutual
/-- A bound on a tree's text, and on its sizes. -/
def wt : Nd → Nat
  | ⟨k, n, u, s, ks, l⟩ => 30 + 6 * s.size + (ks.map fun x => 6 * x.size + 4).sum + wtL l
def wtL : List Nd → Nat
  | [] => 0
  | x :: r => wt x + 2 + wtL r
end
theorem wt_eq (x : Nd) : wt x = 30 + 6 * x.f3.size + (x.f4.map fun y => 6 * y.size + 4).sum + wtL x.f5 := by cases x; simp only [wt]
theorem wtL_mem {l : List Nd} {x : Nd} (h : x ∈ l) : wt x + 2 ≤ wtL l := by
  induction l with
  | nil => cases h
  | cons y l ih =>
    simp only [wtL]
    rcases List.mem_cons.1 h with rfl | h
    · omega
    · have := ih h; omega
theorem wtL_len (l : List Nd) : l.length ≤ wtL l := by
  induction l with
  | nil => simp [wtL]
  | cons y l ih => simp only [wtL, List.length_cons]; omega
theorem wtL_sum (l : List Nd) : wtL l = (l.map fun x => wt x + 2).sum := by
  induction l with
  | nil => rfl
  | cons y l ih => simp only [wtL, List.map_cons, List.sum_cons, ih]
theorem sum_mem {α : Type} {f : α → Nat} {l : List α} {x : α} (h : x ∈ l) : f x ≤ (l.map f).sum := by
  induction l with
  | nil => cases h
  | cons y l ih =>
    rw [List.map_cons, List.sum_cons]
    rcases List.mem_cons.1 h with rfl | h
    · omega
    · have := ih h; omega
theorem sum_len {α : Type} {f : α → Nat} (hf : ∀ x, 1 ≤ f x) (l : List α) : l.length ≤ (l.map f).sum := by
  induction l with
  | nil => simp
  | cons y l ih => rw [List.map_cons, List.sum_cons, List.length_cons]; have := hf y; omega
theorem dpN_wt (x : Nd) : dpN x ≤ wt x := by
  induction x using Nd.ind with
  | h x ih =>
    rw [dpN_eq, wt_eq]
    have : ∀ l : List Nd, (∀ y ∈ l, dpN y ≤ wt y) → dpL l ≤ wtL l := by
      intro l
      induction l with
      | nil => intro _; simp [dpL]
      | cons y l ihl =>
        intro h
        have h1 := h y List.mem_cons_self
        have h2 := ihl fun z hz => h z (List.mem_cons_of_mem _ hz)
        simp only [dpL, wtL]
        omega
    have := this x.f5 ih
    omega
/-- Numbers in their kinds' ranges. -/
def NR (t : Nd) : Prop := ∀ p ∈ preN 0 t, (-9223372036854775808 ≤ p.2.f1 ∧ p.2.f1 ≤ 9223372036854775807) ∧ (0 ≤ p.2.f2 ∧ p.2.f2 < 18446744073709551616)

/-! #### the text's length -/
theorem escFrom_len (s : ByteArray) : ∀ g pos, (escFrom s g pos).length ≤ 6 * g
  | 0, _ => by simp [escFrom]
  | g + 1, pos => by
    rw [escFrom]
    split
    · have h1 := esc_len (Utf8.decode s pos).1
      have h2 := escFrom_len s g (pos + (Utf8.decode s pos).2)
      rw [List.length_append]; omega
    · simp
theorem outQ_len (s : ByteArray) : (outQ s).1.length ≤ 6 * s.size + 2 := by
  have h := escFrom_len s s.size 0
  show (quoteS s).data.toList.length ≤ _
  unfold quoteS
  split
  · have e : (⟨(quoteL s).toArray⟩ : ByteArray).data.toList = quoteL s := rfl
    rw [e]
    unfold quoteL
    simp only [List.length_append, List.length_singleton]
    omega
  · simp
theorem chars_len (p : List UInt8) (k : Nat) : (chars p k).length = k := by simp [chars]
theorem put64_len : ∀ (g : Nat) (l : List UInt8), l.length ≤ g → (put64 g l).length ≤ 2 * l.length + 4
  | 0, l, h => by simp [put64]
  | g + 1, l, h => by
    rw [put64]
    split
    · simp
    · rename_i hne
      have hl : 0 < l.length := by rcases l with _ | ⟨a, l⟩ <;> simp at hne ⊢
      rcases Nat.lt_or_ge l.length 4 with hlt | hge
      · have : l.drop 3 = [] ∨ (l.drop 3).length = 0 := by right; rw [List.length_drop]; omega
        have hd : l.drop 3 = [] := List.eq_nil_of_length_eq_zero (by rw [List.length_drop]; omega)
        rw [hd, put64_nil, List.append_nil, chars_len]; omega
      · have := put64_len g (l.drop 3) (by rw [List.length_drop]; omega)
        rw [List.length_append, chars_len]
        rw [List.length_drop] at this
        omega
theorem b64_len (l : List UInt8) : (b64L l).length ≤ 2 * l.length + 4 := put64_len _ _ (Nat.le_refl _)

theorem outM_len' (f : Nd → Out) (m sm : Bool) (p : ByteArray × Nd) : (outM f m sm p).1.length ≤ 4 + (if m then 6 * p.1.size else 0) + (f p.2).1.length := by
  unfold outM
  have h := outQ_len p.1
  cases sm <;> cases m <;> simp [cat_len] <;> omega
theorem outA_len (f : Nd → Out) (m : Bool) : ∀ (l : List (ByteArray × Nd)) (sm : Bool), (outA f m sm l).1.length ≤ (l.map fun p => 4 + (if m then 6 * p.1.size else 0) + (f p.2).1.length).sum
  | [], sm => by simp [outA]
  | p :: r, sm => by
    have h1 := outM_len' f m sm p
    have h2 := outA_len f m r true
    rw [outA, cat_len, List.map_cons, List.sum_cons]
    omega
theorem outA_len_list (f : Nd → Out) (hl : ∀ sm p, (outM f false sm p).1.length ≤ 1 + (f p.2).1.length) : ∀ (l : List (ByteArray × Nd)) (sm : Bool), (outA f false sm l).1.length ≤ (l.map fun p => 1 + (f p.2).1.length).sum
  | [], sm => by simp [outA]
  | p :: r, sm => by
    have h1 := hl sm p
    have h2 := outA_len_list f hl r true
    rw [outA, cat_len, List.map_cons, List.sum_cons]
    omega
theorem sum_le {α : Type} {f g : α → Nat} {l : List α} (h : ∀ x ∈ l, f x ≤ g x) : (l.map f).sum ≤ (l.map g).sum := by
  induction l with
  | nil => simp
  | cons y l ih =>
    simp only [List.map_cons, List.sum_cons]
    have h1 := h y List.mem_cons_self
    have h2 := ih fun z hz => h z (List.mem_cons_of_mem _ hz)
    omega
theorem sum_perm {α : Type} {f : α → Nat} {l r : List α} (h : l.Perm r) : (l.map f).sum = (r.map f).sum := (h.map f).sum_nat
theorem sum_range (f : Nat → Nat) : ∀ n, ((List.range n).map f).sum = ((List.range n).map f).sum := fun _ => rfl
/-- A sum over places. -/
theorem sum_places (ks : List ByteArray) (l : List Nd) (g : Nd → Nat) (h : ks.length = l.length) : ((List.range ks.length).map fun i => 4 + 6 * (ks.getD i ByteArray.empty).size + g (l.getD i zN)).sum = (ks.map fun y => 6 * y.size + 4).sum + (l.map g).sum := by
  induction ks generalizing l with
  | nil => cases l with
    | nil => simp
    | cons x l => simp at h
  | cons y ks ih => cases l with
    | nil => simp at h
    | cons x l =>
      have := ih l (by simpa using h)
      rw [List.length_cons, List.range_succ_eq_map]
      simp only [List.map_cons, List.sum_cons, List.map_map, Function.comp_def, List.getD_cons_zero, List.getD_cons_succ]
      rw [this]
      omega
theorem ents_mem {t : Nd} (h : t.f0 = 17 → t.f4.length = t.f5.length) {p : ByteArray × Nd} (hp : p ∈ ents t) : p.2 ∈ t.f5 ∧ (t.f0 = 17 → p.1 ∈ t.f4) ∧ (t.f0 ≠ 17 → p.1 = ⟨#[]⟩) := by
  by_cases h17 : t.f0 = 17
  · rw [ents_map h17] at hp
    obtain ⟨i, hi, rfl⟩ := List.mem_map.1 hp
    have hi' : i < t.f4.length := by
      unfold ordE at hi
      split at hi
      · have := (orderP_perm t.f4).mem_iff.1 hi
        simpa using this
      · cases hi
    have hl := h h17
    have hi5 : i < t.f5.length := by omega
    refine ⟨?_, fun _ => ?_, fun e => absurd h17 e⟩
    · simp only [List.getD_eq_getElem?_getD, List.getElem?_eq_getElem hi5, Option.getD_some]; exact List.getElem_mem hi5
    · simp only [List.getD_eq_getElem?_getD, List.getElem?_eq_getElem hi', Option.getD_some]; exact List.getElem_mem hi'
  · rw [ents_list h17] at hp
    obtain ⟨x, hx, rfl⟩ := List.mem_map.1 hp
    exact ⟨hx, fun e => absurd e h17, fun _ => rfl⟩
theorem ents_length {t : Nd} (h : t.f0 = 17 → t.f4.length = t.f5.length) : (ents t).length ≤ t.f5.length := by
  by_cases h17 : t.f0 = 17
  · rw [ents_map h17, List.length_map, ← h h17]
    unfold ordE
    split
    · rw [orderP_length]; omega
    · simp
  · rw [ents_list h17, List.length_map]; omega
theorem okV_17 {x : Nd} (h : okV x) : x.f0 = 17 → x.f4.length = x.f5.length := ((okV_eq x).1 h).2.2.2.2.2.2.1
theorem okV_kid {x y : Nd} (h : okV x) (hy : y ∈ x.f5) : okV y := okVL_mem ((okV_eq x).1 h).2.2.2.2.2.2.2 hy
theorem outD_len : ∀ (d : Nat) (x : Nd), okV x → (outD d x).1.length ≤ wt x
  | 0, x, _ => by simp [outD]
  | d + 1, x, hv => by
    have ih := outD_len d
    obtain ⟨v1, v2, v3, v4, v5, v6, v7, v8⟩ := (okV_eq x).1 hv
    have hw := wt_eq x
    rw [outD]
    by_cases h1 : x.f0 = 1
    · rw [if_pos h1]; simp; omega
    rw [if_neg h1]
    by_cases h2 : x.f0 = 2
    · rw [if_pos h2]; have : (Lib.formatBool (x.f1 == 1)).length ≤ 5 := by cases (x.f1 == 1) <;> decide
      simp only; omega
    rw [if_neg h2]
    by_cases h3 : x.f0 = 3 ∨ x.f0 = 8
    · rw [if_pos h3]; have := Lib.itoa_length_le x.f1 v5.1 v5.2
      simp only; omega
    rw [if_neg h3]
    by_cases h4 : x.f0 = 4 ∨ x.f0 = 9
    · rw [if_pos h4]; have := Lib.nDigits_le20 x.f2.toNat (by omega)
      simp only [Lib.decDigits_length]; omega
    rw [if_neg h4]
    by_cases h5 : x.f0 = 5 ∨ x.f0 = 6
    · rw [if_pos h5]; have := outQ_len x.f3; omega
    rw [if_neg h5]
    by_cases h7 : x.f0 = 7
    · rw [if_pos h7]; have := b64_len x.f3.data.toList
      rw [data_length] at this
      show (([34] : List UInt8) ++ b64L x.f3.data.toList ++ [34]).length ≤ wt x
      rw [List.length_append, List.length_append]
      simp only [List.length_singleton]
      omega
    rw [if_neg h7]
    by_cases h17 : x.f0 = 17
    · rw [if_pos h17, cat_len, cat_len]
      have hl := outA_len (outD d) true (ents x) false
      have hb : ((ents x).map fun p => 4 + (if true = true then 6 * p.1.size else 0) + (outD d p.2).1.length).sum ≤ (x.f4.map fun y => 6 * y.size + 4).sum + wtL x.f5 := by
        rw [ents_map h17, List.map_map]
        by_cases hn : x.f4.Nodup
        · rw [show ordE x.f4 = orderP x.f4 from by unfold ordE; rw [if_pos hn]]
          rw [sum_perm (orderP_perm x.f4)]
          rw [wtL_sum]
          rw [← sum_places x.f4 x.f5 (fun y => wt y + 2) (v7 h17)]
          refine sum_le fun i hi => ?_
          have hi' : i < x.f5.length := by rw [← v7 h17]; simpa using hi
          have hm : x.f5.getD i zN ∈ x.f5 := by simp only [List.getD_eq_getElem?_getD, List.getElem?_eq_getElem hi', Option.getD_some]; exact List.getElem_mem hi'
          have := ih _ (okV_kid hv hm)
          simp only [Function.comp_def, if_true]
          omega
        · rw [show ordE x.f4 = [] from by unfold ordE; rw [if_neg hn]]
          simp
      simp only [List.length_singleton]
      omega
    · rw [if_neg h17, cat_len, cat_len]
      have hl := outA_len_list (outD d) (fun sm p => by unfold outM; cases sm <;> simp [cat_len]) (ents x) false
      have hb : ((ents x).map fun p => 1 + (outD d p.2).1.length).sum ≤ wtL x.f5 := by
        rw [ents_list h17, List.map_map, wtL_sum]
        refine sum_le fun y hy => ?_
        have := ih _ (okV_kid hv hy)
        simp only [Function.comp_def]
        omega
      simp only [List.length_singleton]
      omega

/-! #### what the check tells -/
theorem passed_of {n : Nat} : ∀ {l : List (Int × Nd)}, checkL n l = 0 → passed n l
  | [], _ => trivial
  | p :: r, h => by
    rw [checkL] at h
    by_cases hp : stepE n p = 0
    · rw [if_pos hp] at h
      exact ⟨hp, passed_of h⟩
    · rw [if_neg hp] at h
      exact absurd h hp
theorem passed_mem {n : Nat} : ∀ {l : List (Int × Nd)}, passed n l → ∀ p ∈ l, p.1 < 64 ∧ suchB p.2 = true ∧ keyedE p.2 = 0
  | [], _, p, hp => by cases hp
  | q :: r, h, p, hp => by
    rcases List.mem_cons.1 hp with rfl | hp
    · have h1 := h.1
      unfold stepE at h1
      split at h1
      · cases h1
      · split at h1
        · cases h1
        · split at h1
          · exact ⟨by omega, by assumption, h1⟩
          · cases h1
    · exact passed_mem h.2 p hp
theorem such_17 {x : Nd} (h : suchB x = true) (h17 : x.f0 = 17) : x.f4.length = x.f5.length := by
  unfold suchB at h
  simp only [Bool.and_eq_true, Bool.not_eq_true'] at h
  have := h.1.1.2
  unfold sd6 at this
  simp [h17] at this
  omega
/-- Every node of the tree is in order. -/
def Good (b : Int) (x : Nd) : Prop := ∀ p ∈ preN b x, p.1 < 64 ∧ suchB p.2 = true ∧ keyedE p.2 = 0
theorem good_of {t : Nd} (h : checkE t = 0) : Good 0 t ∧ (preN 0 t).length ≤ 4096 := ⟨passed_mem (passed_of h), passed_le _ (passed_of h)⟩
theorem preL_mem {b : Int} {l : List Nd} {y : Nd} (hy : y ∈ l) {p : Int × Nd} (hp : p ∈ preN b y) : p ∈ preL b l := by
  induction l with
  | nil => cases hy
  | cons z l ih =>
    simp only [preL, List.mem_append]
    rcases List.mem_cons.1 hy with rfl | hy
    · exact .inl hp
    · exact .inr (ih hy)
theorem pre_kid {b : Int} {x y : Nd} (hy : y ∈ x.f5) {p : Int × Nd} (hp : p ∈ preN (b + 1) y) : p ∈ preN b x := by
  rw [preN_eq]; exact List.mem_cons_of_mem _ (preL_mem hy hp)
theorem good_kid {b : Int} {x y : Nd} (h : Good b x) (hy : y ∈ x.f5) : Good (b + 1) y := fun p hp => h p (pre_kid hy hp)
theorem pre_self (b : Int) (x : Nd) : (b, x) ∈ preN b x := by rw [preN_eq]; exact List.mem_cons_self
theorem preL_len (b : Int) : ∀ l : List Nd, l.length ≤ (preL b l).length
  | [] => by simp
  | x :: r => by have := preN_pos b x; have := preL_len b r; simp only [preL, List.length_append, List.length_cons]; omega
theorem preL_len_mem {b : Int} {l : List Nd} {y : Nd} (hy : y ∈ l) : (preN b y).length ≤ (preL b l).length := by
  induction l with
  | nil => cases hy
  | cons z l ih =>
    simp only [preL, List.length_append]
    rcases List.mem_cons.1 hy with rfl | hy
    · omega
    · have := ih hy; omega
/-- Numbers in range, at every node; levels do not matter. -/
def NRb (b : Int) (t : Nd) : Prop := ∀ p ∈ preN b t, (-9223372036854775808 ≤ p.2.f1 ∧ p.2.f1 ≤ 9223372036854775807) ∧ (0 ≤ p.2.f2 ∧ p.2.f2 < 18446744073709551616)
theorem okVL_of {l : List Nd} (h : ∀ y ∈ l, okV y) : okVL l := by
  induction l with
  | nil => trivial
  | cons y l ih => exact ⟨h y List.mem_cons_self, ih fun z hz => h z (List.mem_cons_of_mem _ hz)⟩
theorem okV_of (x : Nd) : ∀ b : Int, Good b x → NRb b x → wt x ≤ 1073741824 → okV x := by
  induction x using Nd.ind with
  | h x ih =>
    intro b hg hn hw
    have hwe := wt_eq x
    have g := hg _ (pre_self b x)
    have n := hn _ (pre_self b x)
    have hk := sum_len (f := fun y : ByteArray => 6 * y.size + 4) (fun y => by omega) x.f4
    have hl := wtL_len x.f5
    refine (okV_eq x).2 ⟨by omega, by omega, fun y hy => ?_, by omega, n.1, n.2, such_17 g.2.1, okVL_of fun y hy => ?_⟩
    · have := sum_mem (f := fun y : ByteArray => 6 * y.size + 4) hy
      omega
    · have := wtL_mem hy
      exact ih y hy (b + 1) (good_kid hg hy) (fun p hp => hn p (pre_kid hy hp)) (by omega)
theorem okT_of (M : Nat) (hM : M ≤ 1073741824) (x : Nd) : ∀ (b : Int) (d : Nat), Good b x → NRb b x → b + d = 64 → wt x ≤ M → (preN b x).length ≤ 4096 → okT M d x := by
  induction x using Nd.ind with
  | h x ih =>
    intro b d hg hn hb hw hp
    have g := hg _ (pre_self b x)
    obtain ⟨d, rfl⟩ : ∃ e, d = e + 1 := ⟨d - 1, by have g1 : b < 64 := g.1; omega⟩
    have hv := okV_of x b hg hn (by omega)
    have hwe := wt_eq x
    have hk := sum_len (f := fun y : ByteArray => 6 * y.size + 4) (fun y => by omega) x.f4
    refine ⟨hv, ?_, Nat.le_trans (outD_len _ _ hv) hw, fun p hpm => ?_⟩
    · have h1 := ents_length (okV_17 hv)
      have h2 := preL_len (b + 1) x.f5
      rw [preN_eq, List.length_cons] at hp
      omega
    · obtain ⟨m1, m2, m3⟩ := ents_mem (okV_17 hv) hpm
      have hk1 : 6 * p.1.size ≤ (x.f4.map fun y => 6 * y.size + 4).sum := by
        by_cases h17 : x.f0 = 17
        · have := sum_mem (f := fun y : ByteArray => 6 * y.size + 4) (m2 h17); omega
        · rw [m3 h17]; exact Nat.zero_le _
      have hwm := wtL_mem m1
      have hlen := outM_len' (outD d) (x.f0 == 17) true p
      have hd := outD_len d p.2 (okV_kid hv m1)
      refine ⟨by omega, ?_, ih p.2 m1 (b + 1) d (good_kid hg m1) (fun q hq => hn q (pre_kid m1 hq)) (by omega) (by omega) ?_⟩
      · have : (if (x.f0 == 17) = true then 6 * p.1.size else 0) ≤ 6 * p.1.size := by split <;> omega
        omega
      · rw [preN_eq, List.length_cons] at hp
        have := preL_len_mem (b := b + 1) m1
        omega
theorem okN_of (x : Nd) : wt x ≤ 1073741824 → okN x := by
  induction x using Nd.ind with
  | h x ih =>
    intro hw
    have hwe := wt_eq x
    have hk := sum_len (f := fun y : ByteArray => 6 * y.size + 4) (fun y => by omega) x.f4
    have hl := wtL_len x.f5
    have hL : ∀ l : List Nd, (∀ y ∈ l, okN y) → okL l := by
      intro l
      induction l with
      | nil => intro _; trivial
      | cons y l ihl => intro h; exact ⟨h y List.mem_cons_self, ihl fun z hz => h z (List.mem_cons_of_mem _ hz)⟩
    refine (okN_eq x).2 ⟨by omega, by omega, fun y hy => ?_, by omega, hL _ fun y hy => ih y hy ?_⟩
    · have := sum_mem (f := fun y : ByteArray => 6 * y.size + 4) hy
      omega
    · have := wtL_mem hy; omega
/-- What print.Print answers. -/
noncomputable def printO (t : Nd) : Out := let q := outD 64 t; if q.1.length > 1048576 then cat q ([], 5) else q
noncomputable def printR (t : Nd) : List UInt8 × Int := if checkE t ≠ 0 then ([], checkE t) else if (printO t).2 ≠ 0 then ([], (printO t).2) else ((printO t).1, 0)
end Go.Proofs.YtloemnickbkonaaDoor
