/- An argument of type api.Node: its datum opened into a tree and its cells. -/
import Derived.Test.YtloemnickbkonaaDoorPre
import Derived.Test.YtloemnickbkonaaDoorPrP
import Derived.Deep.Slices
import Derived.ChangeSame
import Derived.SizedLaws
namespace Go.Proofs.YtloemnickbkonaaDoor
open Go.RowKit Go.Proofs.YtloemnickbkonaaDoorW.PrintWords Go.Proofs.YtloemnickbkonaaDoorW.PrintLast Go.Proofs.YtloemnickbkonaaDoorW.PrintMore
open Go.ChangeShapes Go.WideShapes
set_option linter.unusedVariables false
set_option linter.unusedSimpArgs false
section
variable {H : Type} {enc : TypeId × Value → H} {w : World}
theorem add0 (a : Addr) : a.add 0 = a := by simp [Addr.add]
theorem cellsN : Tryd.prog.cellsOf 26 = 6 := by kernel_rfl
theorem cellsS : Tryd.prog.cellsOf 9 = 1 := by kernel_rfl
theorem bytesN : Tryd.prog.bytesOf 26 = 88 := by kernel_rfl
theorem bytesS : Tryd.prog.bytesOf 9 = 16 := by kernel_rfl
theorem cells_int : Tryd.prog.cellsOf 3 = 1 := by kernel_rfl
theorem cells_i64 : Tryd.prog.cellsOf 2 = 1 := by kernel_rfl
theorem cells_u64 : Tryd.prog.cellsOf 22 = 1 := by kernel_rfl
theorem cells_ss : Tryd.prog.cellsOf 23 = 1 := by kernel_rfl
theorem cells_ns : Tryd.prog.cellsOf 24 = 1 := by kernel_rfl
/-- A row of strings that is read. -/
theorem read_strs {fuel : Nat} {cs : List Value} {x : DataW H × List MemPlace} (h : DataW.trod enc Tryd.prog w 0 (fun _ => true) true fuel 23 cs = some x) (hw : ∀ n ∈ x.1.weights Tryd.prog 23, n ≤ reachBytes) :
    ∃ (A : Option Addr) (c : Nat) (ks : List ByteArray), cs = [.slice A ks.length c] ∧ ks.length ≤ c ∧ Kd.string.C w A ks.length ks ∧ ks.length ≤ 140737488355328 ∧ ∀ y ∈ ks, y.size ≤ 140737488355328 := by
  rcases DataW.trod_slice Tryd.underlying23 h with ⟨rfl, rfl⟩ | ⟨a, len, cap, elems, rest, n, rfl, rfl, rfl, hb, hl, hm, hlen, hel, -, -⟩
  · exact ⟨none, 0, [], rfl, Nat.le_refl _, Kd.C_nil _ _, by simp, by simp⟩
  · have hwl : (elems.length + rest.length) * 16 ≤ reachBytes := by
      refine hw _ ?_
      simp only [DataW.weights, Tryd.underlying23, bytesS, List.length_map]
      exact List.mem_cons_self
    have hr : reachBytes = 140737488351232 := rfl
    have hx : ∀ i, ∀ hi : i < elems.length, ∃ s : ByteArray, w.cell? (a.add i) = some (.string s) ∧ s.size ≤ 140737488355328 := by
      intro i hi
      have h1 := hel i (by omega)
      rw [List.getElem?_eq_getElem hi, cellsS, Nat.mul_one] at h1
      obtain ⟨cs', hc, ht⟩ := Option.bind_eq_some_iff.1 h1
      obtain ⟨-, hcl, hat⟩ := World.cells?_some hc
      obtain ⟨s, rfl, hxs, -⟩ := DataW.trod_string Tryd.underlying9 ht
      refine ⟨s, by have := hat 0 (by omega); rw [add0] at this; exact this, ?_⟩
      have : s.data.toList.length ≤ reachBytes := by
        refine hw _ ?_
        simp only [DataW.weights, Tryd.underlying23]
        refine List.mem_cons_of_mem _ (List.mem_append_left _ ?_)
        have hmem : elems[i].1 ∈ elems.map (·.1) := List.mem_map_of_mem (List.getElem_mem hi)
        have : ∀ (l : List (DataW H)) (d : DataW H), d ∈ l → ∀ n ∈ d.weights Tryd.prog 9, n ∈ DataW.weightsAll Tryd.prog 9 l := by
          intro l d hd n hn
          induction l with
          | nil => cases hd
          | cons e l ih =>
            simp only [DataW.weightsAll, List.mem_append]
            rcases List.mem_cons.1 hd with rfl | hd
            · exact .inl hn
            · exact .inr (ih hd)
        refine this _ _ hmem _ ?_
        rw [hxs]
        simp [DataW.weights]
      rw [data_length] at this
      omega
    obtain ⟨ks, hkl, hks⟩ : ∃ ks : List ByteArray, ks.length = len ∧ ∀ i, ∀ hi : i < ks.length, w.cell? (a.add i) = some (.string ks[i]) ∧ ks[i].size ≤ 140737488355328 := by
      refine ⟨(List.finRange elems.length).map fun i => Classical.choose (hx i.val i.isLt), by simp [hlen], fun i hi => ?_⟩
      have hi' : i < elems.length := by simpa using hi
      simp only [List.getElem_map, List.getElem_finRange]
      exact Classical.choose_spec (hx i hi')
    refine ⟨some a, cap, ks, by rw [hkl], by omega, ⟨rfl, by omega, fun _ => ⟨a, rfl, fun j p hj => ?_⟩⟩, by omega, fun y hy => ?_⟩
    · obtain ⟨hj', rfl⟩ := List.getElem?_eq_some_iff.1 hj
      refine ⟨[.string ks[j]], rfl, rfl, fun i u hu => ?_⟩
      rcases i with _ | i
      · simp at hu
        subst hu
        have hsz : (Kd.string).sz = 1 := rfl
        rw [hsz, Nat.mul_one, Nat.add_zero]
        exact (hks j hj').1
      · simp at hu
    · obtain ⟨j, hj, rfl⟩ := List.getElem_of_mem hy
      exact (hks j hj).2
theorem all_mem {P : Program} {e : TypeId} (l : List (DataW H)) (d : DataW H) (hd : d ∈ l) : ∀ n ∈ d.weights P e, n ∈ DataW.weightsAll P e l := by
  intro n hn
  induction l with
  | nil => cases hd
  | cons e l ih =>
    simp only [DataW.weightsAll, List.mem_append]
    rcases List.mem_cons.1 hd with rfl | hd
    · exact .inl hn
    · exact .inr (ih hd)
theorem int_wf {k : IntKind} {n : Int} (h : (Lit.int k n).wf = true) : (k = .i64 → -9223372036854775808 ≤ n ∧ n ≤ 9223372036854775807) ∧ (k = .u64 → 0 ≤ n ∧ n < 18446744073709551616) := by
  simp only [Lit.wf, Bool.and_eq_true, decide_eq_true_eq] at h
  refine ⟨fun e => ?_, fun e => ?_⟩
  · subst e
    exact ⟨h.1, h.2⟩
  · subst e
    have h1 : (0 : Int) ≤ n := h.1
    have h2 : n ≤ (18446744073709551615 : Int) := h.2
    omega
theorem okL_of {l : List Nd} (h : ∀ y ∈ l, okN y) : okL l := by
  induction l with
  | nil => trivial
  | cons y l ih => exact ⟨h y List.mem_cons_self, ih fun z hz => h z (List.mem_cons_of_mem _ hz)⟩
theorem NRb_sh {t : Nd} {b : Int} (c : Int) (h : NRb b t) : NRb c t := by
  induction t using Nd.ind generalizing b c with
  | h t ih =>
    intro p hp
    rw [preN_eq] at hp
    rcases List.mem_cons.1 hp with rfl | hp
    · exact h (b, t) (pre_self b t)
    · have : ∀ l : List Nd, (∀ y ∈ l, y ∈ t.f5) → p ∈ preL (c + 1) l → (-9223372036854775808 ≤ p.2.f1 ∧ p.2.f1 ≤ 9223372036854775807) ∧ (0 ≤ p.2.f2 ∧ p.2.f2 < 18446744073709551616) := by
        intro l
        induction l with
        | nil => intro _ hp; simp [preL] at hp
        | cons y l ihl =>
          intro hl hp
          simp only [preL, List.mem_append] at hp
          rcases hp with hp | hp
          · exact ih y (hl y List.mem_cons_self) (b := b + 1) (c + 1) (fun q hq => h q (pre_kid (hl y List.mem_cons_self) hq)) p hp
          · exact ihl (fun z hz => hl z (List.mem_cons_of_mem _ hz)) hp
      exact this t.f5 (fun _ h => h) hp
theorem NRb_mk' {b : Int} {t : Nd} (h0 : (-9223372036854775808 ≤ t.f1 ∧ t.f1 ≤ 9223372036854775807) ∧ (0 ≤ t.f2 ∧ t.f2 < 18446744073709551616)) (h : ∀ y ∈ t.f5, NRb (b + 1) y) : NRb b t := by
  intro p hp
  rw [preN_eq] at hp
  rcases List.mem_cons.1 hp with rfl | hp
  · exact h0
  · have : ∀ l : List Nd, (∀ y ∈ l, NRb (b + 1) y) → p ∈ preL (b + 1) l → (-9223372036854775808 ≤ p.2.f1 ∧ p.2.f1 ≤ 9223372036854775807) ∧ (0 ≤ p.2.f2 ∧ p.2.f2 < 18446744073709551616) := by
      intro l
      induction l with
      | nil => intro _ hp; simp [preL] at hp
      | cons y l ihl =>
        intro hl hp
        simp only [preL, List.mem_append] at hp
        rcases hp with hp | hp
        · exact hl y List.mem_cons_self p hp
        · exact ihl (fun z hz => hl z (List.mem_cons_of_mem _ hz)) hp
    exact this t.f5 h hp
set_option maxRecDepth 100000 in
/-- A node that is read. -/
theorem read_node : ∀ (fuel : Nat) (cs : List Value) (x : DataW H × List MemPlace), DataW.trod enc Tryd.prog w 0 (fun _ => true) true fuel 26 cs = some x → (∀ n ∈ x.1.weights Tryd.prog 26, n ≤ reachBytes) →
    ∃ t : Nd, kN.K w t cs ∧ okN t ∧ NRb 0 t := by
  intro fuel
  induction fuel using Nat.strongRecOn with
  | _ fuel ih =>
    intro cs x h hw
    obtain ⟨xs, n, rfl, rfl, hlen, hxl, hf⟩ := DataW.trod_struct Tryd.underlying26 h
    rw [cellsN] at hlen
    match cs, hlen with
    | [v0, v1, v2, v3, v4, v5], _ =>
      match xs, hxl with
      | [y0, y1, y2, y3, y4, y5], _ =>
        have h0 := hf 0 { name := "Kind", type := 3, offset := 0, embedded := false, tag := "", pkgPath := "", byteOffset := 0 } rfl
        have h1 := hf 1 { name := "N", type := 2, offset := 1, embedded := false, tag := "", pkgPath := "", byteOffset := 8 } rfl
        have h2 := hf 2 { name := "U", type := 22, offset := 2, embedded := false, tag := "", pkgPath := "", byteOffset := 16 } rfl
        have h3 := hf 3 { name := "S", type := 9, offset := 3, embedded := false, tag := "", pkgPath := "", byteOffset := 24 } rfl
        have h4 := hf 4 { name := "Keys", type := 23, offset := 4, embedded := false, tag := "", pkgPath := "", byteOffset := 40 } rfl
        have h5 := hf 5 { name := "L", type := 24, offset := 5, embedded := false, tag := "", pkgPath := "", byteOffset := 64 } rfl
        simp only [cells_int, cells_i64, cells_u64, cellsS, cells_ss, cells_ns, List.drop_zero, List.drop_succ_cons, List.take_succ_cons, List.take_zero, List.getElem?_cons_zero, List.getElem?_cons_succ] at h0 h1 h2 h3 h4 h5
        have hwe : ∀ (j : Nat) (e : TypeId) (d : DataW H), [3, 2, 22, 9, 23, 24][j]? = some e → [y0.1, y1.1, y2.1, y3.1, y4.1, y5.1][j]? = some d → ∀ n ∈ d.weights Tryd.prog e, n ≤ reachBytes := by
          intro j e d he hd n hn
          refine hw n ?_
          simp only [DataW.weights, Tryd.underlying26, List.map_cons, List.map_nil]
          exact DataW.weights_mem_each he hd n hn
        obtain ⟨m0, e0, x0, w0⟩ := DataW.trod_int Tryd.underlying3 h0
        obtain ⟨m1, e1, x1, w1⟩ := DataW.trod_int Tryd.underlying2 h1
        obtain ⟨m2, e2, x2, w2⟩ := DataW.trod_int Tryd.underlying22 h2
        obtain ⟨s, e3, x3, -⟩ := DataW.trod_string Tryd.underlying9 h3
        obtain ⟨A4, c4, ks, e4, hl4, hC4, hm4, hs4⟩ := read_strs h4 (hwe 4 _ _ rfl rfl)
        have hs : s.size ≤ 140737488355328 := by
          have := hwe 3 _ _ rfl rfl s.data.toList.length (by rw [x3]; simp [DataW.weights])
          have hr : reachBytes = 140737488351232 := rfl
          rw [data_length] at this
          omega
        have hkids : ∃ (A5 : Option Addr) (c5 : Nat) (l : List Nd), [v5] = [Value.slice A5 l.length c5] ∧ l.length ≤ c5 ∧ kN.C w A5 l.length l ∧ l.length ≤ 140737488355328 ∧ ∀ y ∈ l, okN y ∧ NRb 1 y := by
          have hw5 := hwe 5 _ _ rfl rfl
          rcases DataW.trod_slice Tryd.underlying24 h5 with ⟨e5, x5⟩ | ⟨a, len, cap, elems, rest, n', rfl, e5, x5, hb, hl, hm, hlen, hel, -, -⟩
          · exact ⟨none, 0, [], e5, Nat.le_refl _, Kd.C_nil _ _, by simp, by simp⟩
          · rw [x5] at hw5
            have hr : reachBytes = 140737488351232 := rfl
            have hwl : (elems.length + rest.length) * 88 ≤ reachBytes := by
              refine hw5 _ ?_
              simp only [DataW.weights, Tryd.underlying24, bytesN, List.length_map]
              exact List.mem_cons_self
            have hx : ∀ i, ∀ hi : i < elems.length, ∃ (t : Nd) (cs' : List Value), cs'.length = 6 ∧ (∀ j u, cs'[j]? = some u → w.cell? (a.add (i * 6 + j)) = some u) ∧ kN.K w t cs' ∧ okN t ∧ NRb 1 t := by
              intro i hi
              have g := hel i (by omega)
              rw [List.getElem?_eq_getElem hi, cellsN] at g
              obtain ⟨cs', hc, ht⟩ := Option.bind_eq_some_iff.1 g
              obtain ⟨-, hcl, hat⟩ := World.cells?_some hc
              obtain ⟨t, hK, hok, hnr⟩ := ih n' (by omega) cs' _ ht (by
                intro k hk
                refine hw5 k ?_
                simp only [DataW.weights, Tryd.underlying24]
                exact List.mem_cons_of_mem _ (List.mem_append_left _ (all_mem _ _ (List.mem_map_of_mem (List.getElem_mem hi)) k hk)))
              refine ⟨t, cs', hcl, fun j u hu => ?_, hK, hok, NRb_sh 1 hnr⟩
              have hj : j < 6 := by rw [← hcl]; exact (List.getElem?_eq_some_iff.1 hu).1
              have g2 := hat j hj
              rw [Go.Deep.add_add, hu] at g2
              exact g2
            obtain ⟨ts, htl, hts⟩ : ∃ ts : List Nd, ts.length = len ∧ ∀ i, ∀ hi : i < ts.length, ∃ cs' : List Value, cs'.length = 6 ∧ (∀ j u, cs'[j]? = some u → w.cell? (a.add (i * 6 + j)) = some u) ∧ kN.K w ts[i] cs' ∧ okN ts[i] ∧ NRb 1 ts[i] := by
              refine ⟨(List.finRange elems.length).map fun i => Classical.choose (hx i.val i.isLt), by simp [hlen], fun i hi => ?_⟩
              have hi' : i < elems.length := by simpa using hi
              simp only [List.getElem_map, List.getElem_finRange]
              exact Classical.choose_spec (hx i hi')
            refine ⟨some a, cap, ts, by rw [htl]; exact e5, by omega, ⟨rfl, by omega, fun _ => ⟨a, rfl, fun j p hj => ?_⟩⟩, by omega, fun y hy => ?_⟩
            · obtain ⟨hj', rfl⟩ := List.getElem?_eq_some_iff.1 hj
              obtain ⟨cs', k1, k2, k3, -, -⟩ := hts j hj'
              exact ⟨cs', k1, k3, k2⟩
            · obtain ⟨j, hj, rfl⟩ := List.getElem_of_mem hy
              obtain ⟨cs', -, -, -, k4, k5⟩ := hts j hj
              exact ⟨k4, k5⟩
        obtain ⟨A5, c5, l, e5, hl5, hC5, hm5, hall⟩ := hkids
        simp only [List.cons.injEq, and_true] at e0 e1 e2 e3 e4 e5
        subst e0 e1 e2 e3 e4 e5
        refine ⟨⟨m0, m1, m2, s, ks, l⟩, kN_mk w ⟨m0, m1, m2, s, ks, l⟩ hl4 hC4 hl5 hC5, (okN_eq _).2 ⟨hs, hm4, hs4, hm5, okL_of fun y hy => (hall y hy).1⟩, NRb_mk' ⟨(int_wf w1).1 rfl, (int_wf w2).2 rfl⟩ fun y hy => (hall y hy).2⟩
end
end Go.Proofs.YtloemnickbkonaaDoor
