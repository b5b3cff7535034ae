/- print.writer: its state, fail, quote; what a tree is written as. -/
import Derived.Test.YtloemnickbkonaaDoorQuote
import Derived.Test.YtloemnickbkonaaDoorB64
import Derived.Test.YtloemnickbkonaaDoorPre
import Derived.Test.YtloemnickbkonaaDoorOrdP
namespace Go.Proofs.YtloemnickbkonaaDoor
open Go.RowKit Go.Proofs.YtloemnickbkonaaDoorW.PrintWords Go.Proofs.YtloemnickbkonaaDoorW.PrintLast Go.Proofs.YtloemnickbkonaaDoorW.PrintMore
set_option linter.unusedVariables false
set_option linter.unusedSimpArgs false

abbrev Out := List UInt8 × Int
/-- One piece of text behind another; the first error stays. -/
def cat (p q : Out) : Out := (p.1 ++ q.1, if p.2 = 0 then q.2 else p.2)
theorem cat_assoc (p q r : Out) : cat (cat p q) r = cat p (cat q r) := by
  unfold cat
  simp only [List.append_assoc, Prod.mk.injEq, true_and]
  split <;> rfl
theorem cat_nil (p : Out) : cat p ([], 0) = p := by
  obtain ⟨a, b⟩ := p
  unfold cat
  simp
  intro h; exact h.symm
theorem nil_cat (p : Out) : cat ([], 0) p = p := by
  obtain ⟨a, b⟩ := p
  simp [cat]
theorem cat_len (p q : Out) : (cat p q).1.length = p.1.length + q.1.length := by simp [cat]
def outQ (s : ByteArray) : Out := ((quoteS s).data.toList, quoteE s)
open Classical in
/-- The places in which a map's members come. -/
noncomputable def ordE (ks : List ByteArray) : List Nat := if ks.Nodup then orderP ks else []
noncomputable def ents (t : Nd) : List (ByteArray × Nd) := if t.f0 = 17 then (ordE t.f4).map fun i => (t.f4.getD i ByteArray.empty, t.f5.getD i zN) else t.f5.map fun x => (⟨#[]⟩, x)
def outM (f : Nd → Out) (m sm : Bool) (p : ByteArray × Nd) : Out := cat (if sm then [44] else [], 0) (cat (if m then cat (outQ p.1) ([58], 0) else ([], 0)) (f p.2))
def outA (f : Nd → Out) (m : Bool) : Bool → List (ByteArray × Nd) → Out
  | _, [] => ([], 0)
  | sm, p :: r => cat (outM f m sm p) (outA f m true r)
noncomputable def outD : Nat → Nd → Out
  | 0, _ => ([], 0)
  | d + 1, t =>
    if t.f0 = 1 then ([110, 117, 108, 108], 0)
    else if t.f0 = 2 then (Lib.formatBool (t.f1 == 1), 0)
    else if t.f0 = 3 ∨ t.f0 = 8 then (Lib.itoa t.f1, 0)
    else if t.f0 = 4 ∨ t.f0 = 9 then (Lib.decDigits t.f2.toNat, 0)
    else if t.f0 = 5 ∨ t.f0 = 6 then outQ t.f3
    else if t.f0 = 7 then ([34] ++ b64L t.f3.data.toList ++ [34], 0)
    else if t.f0 = 17 then cat ([123], 0) (cat (outA (outD d) true false (ents t)) ([125], 0))
    else cat ([91], 0) (cat (outA (outD d) false false (ents t)) ([93], 0))

theorem Bld.put2 {base b : Nat} {bs : List Value} {cs : Array Value} {T : TypeId} {w : World} (h : Bld base b 0 bs cs T w) (hcs : 2 < cs.size) (v : Value) : Bld base b 0 bs (cs.setIfInBounds 2 v) T (w.setCell ⟨b, 2, none⟩ v) := by
  obtain ⟨hB, hb, p, u, h0, h1, hp, hown, hne⟩ := h
  exact ⟨hB, heap_put hb _ _, p, u, by rw [get_set_other (by omega)]; exact h0, by rw [get_set_other (by omega)]; exact h1, hp, own_put hown hne, hne⟩
/-- The writer in block b holds a text and an error. -/
def Wr (base b : Nat) (o : Out) (w : World) : Prop := ∃ cs : Array Value, cs.size = 3 ∧ Bld base b 0 (Lib.byteCells o.1) cs 39 w ∧ cs[2]? = some (.int .i64 o.2)
theorem bldT_wr : BldT 39 3 0 := ⟨by kernel_rfl, by decide, by decide⟩
theorem Wr.cells {base b : Nat} {o : Out} {w w' : World} (h : Wr base b o w) (k : ∀ (i : Nat) (c : Array Value) (t : TypeId) (fr : Nat × Nat), w.heap[i]? = some (Obj.cells c t fr) → w'.heap[i]? = some (Obj.cells c t fr)) : Wr base b o w' := by
  obtain ⟨cs, h1, h2, h3⟩ := h
  exact ⟨cs, h1, h2.cells k, h3⟩
theorem Wr.below {base b : Nat} {o : Out} {w w' : World} (h : Wr base b o w) (k : Below w.heap.size w w') : Wr base b o w' := h.cells fun i c t fr hi => (k.block i (heap_lt' hi)).trans hi

/-- Tables of the library, as they were laid. -/
def Laid (w : World) : Prop := Tabs w ∧ Lib.TabIs Tryd.prog w "internal/strconv.uint64pow10" .u64 Lib.pow10Tab
set_option maxRecDepth 100000 in
set_option maxHeartbeats 400000 in
theorem fail_c {base b : Nat} {o : Out} {w : World} (e : Int) (h : Wr base b o w) :
    Calls Tryd.prog 10 #[.pointer (some ⟨b, 0, none⟩), .int .i64 e] w fun r w' => r = .returned (.tuple #[]) ∧ Wr base b (cat o ([], e)) w' ∧ Below base w w' ∧ KeepW b w w' := by
  obtain ⟨cs, hcs, hB, h2⟩ := h
  have c2 : w.cell? ⟨b, 2, none⟩ = some (.int .i64 o.2) := by rw [heap_cell hB.2.1, h2]
  have f2 : w.frozen? ⟨b, 2, none⟩ = false := heap_thawed hB.2.1 _
  by_cases he : o.2 = 0
  · have he' : (o.2 == 0) = true := by rw [he]; rfl
    go_enter Tryd.func10, Tryd.ntmps10
    go_wp2_with fail
    go_end0
    refine ⟨rfl, ⟨cs.setIfInBounds 2 (.int .i64 e), by simpa using hcs, ?_, ?_⟩, (Below.refl _ _).setCell (p := ⟨b, 2, none⟩) hB.1 _, (KeepW.refl _ _).setCell _ _⟩
    · have := hB.put2 (by omega) (.int .i64 e)
      simpa [cat] using this
    · rw [get_set_same h2]; simp [cat, he]
  · have he' : (o.2 == 0) = false := by simpa using he
    go_enter Tryd.func10, Tryd.ntmps10
    go_wp2_with fail
    go_end0
    have hc : cat o ([], e) = o := by unfold cat; rw [if_neg he]; simp
    rw [hc]
    exact ⟨rfl, ⟨cs, hcs, hB, h2⟩, Below.refl _ _, KeepW.refl _ _⟩
/-- WriteString. -/
theorem wrStr_c {base b : Nat} {o : Out} {w : World} (s : ByteArray) (h : Wr base b o w) (hlen : o.1.length + s.size ≤ 140737488355328) (hBw : base ≤ w.heap.size) :
    Calls Tryd.prog 20 #[.pointer (some ⟨b, 0, none⟩), .string s] w fun r w' => r = .returned (.tuple #[.int .i64 s.size, .nilIface]) ∧ Wr base b (cat o (s.data.toList, 0)) w' ∧ Below base w w' ∧ KeepW b w w' := by
  obtain ⟨cs, hcs, hB, h2⟩ := h
  refine (writeString_c s hB (by rw [hcs]; exact bldT_wr) (by rw [Lib.byteCells_length]; exact hlen) hBw).mono ?_
  rintro r w' ⟨rfl, cs', hB', hsame, hb, hk⟩
  refine ⟨rfl, ⟨cs', hsame.1.trans hcs, ?_, ?_⟩, hb, hk⟩
  · rw [Lib.strCells_eq, ← byteCells_append] at hB'
    exact hB'
  · rw [hsame.2 2 (by omega) (by omega), h2]
    unfold cat
    simp
theorem Tabs.below {w w' : World} (h : Tabs w) (k : Below w.heap.size w w') : Tabs w' := by
  have tr : ∀ {a : Addr} {v : Value}, w.cell? a = some v → w'.cell? a = some v := fun h => (k.cell (World.block_lt_of_cell? w _ h)).trans h
  exact ⟨fun c hc => tr (h.1 c hc), fun i hi => ⟨tr (h.2 i hi).1, tr (h.2 i hi).2⟩⟩
theorem pow_named : Tryd.prog.globalNamed "internal/strconv.uint64pow10" = some 0 := by kernel_rfl
theorem Laid.below {w w' : World} (h : Laid w) (k : Below w.heap.size w w') : Laid w' := by
  refine ⟨h.1.below k, ?_⟩
  have ht := h.2
  unfold Lib.TabIs World.var? at *
  rw [pow_named] at *
  simp only [Option.bind_some] at *
  have hlt : 0 < w.heap.size := by
    rcases Nat.lt_or_ge 0 w.heap.size with h' | h'
    · exact h'
    · rw [Array.getElem?_eq_none h'] at ht
      simp at ht
  rw [k.block _ hlt]
  exact ht
set_option maxRecDepth 100000 in
set_option maxHeartbeats 400000 in
theorem wquote_c {base b : Nat} {o : Out} {w : World} (s : ByteArray) (h : Wr base b o w) (hs : s.size ≤ 1099511627776) (hlen : o.1.length + (outQ s).1.length ≤ 140737488355328) (hBw : base ≤ w.heap.size) (hT : Laid w) :
    Calls Tryd.prog 24 #[.pointer (some ⟨b, 0, none⟩), .string s] w fun r w' => r = .returned (.tuple #[]) ∧ Wr base b (cat o (outQ s)) w' ∧ Below base w w' ∧ KeepW b w w' := by
  have HT := Aside0.mk hT.1
  clear hT
  go_enter Tryd.func24, Tryd.ntmps24
  go_wp2_with (go_at_call 41; refine (quote_c s w hs HT.out).mono ?_; rintro e w1 ⟨rfl, hb1⟩)
  have h1 := h.below hb1
  have hz1 : base ≤ w1.heap.size := Nat.le_trans hBw hb1.size
  go_at_call 10
  refine (fail_c _ h1).mono ?_
  rintro r w2 ⟨rfl, h2, hb2, hk2⟩
  have hz2 : base ≤ w2.heap.size := Nat.le_trans hz1 hb2.size
  go_wp2_with fail
  have hlen2 : (cat o ([], quoteE s)).1.length + (quoteS s).size ≤ 140737488355328 := by simp [cat]; exact hlen
  refine (wrStr_c (quoteS s) h2 hlen2 hz2).mono ?_
  rintro r w3 ⟨rfl, h3, hb3, hk3⟩
  go_wp2_with fail
  go_end0
  refine ⟨rfl, ?_, ((hb1.mono hBw).trans hb2).trans hb3, ((((KeepW.refl b w).below hb1).trans hk2).trans hk3)⟩
  rw [cat_assoc] at h3
  have e : cat ([], quoteE s) ((quoteS s).data.toList, 0) = outQ s := by
    unfold cat outQ
    simp
    intro h; exact h.symm
  rw [e] at h3
  exact h3
end Go.Proofs.YtloemnickbkonaaDoor
