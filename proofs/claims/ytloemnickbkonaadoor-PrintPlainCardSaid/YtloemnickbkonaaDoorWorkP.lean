/- The law's examples: plain. -/
import Derived.Test.YtloemnickbkonaaDoorPrP
namespace Go.Proofs.YtloemnickbkonaaDoor
open Go.RowKit Go.Proofs.YtloemnickbkonaaDoorW.PrintWords Go.Proofs.YtloemnickbkonaaDoorW.PrintLast Go.Proofs.YtloemnickbkonaaDoorW.PrintMore
set_option linter.unusedVariables false
set_option linter.unusedSimpArgs false
def lf (k n u : Int) (s : List UInt8) : Nd := ⟨k, n, u, ⟨s.toArray⟩, [], []⟩
def numT (n : Int) : Nd := lf 3 n 0 []
def ex1 : Nd := ⟨17, 0, 0, ⟨#[]⟩, [⟨#[98]⟩, ⟨#[97]⟩], [⟨10, 0, 0, ⟨#[]⟩, [], [numT 1, lf 1 0 0 []]⟩, lf 2 1 0 []]⟩
def ex8 : Nd := ⟨15, 0, 0, ⟨#[]⟩, [], [numT 1, numT (-2)]⟩
def ex12 : Nd := ⟨17, 0, 0, ⟨#[]⟩, [⟨#[255]⟩], [numT 1]⟩
theorem printR_ok {t : Nd} {l : List UInt8} (h : checkE t = 0) (hq : outD 64 t = (l, 0)) (hl : l.length ≤ 1048576) : printR t = (l, 0) := by
  unfold printR printO
  have hn : ¬ 1048576 < l.length := by omega
  simp [h, hq, hn]
theorem printR_err {t : Nd} {l : List UInt8} {e : Int} (h : checkE t = 0) (hq : outD 64 t = (l, e)) (he : e ≠ 0) (hl : l.length ≤ 1048576) : printR t = ([], e) := by
  unfold printR printO
  have hn : ¬ 1048576 < l.length := by omega
  simp [h, hq, hn, he]
theorem printR_chk {t : Nd} {e : Int} (h : checkE t = e) (he : e ≠ 0) : printR t = ([], e) := by
  unfold printR
  rw [h, if_pos he]
theorem ord_two : ordE [⟨#[98]⟩, ⟨#[97]⟩] = [1, 0] := by
  unfold ordE
  rw [if_pos (by simp)]
  have hp := orderF_perm [⟨#[98]⟩, ⟨#[97]⟩]
  have hs : (orderF [⟨#[98]⟩, ⟨#[97]⟩]).Pairwise fun x y => (!ltOf (cmpK [⟨#[98]⟩, ⟨#[97]⟩]) y x) = true := by
    unfold orderF
    exact List.pairwise_mergeSort (le := fun x y => !ltOf (cmpK [⟨#[98]⟩, ⟨#[97]⟩]) y x) (fun a b c => by revert a b c; decide) (fun a b => by revert a b; decide) _
  unfold orderP
  generalize orderF [⟨#[98]⟩, ⟨#[97]⟩] = o at *
  have hl := hp.length_eq
  rw [List.length_finRange] at hl
  match o, hl with
  | [a, b], _ =>
    have hn : a ≠ b := by
      have := hp.nodup_iff.2 (List.nodup_finRange _)
      simpa using this
    have hab : (!ltOf (cmpK [⟨#[98]⟩, ⟨#[97]⟩]) b a) = true := by simpa using hs
    revert hn hab
    clear hs hp hl
    revert a b
    decide
theorem ord_one : ordE [⟨#[255]⟩] = [0] := by
  unfold ordE
  rw [if_pos (by simp)]
  unfold orderP orderF
  rw [show List.finRange [(⟨#[255]⟩ : ByteArray)].length = [0] from rfl, List.mergeSort_singleton]
  rfl
theorem ord_nil : ordE [] = [] := by
  unfold ordE
  rw [if_pos (by simp)]
  unfold orderP orderF
  rw [show List.finRange ([] : List ByteArray).length = [] from rfl, List.mergeSort_nil]
  rfl
theorem r2 : printR (numT (-9223372036854775808)) = ([45, 57, 50, 50, 51, 51, 55, 50, 48, 51, 54, 56, 53, 52, 55, 55, 53, 56, 48, 56], 0) := by
  refine printR_ok (by kernel_rfl) ?_ (by decide)
  rw [outD]
  simp [numT, lf, Lib.itoa, Lib.decDigits]
theorem r3 : printR (lf 4 0 18446744073709551615 []) = ([49, 56, 52, 52, 54, 55, 52, 52, 48, 55, 51, 55, 48, 57, 53, 53, 49, 54, 49, 53], 0) := by
  refine printR_ok (by kernel_rfl) ?_ (by decide)
  rw [outD]
  simp [lf, Lib.decDigits]
theorem r4 : printR (lf 6 0 0 [195, 169, 32, 47, 32, 10]) = ([34, 195, 169, 32, 47, 32, 92, 110, 34], 0) := by
  refine printR_ok (by kernel_rfl) ?_ (by decide)
  rw [outD]
  kernel_rfl
theorem r5 : printR (lf 5 0 0 [92]) = ([34, 92, 92, 34], 0) := by
  refine printR_ok (by kernel_rfl) ?_ (by decide)
  rw [outD]
  kernel_rfl
theorem r6 : printR (lf 8 7 0 []) = ([55], 0) := by
  refine printR_ok (by kernel_rfl) ?_ (by decide)
  rw [outD]
  simp [lf, Lib.itoa, Lib.decDigits]
theorem r7 : printR (lf 7 0 0 [102, 111, 111]) = ([34, 90, 109, 57, 118, 34], 0) := by
  refine printR_ok (by kernel_rfl) ?_ (by decide)
  rw [outD]
  kernel_rfl
theorem r9 : printR (lf 10 0 0 []) = ([91, 93], 0) := by
  refine printR_ok (by kernel_rfl) ?_ (by decide)
  rw [outD]
  simp [lf, ents, outA, cat]
theorem r10 : printR (lf 17 0 0 []) = ([123, 125], 0) := by
  refine printR_ok (by kernel_rfl) ?_ (by decide)
  rw [outD]
  simp [lf, ents, ord_nil, outA, cat]
theorem out_num (d : Nat) (n : Int) : outD (d + 1) (numT n) = (Lib.itoa n, 0) := by
  rw [outD]; simp [numT, lf]
theorem r8 : printR ex8 = ([91, 49, 44, 45, 50, 93], 0) := by
  refine printR_ok (by kernel_rfl) ?_ (by decide)
  rw [outD]
  simp [ex8, ents, outA, outM, cat, out_num, Lib.itoa, Lib.decDigits]
theorem r1 : printR ex1 = ([123, 34, 97, 34, 58, 116, 114, 117, 101, 44, 34, 98, 34, 58, 91, 49, 44, 110, 117, 108, 108, 93, 125], 0) := by
  refine printR_ok (by kernel_rfl) ?_ (by decide)
  have q1 : outQ ⟨#[97]⟩ = ([34, 97, 34], 0) := by kernel_rfl
  have q2 : outQ ⟨#[98]⟩ = ([34, 98, 34], 0) := by kernel_rfl
  have f : Lib.formatBool true = [116, 114, 117, 101] := by kernel_rfl
  have o1 : ∀ d, outD (d + 1) (lf 2 1 0 []) = ([116, 114, 117, 101], 0) := fun d => by rw [outD]; simp [lf, f]
  have o2 : ∀ d, outD (d + 1) (lf 1 0 0 []) = ([110, 117, 108, 108], 0) := fun d => by rw [outD]; simp [lf]
  have o3 : ∀ d, outD (d + 1 + 1) ⟨10, 0, 0, ⟨#[]⟩, [], [numT 1, lf 1 0 0 []]⟩ = ([91, 49, 44, 110, 117, 108, 108, 93], 0) := fun d => by
    rw [outD]; simp [ents, outA, outM, cat, out_num, o2, Lib.itoa, Lib.decDigits]
  rw [outD]
  simp [ex1, ents, ord_two, outA, outM, cat, q1, q2, o1 62, o3 61]
theorem e11 : printR (lf 6 0 0 [255]) = ([], 40) := by
  refine printR_err (l := []) (by kernel_rfl) ?_ (by decide) (by decide)
  rw [outD]
  kernel_rfl
theorem e12 : printR ex12 = ([], 40) := by
  refine printR_err (l := [123, 58, 49, 125]) (by kernel_rfl) ?_ (by decide) (by decide)
  have q1 : outQ ⟨#[255]⟩ = ([], 40) := by kernel_rfl
  rw [outD]
  simp [ex12, ents, ord_one, outA, outM, cat, q1, out_num, Lib.itoa, Lib.decDigits]
theorem e13 : printR (lf 0 0 0 []) = ([], 60) := printR_chk (by kernel_rfl) (by decide)
end Go.Proofs.YtloemnickbkonaaDoor
