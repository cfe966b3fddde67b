/- The walk of the law PqHeals: it returns true. -/
import Derived.Test.YtbikmodfmckaeaaPqD
import Derived.Test.YtbikmodfmckaeaaTexts
import Derived.Deep.AppendLies
namespace Go.Proofs.Ytbikmodfmckaeaa
open Go.ChangeShapes Go.WideShapes Go.ChangeAt Go.RowKit
set_option linter.unusedVariables false
def q56 : List ByteArray := [⟨#[5]⟩, ⟨#[6]⟩]
theorem q56_f : Gv.pqF q56 = 0 := by decide +kernel
theorem q56_p : Gv.P q56 = ⟨#[3]⟩ := by decide +kernel
theorem q56_q : Gv.Q q56 = ⟨#[9]⟩ := by decide +kernel
theorem q56_row (w : World) : Strs (w.alloc (.cells #[.string ⟨#[5]⟩, .string ⟨#[6]⟩] 9)) (.slice (some ⟨w.heap.size, 0, none⟩) 2 2) q56 :=
  alloc_row w [.string ⟨#[5]⟩, .string ⟨#[6]⟩] _ (by simp [maxLen])
set_option maxRecDepth 100000 in
set_option maxHeartbeats 2000000 in
theorem pqHeals_err (ds : List ByteArray) (hF : Gv.pqF ds ≠ 0) (va : Value) (i k : Int) (junk now : ByteArray) (w : World) (ha : Strs w va ds) :
    Calls Try.prog 8 #[va, iv i, iv k, .string junk, .string now] w fun e w' => e = .returned (.bool true) ∧ Below w.heap.size w w' := by
  have Ha := Lib.hid ha
  have HF := Lib.hid hF
  clear ha hF
  have HE0 := Lib.hid (encode_any q56 _ _ (q56_row w))
  unfold EncPost at HE0
  simp only [q56_f, q56_p, q56_q, if_true] at HE0
  have hb0 : Below w.heap.size w (w.alloc (.cells #[.string ⟨#[5]⟩, .string ⟨#[6]⟩] 9)) := (Below.refl _ _).alloc (Nat.le_refl _) _
  have HB0 := Lib.hid hb0
  have hz0 := hb0.size
  clear hb0
  go_enter Try.func8, Try.ntmps8
  go_wp2_with fail
  refine HE0.out.mono ?_
  rintro e w1 ⟨rfl, hb1⟩
  have HB1 := Lib.hid (HB0.out.trans (hb1.mono hz0))
  have hz1 := HB1.out.size
  have HE := Lib.hid (encode_any ds _ w1 (Ha.out.low (Nat.le_refl _) HB1.out))
  unfold EncPost at HE
  clear hb1 HE0 HB0
  go_wp2_with fail
  simp only [HF.out, if_false] at HE
  rw [errV_ne HF.out] at HE
  refine HE.out.mono ?_
  rintro e w2 ⟨rfl, hb2⟩
  have HB2 := Lib.hid (HB1.out.trans (hb2.mono hz1))
  clear hb2
  go_wp2_with fail
  go_ret
  exact ⟨rfl, HB2.out⟩
theorem pqF_zero {ds : List ByteArray} (h : Gv.pqF ds = 0) : 1 ≤ ds.length ∧ ds.length ≤ 10 ∧ (∀ s ∈ ds, s.size = size0 ds) ∧ size0 ds ≤ 16 := by
  unfold Gv.pqF at h
  cases hm : manyB ((ds.length : Int) + 2) with
  | false => rw [hm] at h; simp at h
  | true =>
    rw [hm, if_pos rfl] at h
    have := blkF_zero h
    unfold manyB at hm
    simp at hm
    exact ⟨by omega, by omega, this.1, this.2⟩
set_option maxRecDepth 100000 in
set_option maxHeartbeats 2000000 in
theorem pqHeals_out (ds : List ByteArray) (hF : Gv.pqF ds = 0) (va : Value) (i k : Int) (hik : i < 0 ∨ (0 ≤ i ∧ (ds.length : Int) + 2 ≤ i) ∨ (0 ≤ i ∧ i < (ds.length : Int) + 2 ∧ k < 0) ∨ (0 ≤ i ∧ i < (ds.length : Int) + 2 ∧ 0 ≤ k ∧ (ds.length : Int) + 2 ≤ k)) (junk now : ByteArray) (w : World) (ha : Strs w va ds) :
    Calls Try.prog 8 #[va, iv i, iv k, .string junk, .string now] w fun e w' => e = .returned (.bool true) ∧ Below w.heap.size w w' := by
  have Ha := Lib.hid ha
  have hz := pqF_zero hF
  have HF := Lib.hid hF
  obtain ⟨pa, ca, rfl, hl1, _⟩ := ha.get
  obtain ⟨m, hm⟩ : ∃ m, m = ds.length := ⟨_, rfl⟩
  rw [← hm] at hz hik Ha ⊢
  have hm1 := hz.1
  have hm10 := hz.2.1
  have hw : IntKind.i64.wrap ((m : Int) + 2) = (m : Int) + 2 := IntWalk.i64_in _ (by omega)
  have t0 : decide ((m : Int) + 2 < 3) = false := dec_f (by omega)
  have t1 : (m : Int) + 2 ≤ 12 := by omega
  have t2 : (3 : Int) ≤ (m : Int) + 2 := by omega
  have t3 : decide ((3 : Int) ≤ (m : Int) + 2) = true := dec_t t2
  have t4 : decide ((m : Int) + 2 ≤ 12) = true := dec_t t1
  have hc : (decide (i < 0) = true) ∨ (decide (i < 0) = false ∧ decide ((m : Int) + 2 ≤ i) = true) ∨ (decide (i < 0) = false ∧ decide ((m : Int) + 2 ≤ i) = false ∧ decide (k < 0) = true) ∨ (decide (i < 0) = false ∧ decide ((m : Int) + 2 ≤ i) = false ∧ decide (k < 0) = false ∧ decide ((m : Int) + 2 ≤ k) = true) := by
    rcases hik with h | h | h | h
    · exact .inl (dec_t h)
    · exact .inr (.inl ⟨dec_f (by omega), dec_t h.2⟩)
    · exact .inr (.inr (.inl ⟨dec_f (by omega), dec_f (by omega), dec_t h.2.2⟩))
    · exact .inr (.inr (.inr ⟨dec_f (by omega), dec_f (by omega), dec_f (by omega), dec_t h.2.2.2⟩))
  clear ha hF hz hm hik
  have HE0 := Lib.hid (encode_any q56 _ _ (q56_row w))
  unfold EncPost at HE0
  simp only [q56_f, q56_p, q56_q, if_true] at HE0
  have hb0 : Below w.heap.size w (w.alloc (.cells #[.string ⟨#[5]⟩, .string ⟨#[6]⟩] 9)) := (Below.refl _ _).alloc (Nat.le_refl _) _
  have HB0 := Lib.hid hb0
  have hz0 := hb0.size
  clear hb0
  rcases hc with q1 | ⟨q1, q2⟩ | ⟨q1, q2, q3⟩ | ⟨q1, q2, q3, q4⟩
  all_goals
    go_enter Try.func8, Try.ntmps8
    go_wp2_with fail
    refine HE0.out.mono ?_
    rintro e w1 ⟨rfl, hb1⟩
    have HB1 := Lib.hid (HB0.out.trans (hb1.mono hz0))
    have hz1 := HB1.out.size
    have HE := Lib.hid (encode_any ds _ w1 (Ha.out.low (Nat.le_refl _) HB1.out))
    unfold EncPost at HE
    clear hb1 HE0 HB0
    go_wp2_with fail
    simp only [HF.out, if_true] at HE
    refine HE.out.mono ?_
    rintro e w2 ⟨rfl, hb2⟩
    have HB2 := Lib.hid (HB1.out.trans (hb2.mono hz1))
    clear hb2
    go_wp2_with fail
    go_ret
    exact ⟨rfl, HB2.out⟩
theorem info_strG : (Try.prog.info? 9).map (fun i => (i.zero, i.size, i.bytes)) = some (some (.string ⟨#[]⟩), 1, 16) := by kernel_rfl
end Go.Proofs.Ytbikmodfmckaeaa
