/- The walk of pq.Encode. · The closed fact of the laws on the whole: P is the sum. -/
import Derived.Test.YtcldioneiededaaPqW
namespace Go.Proofs.Ytcldioneiededaa
open Go.ChangeShapes Go.WideShapes Go.ChangeAt Go.RowKit
set_option linter.unusedVariables false
namespace Gv
/-- what is wrong with data for P and Q -/
def pqF (ls : List ByteArray) : Int := if manyB ((ls.length : Int) + 2) then blkF ls else 1
end Gv
def EncPost (ls : List ByteArray) (w : World) (e : Ending) (w' : World) : Prop :=
  (if Gv.pqF ls = 0 then e = .returned (.tuple #[.string (Gv.P ls), .string (Gv.Q ls), .nilIface]) else e = .returned (.tuple #[.string ⟨#[]⟩, .string ⟨#[]⟩, errV (Gv.pqF ls)])) ∧ Below w.heap.size w w'
theorem encode_any (ls : List ByteArray) (v : Value) (w : World) (hv : Strs w v ls) :
    Calls Try.prog 18 #[v] w (EncPost ls w) := by
  have Hv := Lib.hid hv
  have HB := Lib.hid (blocks_any ls v w hv)
  have hmx : ls.length ≤ maxLen := by obtain ⟨p, cap, _, h1, h2, _⟩ := hv; rw [List.length_map] at h1; omega
  unfold maxLen at hmx
  obtain ⟨p, cap, rfl, hl0, hc⟩ := hv.get
  obtain ⟨m, hm⟩ : ∃ m, m = ls.length := ⟨_, rfl⟩
  have Hm := Lib.hid hm
  rw [← hm] at hl0 HB Hv hmx ⊢
  cases hb : manyB ((m : Int) + 2) with
  | false =>
    have hf : Gv.pqF ls = 1 := by unfold Gv.pqF; rw [← hm, hb, if_neg (by simp)]
    obtain ⟨x, hx⟩ : ∃ x, x = IntKind.i64.wrap ((m : Int) + 2) := ⟨_, rfl⟩
    have hbx : manyB x = false := by
      by_cases h9 : (m : Int) + 2 ≤ 9223372036854775807
      · rw [hx, IntWalk.i64_in _ (by omega)]; exact hb
      · have : x < 0 := by rw [hx]; unfold IntKind.wrap; simp [IntKind.signed, IntKind.bits]; omega
        unfold manyB
        rw [dec_f (by omega)]; rfl
    have HM := Lib.hid (many_any x w)
    rw [hbx] at HM
    clear hbx
    have hx' := hx.symm
    clear hx
    have Hf := Lib.hid hf
    clear hc hm hf hb
    go_enter Try.func18, Try.ntmps18
    go_wp2_with fail
    refine HM.out.mono ?_
    rintro e w' ⟨rfl, rfl⟩
    go_wp2_with fail
    go_ret3
    exact ⟨by rw [Hf.out, if_neg (by decide)]; rfl, Below.refl _ _⟩
  | true =>
    have h12 : 2 < (m : Int) + 2 ∧ (m : Int) + 2 ≤ 12 := by unfold manyB at hb; simp at hb; omega
    have hf : Gv.pqF ls = blkF ls := by unfold Gv.pqF; rw [← hm, hb, if_pos rfl]
    have HM := Lib.hid (many_any ((m : Int) + 2) w)
    rw [hb] at HM
    have h1 := h12.1
    have h2 := h12.2
    have Hf := Lib.hid hf
    clear hc hm hf hb h12
    cases hf : (decide (blkF ls = 0)) with
    | true =>
      have h0 : blkF ls = 0 := of_decide_eq_true hf
      rw [h0] at HB Hf
      have hz := blkF_zero h0
      have HO := Lib.hid (of_any ls hz.1 (by have := hz.2; omega) (by rw [← Hm.out]; omega) _ w Hv.out)
      clear hf h0 hz
      go_enter Try.func18, Try.ntmps18
      go_wp2_with fail
      refine HM.out.mono ?_
      rintro e w' ⟨rfl, rfl⟩
      go_wp2_with fail
      refine HB.out.mono ?_
      rintro e w' ⟨he, rfl⟩
      obtain rfl : e = .returned .nilIface := he
      go_wp2_with fail
      refine HO.out.mono ?_
      rintro e w1 ⟨rfl, hb⟩
      have HB1 := Lib.hid hb
      clear hb
      go_wp2_with fail
      go_ret3
      refine ⟨?_, HB1.out⟩
      rw [if_pos Hf.out]
      rfl
    | false =>
      have h0 : blkF ls ≠ 0 := of_decide_eq_false hf
      have Hne := Lib.hid h0
      rw [errV_ne h0] at HB
      clear hf h0
      go_enter Try.func18, Try.ntmps18
      go_wp2_with fail
      refine HM.out.mono ?_
      rintro e w' ⟨rfl, rfl⟩
      go_wp2_with fail
      refine HB.out.mono ?_
      rintro e w' ⟨rfl, rfl⟩
      go_wp2_with fail
      go_ret3
      exact ⟨by rw [Hf.out, if_neg Hne.out, errV_ne Hne.out]; rfl, Below.refl _ _⟩
end Go.Proofs.Ytcldioneiededaa
namespace Go.Proofs.Ytcldioneiededaa
open Go.ChangeShapes Go.WideShapes Go.ChangeAt Go.RowKit
set_option linter.unusedVariables false
def o56 : List ByteArray := [⟨#[5]⟩, ⟨#[6]⟩]
theorem o56_f : Gv.pqF o56 = 0 := by decide +kernel
theorem o56_p : Gv.P o56 = ⟨#[3]⟩ := by decide +kernel
theorem o56_q : Gv.Q o56 = ⟨#[9]⟩ := by decide +kernel
theorem o56_row (w : World) : Strs (w.alloc (.cells #[.string ⟨#[5]⟩, .string ⟨#[6]⟩] 9)) (.slice (some ⟨w.heap.size, 0, none⟩) 2 2) o56 := by
  refine ⟨some ⟨w.heap.size, 0, none⟩, 2, rfl, Nat.le_refl _, by decide, (fun h => by cases h), fun _ => ⟨w.heap.size, 0, rfl, fun j hj => ?_⟩⟩
  rw [cell_of_row _ _ _ _ _ _ (heap_alloc_new w _), Nat.zero_add]
  have hj2 : j < 2 := hj
  have h2 : j = 0 ∨ j = 1 := by omega
  rcases h2 with rfl | rfl <;> rfl
theorem one_any (w : World) : Calls Try.prog 5 #[] w fun e w' => e = .returned (.bool true) ∧ Below w.heap.size w w' := by
  have HE := Lib.hid (encode_any o56 _ _ (o56_row w))
  have hb0 : Below w.heap.size w (w.alloc (.cells #[.string ⟨#[5]⟩, .string ⟨#[6]⟩] 9)) := (Below.refl _ _).alloc (Nat.le_refl _) _
  have hz := hb0.size
  unfold EncPost at HE
  simp only [o56_f, o56_p, o56_q, if_true] at HE
  have HB := Lib.hid hb0
  clear hb0
  go_enter Try.func5, Try.ntmps5
  go_wp2_with fail
  refine HE.out.mono ?_
  rintro e w1 ⟨rfl, hb1⟩
  have HB1 := Lib.hid (HB.out.trans (hb1.mono hz))
  clear hb1
  go_wp2_with fail
  go_ret
  exact ⟨rfl, HB1.out⟩
end Go.Proofs.Ytcldioneiededaa
