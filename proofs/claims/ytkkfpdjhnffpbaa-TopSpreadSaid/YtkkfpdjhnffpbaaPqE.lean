/- The walk of pq.Encode. -/
import Derived.Test.YtkkfpdjhnffpbaaPqW
namespace Go.Proofs.Ytkkfpdjhnffpbaa
open Go.ChangeShapes Go.WideShapes Go.ChangeAt Go.RowKit
set_option linter.unusedVariables false
namespace Gv
/-- what is wrong with data for P and Q -/
def pqF (ls : List ByteArray) : Int := if manyB ((ls.length : Int) + 2) then blkF ls else 1
end Gv
def EncPost (ls : List ByteArray) (w : World) (e : Ending) (w' : World) : Prop :=
  (if Gv.pqF ls = 0 then e = .returned (.tuple #[.string (Gv.P ls), .string (Gv.Q ls), .nilIface]) else e = .returned (.tuple #[.string ⟨#[]⟩, .string ⟨#[]⟩, errV (Gv.pqF ls)])) ∧ Below w.heap.size w w'
theorem encode_any (ls : List ByteArray) (v : Value) (w : World) (hv : Strs w v ls) :
    Calls Try.prog 25 #[v] w (EncPost ls w) := by
  have Hv := Lib.hid hv
  have HB := Lib.hid (blocks_any ls v w hv)
  have hmx : ls.length ≤ maxLen := by obtain ⟨p, cap, _, h1, h2, _⟩ := hv; rw [List.length_map] at h1; omega
  unfold maxLen at hmx
  obtain ⟨p, cap, rfl, hl0, hc⟩ := hv.get
  obtain ⟨m, hm⟩ : ∃ m, m = ls.length := ⟨_, rfl⟩
  have Hm := Lib.hid hm
  rw [← hm] at hl0 HB Hv hmx ⊢
  cases hb : manyB ((m : Int) + 2) with
  | false =>
    have hf : Gv.pqF ls = 1 := by unfold Gv.pqF; rw [← hm, hb, if_neg (by simp)]
    obtain ⟨x, hx⟩ : ∃ x, x = IntKind.i64.wrap ((m : Int) + 2) := ⟨_, rfl⟩
    have hbx : manyB x = false := by
      by_cases h9 : (m : Int) + 2 ≤ 9223372036854775807
      · rw [hx, IntWalk.i64_in _ (by omega)]; exact hb
      · have : x < 0 := by rw [hx]; unfold IntKind.wrap; simp [IntKind.signed, IntKind.bits]; omega
        unfold manyB
        rw [dec_f (by omega)]; rfl
    have HM := Lib.hid (many_any x w)
    rw [hbx] at HM
    clear hbx
    have hx' := hx.symm
    clear hx
    have Hf := Lib.hid hf
    clear hc hm hf hb
    go_enter Try.func25, Try.ntmps25
    go_wp2_with fail
    refine HM.out.mono ?_
    rintro e w' ⟨rfl, rfl⟩
    go_wp2_with fail
    go_ret3
    exact ⟨by rw [Hf.out, if_neg (by decide)]; rfl, Below.refl _ _⟩
  | true =>
    have h12 : 2 < (m : Int) + 2 ∧ (m : Int) + 2 ≤ 12 := by unfold manyB at hb; simp at hb; omega
    have hf : Gv.pqF ls = blkF ls := by unfold Gv.pqF; rw [← hm, hb, if_pos rfl]
    have HM := Lib.hid (many_any ((m : Int) + 2) w)
    rw [hb] at HM
    have h1 := h12.1
    have h2 := h12.2
    have Hf := Lib.hid hf
    clear hc hm hf hb h12
    cases hf : (decide (blkF ls = 0)) with
    | true =>
      have h0 : blkF ls = 0 := of_decide_eq_true hf
      rw [h0] at HB Hf
      have hz := blkF_zero h0
      have HO := Lib.hid (of_any ls hz.1 (by have := hz.2; omega) (by rw [← Hm.out]; omega) _ w Hv.out)
      clear hf h0 hz
      go_enter Try.func25, Try.ntmps25
      go_wp2_with fail
      refine HM.out.mono ?_
      rintro e w' ⟨rfl, rfl⟩
      go_wp2_with fail
      refine HB.out.mono ?_
      rintro e w' ⟨he, rfl⟩
      obtain rfl : e = .returned .nilIface := he
      go_wp2_with fail
      refine HO.out.mono ?_
      rintro e w1 ⟨rfl, hb⟩
      have HB1 := Lib.hid hb
      clear hb
      go_wp2_with fail
      go_ret3
      refine ⟨?_, HB1.out⟩
      rw [if_pos Hf.out]
      rfl
    | false =>
      have h0 : blkF ls ≠ 0 := of_decide_eq_false hf
      have Hne := Lib.hid h0
      rw [errV_ne h0] at HB
      clear hf h0
      go_enter Try.func25, Try.ntmps25
      go_wp2_with fail
      refine HM.out.mono ?_
      rintro e w' ⟨rfl, rfl⟩
      go_wp2_with fail
      refine HB.out.mono ?_
      rintro e w' ⟨rfl, rfl⟩
      go_wp2_with fail
      go_ret3
      exact ⟨by rw [Hf.out, if_neg Hne.out, errV_ne Hne.out]; rfl, Below.refl _ _⟩
end Go.Proofs.Ytkkfpdjhnffpbaa
