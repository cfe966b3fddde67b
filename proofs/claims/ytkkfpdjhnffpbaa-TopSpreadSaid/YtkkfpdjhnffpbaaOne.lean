/- The closed fact of the laws on the whole: P is the sum. -/
import Derived.Test.YtkkfpdjhnffpbaaPqE
namespace Go.Proofs.Ytkkfpdjhnffpbaa
open Go.ChangeShapes Go.WideShapes Go.ChangeAt Go.RowKit
set_option linter.unusedVariables false
def o56 : List ByteArray := [⟨#[5]⟩, ⟨#[6]⟩]
theorem o56_f : Gv.pqF o56 = 0 := by decide +kernel
theorem o56_p : Gv.P o56 = ⟨#[3]⟩ := by decide +kernel
theorem o56_q : Gv.Q o56 = ⟨#[9]⟩ := by decide +kernel
theorem o56_row (w : World) : Strs (w.alloc (.cells #[.string ⟨#[5]⟩, .string ⟨#[6]⟩] 9)) (.slice (some ⟨w.heap.size, 0, none⟩) 2 2) o56 := by
  refine ⟨some ⟨w.heap.size, 0, none⟩, 2, rfl, Nat.le_refl _, by decide, (fun h => by cases h), fun _ => ⟨w.heap.size, 0, rfl, fun j hj => ?_⟩⟩
  rw [cell_of_row _ _ _ _ _ _ (heap_alloc_new w _), Nat.zero_add]
  have hj2 : j < 2 := hj
  have h2 : j = 0 ∨ j = 1 := by omega
  rcases h2 with rfl | rfl <;> rfl
theorem one_any (w : World) : Calls Try.prog 13 #[] w fun e w' => e = .returned (.bool true) ∧ Below w.heap.size w w' := by
  have HE := Lib.hid (encode_any o56 _ _ (o56_row w))
  have hb0 : Below w.heap.size w (w.alloc (.cells #[.string ⟨#[5]⟩, .string ⟨#[6]⟩] 9)) := (Below.refl _ _).alloc (Nat.le_refl _) _
  have hz := hb0.size
  unfold EncPost at HE
  simp only [o56_f, o56_p, o56_q, if_true] at HE
  have HB := Lib.hid hb0
  clear hb0
  go_enter Try.func13, Try.ntmps13
  go_wp2_with fail
  refine HE.out.mono ?_
  rintro e w1 ⟨rfl, hb1⟩
  have HB1 := Lib.hid (HB.out.trans (hb1.mono hz))
  clear hb1
  go_wp2_with fail
  go_ret
  exact ⟨rfl, HB1.out⟩
end Go.Proofs.Ytkkfpdjhnffpbaa
