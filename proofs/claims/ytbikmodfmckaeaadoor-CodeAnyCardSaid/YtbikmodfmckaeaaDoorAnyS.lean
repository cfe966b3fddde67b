/- A text with one byte another one. -/
import Derived.Test.YtbikmodfmckaeaaDoorAnyP
namespace Go.Proofs.YtbikmodfmckaeaaDoor
open Go.ChangeShapes Go.WideShapes Go.ChangeAt Go.RowKit
set_option linter.unusedVariables false
theorem byte_getA {b : ByteArray} {i : Nat} (h : i < b.size) : b[i]? = some (b.data.toList.getD i 0) := by
  rw [getElem?_pos b i h, List.getD_eq_getElem?_getD, List.getElem?_eq_getElem (by simpa using h)]
  simp [ByteArray.getElem_eq_getElem_data]
theorem idx_strA {b : ByteArray} {i : Nat} (h : i < b.size) (w : World) : (Instr.index 9 (.string b) (.int .i64 (i : Int))).run Tryd.prog w = .ok (.int .u8 ((Gv.at' b.data.toList i).toNat : Int)) w := by
  have hin : (0 : Int) ≤ (i : Int) ∧ (i : Int) < (b.size : Int) := by omega
  rw [run_index_string w _ _ _ _ Tryd.underlying9, dif_pos hin]
  have hg := byte_getA h
  rw [getElem?_pos b i h] at hg
  have := Option.some.inj hg
  simp only [Int.toNat_natCast]
  rw [this]
  rfl
theorem convA (w : World) (a : UInt8) : (convert 22 9 (.slice (some ⟨w.heap.size, 0, none⟩) 1 1)).run Tryd.prog (w.alloc (.cells #[.int .u8 a.toNat] 5)) = .ok (.string ⟨#[a]⟩) (w.alloc (.cells #[.int .u8 a.toNat] 5)) := by
  have h := run_convert_bytes_back (P := Tryd.prog) (w.alloc (.cells #[.int .u8 a.toNat] 5)) 22 9 5 ⟨w.heap.size, 0, none⟩ 1 [a] Tryd.underlying22 Tryd.underlying5 Tryd.underlying9 (fun j hj => by
    rw [Addr.add_lit, Nat.zero_add, World.cell?_alloc_at _ _ _ _ rfl]
    have hj3 : j = 0 := by simp at hj; omega
    subst hj3; rfl)
  exact h
theorem convD (w : World) (a : UInt8) : (convert 22 9 (.slice (some ⟨w.heap.size, 0, none⟩) 1 1)).run Tryd.prog (w.alloc (.cells #[.int .u8 a.toNat] 5)).drew = .ok (.string ⟨#[a]⟩) (w.alloc (.cells #[.int .u8 a.toNat] 5)).drew := by
  have h := run_convert_bytes_back (P := Tryd.prog) (w.alloc (.cells #[.int .u8 a.toNat] 5)).drew 22 9 5 ⟨w.heap.size, 0, none⟩ 1 [a] Tryd.underlying22 Tryd.underlying5 Tryd.underlying9 (fun j hj => by
    rw [Addr.add_lit, Nat.zero_add]
    show (w.alloc _).cell? _ = _
    rw [World.cell?_alloc_at _ _ _ _ rfl]
    have hj3 : j = 0 := by simp at hj; omega
    subst hj3; rfl)
  exact h
def tornA (b : ByteArray) (i : Nat) (c : UInt8) : ByteArray := b.extract 0 i ++ ⟨#[c]⟩ ++ b.extract (i + 1) b.size
theorem tornA_size {b : ByteArray} {i : Nat} (c : UInt8) (h : i < b.size) : (tornA b i c).size = b.size := by
  unfold tornA
  rw [ByteArray.size_append, ByteArray.size_append, ByteArray.size_extract, ByteArray.size_extract]
  show min i b.size - 0 + 1 + (min b.size b.size - (i + 1)) = b.size
  omega
theorem tornA_at {b : ByteArray} {i : Nat} (c : UInt8) (h : i < b.size) : Gv.at' (tornA b i c).data.toList i = c := by
  have hl : b.data.toList.length = b.size := by simp
  unfold tornA Gv.at'
  rw [ByteArray.data_append, ByteArray.data_append, ByteArray.data_extract, ByteArray.data_extract, Array.toList_append, Array.toList_append, Array.toList_extract, Array.toList_extract, List.extract_eq_take_drop, List.extract_eq_take_drop, List.drop_zero, Nat.sub_zero, List.getD_eq_getElem?_getD]
  rw [List.getElem?_append_left (by rw [List.length_append, List.length_take, hl]; show i < min i b.size + 1; omega), List.getElem?_append_right (by rw [List.length_take, hl]; omega), List.length_take, hl, show i - min i b.size = 0 by omega]
  rfl
end Go.Proofs.YtbikmodfmckaeaaDoor
