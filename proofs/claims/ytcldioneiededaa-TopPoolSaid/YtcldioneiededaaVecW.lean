/- Lists of bytes of the call's own: an entry is stored, the list made, as a text. -/
import Derived.Test.YtcldioneiededaaVecP
import Derived.Test.YtcldioneiededaaSlI
import Derived.Test.YtcldioneiededaaBlk
import Derived.Test.YtcldioneiededaaFieldW
import Derived.StillTailTactics
import Derived.Deep.OwnRows
import Derived.Laws.OwnMore
namespace Go.Proofs.Ytcldioneiededaa
open Go.ChangeShapes Go.WideShapes Go.ChangeAt Go.RowKit
set_option linter.unusedVariables false
theorem OwnR.setAt {w : World} {base g o n cap k : Nat} {E : TypeId} {xs : List Value} (h : OwnR w base E (.slice (some ⟨g, o, none⟩) n cap) xs) (hk : k < xs.length) (u : Value) :
    OwnR (w.setCell ⟨g, o + k, none⟩ u) base E (.slice (some ⟨g, o, none⟩) n cap) (xs.set k u) := by
  rcases h with ⟨hn, hx⟩ | ⟨g', o', cap', cur, hv', hb', hg', h1, h2, h3, h4⟩
  · cases hn
  · injection hv' with e1 e2 e3
    injection e1 with e1
    injection e1 with e4 e5
    subst e4 e5 e3
    refine .inr ⟨g, o, cap, cur.setIfInBounds (o + k) u, by rw [List.length_set, e2], hb', heap_setCell_same _ _ _ _ _ _ hg', by rw [List.length_set]; exact h1, h2, by rw [Array.size_setIfInBounds]; exact h3, fun j hj => ?_⟩
    rw [List.length_set] at hj
    rw [List.getElem?_set]
    by_cases e : k = j
    · subst e
      rw [Array.getElem?_setIfInBounds_self_of_lt (by omega), if_pos rfl, if_pos hk]
    · rw [Array.getElem?_setIfInBounds_ne (by omega), if_neg e]
      exact h4 j hj
/-- a list of bytes of one's own -/
def OwnB (w : World) (base : Nat) (v : Value) (l : List UInt8) : Prop := OwnR w base 5 v (l.map bv)
theorem OwnB.setAt {w : World} {base g o n cap k : Nat} {l : List UInt8} (h : OwnB w base (.slice (some ⟨g, o, none⟩) n cap) l) (hk : k < l.length) (u : UInt8) :
    OwnB (w.setCell ⟨g, o + k, none⟩ (bv u)) base (.slice (some ⟨g, o, none⟩) n cap) (l.set k u) := by
  unfold OwnB
  rw [List.map_set]
  exact OwnR.setAt h (by rw [List.length_map]; exact hk) (bv u)
theorem OwnB.cellAt {w : World} {base : Nat} {v : Value} {l : List UInt8} (h : OwnB w base v l) {j : Nat} (hj : j < l.length) :
    ∃ g o cap, v = .slice (some ⟨g, o, none⟩) l.length cap ∧ base ≤ g ∧ g < w.heap.size ∧ l.length ≤ cap ∧ cap ≤ maxLen ∧ w.cell? ⟨g, o + j, none⟩ = some (bv (Gv.at' l j)) ∧ ∀ i, w.frozen? ⟨g, i, none⟩ = false := by
  obtain ⟨g, o, cap, hv, hb, hg, h1, h2, h3, h4⟩ := OwnR.at0 h (by rw [List.length_map]; omega)
  rw [List.length_map] at hv h1
  refine ⟨g, o, cap, hv, hb, hg, h1, h2, ?_, h4⟩
  rw [h3 j (by rw [List.length_map]; exact hj), List.getElem?_map, Gv.at_get? hj]; rfl
theorem info_byteV : (Try.prog.info? 5).map (fun i => (i.zero, i.size, i.bytes)) = some (some (.int .u8 0), 1, 1) := by kernel_rfl
theorem make_bytesV (n : Nat) (h : n ≤ 1000000) (w : World) : (Instr.makeSlice 74 (.int .i64 (n : Int)) (.int .i64 (n : Int))).run Try.prog w = .ok (.slice (some ⟨w.heap.size, 0, none⟩) n n) (w.alloc (.cells (madeCells #[.int .u8 0] n) 5)) :=
  run_make_row' 74 5 (.int .u8 0) 1 Try.underlying74 info_byteV rfl .i64 .i64 n (by omega) (by omega) w
theorem owns_made (n : Nat) (hn : n ≤ 1000000) (w : World) : OwnB (w.alloc (.cells (madeCells #[.int .u8 0] n) 5)) w.heap.size (.slice (some ⟨w.heap.size, 0, none⟩) n n) (Gv.tab n (fun _ => 0)) := by
  have hl : (madeCells #[Value.int .u8 0] n).toList = List.replicate n (.int .u8 0) := toList_madeCells_one _ _
  have hs : (madeCells #[Value.int .u8 0] n).size = n := by rw [← Array.length_toList, hl, List.length_replicate]
  refine .inr ⟨w.heap.size, 0, n, _, by rw [List.length_map, Gv.tab_len], Nat.le_refl _, heap_alloc_new w _, by rw [List.length_map, Gv.tab_len]; exact Nat.le_refl _, by unfold maxLen; omega, by rw [hs]; omega, fun j hj => ?_⟩
  rw [List.length_map, Gv.tab_len] at hj
  rw [Nat.zero_add, ← Array.getElem?_toList, hl, List.getElem?_replicate, if_pos hj, List.getElem?_map, Gv.tab_get?, if_pos hj]; rfl
theorem conv_nilB (w : World) : (convert 74 9 (.slice none 0 0)).run Try.prog w = .ok (.string ⟨#[]⟩) w := by kernel_rfl
/-- bytes of the call's own, as a text -/
theorem conv_ownB (w : World) (base : Nat) (v : Value) (l : List UInt8) (h : OwnB w base v l) : (convert 74 9 v).run Try.prog w = .ok (.string ⟨l.toArray⟩) w := by
  rcases h with ⟨rfl, hx⟩ | ⟨g, o, cap, cur, rfl, hb, hg, h1, h2, h3, h4⟩
  · obtain rfl : l = [] := by cases l with | nil => rfl | cons a t => cases hx
    exact conv_nilB w
  · rw [List.length_map]
    exact run_convert_bytes_back (P := Try.prog) w 74 9 5 ⟨g, o, none⟩ cap l Try.underlying74 Try.underlying5 Try.underlying9 (fun j hj => by
      rw [Addr.add_lit, cell_of_row _ _ _ _ _ _ hg, h4 j (by rw [List.length_map]; exact hj), List.getElem?_map, List.getElem?_eq_getElem hj]; rfl)
/-- a list of bytes, wherever it lies: what is read there -/
def RowB (w : World) (v : Value) (l : List UInt8) : Prop := Row w v (l.map bv)
theorem RowB.below {w w' : World} {v : Value} {l : List UInt8} (h : RowB w v l) (hb : Below w.heap.size w w') : RowB w' v l := Row.below h hb
theorem RowB.cellAt {w : World} {v : Value} {l : List UInt8} (h : RowB w v l) {j : Nat} (hj : j < l.length) :
    ∃ g o cap, v = .slice (some ⟨g, o, none⟩) l.length cap ∧ g < w.heap.size ∧ l.length ≤ cap ∧ cap ≤ maxLen ∧ w.cell? ⟨g, o + j, none⟩ = some (bv (Gv.at' l j)) := by
  obtain ⟨g, o, cap, hv, h1, h2, h3⟩ := Row.pos h (by rw [List.length_map]; omega)
  rw [List.length_map] at hv h1
  have h4 := h3 j (by rw [List.length_map]; exact hj)
  rw [List.getElem?_map, Gv.at_get? hj] at h4
  exact ⟨g, o, cap, hv, World.block_lt_of_cell? w _ h4, h1, h2, h4⟩
theorem RowB.shape {w : World} {v : Value} {l : List UInt8} (h : RowB w v l) : ∃ p cap, v = .slice p l.length cap ∧ l.length ≤ cap ∧ cap ≤ maxLen := by
  obtain ⟨p, cap, hv, h1, h2, _⟩ := Row.shape h
  rw [List.length_map] at *
  exact ⟨p, cap, hv, h1, h2⟩
end Go.Proofs.Ytcldioneiededaa
