/- The walks of pq.Locate (blocks of one length) and pq.Delta. -/
import Derived.Test.YtcldioneiededaaPqL
namespace Go.Proofs.Ytcldioneiededaa
open Go.ChangeShapes Go.WideShapes Go.ChangeAt Go.RowKit
set_option linter.unusedVariables false
theorem strq (a b : ByteArray) [Decidable (a = b)] : (a.toList == b.toList) = decide (a = b) := by
  rw [ByteArray.toList_eq, ByteArray.toList_eq]
  by_cases h : a = b
  · subst h; simp
  · rw [decide_eq_false h]
    exact beq_eq_false_iff_ne.2 (fun e => h (ByteArray.ext (Array.toList_inj.1 e)))
theorem row_head {w : World} {p : Option Addr} {n cap : Nat} {xs : List Value} (h : Row w (.slice p n cap) xs) {k : Nat} (hk : k ≤ xs.length) : Row w (.slice p k cap) (xs.take k) := by
  obtain ⟨p', cap', hv, h1, h2, h3, h4⟩ := h
  injection hv with e1 e2 e3
  subst e1 e3
  have hl : (xs.take k).length = k := by rw [List.length_take]; omega
  refine ⟨p, cap, by rw [hl], by rw [hl]; omega, h2, h3, fun h0 => ?_⟩
  rw [hl] at h0
  obtain ⟨g, off, hp, hc⟩ := h4 (by omega)
  refine ⟨g, off, hp, fun j hj => ?_⟩
  rw [hl] at hj
  rw [hc j (by omega), List.getElem?_take, if_pos hj]
theorem info_boolK : (Try.prog.info? 4).map (fun i => (i.zero, i.size, i.bytes)) = some (some (.bool false), 1, 1) := by kernel_rfl
theorem make_bools (n : Nat) (h : n ≤ 1000000) (w : World) : (Instr.makeSlice 47 (.int .i64 (n : Int)) (.int .i64 (n : Int))).run Try.prog w = .ok (.slice (some ⟨w.heap.size, 0, none⟩) n n) (w.alloc (.cells (madeCells #[.bool false] n) 4)) :=
  run_make_row' 47 4 (.bool false) 1 Try.underlying47 info_boolK rfl .i64 .i64 n (by omega) (by omega) w
theorem marked_row {n i : Nat} (hn : n ≤ 1000000) (hi : i < n) (w : World) : BoolR ((w.alloc (.cells (madeCells #[.bool false] n) 4)).setCell ⟨w.heap.size, i, none⟩ (.bool true)) (.slice (some ⟨w.heap.size, 0, none⟩) n n) (Gv.marks2 n i i) := by
  have hl : (madeCells #[Value.bool false] n).toList = List.replicate n (.bool false) := toList_madeCells_one _ _
  have hs : (madeCells #[Value.bool false] n).size = n := by rw [← Array.length_toList, hl, List.length_replicate]
  have hb := heap_setCell_same (w.alloc (.cells (madeCells #[.bool false] n) 4)) w.heap.size i _ _ (.bool true) (heap_alloc_new w _)
  have hml : ((Gv.marks2 n i i).map Value.bool).length = n := by unfold Gv.marks2; simp
  refine ⟨some ⟨w.heap.size, 0, none⟩, n, by rw [hml], by rw [hml]; exact Nat.le_refl _, by unfold maxLen; omega, (fun h => by cases h), fun _ => ⟨w.heap.size, 0, rfl, fun j hj => ?_⟩⟩
  rw [hml] at hj
  rw [cell_of_row _ _ _ _ _ _ hb, Nat.zero_add]
  unfold Gv.marks2
  rw [List.getElem?_map, List.getElem?_map, List.getElem?_range hj]
  by_cases e : i = j
  · subst e
    rw [Array.getElem?_setIfInBounds_self_of_lt (by omega)]
    simp
  · rw [Array.getElem?_setIfInBounds_ne (by omega), ← Array.getElem?_toList, hl, List.getElem?_replicate, if_pos hj]
    have e' : ¬ j = i := fun h => e h.symm
    simp [e']
/-- the first q parts are what was healed, but i -/
def sameP (ps hs : List ByteArray) (i q : Nat) : Bool := (List.range q).all (fun j => j == i || decide (hs.getD j ⟨#[]⟩ = ps.getD j ⟨#[]⟩))
theorem sameP_succ (ps hs : List ByteArray) (i q : Nat) : sameP ps hs i (q + 1) = (sameP ps hs i q && (q == i || decide (hs.getD q ⟨#[]⟩ = ps.getD q ⟨#[]⟩))) := by
  unfold sameP; rw [List.range_succ, List.all_append]; simp
def LcRel (ps : List ByteArray) (w : World) (n gk : Nat) (i : Value) (wr : World) : Prop :=
  ∃ k : Nat, k + gk = n ∧ i = iv k ∧ (∀ q, q < k → Gv.sameB ps q = false) ∧ Below w.heap.size w wr
def LcIn (ps hs : List ByteArray) (i : Nat) (w1 : World) (n gk : Nat) (v10 v : Value) (wr : World) : Prop :=
  ∃ q : Nat, q + gk = n ∧ v = iv q ∧ v10 = .bool (sameP ps hs i q) ∧ wr = w1
def LocPost (ps : List ByteArray) (w : World) (e : Ending) (w' : World) : Prop := e = .returned (.tuple #[iv (Gv.locate ps).1, errV (Gv.locate ps).2]) ∧ Below w.heap.size w w'
end Go.Proofs.Ytcldioneiededaa
