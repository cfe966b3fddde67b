/- A disk and the law's own list of its rows, side by side. -/
import Derived.Test.YtangcjffiooapaaDoorDiskY
import Derived.Test.YtangcjffiooapaaDoorSame
import Derived.Test.YtangcjffiooapaaDoorSteps
namespace Go.Proofs.YtangcjffiooapaaDoor
open Go.ChangeShapes Go.WideShapes Go.ChangeAt Go.RowKit
set_option linter.unusedVariables false
structure DP (w : World) (b g cap m z : Nat) (d : Dk.D) (L : List ByteArray) (wr : World) : Prop where
  disk : DiskAt wr b d
  own : wr.ownsRow (b + 1) 9 1 (.slice (some ⟨g, 0, none⟩) m cap) m (L.map Value.string)
  hb : w.heap.size ≤ b
  many : d.many = m
  size : d.size = z
  bel : Below w.heap.size w wr
namespace DP
variable {w wr w' : World} {b g cap m z : Nat} {d d' : Dk.D} {L : List ByteArray}
theorem len (h : DP w b g cap m z d L wr) : L.length = m := by have := h.own.1; simpa using this
theorem blk (h : DP w b g cap m z d L wr) : b < g ∧ g < wr.heap.size ∧ m ≤ cap ∧ cap ≤ maxLen := by
  rcases h.own.2 with ⟨hv, _⟩ | ⟨g', cap', cur, hv, hb, hg, hnc, hcm, _⟩
  · cases hv
  · cases hv
    exact ⟨by omega, (Array.getElem?_eq_some_iff.1 hg).1, hnc, hcm⟩
theorem cell (h : DP w b g cap m z d L wr) {j : Nat} (hj : j < m) : wr.cell? ⟨g, j, none⟩ = some (.string (L.getD j ⟨#[]⟩)) := by
  have hl := h.len
  rw [h.own.cellAt j (by omega), List.getElem?_map, List.getElem?_eq_getElem (by omega), List.getD_eq_getElem?_getD, List.getElem?_eq_getElem (by omega)]; rfl
theorem frozen (h : DP w b g cap m z d L wr) (j : Nat) : wr.frozen? ⟨g, j, none⟩ = false := h.own.frozenAt j
theorem below (h : DP w b g cap m z d L wr) (hb : Below wr.heap.size wr w') : DP w b g cap m z d L w' :=
  { h with disk := h.disk.below hb, own := owns_below h.own hb, bel := h.bel.trans (hb.mono h.bel.size) }
theorem disked (h : DP w b g cap m z d L wr) (hd : DiskAt w' b d') (hk : Kept (· = b) wr w') (hm : d'.many = m) (hz : d'.size = z) : DP w b g cap m z d' L w' :=
  { disk := hd, own := Kept.owns h.own hk (fun q hq => by
      simp only [Value.ownBlock, Option.some.injEq] at hq
      have := h.blk
      subst hq; omega), hb := h.hb, many := hm, size := hz, bel := h.bel.trans (hk.toBelow h.bel.size (fun k hk e => by have := h.hb; omega)) }
theorem setL (h : DP w b g cap m z d L wr) (j : Nat) (s : ByteArray) : DP w b g cap m z d (L.set j s) (wr.setCell ⟨g, j, none⟩ (.string s)) := by
  have h1 := h.own.stored j (.string s)
  have h2 := h.blk
  have h3 := h.hb
  refine ⟨h.disk.kept ((Kept.refl (· = g) wr).setCell (p := ⟨g, j, none⟩) (fun _ => rfl) _) (by omega), ?_, h.hb, h.many, h.size, h.bel.setCell (p := ⟨g, j, none⟩) (by show w.heap.size ≤ g; omega) _⟩
  rw [List.map_set]; exact h1.1
end DP
namespace Dk
theorem write_many (d : D) (row : Int) (s : ByteArray) : (d.write row s).2.many = d.many ∧ (d.write row s).2.size = d.size ∧ (d.write row s).2.failed = d.failed := by
  unfold D.write; split <;> (try split) <;> exact ⟨rfl, rfl, rfl⟩
theorem fail_many (d : D) : d.fail.2.many = d.many ∧ d.fail.2.size = d.size ∧ d.fail.2.failed = true ∧ d.fail.2.writes = d.writes ∧ d.fail.2.rows = d.rows := by
  unfold D.fail
  cases h : d.failed with
  | true => exact ⟨rfl, rfl, h, rfl, rfl⟩
  | false => exact ⟨rfl, rfl, rfl, rfl, rfl⟩
theorem replace_many (d : D) : d.replace.2.many = d.many ∧ d.replace.2.size = d.size ∧ d.replace.2.failed = false ∧ d.replace.2.writes = d.writes := by
  unfold D.replace
  cases h : d.failed with
  | true => exact ⟨rfl, rfl, rfl, rfl⟩
  | false => exact ⟨rfl, rfl, h, rfl⟩
theorem fresh_take {m z : Nat} {l : List ByteArray} (h : m ≤ l.length) : (fresh m z l).take m = fresh m z (l.take m) := by
  apply List.ext_getElem?
  intro i
  by_cases hi : i < m
  · rw [List.getElem?_take, if_pos hi, fresh_at (by omega), fresh_at (by rw [List.length_take]; omega), if_pos hi, if_pos hi]
  · rw [List.getElem?_take, if_neg hi, List.getElem?_eq_none (by rw [fresh_len, List.length_take]; omega)]
theorem made_take {m z : Nat} (h : m ≤ 20) : (made m z).rows.take m = List.replicate m (noughts z) := by
  apply List.ext_getElem?
  intro i
  by_cases hi : i < m
  · rw [List.getElem?_take, if_pos hi, List.getElem?_replicate, if_pos hi]
    show (fresh m z (List.replicate 20 ⟨#[]⟩))[i]? = _
    rw [fresh_at (by rw [List.length_replicate]; omega), if_pos hi]
  · rw [List.getElem?_take, if_neg hi, List.getElem?_replicate, if_neg hi]
theorem write_rows {d : D} {row : Int} {s : ByteArray} (h : (d.write row s).1 = 0) : 0 ≤ row ∧ row < d.many ∧ (d.write row s).2.rows = d.rows.set row.toNat s ∧ (d.write row s).2.writes = d.writes + 1 := by
  by_cases h0 : d.ready row = 0
  · by_cases hq : s.size = d.size
    · have := D.ready_in h0
      refine ⟨this.2.1, this.2.2, ?_⟩
      unfold D.write; rw [if_pos h0, if_pos hq]; exact ⟨rfl, rfl⟩
    · exfalso
      unfold D.write at h; rw [if_pos h0, if_neg hq] at h; simp at h
  · exfalso
    unfold D.write at h; rw [if_neg h0] at h; exact h0 h
theorem write_not {d : D} {row : Int} {s : ByteArray} (h : (d.write row s).1 ≠ 0) : (d.write row s).2 = d := by
  unfold D.write at h ⊢
  split
  · next h0 =>
    rw [if_pos h0] at h
    split
    · next hq => rw [if_pos hq] at h; exact absurd rfl h
    · rfl
  · rfl
theorem ready_val (d : D) (row : Int) : d.ready row = if d.failed then 6 else if row < 0 ∨ (d.many : Int) ≤ row then 1 else 0 := rfl
theorem ready_ne3 (d : D) (row : Int) : d.ready row ≠ 3 := by
  unfold D.ready; split
  · decide
  · split <;> decide
theorem write_val (d : D) (row : Int) (s : ByteArray) : (d.write row s).1 = if d.ready row = 0 ∧ s.size ≠ d.size then 3 else d.ready row := by
  unfold D.write
  by_cases h0 : d.ready row = 0
  · by_cases hq : s.size = d.size
    · rw [if_pos h0, if_pos hq, if_neg (by simp [hq])]; exact h0.symm
    · rw [if_pos h0, if_neg hq, if_pos ⟨h0, hq⟩]
  · rw [if_neg h0, if_neg (by simp [h0])]
end Dk
end Go.Proofs.YtangcjffiooapaaDoor
