/- The reference's pool of disks: its find. -/
import Derived.Test.YtloaekdijpcmiaaDoorPoolM
import Derived.Deep.LoopGhost
namespace Go.Proofs.YtloaekdijpcmiaaDoor
open Go.ChangeShapes Go.WideShapes Go.ChangeAt Go.RowKit
set_option linter.unusedVariables false
/-- the reference's pool in memory: block b has its two lists, each in a block of its own; all from block B on -/
structure RPoolAt (w : World) (B b gs cs gl cl : Nat) (S L : List Int) : Prop where
  hb : B ≤ b
  hs : B ≤ gs
  hl : B ≤ gl
  bs : b ≠ gs
  bl : b ≠ gl
  sl : gs ≠ gl
  blk : w.heap[b]? = some (.cells #[.slice (some ⟨gs, 0, none⟩) S.length cs, .slice (some ⟨gl, 0, none⟩) L.length cl] 61 (0, 0))
  own1 : w.ownsRow B 3 1 (.slice (some ⟨gs, 0, none⟩) S.length cs) S.length (S.map iv)
  own2 : w.ownsRow B 3 1 (.slice (some ⟨gl, 0, none⟩) L.length cl) L.length (L.map iv)
section
variable {w : World} {B b gs cs gl cl : Nat} {S L : List Int}
theorem RPoolAt.c0 (h : RPoolAt w B b gs cs gl cl S L) : w.cell? ⟨b, 0, none⟩ = some (.slice (some ⟨gs, 0, none⟩) S.length cs) := by rw [cell_of_row _ _ _ _ _ _ h.blk]; rfl
theorem RPoolAt.c1 (h : RPoolAt w B b gs cs gl cl S L) : w.cell? ⟨b, 1, none⟩ = some (.slice (some ⟨gl, 0, none⟩) L.length cl) := by rw [cell_of_row _ _ _ _ _ _ h.blk]; rfl
theorem RPoolAt.s (h : RPoolAt w B b gs cs gl cl S L) {j : Nat} {x : Int} (hx : S[j]? = some x) : w.cell? ⟨gs, j, none⟩ = some (iv x) := by
  have hj := (List.getElem?_eq_some_iff.1 hx).1
  rw [h.own1.cellAt j (by omega), List.getElem?_map, hx]; rfl
theorem RPoolAt.l (h : RPoolAt w B b gs cs gl cl S L) {j : Nat} {x : Int} (hx : L[j]? = some x) : w.cell? ⟨gl, j, none⟩ = some (iv x) := by
  have hj := (List.getElem?_eq_some_iff.1 hx).1
  rw [h.own2.cellAt j (by omega), List.getElem?_map, hx]; rfl
theorem RPoolAt.fs (h : RPoolAt w B b gs cs gl cl S L) (j : Nat) : w.frozen? ⟨gs, j, none⟩ = false := h.own1.frozenAt j
theorem RPoolAt.fl (h : RPoolAt w B b gs cs gl cl S L) (j : Nat) : w.frozen? ⟨gl, j, none⟩ = false := h.own2.frozenAt j
theorem RPoolAt.row1 (h : RPoolAt w B b gs cs gl cl S L) : Row w (.slice (some ⟨gs, 0, none⟩) S.length cs) (S.map iv) := (row_of_owns h.own1).1
theorem RPoolAt.row2 (h : RPoolAt w B b gs cs gl cl S L) : Row w (.slice (some ⟨gl, 0, none⟩) L.length cl) (L.map iv) := (row_of_owns h.own2).1
theorem RPoolAt.below (h : RPoolAt w B b gs cs gl cl S L) {w' : World} (hw : Below w.heap.size w w') : RPoolAt w' B b gs cs gl cl S L :=
  { h with blk := by rw [hw.block b (Array.getElem?_eq_some_iff.1 h.blk).1]; exact h.blk, own1 := owns_below h.own1 hw, own2 := owns_below h.own2 hw }
theorem RPoolAt.setS (h : RPoolAt w B b gs cs gl cl S L) (j : Nat) (x : Int) : RPoolAt (w.setCell ⟨gs, j, none⟩ (iv x)) B b gs cs gl cl (S.set j x) L := by
  have h1 := h.own1.stored j (iv x)
  refine ⟨h.hb, h.hs, h.hl, h.bs, h.bl, h.sl, ?_, ?_, h.own2.kept h1.2 (.inr ?_)⟩
  · rw [Below.heap_setCell _ _ _ _ h.bs, List.length_set]; exact h.blk
  · rw [List.length_set, List.map_set]; exact h1.1
  · intro e; simp only [Value.ownBlock, Option.some.injEq] at e; exact h.sl e.symm
theorem RPoolAt.setL (h : RPoolAt w B b gs cs gl cl S L) (j : Nat) (x : Int) : RPoolAt (w.setCell ⟨gl, j, none⟩ (iv x)) B b gs cs gl cl S (L.set j x) := by
  have h1 := h.own2.stored j (iv x)
  refine ⟨h.hb, h.hs, h.hl, h.bs, h.bl, h.sl, ?_, h.own1.kept h1.2 (.inr ?_), ?_⟩
  · rw [Below.heap_setCell _ _ _ _ h.bl, List.length_set]; exact h.blk
  · intro e; simp only [Value.ownBlock, Option.some.injEq] at e; exact h.sl e
  · rw [List.length_set, List.map_set]; exact h1.1
end


def FindRel (xs : List Int) (x : Int) (n : Nat) (w : World) (gk : Nat) (i : Value) (wr : World) : Prop := ∃ k : Nat, k + gk = n ∧ i = iv k ∧ wr = w ∧ ∀ m, m < k → xs[m]? ≠ some x
set_option maxRecDepth 100000 in
theorem find_any (xs : List Int) (x : Int) (v : Value) (w : World) (hv : Row w v (xs.map iv)) :
    Calls Tryd.prog 39 #[v, iv x] w fun e w' => e = .returned (iv (idx xs x)) ∧ w = w' := by
  obtain ⟨p, cap, rfl, hlen, hcap, hcells⟩ := hv.shape
  clear hv
  rw [List.length_map] at *
  unfold maxLen at hcap
  have hN : xs.length ≤ 9223372036854775807 := by omega
  have hno := fun h => idx_no (xs := xs) (x := x) h
  have hat := fun k h1 h2 h3 => idx_at (xs := xs) (x := x) (k := k) h1 h2 h3
  generalize hn : xs.length = n at *
  have Hn := Lib.hid hn
  have Hcells := Lib.hid hcells
  have Hno := Lib.hid hno
  have Hat := Lib.hid hat
  clear hn hcells hno hat hcap
  go_enter Tryd.func39, Tryd.ntmps39
  go_wp2_with fail
  go_loopg [5] n (fun gk i wr => FindRel xs x n w gk i wr)
  case atStart => exact ⟨0, by omega, rfl, rfl, fun m hm => by omega⟩
  case round =>
    obtain ⟨k, hk, rfl, rfl, hm⟩ := hrel
    have Hm := Lib.hid hm
    have Hk := Lib.hid hk
    clear hm hk
    by_cases hlt : k < n
    · obtain ⟨g, off, rfl, hc⟩ := Hcells.out (by omega)
      have hc' := hc k hlt
      obtain ⟨y, hy⟩ : ∃ y, xs[k]? = some y := ⟨xs[k]'(by rw [Hn.out]; exact hlt), List.getElem?_eq_getElem _⟩
      rw [List.getElem?_map, hy] at hc'
      have hc2 : wr.cell? ⟨g, off + k, none⟩ = some (iv y) := hc'
      have Hy := Lib.hid hy
      clear hc hc' hy
      by_cases he : y = x
      · have ht : (y == x) = true := beq_t he
        have Hr := Lib.hid (Hat.out k hlt Hm.out (by rw [Hy.out, he]))
        clear he
        go_wp2_with fail
        go_ret
        exact ⟨ret_iv Hr.out.symm, rfl⟩
      · have ht : (y == x) = false := beq_f he
        have He := Lib.hid he
        clear he
        go_wp2_with fail
        go_roundg (gk - 1)
        case measure => have := Hk.out; omega
        case rel =>
          refine ⟨k + 1, by have := Hk.out; omega, by go_num, rfl, fun m hm' => ?_⟩
          by_cases e : m = k
          · subst e; rw [Hy.out]; intro h; exact He.out (Option.some.inj h)
          · exact Hm.out m (by omega)
    · obtain rfl : k = n := by have := Hk.out; omega
      have Hr := Lib.hid (Hno.out Hm.out)
      clear hlt
      go_wp2_with fail
      go_ret
      exact ⟨ret_iv Hr.out.symm, rfl⟩
end Go.Proofs.YtloaekdijpcmiaaDoor
