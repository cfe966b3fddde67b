/- Locks as an object in memory; the walk of Ask. -/
import Derived.Test.YtoddoekmgkcomaaDoorLockW
import Derived.Deep.RegionHeld3
import Derived.Deep.AppendLies
import Derived.Deep.DrawnRows
namespace Go.Proofs.YtoddoekmgkcomaaDoor
open Go.ChangeShapes Go.WideShapes Go.ChangeAt Go.RowKit
set_option linter.unusedVariables false
attribute [local go_sem ↓] Go.wp_at_zero Go.wp_at_succ
theorem info_lock : (Tryd.prog.info? 52).map (fun i => (i.zero, i.size, i.bytes)) = some (some (.agg #[.int .i64 0, .int .i64 0, .int .i64 0, .bool false]), 4, 32) := by kernel_rfl
/-- cells of a list of locks -/
def lcs (ls : List Lk.L) : List Value := ls.flatMap lc
theorem lcs_len (ls : List Lk.L) : (lcs ls).length = ls.length * 4 := by
  unfold lcs; induction ls with
  | nil => rfl
  | cons a l ih => rw [List.flatMap_cons, List.length_append, ih, List.length_cons, Nat.add_mul]; simp [lc]; omega
theorem lcs_snoc (ls : List Lk.L) (l : Lk.L) : lcs ls ++ lc l = lcs (ls ++ [l]) := by unfold lcs; rw [List.flatMap_append]; simp
theorem lcs_at : ∀ (ls : List Lk.L) (j : Nat) (l : Lk.L) (i : Nat), ls[j]? = some l → i < 4 → (lcs ls)[j * 4 + i]? = (lc l)[i]?
  | [], j, l, i, h, _ => by simp at h
  | a :: ls, 0, l, i, h, hi => by
    simp at h; subst h
    unfold lcs; rw [List.flatMap_cons, Nat.zero_mul, Nat.zero_add, List.getElem?_append_left (by simp [lc]; omega)]
  | a :: ls, j + 1, l, i, h, hi => by
    unfold lcs; rw [List.flatMap_cons, List.getElem?_append_right (by simp [lc]; omega)]
    have := lcs_at ls j l i (by simpa using h) hi
    rw [← this]
    congr 1
    simp [lc]; omega
theorem lc_one (l : Lk.L) : ∀ u ∈ lc l, u.oneCell' = true := by intro u hu; simp [lc] at hu; rcases hu with rfl | rfl | rfl | rfl <;> rfl
theorem rowL_of_owns {w : World} {base : Nat} {v : Value} {ls : List Lk.L} (h : w.ownsRow base 52 4 v ls.length (lcs ls)) : RowL w v ls := by
  rcases h.2 with ⟨hv, h0⟩ | ⟨g, cap, cur, rfl, hb, hg, hnc, hcm, hcs, ht⟩
  · exact ⟨none, 0, by rw [hv, h0], by omega, fun j l hj => by have := (List.getElem?_eq_some_iff.1 hj).1; omega⟩
  · refine ⟨_, cap, rfl, by unfold maxLen at hcm; omega, fun j l hj => ⟨g, 0, rfl, (Array.getElem?_eq_some_iff.1 hg).1, ?_⟩⟩
    have hj' := (List.getElem?_eq_some_iff.1 hj).1
    have k : ∀ i, i < 4 → w.cell? ⟨g, j * 4 + i, none⟩ = (lc l)[i]? := fun i hi => by
      rw [h.cellAt (j * 4 + i) (by omega)]; exact lcs_at ls j l i hj hi
    rw [Nat.zero_add]
    exact ⟨by have := k 0 (by omega); simpa [lc] using this, by have := k 1 (by omega); simpa [lc] using this, by have := k 2 (by omega); simpa [lc] using this, by have := k 3 (by omega); simpa [lc] using this⟩
/-- an object of two lists of locks: block b has x and y; vh, vw are its lists, each in a block of its own -/
structure LkSt (T : TypeId) (w : World) (B b : Nat) (x y vh vw : Value) (s : Lk.St) : Prop where
  hb : B ≤ b
  blk : w.heap[b]? = some (.cells #[x, y] T (0, 0))
  own1 : w.ownsRow B 52 4 vh s.1.length (lcs s.1)
  own2 : w.ownsRow B 52 4 vw s.2.length (lcs s.2)
  n1 : vh.ownBlock ≠ some b
  n2 : vw.ownBlock ≠ some b
  n3 : ∀ g, vh.ownBlock = some g → vw.ownBlock ≠ some g
abbrev LkAt (T : TypeId) (w : World) (B b : Nat) (vh vw : Value) (s : Lk.St) : Prop := LkSt T w B b vh vw vh vw s
/-- the blocks of such an object -/
def foot (b : Nat) (vh vw : Value) (k : Nat) : Prop := k = b ∨ vh.ownBlock = some k ∨ vw.ownBlock = some k
theorem own_else {a b : Value} (h : ∀ g, a.ownBlock = some g → b.ownBlock ≠ some g) : a.ownBlock = none ∨ a.ownBlock ≠ b.ownBlock := by
  cases ha : a.ownBlock with
  | none => exact .inl rfl
  | some g => exact .inr (fun e => h g ha e.symm)
theorem own_but {a : Value} {b : Nat} (h : a.ownBlock ≠ some b) : a.ownBlock = none ∨ a.ownBlock ≠ some b := .inr h
theorem grown_set (w : World) (b o : Nat) (u : Value) : w.grownBy (w.setCell ⟨b, o, none⟩ u) (some b) :=
  ⟨rfl, rfl, rfl, by simp [World.setCell], fun k hk hne => Below.heap_setCell _ _ _ _ (fun e => hne (by rw [e]))⟩
section
variable {T : TypeId} {w w1 : World} {B b : Nat} {x y vh vw : Value} {s : Lk.St}
theorem LkSt.c0 (h : LkSt T w B b x y vh vw s) : w.cell? ⟨b, 0, none⟩ = some x := by rw [cell_of_row _ _ _ _ _ _ h.blk]; rfl
theorem LkSt.c1 (h : LkSt T w B b x y vh vw s) : w.cell? ⟨b, 1, none⟩ = some y := by rw [cell_of_row _ _ _ _ _ _ h.blk]; rfl
theorem LkSt.f (h : LkSt T w B b x y vh vw s) (o : Nat) : w.frozen? ⟨b, o, none⟩ = false := frozen_of_row _ _ _ _ _ h.blk
theorem LkSt.lt (h : LkSt T w B b x y vh vw s) : b < w.heap.size := (Array.getElem?_eq_some_iff.1 h.blk).1
theorem LkSt.row1 (h : LkSt T w B b x y vh vw s) : RowL w vh s.1 := rowL_of_owns h.own1
theorem LkSt.row2 (h : LkSt T w B b x y vh vw s) : RowL w vw s.2 := rowL_of_owns h.own2
theorem LkSt.below (h : LkSt T w B b x y vh vw s) {w' : World} (hw : Below w.heap.size w w') : LkSt T w' B b x y vh vw s :=
  { h with blk := by rw [hw.block b h.lt]; exact h.blk, own1 := owns_below h.own1 hw, own2 := owns_below h.own2 hw }
theorem LkSt.low (h : LkSt T w B b x y vh vw s) {k : Nat} (hk : foot b vh vw k) : B ≤ k ∧ k < w.heap.size := by
  rcases hk with rfl | hk | hk
  · exact ⟨h.hb, h.lt⟩
  · exact h.own1.lt k hk
  · exact h.own2.lt k hk
theorem LkSt.kept (h : LkSt T w B b x y vh vw s) {F : Nat → Prop} {w' : World} (hk : Kept F w w') (hF : ∀ k, foot b vh vw k → ¬ F k) : LkSt T w' B b x y vh vw s :=
  { h with blk := hk.heap h.blk (hF b (.inl rfl)), own1 := Kept.owns h.own1 hk (fun g hg => hF g (.inr (.inl hg))), own2 := Kept.owns h.own2 hk (fun g hg => hF g (.inr (.inr hg))) }
theorem LkSt.setX (h : LkSt T w B b x y vh vw s) (u : Value) : LkSt T (w.setCell ⟨b, 0, none⟩ u) B b u y vh vw s :=
  { h with blk := by rw [heap_setCell_same _ _ _ _ _ _ h.blk]; rfl, own1 := h.own1.kept (grown_set _ _ _ _) (own_but h.n1), own2 := h.own2.kept (grown_set _ _ _ _) (own_but h.n2) }
theorem LkSt.setY (h : LkSt T w B b x y vh vw s) (u : Value) : LkSt T (w.setCell ⟨b, 1, none⟩ u) B b x u vh vw s :=
  { h with blk := by rw [heap_setCell_same _ _ _ _ _ _ h.blk]; rfl, own1 := h.own1.kept (grown_set _ _ _ _) (own_but h.n1), own2 := h.own2.kept (grown_set _ _ _ _) (own_but h.n2) }
/-- the first list has turned -/
theorem LkSt.new1 (h : LkSt T w B b x y vh vw s) {v : Value} {ls : List Lk.L} (hown : w1.ownsRow B 52 4 v ls.length (lcs ls)) (hg : w.grownBy w1 vh.ownBlock) (hat : ∀ g, v.ownBlock = some g → vh.ownBlock = some g ∨ w.heap.size ≤ g) :
    LkSt T w1 B b x y v vw (ls, s.2) := by
  refine ⟨h.hb, by rw [hg.block b h.lt (fun e => h.n1 e.symm)]; exact h.blk, hown, h.own2.kept hg (own_else fun g e e' => h.n3 g e' e), ?_, h.n2, ?_⟩
  · intro e
    rcases hat b e with e' | e'
    · exact h.n1 e'
    · have := h.lt; omega
  · intro g e e2
    rcases hat g e with e' | e'
    · exact h.n3 g e' e2
    · have := (h.own2.lt g e2).2; omega
/-- the second list has turned -/
theorem LkSt.new2 (h : LkSt T w B b x y vh vw s) {v : Value} {ls : List Lk.L} (hown : w1.ownsRow B 52 4 v ls.length (lcs ls)) (hg : w.grownBy w1 vw.ownBlock) (hat : ∀ g, v.ownBlock = some g → vw.ownBlock = some g ∨ w.heap.size ≤ g) :
    LkSt T w1 B b x y vh v (s.1, ls) := by
  refine ⟨h.hb, by rw [hg.block b h.lt (fun e => h.n2 e.symm)]; exact h.blk, h.own1.kept hg (own_else fun g e e' => h.n3 g e e'), hown, h.n1, ?_, ?_⟩
  · intro e
    rcases hat b e with e' | e'
    · exact h.n2 e'
    · have := h.lt; omega
  · intro g e e2
    rcases hat g e2 with e' | e'
    · exact h.n3 g e e'
    · have := (h.own1.lt g e).2; omega
end
theorem grown_kept {w w' : World} {row : Option Nat} (h : w.grownBy w' row) {F : Nat → Prop} (hF : ∀ k, row = some k → k < w.heap.size → F k) : Kept F w w' :=
  ⟨h.os, h.tape, h.output, h.size, fun k hk hn => h.block k hk (fun e => hn (hF k e.symm hk))⟩
/-- the way of an object from w to w': its lists are vh', vw' now; nothing else has turned; its blocks are the old ones and new ones -/
structure Way (b : Nat) (vh vw : Value) (w : World) (vh' vw' : Value) (w' : World) : Prop where
  kept : Kept (foot b vh vw) w w'
  new : ∀ k, foot b vh' vw' k → foot b vh vw k ∨ w.heap.size ≤ k
namespace Way
variable {b : Nat} {vh vw vh1 vw1 vh2 vw2 v : Value} {w w1 w2 : World}
theorem refl (b : Nat) (vh vw : Value) (w : World) : Way b vh vw w vh vw w := ⟨Kept.refl _ _, fun k h => .inl h⟩
theorem trans (h : Way b vh vw w vh1 vw1 w1) (h' : Way b vh1 vw1 w1 vh2 vw2 w2) : Way b vh vw w vh2 vw2 w2 :=
  ⟨h.kept.trans h'.kept (fun k hk hf => (h.new k hf).resolve_right (by omega)), fun k hk => by
    rcases h'.new k hk with h1 | h1
    · exact h.new k h1
    · exact .inr (Nat.le_trans h.kept.size h1)⟩
theorem below (h : Way b vh vw w vh1 vw1 w1) (hb : Below w1.heap.size w1 w2) : Way b vh vw w vh1 vw1 w2 := h.trans ⟨Kept.new _ hb, fun k h => .inl h⟩
theorem set (h : Way b vh vw w vh1 vw1 w1) (o : Nat) (u : Value) : Way b vh vw w vh1 vw1 (w1.setCell ⟨b, o, none⟩ u) := h.trans ⟨grown_kept (grown_set _ _ _ _) (fun k e _ => .inl (by injection e with e; exact e.symm)), fun k h => .inl h⟩
theorem new1 (h : Way b vh vw w vh1 vw1 w1) (hg : w1.grownBy w2 vh1.ownBlock) (hat : ∀ g, v.ownBlock = some g → vh1.ownBlock = some g ∨ w1.heap.size ≤ g) : Way b vh vw w v vw1 w2 :=
  h.trans ⟨grown_kept hg (fun k e _ => .inr (.inl e)), fun k hk => by
    rcases hk with hk | hk | hk
    · exact .inl (.inl hk)
    · exact (hat k hk).imp (fun e => .inr (.inl e)) id
    · exact .inl (.inr (.inr hk))⟩
theorem new2 (h : Way b vh vw w vh1 vw1 w1) (hg : w1.grownBy w2 vw1.ownBlock) (hat : ∀ g, v.ownBlock = some g → vw1.ownBlock = some g ∨ w1.heap.size ≤ g) : Way b vh vw w vh1 v w2 :=
  h.trans ⟨grown_kept hg (fun k e _ => .inr (.inr e)), fun k hk => by
    rcases hk with hk | hk | hk
    · exact .inl (.inl hk)
    · exact .inl (.inr (.inl hk))
    · exact (hat k hk).imp (fun e => .inr (.inr e)) id⟩
theorem toBelow (h : Way b vh vw w vh1 vw1 w1) {B : Nat} (hB : B ≤ w.heap.size) (hlow : ∀ k, foot b vh vw k → B ≤ k) : Below B w w1 := h.kept.toBelow hB (fun k _ hk => hlow k hk)
end Way
/-- what a method leaves: the object in a new state -/
def LkStep (T : TypeId) (w : World) (B b : Nat) (vh vw : Value) (s' : Lk.St) (w' : World) : Prop :=
  ∃ vh' vw', LkAt T w' B b vh' vw' s' ∧ Way b vh vw w vh' vw' w'
theorem LkStep.same {T : TypeId} {w w' : World} {B b : Nat} {vh vw : Value} {s : Lk.St} (h : LkAt T w B b vh vw s) (hb : Below w.heap.size w w') : LkStep T w B b vh vw s w' :=
  ⟨vh, vw, h.below hb, (Way.refl _ _ _ _).below hb⟩
/-- a lock more in the first list, behind the append -/
theorem LkSt.app1 {T : TypeId} {w wx w1 : World} {B b : Nat} {vh vw : Value} {s : Lk.St} (h : LkAt T w B b vh vw s) (hb : Below w.heap.size w wx) (l : Lk.L) {g cap H : Nat}
    (hown : w1.ownsRow B 52 4 (.slice (some ⟨g, 0, none⟩) (s.1.length + 1) cap) (s.1.length + 1) (lcs s.1 ++ lc l)) (hg : wx.grownBy w1 vh.ownBlock) (hat : vh.ownBlock = some g ∨ g = H) (hH : wx.heap.size ≤ H) :
    LkSt T w1 B b vh vw (.slice (some ⟨g, 0, none⟩) (s.1.length + 1) cap) vw (s.1 ++ [l], s.2) ∧ Way b vh vw w (.slice (some ⟨g, 0, none⟩) (s.1.length + 1) cap) vw w1 := by
  have h2 : w1.ownsRow B 52 4 (.slice (some ⟨g, 0, none⟩) (s.1.length + 1) cap) (s.1 ++ [l]).length (lcs (s.1 ++ [l])) := by rw [← lcs_snoc, List.length_append]; exact hown
  have h3 : ∀ k, (Value.slice (some ⟨g, 0, none⟩) (s.1.length + 1) cap).ownBlock = some k → vh.ownBlock = some k ∨ wx.heap.size ≤ k := by
    intro k e
    simp only [Value.ownBlock, Option.some.injEq] at e
    subst e
    exact hat.imp id (fun e => by omega)
  exact ⟨(h.below hb).new1 h2 hg h3, ((Way.refl b vh vw w).below hb).new1 hg h3⟩
theorem LkSt.app2 {T : TypeId} {w wx w1 : World} {B b : Nat} {vh vw : Value} {s : Lk.St} (h : LkAt T w B b vh vw s) (hb : Below w.heap.size w wx) (l : Lk.L) {g cap H : Nat}
    (hown : w1.ownsRow B 52 4 (.slice (some ⟨g, 0, none⟩) (s.2.length + 1) cap) (s.2.length + 1) (lcs s.2 ++ lc l)) (hg : wx.grownBy w1 vw.ownBlock) (hat : vw.ownBlock = some g ∨ g = H) (hH : wx.heap.size ≤ H) :
    LkSt T w1 B b vh vw vh (.slice (some ⟨g, 0, none⟩) (s.2.length + 1) cap) (s.1, s.2 ++ [l]) ∧ Way b vh vw w vh (.slice (some ⟨g, 0, none⟩) (s.2.length + 1) cap) w1 := by
  have h2 : w1.ownsRow B 52 4 (.slice (some ⟨g, 0, none⟩) (s.2.length + 1) cap) (s.2 ++ [l]).length (lcs (s.2 ++ [l])) := by rw [← lcs_snoc, List.length_append]; exact hown
  have h3 : ∀ k, (Value.slice (some ⟨g, 0, none⟩) (s.2.length + 1) cap).ownBlock = some k → vw.ownBlock = some k ∨ wx.heap.size ≤ k := by
    intro k e
    simp only [Value.ownBlock, Option.some.injEq] at e
    subst e
    exact hat.imp id (fun e => by omega)
  exact ⟨(h.below hb).new2 h2 hg h3, ((Way.refl b vh vw w).below hb).new2 hg h3⟩
end Go.Proofs.YtoddoekmgkcomaaDoor
