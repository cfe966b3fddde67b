/- What a call leaves as it was: all blocks but some. -/
import Derived.Test.YtkkfpdjhnffpbaaDoorBase
namespace Go.Proofs.YtkkfpdjhnffpbaaDoor
open Go.ChangeShapes Go.WideShapes Go.ChangeAt Go.RowKit
/-- w' is w with new blocks, and of the old ones those of T alone may have turned -/
structure Kept (T : Nat → Prop) (w w' : World) : Prop where
  os : w'.os = w.os
  tape : w'.tape = w.tape
  output : w'.output = w.output
  size : w.heap.size ≤ w'.heap.size
  block : ∀ k, k < w.heap.size → ¬ T k → w'.heap[k]? = w.heap[k]?
namespace Kept
variable {T T' : Nat → Prop} {w w1 w2 : World}
theorem refl (T : Nat → Prop) (w : World) : Kept T w w := ⟨rfl, rfl, rfl, Nat.le_refl _, fun _ _ _ => rfl⟩
theorem mono (h : Kept T w w1) (hT : ∀ k, k < w.heap.size → T k → T' k) : Kept T' w w1 := ⟨h.os, h.tape, h.output, h.size, fun k hk hn => h.block k hk (fun ht => hn (hT k hk ht))⟩
theorem trans (h : Kept T w w1) (h' : Kept T' w1 w2) (hT : ∀ k, k < w.heap.size → T' k → T k) : Kept T w w2 :=
  ⟨h'.os.trans h.os, h'.tape.trans h.tape, h'.output.trans h.output, Nat.le_trans h.size h'.size, fun k hk hn => (h'.block k (Nat.lt_of_lt_of_le hk h.size) (fun ht => hn (hT k hk ht))).trans (h.block k hk hn)⟩
theorem also (h : Kept T w w1) (h' : Kept T w1 w2) : Kept T w w2 := h.trans h' fun _ _ h => h
theorem drewN (h : Kept T w w1) (n : Nat) : Kept T w (w1.drewN n) := ⟨h.os, h.tape, h.output, h.size, h.block⟩
theorem drew (h : Kept T w w1) : Kept T w w1.drew := h.drewN 1
theorem below {B : Nat} (h : Below B w w1) : Kept (fun k => B ≤ k) w w1 := ⟨h.os, h.tape, h.output, h.size, fun k _ hn => h.block k (by omega)⟩
theorem new (T : Nat → Prop) (h : Below w.heap.size w w1) : Kept T w w1 := ⟨h.os, h.tape, h.output, h.size, fun k hk _ => h.block k hk⟩
theorem toBelow {B : Nat} (h : Kept T w w1) (hB : B ≤ w.heap.size) (hT : ∀ k, k < w.heap.size → T k → B ≤ k) : Below B w w1 :=
  ⟨h.os, h.tape, h.output, h.size, fun k hk => h.block k (by omega) (fun ht => by have := hT k (by omega) ht; omega)⟩
theorem alloc (h : Kept T w w1) (o : Obj) : Kept T w (w1.alloc o) := h.also (new T ((Below.refl _ _).alloc (Nat.le_refl _) o))
theorem setCell (h : Kept T w w1) {p : Addr} (hp : p.block < w.heap.size → T p.block) (u : Value) : Kept T w (w1.setCell p u) :=
  ⟨h.os, h.tape, h.output, by simpa [World.setCell] using h.size, fun k hk hn => by
    rw [Below.heap_setCell _ _ _ _ (fun e => hn (by rw [e]; exact hp (by omega)))]; exact h.block k hk hn⟩
theorem grown {row : Option Nat} (h : w.grownBy w1 row) : Kept (fun k => some k = row) w w1 := ⟨h.os, h.tape, h.output, h.size, fun k hk hn => h.block k hk hn⟩
theorem cell (h : Kept T w w1) {b o : Nat} {v : Value} (hc : w.cell? ⟨b, o, none⟩ = some v) (hn : ¬ T b) : w1.cell? ⟨b, o, none⟩ = some v :=
  (World.cell?_of_block (h.block b (World.block_lt_of_cell? w _ hc) hn)).trans hc
theorem frozen (h : Kept T w w1) {b o : Nat} (hb : b < w.heap.size) (hn : ¬ T b) : w1.frozen? ⟨b, o, none⟩ = w.frozen? ⟨b, o, none⟩ :=
  World.frozen?_of_block (h.block b hb hn)
theorem heap (h : Kept T w w1) {b : Nat} {o : Obj} (hc : w.heap[b]? = some o) (hn : ¬ T b) : w1.heap[b]? = some o :=
  (h.block b (Array.getElem?_eq_some_iff.1 hc).1 hn).trans hc
theorem owns {base : Nat} {e : TypeId} {size : Nat} {v : Value} {n : Nat} {xs : List Value} (h : w.ownsRow base e size v n xs) (hk : Kept T w w1) (hn : ∀ g, v.ownBlock = some g → ¬ T g) : w1.ownsRow base e size v n xs := by
  cases hv : v.ownBlock with
  | none =>
    refine ⟨h.1, ?_⟩
    rcases h.2 with h2 | ⟨g, cap, cur, rfl, _⟩
    · exact .inl h2
    · cases hv
  | some g =>
    rcases h.2 with ⟨rfl, _⟩ | ⟨g', cap, cur, rfl, hb, hg, h3⟩
    · cases hv
    · exact ⟨h.1, .inr ⟨g', cap, cur, rfl, hb, hk.heap hg (hn g' rfl), h3⟩⟩
theorem row {v : Value} {xs : List Value} (h : Row w v xs) (hk : Kept T w w1) (hn : ∀ g o n c, v = .slice (some ⟨g, o, none⟩) n c → g < w.heap.size → ¬ T g) : Row w1 v xs := by
  obtain ⟨p, cap, rfl, h1, h2, h3, h4⟩ := h
  refine ⟨p, cap, rfl, h1, h2, h3, fun h0 => ?_⟩
  obtain ⟨g, off, rfl, h5⟩ := h4 h0
  refine ⟨g, off, rfl, fun j hj => ?_⟩
  have h6 := h5 j hj
  rw [List.getElem?_eq_getElem hj] at h6 ⊢
  exact hk.cell h6 (hn g off _ _ rfl (World.block_lt_of_cell? w _ h6))
theorem set1 {b : Nat} (h : Kept (fun x => x = b) w w1) (j : Nat) (v : Value) : Kept (fun x => x = b) w (w1.setCell ⟨b, j, none⟩ v) := h.setCell (p := ⟨b, j, none⟩) (fun _ => rfl) v
theorem setP {b c g : Nat} (h : Kept (fun k => k = b ∨ k = c) w w1) (hg : g = b ∨ g = c) (o : Nat) (v : Value) : Kept (fun k => k = b ∨ k = c) w (w1.setCell ⟨g, o, none⟩ v) := h.setCell (p := ⟨g, o, none⟩) (fun _ => hg) v
theorem self (b : Nat) (w : World) : Kept (fun x => x = b) w w := refl _ w
end Kept
end Go.Proofs.YtkkfpdjhnffpbaaDoor
