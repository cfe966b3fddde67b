/- An array of 40 ints in a block of its own. -/
import Derived.Test.YtangcjffiooapaaKept
namespace Go.Proofs.Ytangcjffiooapaa
open Go.RowKit
def int40 : Array Value := Array.replicate 40 (iv 0)
theorem zero_int40 (w : World) : (zeroValue 50).run Try.prog w = .ok (.agg int40) w := by kernel_rfl
structure Arr40 (w : World) (M : Nat) (f : Nat → Nat) : Prop where
  size : ∃ cs, w.heap[M]? = some (.cells cs 50 (0, 0))
  cell : ∀ k, k < 40 → w.cell? ⟨M, k, none⟩ = some (iv (f k))
namespace Arr40
variable {w w' : World} {M : Nat} {f : Nat → Nat}
theorem lt (h : Arr40 w M f) : M < w.heap.size := by obtain ⟨cs, h⟩ := h.size; exact (Array.getElem?_eq_some_iff.1 h).1
theorem frozen (h : Arr40 w M f) (j : Nat) : w.frozen? ⟨M, j, none⟩ = false := by obtain ⟨cs, h⟩ := h.size; exact frozen_of_row _ _ _ _ _ h
theorem new (w : World) : Arr40 (w.alloc (.cells int40 50)) w.heap.size (fun _ => 0) :=
  ⟨⟨_, heap_alloc_new _ _⟩, fun k hk => by rw [cell_of_row _ _ _ _ _ _ (heap_alloc_new w (.cells int40 50))]; unfold int40; rw [Array.getElem?_replicate, if_pos hk]; rfl⟩
theorem kept {F : Nat → Prop} (h : Arr40 w M f) (hk : Kept F w w') (hn : ¬ F M) : Arr40 w' M f := by
  obtain ⟨cs, h1⟩ := h.size
  exact ⟨⟨cs, hk.heap h1 hn⟩, fun k hk' => hk.cell (h.cell k hk') hn⟩
theorem below (h : Arr40 w M f) (hb : Below w.heap.size w w') : Arr40 w' M f := h.kept (Kept.new (fun _ => False) hb) (fun e => e)
theorem set (h : Arr40 w M f) (c v : Nat) : Arr40 (w.setCell ⟨M, c, none⟩ (iv v)) M (fun k => if k = c then v else f k) := by
  obtain ⟨cs, h1⟩ := h.size
  refine ⟨⟨_, heap_setCell_same _ _ _ _ _ _ h1⟩, fun k hk => ?_⟩
  have h2 := h.cell k hk
  by_cases e : k = c
  · subst e
    rw [if_pos rfl]
    exact World.cell?_setCell_same _ _ _ h2
  · rw [if_neg e, World.cell?_setCell_other _ _ _ _ (by intro q; injection q with _ q2; exact e q2.symm)]
    exact h2
end Arr40
end Go.Proofs.Ytangcjffiooapaa
