/- The walk of the law PolyRoots: it returns true. -/
import Derived.Test.YtbikmodfmckaeaaDoorPolD
import Derived.Test.YtbikmodfmckaeaaDoorOpenR
namespace Go.Proofs.YtbikmodfmckaeaaDoor
open Go.ChangeShapes Go.WideShapes Go.ChangeAt Go.RowKit
set_option linter.unusedVariables false
/-- numbers that fit, as bytes -/
theorem bytes_of : ∀ (xs : List Int), (∀ n ∈ xs, (Lit.int .u8 n).wf = true) → ∃ l : List UInt8, xs.map (Value.int .u8) = l.map bv
  | [], _ => ⟨[], rfl⟩
  | x :: xs, h => by
    obtain ⟨a, rfl⟩ := byte_of (h x (List.mem_cons_self ..))
    obtain ⟨l, hl⟩ := bytes_of xs (fun n hn => h n (List.mem_cons_of_mem _ hn))
    exact ⟨a :: l, by rw [List.map_cons, List.map_cons, hl]⟩
theorem roots_len (l : List UInt8) (n : Nat) : (Pl.roots l n).length = n + 1 := (Pl.roots_monic l n).1
def PrRel (l : List UInt8) (x : UInt8) (w : World) (N : Nat) (gk : Nat) (v5 v6 v7 : Value) (wr : World) : Prop :=
  ∃ k : Nat, k + gk = N ∧ v7 = iv k ∧ v6 = .bool (Pl.isB l x k) ∧ RowB wr v5 (Pl.roots l k) ∧ Below w.heap.size w wr
theorem alloc_rowP (w : World) (vs : List Value) (E : TypeId) (hl : vs.length ≤ maxLen) : Row (w.alloc (.cells vs.toArray E)) (.slice (some ⟨w.heap.size, 0, none⟩) vs.length vs.length) vs := by
  refine ⟨some ⟨w.heap.size, 0, none⟩, vs.length, rfl, Nat.le_refl _, hl, (fun h => by cases h), fun _ => ⟨w.heap.size, 0, rfl, fun j hj => ?_⟩⟩
  rw [cell_of_row _ _ _ _ _ _ (heap_alloc_new w _), Nat.zero_add]
  simp
theorem two_row (w : World) (a b : UInt8) : RowB (w.alloc (.cells #[bv a, bv b] 5)) (.slice (some ⟨w.heap.size, 0, none⟩) 2 2) [a, b] :=
  alloc_rowP w [bv a, bv b] _ (by simp [maxLen])
theorem one_row (w : World) (a : UInt8) : RowB (w.alloc (.cells #[bv a] 5)) (.slice (some ⟨w.heap.size, 0, none⟩) 1 1) [a] :=
  alloc_rowP w [bv a] _ (by simp [maxLen])
end Go.Proofs.YtbikmodfmckaeaaDoor
