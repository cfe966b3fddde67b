/- Two objects of locks side by side. -/
import Derived.Test.YtoddoekmgkcomaaDoorLockS
namespace Go.Proofs.YtoddoekmgkcomaaDoor
open Go.ChangeShapes Go.WideShapes Go.ChangeAt Go.RowKit
set_option linter.unusedVariables false
/-- block b holds the locks s, block c the reference's locks t; what lies below H (below K) may turn with the first (with the second) -/
def Duo (w : World) (B b c : Nat) (s t : Lk.St) (H K : Nat) : Prop :=
  ∃ vh vw uh uw, LkAt 106 w B b vh vw s ∧ LkAt 45 w B c uh uw t ∧ (∀ k, foot b vh vw k → ¬ foot c uh uw k) ∧ (∀ k, foot b vh vw k → k < H) ∧ ∀ k, foot c uh uw k → k < K
theorem Duo.below {w w' : World} {B b c : Nat} {s t : Lk.St} {H K : Nat} (h : Duo w B b c s t H K) (hb : Below w.heap.size w w') : Duo w' B b c s t H K := by
  obtain ⟨vh, vw, uh, uw, h1, h2, h3, h4, h5⟩ := h
  exact ⟨vh, vw, uh, uw, h1.below hb, h2.below hb, h3, h4, h5⟩
theorem Duo.up {w : World} {B b c : Nat} {s t : Lk.St} {H K : Nat} (h : Duo w B b c s t H K) : Duo w B b c s t w.heap.size w.heap.size := by
  obtain ⟨vh, vw, uh, uw, h1, h2, h3, h4, h5⟩ := h
  exact ⟨vh, vw, uh, uw, h1, h2, h3, fun k hk => (h1.low hk).2, fun k hk => (h2.low hk).2⟩
/-- the first has turned -/
theorem Duo.one {w w' : World} {B b c : Nat} {vh vw uh uw : Value} {s s' t : Lk.St} {H K : Nat} (h1 : LkAt 106 w B b vh vw s) (h2 : LkAt 45 w B c uh uw t) (h3 : ∀ k, foot b vh vw k → ¬ foot c uh uw k)
    (h4 : ∀ k, foot b vh vw k → k < H) (h5 : ∀ k, foot c uh uw k → k < K) (hs : LkStep 106 w B b vh vw s' w') :
    Duo w' B b c s' t w'.heap.size K ∧ Kept (fun k => B ≤ k ∧ k < H) w w' := by
  obtain ⟨vh', vw', h', hw⟩ := hs
  refine ⟨⟨vh', vw', uh, uw, h', h2.kept hw.kept (fun k hk hf => h3 k hf hk), ?_, fun k hk => (h'.low hk).2, h5⟩, ?_⟩
  · intro k hk hf
    rcases hw.new k hk with h | h
    · exact h3 k h hf
    · have := (h2.low hf).2; omega
  · exact ⟨hw.kept.os, hw.kept.tape, hw.kept.output, hw.kept.size, fun k hk hn => hw.kept.block k hk (fun hf => hn ⟨(h1.low hf).1, h4 k hf⟩)⟩
/-- the second has turned -/
theorem Duo.two {w w' : World} {B b c : Nat} {vh vw uh uw : Value} {s t t' : Lk.St} {H K : Nat} (h1 : LkAt 106 w B b vh vw s) (h2 : LkAt 45 w B c uh uw t) (h3 : ∀ k, foot b vh vw k → ¬ foot c uh uw k)
    (h4 : ∀ k, foot b vh vw k → k < H) (h5 : ∀ k, foot c uh uw k → k < K) (hs : LkStep 45 w B c uh uw t' w') :
    Duo w' B b c s t' H w'.heap.size ∧ Kept (fun k => B ≤ k ∧ k < K) w w' := by
  obtain ⟨uh', uw', h', hw⟩ := hs
  refine ⟨⟨vh, vw, uh', uw', h1.kept hw.kept (fun k hk hf => h3 k hk hf), h', ?_, h4, fun k hk => (h'.low hk).2⟩, ?_⟩
  · intro k hk hf
    rcases hw.new k hf with h | h
    · exact h3 k hk h
    · have := (h1.low hk).2; omega
  · exact ⟨hw.kept.os, hw.kept.tape, hw.kept.output, hw.kept.size, fun k hk hn => hw.kept.block k hk (fun hf => hn ⟨(h2.low hf).1, h5 k hf⟩)⟩
/-- an object at a lower base -/
theorem LkSt.base {T : TypeId} {w : World} {B B' b : Nat} {x y vh vw : Value} {s : Lk.St} (h : LkSt T w B b x y vh vw s) (hB : B' ≤ B) : LkSt T w B' b x y vh vw s :=
  { h with hb := Nat.le_trans hB h.hb, own1 := owns_base h.own1 hB, own2 := owns_base h.own2 hB }
/-- the second is made behind the first -/
theorem Duo.make {w w1 : World} {b : Nat} (h1 : LkAt 106 w1 w.heap.size b (.slice none 0 0) (.slice none 0 0) ([], [])) (hz : w.heap.size ≤ w1.heap.size) :
    Duo (w1.alloc (.cells #[.slice none 0 0, .slice none 0 0] 45)) w.heap.size b w1.heap.size ([], []) ([], []) (w1.heap.size + 1) (w1.heap.size + 1) := by
  have hl := h1.lt
  refine ⟨_, _, .slice none 0 0, .slice none 0 0, h1.below ((Below.refl _ _).alloc (Nat.le_refl _) _), ⟨hz, heap_alloc_new _ _, World.ownsRow_nil _ _ _ _, World.ownsRow_nil _ _ _ _, (fun e => by cases e), (fun e => by cases e), (fun g e => by cases e)⟩, ?_, ?_, ?_⟩
  · intro k hk hf
    rcases hk with rfl | hk | hk
    · rcases hf with hf | hf | hf
      · omega
      · cases hf
      · cases hf
    · cases hk
    · cases hk
  · intro k hk
    rcases hk with rfl | hk | hk
    · omega
    · cases hk
    · cases hk
  · intro k hk
    rcases hk with rfl | hk | hk
    · omega
    · cases hk
    · cases hk
/-- a row that was made behind what turns -/
theorem row_kept {w w' : World} {M : Nat} {v : Value} {xs : List Int} {F : Nat → Prop} (h : w.ownsRow M 3 1 v xs.length (xs.map iv)) (hk : Kept F w w') (hF : ∀ k, M ≤ k → ¬ F k) : Row w' v (xs.map iv) :=
  (row_of_owns (Kept.owns h hk (fun g hg => hF g (h.lt g hg).1))).1
end Go.Proofs.YtoddoekmgkcomaaDoor
