/- Lists of strings that are collected. -/
import Derived.Test.YtcldioneiededaaDoorTexts
import Derived.Test.YtcldioneiededaaDoorOwnS
namespace Go.Proofs.YtcldioneiededaaDoor
open Go.ChangeShapes Go.WideShapes Go.ChangeAt Go.RowKit
set_option linter.unusedVariables false
/-- lists of strings that are collected -/
structure RowsT (w : World) (B : Nat) (v : Value) (vs : List Value) (D : (Nat → List ByteArray)) : Prop where
  own : w.ownsRow B 40 1 v vs.length vs
  rows : ∀ (i : Nat) u, vs[i]? = some u → OwnR w B 9 u ((D i).map Value.string) ∧ ∀ g, u.ownBlock = some g → v.ownBlock ≠ some g
theorem RowsT.nil (w : World) (B : Nat) (D : (Nat → List ByteArray)) : RowsT w B (.slice none 0 0) [] D := ⟨World.ownsRow_nil _ _ _ _, fun i u hu => by simp at hu⟩
theorem RowsT.below {w w1 : World} {B : Nat} {v : Value} {vs : List Value} {D : (Nat → List ByteArray)} (h : RowsT w B v vs D) (hb : Below w.heap.size w w1) : RowsT w1 B v vs D :=
  ⟨owns_below h.own hb, fun i u hu => ⟨OwnR.below (h.rows i u hu).1 hb, (h.rows i u hu).2⟩⟩
theorem RowsT.push {w0 w' : World} {B : Nat} {v v' u : Value} {vs : List Value} {D : (Nat → List ByteArray)} (h : RowsT w0 B v vs D) (hu : OwnR w0 B 9 u ((D vs.length).map Value.string))
    (hub : ∀ g, u.ownBlock = some g → v.ownBlock ≠ some g) (hown : w'.ownsRow B 40 1 v' (vs.length + 1) (vs ++ [u])) (hg : w0.grownBy w' v.ownBlock) (hv : v'.ownBlock = v.ownBlock ∨ v'.ownBlock = some (w0.heap.size + 1)) :
    RowsT w' B v' (vs ++ [u]) D := by
  have hk := Kept.grown hg
  refine ⟨by rw [List.length_append]; exact hown, fun i u2 h2 => ?_⟩
  have key : ∀ {u2 : Value} {i : Nat}, OwnR w0 B 9 u2 ((D i).map Value.string) → (∀ g, u2.ownBlock = some g → v.ownBlock ≠ some g) → OwnR w' B 9 u2 ((D i).map Value.string) ∧ ∀ g, u2.ownBlock = some g → v'.ownBlock ≠ some g := fun {u2 i} k1 k2 => by
    refine ⟨OwnR.kept k1 hk (fun g hg' e => k2 g hg' e.symm), fun g hg' e => ?_⟩
    rcases hv with h | h
    · rw [h] at e; exact k2 g hg' e
    · rw [h] at e
      injection e with e
      have := (OwnR.lt k1 hg').2
      omega
  by_cases hik : i < vs.length
  · rw [List.getElem?_append_left hik] at h2
    obtain ⟨k1, k2⟩ := h.rows i u2 h2
    exact key k1 k2
  · have hi9 := (List.getElem?_eq_some_iff.1 h2).1
    rw [List.length_append] at hi9
    obtain rfl : i = vs.length := by simp at hi9; omega
    rw [List.getElem?_append_right (by omega), Nat.sub_self] at h2
    obtain rfl : u = u2 := Option.some.inj h2
    exact key hu hub
theorem RowsT.kept {T : Nat → Prop} {w w1 : World} {B : Nat} {v : Value} {vs : List Value} {D : Nat → List ByteArray} (h : RowsT w B v vs D) (hk : Kept T w w1) (hT : ∀ p, B ≤ p → ¬ T p) : RowsT w1 B v vs D :=
  ⟨Kept.owns h.own hk (fun g hg => hT g (h.own.lt g hg).1), fun i u hu => ⟨OwnR.kept (h.rows i u hu).1 hk (fun g hg => hT g (OwnR.lt (h.rows i u hu).1 hg).1), (h.rows i u hu).2⟩⟩
theorem info_rowS : (Tryd.prog.info? 40).map (fun i => (i.zero, i.size, i.bytes)) = some (some (.slice none 0 0), 1, 24) := by kernel_rfl
end Go.Proofs.YtcldioneiededaaDoor
