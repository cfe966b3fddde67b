/- The walk of code.Right; two lists of texts of one's own held side by side. -/
import Derived.Test.YtcldioneiededaaCodG
import Derived.Deep.RegionHeld3
namespace Go.Proofs.Ytcldioneiededaa
open Go.ChangeShapes Go.WideShapes Go.ChangeAt Go.RowKit
set_option linter.unusedVariables false
def rightF (k m : Int) (ps : List ByteArray) : Int := if codF k m ≠ 0 then codF k m else if (ps.length : Int) ≠ k + m then 3 else blkF ps
def rightB (k m : Int) (ps : List ByteArray) : Bool := decide (rightF k m ps = 0 ∧ encR k.toNat m.toNat (ps.take k.toNat) = ps.drop k.toNat)
theorem Strs.drop {w : World} {g o n c k : Nat} {ls : List ByteArray} (h : Strs w (.slice (some ⟨g, o, none⟩) n c) ls) (hk : k ≤ ls.length) : Strs w (.slice (some ⟨g, o + k, none⟩) (n - k) (c - k)) (ls.drop k) := by
  obtain ⟨p, cap, hv, h1, h2, h3, h4⟩ := h
  injection hv with e1 e2 e3
  subst e1 e3
  rw [List.length_map] at *
  refine ⟨some ⟨g, o + k, none⟩, c - k, by rw [List.length_map, List.length_drop, e2], by rw [List.length_map, List.length_drop]; omega, by omega, (fun h => by cases h), fun h0 => ?_⟩
  rw [List.length_map, List.length_drop] at h0
  obtain ⟨g', o', hp, hc⟩ := h4 (by omega)
  injection hp with hp
  injection hp with e4 e5
  subst e4 e5
  refine ⟨g, o + k, rfl, fun j hj => ?_⟩
  rw [List.length_map, List.length_drop] at hj
  rw [Nat.add_assoc, hc (k + j) (by omega), List.getElem?_map, List.getElem?_map, List.getElem?_drop]
def RightPost (k m : Int) (ps : List ByteArray) (w : World) (e : Ending) (w' : World) : Prop := e = .returned (.tuple #[.bool (rightB k m ps), errV (rightF k m ps)]) ∧ Below w.heap.size w w'
end Go.Proofs.Ytcldioneiededaa
