/- The walk of paritysame.Ints at two lists that are the same. -/
import Derived.Test.YtkkfpdjhnffpbaaDoorBase
import Derived.Deep.LoopGhost
namespace Go.Proofs.YtkkfpdjhnffpbaaDoor
open Go.ChangeShapes Go.WideShapes Go.ChangeAt Go.RowKit
set_option linter.unusedVariables false
theorem Row.get {w : World} {v : Value} {xs : List Value} (h : Row w v xs) :
    ∃ p cap, v = .slice p xs.length cap ∧ xs.length ≤ 9223372036854775807 ∧ cap ≤ 9223372036854775807 ∧ ∀ j, j < xs.length → ∃ g off, p = some ⟨g, off, none⟩ ∧ w.cell? ⟨g, off + j, none⟩ = xs[j]? ∧ g < w.heap.size := by
  obtain ⟨p, cap, hv, h1, h2, h3⟩ := h.shape
  unfold maxLen at h2
  refine ⟨p, cap, hv, by omega, by omega, fun j hj => ?_⟩
  obtain ⟨g, off, hp, h4⟩ := h3 (by omega)
  refine ⟨g, off, hp, h4 j hj, ?_⟩
  have h5 := h4 j hj
  rw [List.getElem?_eq_getElem hj] at h5
  exact World.block_lt_of_cell? w _ h5
theorem Row.drewN {w : World} {v : Value} {xs : List Value} (h : Row w v xs) (n : Nat) : Row (w.drewN n) v xs := h.below (bdrew (Below.refl _ _) n)
def SameRel (n : Nat) (w : World) (gk : Nat) (i : Value) (wr : World) : Prop := ∃ k nd : Nat, k + gk = n ∧ i = iv k ∧ wr = w.drewN nd
set_option maxRecDepth 100000 in
theorem ints_eq (xs : List Int) (va vb : Value) (w : World) (ha : Row w va (xs.map iv)) (hb : Row w vb (xs.map iv)) :
    Calls Tryd.prog 19 #[va, vb] w fun e w' => e = .returned (.bool true) ∧ ∃ n, w.drewN n = w' := by
  obtain ⟨pa, ca, rfl, ha1, ha2, ha3⟩ := ha.get
  obtain ⟨pb, cb, rfl, hb1, hb2, hb3⟩ := hb.get
  rw [List.length_map] at *
  have Ha := Lib.hid ha3
  have Hb := Lib.hid hb3
  clear ha hb ha3 hb3
  generalize hn : xs.length = n at *
  have Hn := Lib.hid hn
  clear hn
  go_enter Tryd.func19, Tryd.ntmps19
  go_wp2_with fail
  go_loopg [5] n (fun gk i wr => SameRel n w gk i wr)
  case atStart => exact ⟨0, 0, by omega, rfl, rfl⟩
  case round =>
    obtain ⟨k, nd, hk, rfl, rfl⟩ := hrel
    have Hk := Lib.hid hk
    by_cases hlt : k < n
    · obtain ⟨g, o, rfl, hc, _⟩ := Ha.out k hlt
      obtain ⟨g', o', rfl, hc', _⟩ := Hb.out k hlt
      obtain ⟨x, hx⟩ : ∃ x, xs[k]? = some x := ⟨xs[k]'(by rw [Hn.out]; exact hlt), List.getElem?_eq_getElem _⟩
      rw [List.getElem?_map, hx] at hc hc'
      have c1 : w.cell? ⟨g, o + k, none⟩ = some (iv x) := hc
      have c2 : w.cell? ⟨g', o' + k, none⟩ = some (iv x) := hc'
      clear hc hc' hk hx
      go_wp2_with fail
      go_quiet (fail)
      go_wp2_with fail
      go_roundg (gk - 1)
      case measure => have := Hk.out; omega
      case rel => exact ⟨k + 1, _, by have := Hk.out; omega, by go_num, rfl⟩
    · obtain rfl : k = n := by omega
      clear hk
      go_wp2_with fail
      go_ret
      exact ⟨rfl, _, rfl⟩
end Go.Proofs.YtkkfpdjhnffpbaaDoor
