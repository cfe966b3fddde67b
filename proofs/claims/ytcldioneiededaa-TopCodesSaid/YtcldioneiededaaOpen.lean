/- The walk of paritysame.Ints at two lists that are the same. · A list of strings in memory (for a seat without wire). · The walk of paritysame.Texts at two lists that are the same. · An argument that is a list of strings, opened. -/
import Derived.Test.YtcldioneiededaaBase
import Derived.Deep.LoopGhost
import Derived.SliceStrings
namespace Go.Proofs.Ytcldioneiededaa
open Go.ChangeShapes Go.WideShapes Go.ChangeAt Go.RowKit
set_option linter.unusedVariables false
theorem Row.get {w : World} {v : Value} {xs : List Value} (h : Row w v xs) :
    ∃ p cap, v = .slice p xs.length cap ∧ xs.length ≤ 9223372036854775807 ∧ cap ≤ 9223372036854775807 ∧ ∀ j, j < xs.length → ∃ g off, p = some ⟨g, off, none⟩ ∧ w.cell? ⟨g, off + j, none⟩ = xs[j]? ∧ g < w.heap.size := by
  obtain ⟨p, cap, hv, h1, h2, h3⟩ := h.shape
  unfold maxLen at h2
  refine ⟨p, cap, hv, by omega, by omega, fun j hj => ?_⟩
  obtain ⟨g, off, hp, h4⟩ := h3 (by omega)
  refine ⟨g, off, hp, h4 j hj, ?_⟩
  have h5 := h4 j hj
  rw [List.getElem?_eq_getElem hj] at h5
  exact World.block_lt_of_cell? w _ h5
theorem Row.drewN {w : World} {v : Value} {xs : List Value} (h : Row w v xs) (n : Nat) : Row (w.drewN n) v xs := h.below (bdrew (Below.refl _ _) n)
def SameRel (n : Nat) (w : World) (gk : Nat) (i : Value) (wr : World) : Prop := ∃ k nd : Nat, k + gk = n ∧ i = iv k ∧ wr = w.drewN nd
end Go.Proofs.Ytcldioneiededaa
namespace Go.Proofs.Ytcldioneiededaa
open Go.ChangeShapes Go.WideShapes Go.ChangeAt Go.RowKit
/-- a list of strings in memory -/
def Strs (w : World) (v : Value) (ss : List ByteArray) : Prop := Row w v (ss.map Value.string)
theorem Strs.get {w : World} {v : Value} {ss : List ByteArray} (h : Strs w v ss) :
    ∃ p cap, v = .slice p ss.length cap ∧ ss.length ≤ 9223372036854775807 ∧ ∀ (j : Nat) (s : ByteArray), ss[j]? = some s → ∃ g off, p = some ⟨g, off, none⟩ ∧ w.cell? ⟨g, off + j, none⟩ = some (.string s) ∧ g < w.heap.size := by
  obtain ⟨p, cap, hv, h1, h2, h3⟩ := Row.shape h
  rw [List.length_map] at *
  unfold maxLen at h2
  refine ⟨p, cap, hv, by omega, fun j s hj => ?_⟩
  have hjl := (List.getElem?_eq_some_iff.1 hj).1
  obtain ⟨g, off, hp, h4⟩ := h3 (by omega)
  have h5 := h4 j hjl
  rw [List.getElem?_map, hj] at h5
  exact ⟨g, off, hp, h5, World.block_lt_of_cell? w _ h5⟩
theorem Strs.below {w w' : World} {v : Value} {ss : List ByteArray} (h : Strs w v ss) (hb : Below w.heap.size w w') : Strs w' v ss := Row.below h hb
end Go.Proofs.Ytcldioneiededaa
namespace Go.Proofs.Ytcldioneiededaa
open Go.ChangeShapes Go.WideShapes Go.ChangeAt Go.RowKit
set_option linter.unusedVariables false
set_option maxRecDepth 100000 in
theorem texts_eq (xs : List ByteArray) (va vb : Value) (w : World) (ha : Strs w va xs) (hb : Strs w vb xs) :
    Calls Try.prog 22 #[va, vb] w fun e w' => e = .returned (.bool true) ∧ ∃ n, w.drewN n = w' := by
  obtain ⟨pa, ca, rfl, ha1, ha3⟩ := ha.get
  obtain ⟨pb, cb, rfl, hb1, hb3⟩ := hb.get
  have Ha := Lib.hid ha3
  have Hb := Lib.hid hb3
  clear ha hb ha3 hb3
  generalize hn : xs.length = n at *
  have Hn := Lib.hid hn
  clear hn
  go_enter Try.func22, Try.ntmps22
  go_wp2_with fail
  go_loopg [5] n (fun gk i wr => SameRel n w gk i wr)
  case atStart => exact ⟨0, 0, by omega, rfl, rfl⟩
  case round =>
    obtain ⟨k, nd, hk, rfl, rfl⟩ := hrel
    have Hk := Lib.hid hk
    by_cases hlt : k < n
    · obtain ⟨x, hx⟩ : ∃ x, xs[k]? = some x := ⟨xs[k]'(by rw [Hn.out]; exact hlt), List.getElem?_eq_getElem _⟩
      obtain ⟨g, o, rfl, c1, _⟩ := Ha.out k x hx
      obtain ⟨g', o', rfl, c2, _⟩ := Hb.out k x hx
      clear hk hx
      go_wp2_with fail
      go_quiet (fail)
      go_wp2_with fail
      go_roundg (gk - 1)
      case measure => have := Hk.out; omega
      case rel => exact ⟨k + 1, _, by have := Hk.out; omega, by go_num, rfl⟩
    · obtain rfl : k = n := by omega
      clear hk
      go_wp2_with fail
      go_ret
      exact ⟨rfl, _, rfl⟩
end Go.Proofs.Ytcldioneiededaa
namespace Go.Proofs.Ytcldioneiededaa
open Go.ChangeShapes Go.WideShapes Go.ChangeAt Go.RowKit
theorem open_strs {H : Type} {enc : TypeId × Value → H} {P : Program} {W : World} {t e : TypeId} {v : Value} {d : DataW H} {ps : List MemPlace} {base : Nat}
    (ht : P.underlying t = some (.slice e)) (he : P.underlying e = some .string) (ce : P.cellsOf e = 1)
    (hv : Value.okWide P W .any base t v) (h : DataW.Trod enc P W 0 (fun _ => true) true t v d ps) : ∃ ss, Strs W v ss ∧ ∀ s ∈ ss, s.size ≤ maxLen := by
  obtain ⟨a0, len0, cap0, rfl⟩ := okWide_slice ht hv
  obtain ⟨fuel, hf⟩ := h
  rcases open_strings ht he ce hf with ⟨hcs, _⟩ | ⟨a, len, cap, ss, hcs, _, hl, hm, hz, _, hcell, hws⟩
  · simp only [Value.cells, List.cons.injEq, and_true] at hcs
    rw [hcs]
    exact ⟨[], ⟨none, 0, rfl, Nat.le_refl _, Nat.zero_le _, fun _ => rfl, fun h => by simp at h⟩, by intro s hs; cases hs⟩
  · simp only [Value.cells, List.cons.injEq, and_true] at hcs
    rw [hcs]
    have hlen : len ≤ ss.length := by rw [hz]; split <;> omega
    have ht' : ((ss.take len).map Value.string).length = len := by rw [List.length_map, List.length_take]; omega
    refine ⟨ss.take len, ⟨some a, cap, by rw [ht'], by rw [ht']; exact hl, hm, (fun h => by cases h), fun h0 => ?_⟩, fun s hs => hws s (List.mem_of_mem_take hs)⟩
    rw [ht'] at h0
    have h1 := hcell 0 (by omega)
    obtain ⟨g, off, spot⟩ := a
    have hspot : spot = none := by simpa [Addr.add] using World.cell?_spot h1
    subst hspot
    refine ⟨g, off, rfl, fun j hj => ?_⟩
    rw [ht'] at hj
    rw [← Go.WideShapes.add_plain, hcell j (by omega), List.getElem?_map, List.getElem?_take, if_pos hj, List.getElem?_eq_getElem (by omega)]
    simp [List.getD, List.getElem?_eq_getElem (show j < ss.length by omega)]
end Go.Proofs.Ytcldioneiededaa
