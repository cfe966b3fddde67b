/- The walk of paritysame.Ints at two lists that are the same. · A list of strings in memory (for a seat without wire). · The walk of paritysame.Texts at two lists that are the same. · An argument that is a list of strings, opened. · An owned list of strings: a store into it; its marks. · Lists of strings that are collected. -/
import Derived.Test.YtcldioneiededaaDoorBase
import Derived.Deep.LoopGhost
import Derived.SliceStrings
import Derived.Test.YtcldioneiededaaDoorSlI
namespace Go.Proofs.YtcldioneiededaaDoor
open Go.ChangeShapes Go.WideShapes Go.ChangeAt Go.RowKit
set_option linter.unusedVariables false
theorem Row.get {w : World} {v : Value} {xs : List Value} (h : Row w v xs) :
    ∃ p cap, v = .slice p xs.length cap ∧ xs.length ≤ 9223372036854775807 ∧ cap ≤ 9223372036854775807 ∧ ∀ j, j < xs.length → ∃ g off, p = some ⟨g, off, none⟩ ∧ w.cell? ⟨g, off + j, none⟩ = xs[j]? ∧ g < w.heap.size := by
  obtain ⟨p, cap, hv, h1, h2, h3⟩ := h.shape
  unfold maxLen at h2
  refine ⟨p, cap, hv, by omega, by omega, fun j hj => ?_⟩
  obtain ⟨g, off, hp, h4⟩ := h3 (by omega)
  refine ⟨g, off, hp, h4 j hj, ?_⟩
  have h5 := h4 j hj
  rw [List.getElem?_eq_getElem hj] at h5
  exact World.block_lt_of_cell? w _ h5
theorem Row.drewN {w : World} {v : Value} {xs : List Value} (h : Row w v xs) (n : Nat) : Row (w.drewN n) v xs := h.below (bdrew (Below.refl _ _) n)
def SameRel (n : Nat) (w : World) (gk : Nat) (i : Value) (wr : World) : Prop := ∃ k nd : Nat, k + gk = n ∧ i = iv k ∧ wr = w.drewN nd
end Go.Proofs.YtcldioneiededaaDoor
namespace Go.Proofs.YtcldioneiededaaDoor
open Go.ChangeShapes Go.WideShapes Go.ChangeAt Go.RowKit
/-- a list of strings in memory -/
def Strs (w : World) (v : Value) (ss : List ByteArray) : Prop := Row w v (ss.map Value.string)
theorem Strs.get {w : World} {v : Value} {ss : List ByteArray} (h : Strs w v ss) :
    ∃ p cap, v = .slice p ss.length cap ∧ ss.length ≤ 9223372036854775807 ∧ ∀ (j : Nat) (s : ByteArray), ss[j]? = some s → ∃ g off, p = some ⟨g, off, none⟩ ∧ w.cell? ⟨g, off + j, none⟩ = some (.string s) ∧ g < w.heap.size := by
  obtain ⟨p, cap, hv, h1, h2, h3⟩ := Row.shape h
  rw [List.length_map] at *
  unfold maxLen at h2
  refine ⟨p, cap, hv, by omega, fun j s hj => ?_⟩
  have hjl := (List.getElem?_eq_some_iff.1 hj).1
  obtain ⟨g, off, hp, h4⟩ := h3 (by omega)
  have h5 := h4 j hjl
  rw [List.getElem?_map, hj] at h5
  exact ⟨g, off, hp, h5, World.block_lt_of_cell? w _ h5⟩
theorem Strs.below {w w' : World} {v : Value} {ss : List ByteArray} (h : Strs w v ss) (hb : Below w.heap.size w w') : Strs w' v ss := Row.below h hb
end Go.Proofs.YtcldioneiededaaDoor
namespace Go.Proofs.YtcldioneiededaaDoor
open Go.ChangeShapes Go.WideShapes Go.ChangeAt Go.RowKit
set_option linter.unusedVariables false
set_option maxRecDepth 100000 in
theorem texts_eq (xs : List ByteArray) (va vb : Value) (w : World) (ha : Strs w va xs) (hb : Strs w vb xs) :
    Calls Tryd.prog 22 #[va, vb] w fun e w' => e = .returned (.bool true) ∧ ∃ n, w.drewN n = w' := by
  obtain ⟨pa, ca, rfl, ha1, ha3⟩ := ha.get
  obtain ⟨pb, cb, rfl, hb1, hb3⟩ := hb.get
  have Ha := Lib.hid ha3
  have Hb := Lib.hid hb3
  clear ha hb ha3 hb3
  generalize hn : xs.length = n at *
  have Hn := Lib.hid hn
  clear hn
  go_enter Tryd.func22, Tryd.ntmps22
  go_wp2_with fail
  go_loopg [5] n (fun gk i wr => SameRel n w gk i wr)
  case atStart => exact ⟨0, 0, by omega, rfl, rfl⟩
  case round =>
    obtain ⟨k, nd, hk, rfl, rfl⟩ := hrel
    have Hk := Lib.hid hk
    by_cases hlt : k < n
    · obtain ⟨x, hx⟩ : ∃ x, xs[k]? = some x := ⟨xs[k]'(by rw [Hn.out]; exact hlt), List.getElem?_eq_getElem _⟩
      obtain ⟨g, o, rfl, c1, _⟩ := Ha.out k x hx
      obtain ⟨g', o', rfl, c2, _⟩ := Hb.out k x hx
      clear hk hx
      go_wp2_with fail
      go_quiet (fail)
      go_wp2_with fail
      go_roundg (gk - 1)
      case measure => have := Hk.out; omega
      case rel => exact ⟨k + 1, _, by have := Hk.out; omega, by go_num, rfl⟩
    · obtain rfl : k = n := by omega
      clear hk
      go_wp2_with fail
      go_ret
      exact ⟨rfl, _, rfl⟩
end Go.Proofs.YtcldioneiededaaDoor
namespace Go.Proofs.YtcldioneiededaaDoor
open Go.ChangeShapes Go.WideShapes Go.ChangeAt Go.RowKit
theorem open_strs {H : Type} {enc : TypeId × Value → H} {P : Program} {W : World} {t e : TypeId} {v : Value} {d : DataW H} {ps : List MemPlace} {base : Nat}
    (ht : P.underlying t = some (.slice e)) (he : P.underlying e = some .string) (ce : P.cellsOf e = 1)
    (hv : Value.okWide P W .any base t v) (h : DataW.Trod enc P W 0 (fun _ => true) true t v d ps) : ∃ ss, Strs W v ss ∧ ∀ s ∈ ss, s.size ≤ maxLen := by
  obtain ⟨a0, len0, cap0, rfl⟩ := okWide_slice ht hv
  obtain ⟨fuel, hf⟩ := h
  rcases open_strings ht he ce hf with ⟨hcs, _⟩ | ⟨a, len, cap, ss, hcs, _, hl, hm, hz, _, hcell, hws⟩
  · simp only [Value.cells, List.cons.injEq, and_true] at hcs
    rw [hcs]
    exact ⟨[], ⟨none, 0, rfl, Nat.le_refl _, Nat.zero_le _, fun _ => rfl, fun h => by simp at h⟩, by intro s hs; cases hs⟩
  · simp only [Value.cells, List.cons.injEq, and_true] at hcs
    rw [hcs]
    have hlen : len ≤ ss.length := by rw [hz]; split <;> omega
    have ht' : ((ss.take len).map Value.string).length = len := by rw [List.length_map, List.length_take]; omega
    refine ⟨ss.take len, ⟨some a, cap, by rw [ht'], by rw [ht']; exact hl, hm, (fun h => by cases h), fun h0 => ?_⟩, fun s hs => hws s (List.mem_of_mem_take hs)⟩
    rw [ht'] at h0
    have h1 := hcell 0 (by omega)
    obtain ⟨g, off, spot⟩ := a
    have hspot : spot = none := by simpa [Addr.add] using World.cell?_spot h1
    subst hspot
    refine ⟨g, off, rfl, fun j hj => ?_⟩
    rw [ht'] at hj
    rw [← Go.WideShapes.add_plain, hcell j (by omega), List.getElem?_map, List.getElem?_take, if_pos hj, List.getElem?_eq_getElem (by omega)]
    simp [List.getD, List.getElem?_eq_getElem (show j < ss.length by omega)]
end Go.Proofs.YtcldioneiededaaDoor
namespace Go.Proofs.YtcldioneiededaaDoor
open Go.ChangeShapes Go.WideShapes Go.ChangeAt Go.RowKit
theorem OwnR.fz {w : World} {base : Nat} {E : TypeId} {v : Value} {xs : List Value} (h : OwnR w base E v xs) {g : Nat} (hg : v.ownBlock = some g) (k : Nat) : w.frozen? ⟨g, k, none⟩ = false := by
  rcases h with ⟨rfl, _⟩ | ⟨g', o, cap, cur, rfl, _, hgb, _⟩
  · cases hg
  · obtain rfl := Option.some.inj hg
    exact frozen_of_row _ _ _ _ _ hgb
theorem OwnR.setStr {w : World} {base g o n cap k : Nat} {l : List ByteArray} (h : OwnR w base 9 (.slice (some ⟨g, o, none⟩) n cap) (l.map Value.string)) (hk : k < l.length) (s : ByteArray) :
    OwnR (w.setCell ⟨g, o + k, none⟩ (.string s)) base 9 (.slice (some ⟨g, o, none⟩) n cap) ((l.set k s).map Value.string) := by
  rcases h with ⟨hn, hx⟩ | ⟨g', o', cap', cur, hv', hb', hg', h1, h2, h3, h4⟩
  · cases hn
  · rw [List.length_map] at h1 h4 hv'
    injection hv' with e1 e2 e3
    injection e1 with e1
    injection e1 with e4 e5
    subst e4 e5 e3
    refine .inr ⟨g, o, cap, cur.setIfInBounds (o + k) (.string s), by rw [List.length_map, List.length_set, e2], hb', heap_setCell_same _ _ _ _ _ _ hg', by rw [List.length_map, List.length_set]; exact h1, h2, by rw [Array.size_setIfInBounds]; exact h3, fun j hj => ?_⟩
    rw [List.length_map, List.length_set] at hj
    rw [List.map_set, List.getElem?_set, List.length_map]
    by_cases e : k = j
    · subst e
      rw [Array.getElem?_setIfInBounds_self_of_lt (by omega), if_pos rfl, if_pos hk]
    · rw [Array.getElem?_setIfInBounds_ne (by omega), if_neg e]
      exact h4 j hj
end Go.Proofs.YtcldioneiededaaDoor
namespace Go.Proofs.YtcldioneiededaaDoor
open Go.ChangeShapes Go.WideShapes Go.ChangeAt Go.RowKit
set_option linter.unusedVariables false
/-- lists of strings that are collected -/
structure RowsT (w : World) (B : Nat) (v : Value) (vs : List Value) (D : (Nat → List ByteArray)) : Prop where
  own : w.ownsRow B 40 1 v vs.length vs
  rows : ∀ (i : Nat) u, vs[i]? = some u → OwnR w B 9 u ((D i).map Value.string) ∧ ∀ g, u.ownBlock = some g → v.ownBlock ≠ some g
theorem RowsT.nil (w : World) (B : Nat) (D : (Nat → List ByteArray)) : RowsT w B (.slice none 0 0) [] D := ⟨World.ownsRow_nil _ _ _ _, fun i u hu => by simp at hu⟩
theorem RowsT.below {w w1 : World} {B : Nat} {v : Value} {vs : List Value} {D : (Nat → List ByteArray)} (h : RowsT w B v vs D) (hb : Below w.heap.size w w1) : RowsT w1 B v vs D :=
  ⟨owns_below h.own hb, fun i u hu => ⟨OwnR.below (h.rows i u hu).1 hb, (h.rows i u hu).2⟩⟩
theorem RowsT.push {w0 w' : World} {B : Nat} {v v' u : Value} {vs : List Value} {D : (Nat → List ByteArray)} (h : RowsT w0 B v vs D) (hu : OwnR w0 B 9 u ((D vs.length).map Value.string))
    (hub : ∀ g, u.ownBlock = some g → v.ownBlock ≠ some g) (hown : w'.ownsRow B 40 1 v' (vs.length + 1) (vs ++ [u])) (hg : w0.grownBy w' v.ownBlock) (hv : v'.ownBlock = v.ownBlock ∨ v'.ownBlock = some (w0.heap.size + 1)) :
    RowsT w' B v' (vs ++ [u]) D := by
  have hk := Kept.grown hg
  refine ⟨by rw [List.length_append]; exact hown, fun i u2 h2 => ?_⟩
  have key : ∀ {u2 : Value} {i : Nat}, OwnR w0 B 9 u2 ((D i).map Value.string) → (∀ g, u2.ownBlock = some g → v.ownBlock ≠ some g) → OwnR w' B 9 u2 ((D i).map Value.string) ∧ ∀ g, u2.ownBlock = some g → v'.ownBlock ≠ some g := fun {u2 i} k1 k2 => by
    refine ⟨OwnR.kept k1 hk (fun g hg' e => k2 g hg' e.symm), fun g hg' e => ?_⟩
    rcases hv with h | h
    · rw [h] at e; exact k2 g hg' e
    · rw [h] at e
      injection e with e
      have := (OwnR.lt k1 hg').2
      omega
  by_cases hik : i < vs.length
  · rw [List.getElem?_append_left hik] at h2
    obtain ⟨k1, k2⟩ := h.rows i u2 h2
    exact key k1 k2
  · have hi9 := (List.getElem?_eq_some_iff.1 h2).1
    rw [List.length_append] at hi9
    obtain rfl : i = vs.length := by simp at hi9; omega
    rw [List.getElem?_append_right (by omega), Nat.sub_self] at h2
    obtain rfl : u = u2 := Option.some.inj h2
    exact key hu hub
theorem RowsT.kept {T : Nat → Prop} {w w1 : World} {B : Nat} {v : Value} {vs : List Value} {D : Nat → List ByteArray} (h : RowsT w B v vs D) (hk : Kept T w w1) (hT : ∀ p, B ≤ p → ¬ T p) : RowsT w1 B v vs D :=
  ⟨Kept.owns h.own hk (fun g hg => hT g (h.own.lt g hg).1), fun i u hu => ⟨OwnR.kept (h.rows i u hu).1 hk (fun g hg => hT g (OwnR.lt (h.rows i u hu).1 hg).1), (h.rows i u hu).2⟩⟩
theorem info_rowS : (Tryd.prog.info? 40).map (fun i => (i.zero, i.size, i.bytes)) = some (some (.slice none 0 0), 1, 24) := by kernel_rfl
end Go.Proofs.YtcldioneiededaaDoor
