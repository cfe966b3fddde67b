/- The walk of paritysame.Spots at two lists that are the same. -/
import Derived.Test.YtcldioneiededaaDoorScrA
import Derived.Laws.StructEq
namespace Go.Proofs.YtcldioneiededaaDoor
open Go.ChangeShapes Go.WideShapes Go.ChangeAt Go.RowKit
set_option linter.unusedVariables false
theorem spc_len (l : List (Nat × Nat)) : (spc l).length = l.length * 2 := by
  induction l with
  | nil => rfl
  | cons x l ih => show ([iv x.1, iv x.2] ++ spc l).length = _; rw [List.length_append, ih]; simp; omega
theorem spc_at : ∀ (l : List (Nat × Nat)) (j : Nat) (x : Nat × Nat), l[j]? = some x → (spc l)[j * 2]? = some (iv x.1) ∧ (spc l)[j * 2 + 1]? = some (iv x.2)
  | [], j, x, h => by simp at h
  | y :: l, 0, x, h => by
    simp at h
    subst h
    exact ⟨rfl, rfl⟩
  | y :: l, j + 1, x, h => by
    simp at h
    have := spc_at l j x h
    have e : spc (y :: l) = [iv y.1, iv y.2] ++ spc l := rfl
    rw [e, List.getElem?_append_right (by simp; omega), List.getElem?_append_right (by simp; omega)]
    have e1 : (j + 1) * 2 - [iv y.1, iv y.2].length = j * 2 := by simp; omega
    have e2 : (j + 1) * 2 + 1 - [iv y.1, iv y.2].length = j * 2 + 1 := by simp; omega
    rw [e1, e2]; exact this
def RowSp (w : World) (v : Value) (l : List (Nat × Nat)) : Prop :=
  ∃ p cap, v = .slice p l.length cap ∧ l.length ≤ 9223372036854775807 ∧ ∀ (j : Nat) (x : Nat × Nat), l[j]? = some x → ∃ g off, p = some ⟨g, off, none⟩ ∧ g < w.heap.size ∧ w.cell? ⟨g, off + j * 2, none⟩ = some (iv x.1) ∧ w.cell? ⟨g, off + j * 2 + 1, none⟩ = some (iv x.2)
theorem rowSp_of {w : World} {base n : Nat} {v : Value} {l : List (Nat × Nat)} (h : w.ownsRow base 29 2 v n (spc l)) (hn : l.length = n) (h1 : n ≤ 1000) : RowSp w v l := by
  rcases h.2 with ⟨rfl, h0⟩ | ⟨g, cap, cur, rfl, hb, hg, hnc, hcm, hcs, ht⟩
  · have hnil : l = [] := List.eq_nil_of_length_eq_zero (by omega)
    subst hnil
    exact ⟨none, 0, rfl, by simp, fun j x hj => by simp at hj⟩
  · refine ⟨some ⟨g, 0, none⟩, cap, by rw [hn], by omega, fun j x hj => ?_⟩
    have hjl := (List.getElem?_eq_some_iff.1 hj).1
    have hc := spc_at l j x hj
    refine ⟨g, 0, rfl, (Array.getElem?_eq_some_iff.1 hg).1, ?_, ?_⟩
    · rw [Nat.zero_add, h.cellAt _ (by omega)]; exact hc.1
    · rw [Nat.zero_add, h.cellAt _ (by omega)]; exact hc.2
set_option maxRecDepth 100000 in
theorem spots_eq (l : List (Nat × Nat)) (va vb : Value) (w : World) (ha : RowSp w va l) (hb : RowSp w vb l) :
    Calls Tryd.prog 27 #[va, vb] w fun e w' => e = .returned (.bool true) ∧ Below w.heap.size w w' := by
  obtain ⟨pa, ca, rfl, ha1, ha3⟩ := ha
  obtain ⟨pb, cb, rfl, hb1, hb3⟩ := hb
  have Ha := Lib.hid ha3
  have Hb := Lib.hid hb3
  clear ha3 hb3
  obtain ⟨n, hn⟩ : ∃ n, n = l.length := ⟨_, rfl⟩
  rw [← hn] at ha1 hb1 ⊢
  have Hn := Lib.hid hn
  clear hn
  go_enter Tryd.func27, Tryd.ntmps27
  go_wp2_with fail
  go_loopg [5] n (fun gk i wr => ∃ k nd : Nat, k + gk = n ∧ i = iv k ∧ wr = w.drewN nd)
  case atStart => exact ⟨0, 0, by omega, rfl, rfl⟩
  case round =>
    obtain ⟨k, nd, hk, rfl, rfl⟩ := hrel
    have Hk := Lib.hid hk
    by_cases hlt : k < n
    · obtain ⟨x, hx⟩ : ∃ x, l[k]? = some x := ⟨l[k]'(by rw [← Hn.out]; exact hlt), List.getElem?_eq_getElem _⟩
      obtain ⟨g, o, rfl, hg, a0, a1⟩ := Ha.out k x hx
      obtain ⟨g', o', rfl, hg', b0, b1⟩ := Hb.out k x hx
      clear hk hx
      go_wp2_with fail
      go_quiet (fail)
      go_wp2_with fail
      go_roundg (gk - 1)
      case measure => have := Hk.out; omega
      case rel => exact ⟨k + 1, _, by have := Hk.out; omega, by go_num, rfl⟩
    · obtain rfl : k = n := by omega
      clear hk
      go_wp2_with fail
      go_ret
      exact ⟨rfl, bdrew (Below.refl _ _) _⟩
end Go.Proofs.YtcldioneiededaaDoor
