/- An owned list of strings: a store into it; its marks. -/
import Derived.Test.YtcldioneiededaaDoorSlI
namespace Go.Proofs.YtcldioneiededaaDoor
open Go.ChangeShapes Go.WideShapes Go.ChangeAt Go.RowKit
theorem OwnR.fz {w : World} {base : Nat} {E : TypeId} {v : Value} {xs : List Value} (h : OwnR w base E v xs) {g : Nat} (hg : v.ownBlock = some g) (k : Nat) : w.frozen? ⟨g, k, none⟩ = false := by
  rcases h with ⟨rfl, _⟩ | ⟨g', o, cap, cur, rfl, _, hgb, _⟩
  · cases hg
  · obtain rfl := Option.some.inj hg
    exact frozen_of_row _ _ _ _ _ hgb
theorem OwnR.setStr {w : World} {base g o n cap k : Nat} {l : List ByteArray} (h : OwnR w base 9 (.slice (some ⟨g, o, none⟩) n cap) (l.map Value.string)) (hk : k < l.length) (s : ByteArray) :
    OwnR (w.setCell ⟨g, o + k, none⟩ (.string s)) base 9 (.slice (some ⟨g, o, none⟩) n cap) ((l.set k s).map Value.string) := by
  rcases h with ⟨hn, hx⟩ | ⟨g', o', cap', cur, hv', hb', hg', h1, h2, h3, h4⟩
  · cases hn
  · rw [List.length_map] at h1 h4 hv'
    injection hv' with e1 e2 e3
    injection e1 with e1
    injection e1 with e4 e5
    subst e4 e5 e3
    refine .inr ⟨g, o, cap, cur.setIfInBounds (o + k) (.string s), by rw [List.length_map, List.length_set, e2], hb', heap_setCell_same _ _ _ _ _ _ hg', by rw [List.length_map, List.length_set]; exact h1, h2, by rw [Array.size_setIfInBounds]; exact h3, fun j hj => ?_⟩
    rw [List.length_map, List.length_set] at hj
    rw [List.map_set, List.getElem?_set, List.length_map]
    by_cases e : k = j
    · subst e
      rw [Array.getElem?_setIfInBounds_self_of_lt (by omega), if_pos rfl, if_pos hk]
    · rw [Array.getElem?_setIfInBounds_ne (by omega), if_neg e]
      exact h4 j hj
end Go.Proofs.YtcldioneiededaaDoor
