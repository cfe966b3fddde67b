/- Lists of ints in a block of the object's own, from whatever cell on: cut ahead, with a number more, one taken out, one put in. -/
import Derived.Test.YtcldioneiededaaShelf
import Derived.Test.YtcldioneiededaaPoolP
import Derived.Deep.RegionLaw
import Derived.Lib.SliceRun
import Derived.Deep.Upon
namespace Go.Proofs.Ytcldioneiededaa
open Go.ChangeShapes Go.WideShapes Go.ChangeAt Go.RowKit
set_option linter.unusedVariables false
/-- v is a list xs of one-cell values of type E, in a block from 'base' on that nobody else has -/
def OwnR (w : World) (base : Nat) (E : TypeId) (v : Value) (xs : List Value) : Prop :=
  (v = .slice none 0 0 ∧ xs = []) ∨
  ∃ g o cap cur, v = .slice (some ⟨g, o, none⟩) xs.length cap ∧ base ≤ g ∧ w.heap[g]? = some (.cells cur E (0, 0)) ∧ xs.length ≤ cap ∧ cap ≤ maxLen ∧ o + cap ≤ cur.size ∧ ∀ j, j < xs.length → cur[o + j]? = xs[j]?
namespace OwnR
variable {w w1 : World} {base : Nat} {E : TypeId} {v : Value} {xs : List Value}
theorem nil (w : World) (base : Nat) (E : TypeId) : OwnR w base E (.slice none 0 0) [] := .inl ⟨rfl, rfl⟩
theorem of_owns {n : Nat} (h : w.ownsRow base E 1 v n xs) : OwnR w base E v xs := by
  have hl : xs.length = n := by simpa using h.1
  rcases h.2 with ⟨hv, h0⟩ | ⟨g, cap, cur, rfl, hb, hg, hnc, hcm, hcs, ht⟩
  · exact .inl ⟨hv, List.eq_nil_of_length_eq_zero (by omega)⟩
  · refine .inr ⟨g, 0, cap, cur, by rw [hl], hb, hg, by omega, hcm, by omega, fun j hj => ?_⟩
    rw [← ht, Nat.zero_add, List.getElem?_take, if_pos (by omega), Array.getElem?_toList]
theorem row (h : OwnR w base E v xs) : Row w v xs := by
  rcases h with ⟨rfl, rfl⟩ | ⟨g, o, cap, cur, rfl, hb, hg, h1, h2, h3, h4⟩
  · exact ⟨none, 0, rfl, Nat.le_refl _, Nat.zero_le _, fun _ => rfl, fun h => by simp at h⟩
  · refine ⟨some ⟨g, o, none⟩, cap, rfl, h1, h2, (fun h => by cases h), fun _ => ⟨g, o, rfl, fun j hj => ?_⟩⟩
    rw [cell_of_row _ _ _ _ _ _ hg]; exact h4 j hj
theorem shape (h : OwnR w base E v xs) : ∃ p cap, v = .slice p xs.length cap ∧ xs.length ≤ cap ∧ cap ≤ maxLen := by
  rcases h with ⟨rfl, rfl⟩ | ⟨g, o, cap, cur, rfl, hb, hg, h1, h2, h3, h4⟩
  · exact ⟨none, 0, rfl, Nat.le_refl _, Nat.zero_le _⟩
  · exact ⟨_, cap, rfl, h1, h2⟩
theorem slice (h : OwnR w base E v xs) : ∃ p m c, v = .slice p m c := by
  obtain ⟨p, c, h1, _⟩ := h.shape
  exact ⟨p, _, c, h1⟩
theorem kept {F : Nat → Prop} (h : OwnR w base E v xs) (hk : Kept F w w1) (hn : ∀ g, v.ownBlock = some g → ¬ F g) : OwnR w1 base E v xs := by
  rcases h with h | ⟨g, o, cap, cur, rfl, hb, hg, h1, h2, h3, h4⟩
  · exact .inl h
  · exact .inr ⟨g, o, cap, cur, rfl, hb, hk.heap hg (hn g rfl), h1, h2, h3, h4⟩
theorem below (h : OwnR w base E v xs) (hb : Below w.heap.size w w1) : OwnR w1 base E v xs := by
  rcases h with h | ⟨g, o, cap, cur, rfl, hb', hg, h1, h2, h3, h4⟩
  · exact .inl h
  · exact .inr ⟨g, o, cap, cur, rfl, hb', by rw [hb.block g (Array.getElem?_eq_some_iff.1 hg).1]; exact hg, h1, h2, h3, h4⟩
theorem lt (h : OwnR w base E v xs) {g : Nat} (hv : v.ownBlock = some g) : base ≤ g ∧ g < w.heap.size := by
  rcases h with ⟨rfl, _⟩ | ⟨g', o, cap, cur, rfl, hb, hg, _⟩
  · cases hv
  · simp only [Value.ownBlock, Option.some.injEq] at hv
    subst hv
    exact ⟨hb, (Array.getElem?_eq_some_iff.1 hg).1⟩
theorem mono {base' : Nat} (h : OwnR w base E v xs) (hb : base' ≤ base) : OwnR w base' E v xs := by
  rcases h with h | ⟨g, o, cap, cur, rfl, hb', h1⟩
  · exact .inl h
  · exact .inr ⟨g, o, cap, cur, rfl, by omega, h1⟩
theorem at0 (h : OwnR w base E v xs) (h0 : 0 < xs.length) : ∃ g o cap, v = .slice (some ⟨g, o, none⟩) xs.length cap ∧ base ≤ g ∧ g < w.heap.size ∧ xs.length ≤ cap ∧ cap ≤ maxLen ∧ (∀ j, j < xs.length → w.cell? ⟨g, o + j, none⟩ = xs[j]?) ∧ ∀ j, w.frozen? ⟨g, j, none⟩ = false := by
  rcases h with ⟨rfl, rfl⟩ | ⟨g, o, cap, cur, rfl, hb, hg, h1, h2, h3, h4⟩
  · simp at h0
  · exact ⟨g, o, cap, rfl, hb, (Array.getElem?_eq_some_iff.1 hg).1, h1, h2, fun j hj => by rw [cell_of_row _ _ _ _ _ _ hg]; exact h4 j hj, fun j => frozen_of_row _ _ _ _ _ hg⟩
/-- the list without its first -/
theorem tail {g o n cap : Nat} {x : Value} (h : OwnR w base E (.slice (some ⟨g, o, none⟩) n cap) (x :: xs)) : OwnR w base E (.slice (some ⟨g, o + 1, none⟩) (n - 1) (cap - 1)) xs ∧ OwnR w base E (.slice (some ⟨g, o, none⟩) xs.length cap) (x :: xs).dropLast := by
  rcases h with ⟨hv, hx⟩ | ⟨g', o', cap', cur, hv, hb, hg, h1, h2, h3, h4⟩
  · cases hv
  · cases hv
    rw [List.length_cons] at h1
    refine ⟨.inr ⟨g, o + 1, cap - 1, cur, by rw [List.length_cons]; rfl, hb, hg, by omega, by omega, by omega, fun j hj => ?_⟩, .inr ⟨g, o, cap, cur, by simp, hb, hg, by simp; omega, h2, h3, fun j hj => ?_⟩⟩
    · have := h4 (j + 1) (by rw [List.length_cons]; omega)
      rw [show o + 1 + j = o + (j + 1) by omega, this]; rfl
    · rw [List.length_dropLast, List.length_cons] at hj
      rw [h4 j (by rw [List.length_cons]; omega), List.getElem?_dropLast, if_pos (by rw [List.length_cons]; omega)]
end OwnR
theorem shape_of {w : World} {g : Nat} {cur : Array Value} {E : TypeId} (h : w.heap[g]? = some (.cells cur E (0, 0))) : w.shape? g = some (E, cur.size) := by unfold World.shape?; rw [h]
theorem setCells_at (g : Nat) (e : TypeId) : ∀ (vs : List Value) (o : Nat) (w : World) (cur : Array Value), w.heap[g]? = some (.cells cur e (0, 0)) →
    ∃ cur', (w.setCells g o vs).heap[g]? = some (.cells cur' e (0, 0)) ∧ cur'.size = cur.size ∧ ∀ j, j < cur.size → cur'[j]? = if o ≤ j ∧ j < o + vs.length then vs[j - o]? else cur[j]?
  | [], o, w, cur, h => ⟨cur, h, rfl, fun j _ => by rw [if_neg (by simp)]⟩
  | v :: vs, o, w, cur, h => by
    obtain ⟨cur', h1, h2, h3⟩ := setCells_at g e vs (o + 1) (w.setCell ⟨g, o, none⟩ v) (cur.setIfInBounds o v) (heap_setCell_same _ _ _ _ _ _ h)
    refine ⟨cur', h1, by rw [h2]; simp, fun j hj => ?_⟩
    rw [h3 j (by simpa using hj)]
    by_cases c : j = o
    · subst c
      rw [if_neg (by omega), if_pos (by simp), Array.getElem?_setIfInBounds_self_of_lt hj]
      simp
    · by_cases c2 : o ≤ j ∧ j < o + (v :: vs).length
      · rw [List.length_cons] at c2
        rw [if_pos (by omega), if_pos (by rw [List.length_cons]; omega), show j - o = (j - (o + 1)) + 1 by omega, List.getElem?_cons_succ]
      · rw [List.length_cons] at c2
        rw [if_neg (by omega), if_neg (by rw [List.length_cons]; omega), Array.getElem?_setIfInBounds_ne (by omega)]
theorem kept_setCells (w : World) (g o : Nat) (vs : List Value) : Kept (· = g) w (w.setCells g o vs) := by
  have h := (World.keptBut_setCells g (may := fun _ => True) vs o w (fun _ _ => trivial))
  refine ⟨h.1, ?_, h.2.1, ?_, fun k hk hne => World.heap_setCells_other _ _ _ _ hk (fun e => hne e)⟩
  · induction vs generalizing o w with
    | nil => rfl
    | cons v vs ih => exact (ih (w.setCell ⟨g, o, none⟩ v) (o + 1) (World.keptBut_setCells g vs (o + 1) _ (fun _ _ => trivial))).trans rfl
  · induction vs generalizing o w with
    | nil => exact Nat.le_refl _
    | cons v vs ih => exact Nat.le_trans (by simp [World.setCell]) (ih (w.setCell ⟨g, o, none⟩ v) (o + 1) (World.keptBut_setCells g vs (o + 1) _ (fun _ _ => trivial)))
/-- of the blocks that there were at most v's own has turned; v' lies in that block or in a new one -/
def Turned (w w' : World) (v v' : Value) : Prop := Kept (fun k => some k = v.ownBlock) w w' ∧ (v'.ownBlock = v.ownBlock ∨ ∀ g, v'.ownBlock = some g → w.heap.size ≤ g)
end Go.Proofs.Ytcldioneiededaa
