/- Whatever is done with a pool, what holds of it goes on. -/
import Derived.Test.YtloaekdijpcmiaaDoorPoolM
import Derived.Test.YtloaekdijpcmiaaDoorSlotsP
namespace Go.Proofs.YtloaekdijpcmiaaDoor
open Go.ChangeShapes Go.WideShapes Go.ChangeAt Go.RowKit
set_option linter.unusedVariables false
def TotPost (B b gs cs gl cl ns nl : Nat) (w : World) (e : Ending) (w' : World) : Prop :=
  (∃ r, e = .returned r) ∧ ∃ S L, S.length = ns ∧ L.length = nl ∧ Pool.Inv S L ∧ PoolAt w' B b gs cs gl cl S L ∧ Below B w w' ∧ w.heap.size ≤ w'.heap.size
theorem in_range {S : List Int} {y : Int} (h : ¬ (y < 0 ∨ 0 ≤ y ∧ (S.length : Int) ≤ y)) : ∃ (d : Nat) (x : Int), y = d ∧ S[d]? = some x := by
  refine ⟨y.toNat, S[y.toNat]'(by omega), by omega, List.getElem?_eq_getElem _⟩
theorem fill_tot {w : World} {B b gs cs gl cl : Nat} {S L : List Int} (h : PoolAt w B b gs cs gl cl S L) (hI : Pool.Inv S L) (hS : S.length ≤ 100) (y : Int) :
    Calls Tryd.prog 29 #[.pointer (some ⟨b, 0, none⟩), iv y] w (TotPost B b gs cs gl cl S.length L.length w) := by
  by_cases hr : y < 0 ∨ 0 ≤ y ∧ (S.length : Int) ≤ y
  · exact (fill_no1 h hS y hr).mono (by rintro e w' ⟨rfl, rfl⟩; exact ⟨⟨_, rfl⟩, S, L, rfl, rfl, hI, h, Below.refl _ _, Nat.le_refl _⟩)
  · obtain ⟨d, x, rfl, hx⟩ := in_range hr
    by_cases h3 : x = 3
    · subst h3
      exact (fill_yes h hS d hx).mono (by rintro e w' ⟨rfl, h1, h2, h3⟩; exact ⟨⟨_, rfl⟩, _, L, by simp [Pool.fill], rfl, hI.fill hx, h1, h2, Nat.le_of_eq h3.1⟩)
    · exact (fill_no2 h hS d x hx h3).mono (by rintro e w' ⟨rfl, rfl⟩; exact ⟨⟨_, rfl⟩, S, L, rfl, rfl, hI, h, Below.refl _ _, Nat.le_refl _⟩)
theorem fresh_tot {w : World} {B b gs cs gl cl : Nat} {S L : List Int} (h : PoolAt w B b gs cs gl cl S L) (hI : Pool.Inv S L) (hS : S.length ≤ 100) (hL : L.length ≤ 100) (y : Int) :
    Calls Tryd.prog 30 #[.pointer (some ⟨b, 0, none⟩), iv y] w (TotPost B b gs cs gl cl S.length L.length w) := by
  by_cases hr : y < 0 ∨ 0 ≤ y ∧ (S.length : Int) ≤ y
  · exact (fresh_no1 h hS y hr).mono (by rintro e w' ⟨rfl, rfl⟩; exact ⟨⟨_, rfl⟩, S, L, rfl, rfl, hI, h, Below.refl _ _, Nat.le_refl _⟩)
  · obtain ⟨d, x, rfl, hx⟩ := in_range hr
    by_cases h3 : x = 2
    · subst h3
      exact (fresh_yes h hS hL d hx).mono (by rintro e w' ⟨rfl, h1, h2, h3⟩; exact ⟨⟨_, rfl⟩, _, _, (Pool.fresh_len S L d).1, (Pool.fresh_len S L d).2, hI.fresh hx, h1, h2, Nat.le_of_eq h3.1⟩)
    · exact (fresh_no2 h hS d x hx h3).mono (by rintro e w' ⟨rfl, rfl⟩; exact ⟨⟨_, rfl⟩, S, L, rfl, rfl, hI, h, Below.refl _ _, Nat.le_refl _⟩)
theorem fail_tot {w : World} {B b gs cs gl cl : Nat} {S L : List Int} (h : PoolAt w B b gs cs gl cl S L) (hI : Pool.Inv S L) (hS : S.length ≤ 100) (hL : L.length ≤ 100) (y : Int) :
    Calls Tryd.prog 28 #[.pointer (some ⟨b, 0, none⟩), iv y] w (TotPost B b gs cs gl cl S.length L.length w) := by
  by_cases hr : y < 0 ∨ 0 ≤ y ∧ (S.length : Int) ≤ y
  · exact (fail_no1 h hS y hr).mono (by rintro e w' ⟨rfl, rfl⟩; exact ⟨⟨_, rfl⟩, S, L, rfl, rfl, hI, h, Below.refl _ _, Nat.le_refl _⟩)
  · obtain ⟨d, x, rfl, hx⟩ := in_range hr
    by_cases h3 : x = 2
    · subst h3
      exact (fail_no2 h hS d hx).mono (by rintro e w' ⟨rfl, rfl⟩; exact ⟨⟨_, rfl⟩, S, L, rfl, rfl, hI, h, Below.refl _ _, Nat.le_refl _⟩)
    · exact (fail_yes h hS hL d x hx h3).mono (by rintro e w' ⟨rfl, h1, h2, h3⟩; exact ⟨⟨_, rfl⟩, _, _, (Pool.fail_len S L d).1, (Pool.fail_len S L d).2, hI.fail hx ‹_›, h1, h2, Nat.le_of_eq h3.1⟩)
end Go.Proofs.YtloaekdijpcmiaaDoor
