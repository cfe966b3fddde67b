/- The program's pool of disks does as the plain lists say; the walk of the law PoolPlays. -/
import Derived.Test.YtloaekdijpcmiaaDoorPoolD
import Derived.Test.YtloaekdijpcmiaaDoorPoolT
import Derived.Test.YtloaekdijpcmiaaDoorSame
import Derived.Test.YtloaekdijpcmiaaDoorInts
import Derived.Deep.DeepCutAuto
import Derived.Deep.CutBlock
import Derived.Deep.RegionWith
namespace Go.Proofs.YtloaekdijpcmiaaDoor
open Go.ChangeShapes Go.WideShapes Go.ChangeAt Go.RowKit
set_option linter.unusedVariables false
def PDoPost (b gs cs gl cl : Nat) (B : Nat) (r : (Int × Int) × (List Int × List Int)) (w : World) (e : Ending) (w' : World) : Prop :=
  e = .returned (.tuple #[iv r.1.1, errV r.1.2]) ∧ PoolAt w' B b gs cs gl cl r.2.1 r.2.2 ∧ Kept (fun k => k = gs ∨ k = gl) w w'
def PFillPost (b gs cs gl cl : Nat) (B : Nat) (r : (Int × Int) × (List Int × List Int)) (w : World) (e : Ending) (w' : World) : Prop :=
  e = .returned (errV r.1.2) ∧ r.1.1 = 0 ∧ PoolAt w' B b gs cs gl cl r.2.1 r.2.2 ∧ Kept (fun k => k = gs ∨ k = gl) w w'
theorem in_range' {S : List Int} {d : Int} (h : ¬ (d < 0 ∨ 0 ≤ d ∧ (S.length : Int) ≤ d)) : ∃ (j : Nat) (x : Int), d = j ∧ S[j]? = some x := in_range h
theorem pfail_any {w : World} {B b gs cs gl cl : Nat} {S L : List Int} (h : PoolAt w B b gs cs gl cl S L) (hS : S.length ≤ 100) (hL : L.length ≤ 100) (d : Int) :
    Calls Tryd.prog 28 #[.pointer (some ⟨b, 0, none⟩), iv d] w (PDoPost b gs cs gl cl B (Pool.play S L 0 d) w) := by
  by_cases hr : d < 0 ∨ 0 ≤ d ∧ (S.length : Int) ≤ d
  · refine (fail_no1 h hS d hr).mono ?_
    rintro e w' ⟨rfl, rfl⟩
    rw [PDoPost, play_out (by omega)]
    exact ⟨rfl, h, Kept.refl _ _⟩
  · obtain ⟨j, x, rfl, hx⟩ := in_range hr
    have hp := play_in (L := L) (what := 0) hx
    rw [if_neg (by decide), if_neg (by decide)] at hp
    by_cases h2 : x = 2
    · subst h2
      refine (fail_no2 h hS j hx).mono ?_
      rintro e w' ⟨rfl, rfl⟩
      rw [PDoPost, hp, if_pos rfl]
      exact ⟨rfl, h, Kept.refl _ _⟩
    · refine (fail_yes h hS hL j x hx h2).mono ?_
      rintro e w' ⟨rfl, h1, _, _, h4⟩
      rw [PDoPost, hp, if_neg h2]
      exact ⟨rfl, h1, h4⟩
theorem pfresh_any {w : World} {B b gs cs gl cl : Nat} {S L : List Int} (h : PoolAt w B b gs cs gl cl S L) (hS : S.length ≤ 100) (hL : L.length ≤ 100) (d : Int) :
    Calls Tryd.prog 30 #[.pointer (some ⟨b, 0, none⟩), iv d] w (PDoPost b gs cs gl cl B (Pool.play S L 2 d) w) := by
  by_cases hr : d < 0 ∨ 0 ≤ d ∧ (S.length : Int) ≤ d
  · refine (fresh_no1 h hS d hr).mono ?_
    rintro e w' ⟨rfl, rfl⟩
    rw [PDoPost, play_out (by omega)]
    exact ⟨rfl, h, Kept.refl _ _⟩
  · obtain ⟨j, x, rfl, hx⟩ := in_range hr
    have hp := play_in (L := L) (what := 2) hx
    rw [if_neg (by decide), if_pos rfl] at hp
    by_cases h2 : x = 2
    · subst h2
      refine (fresh_yes h hS hL j hx).mono ?_
      rintro e w' ⟨rfl, h1, _, _, h4⟩
      rw [PDoPost, hp, if_pos rfl]
      exact ⟨rfl, h1, h4⟩
    · refine (fresh_no2 h hS j x hx h2).mono ?_
      rintro e w' ⟨rfl, rfl⟩
      rw [PDoPost, hp, if_neg h2]
      exact ⟨rfl, h, Kept.refl _ _⟩
theorem pfill_any {w : World} {B b gs cs gl cl : Nat} {S L : List Int} (h : PoolAt w B b gs cs gl cl S L) (hS : S.length ≤ 100) (d : Int) :
    Calls Tryd.prog 29 #[.pointer (some ⟨b, 0, none⟩), iv d] w (PFillPost b gs cs gl cl B (Pool.play S L 1 d) w) := by
  by_cases hr : d < 0 ∨ 0 ≤ d ∧ (S.length : Int) ≤ d
  · refine (fill_no1 h hS d hr).mono ?_
    rintro e w' ⟨rfl, rfl⟩
    rw [PFillPost, play_out (by omega)]
    exact ⟨rfl, rfl, h, Kept.refl _ _⟩
  · obtain ⟨j, x, rfl, hx⟩ := in_range hr
    have hp := play_in (L := L) (what := 1) hx
    rw [if_pos rfl] at hp
    by_cases h3 : x = 3
    · subst h3
      refine (fill_yes h hS j hx).mono ?_
      rintro e w' ⟨rfl, h1, _, _, h4⟩
      rw [PFillPost, hp, if_pos rfl]
      exact ⟨rfl, rfl, h1, h4⟩
    · refine (fill_no2 h hS j x hx h3).mono ?_
      rintro e w' ⟨rfl, rfl⟩
      rw [PFillPost, hp, if_neg h3]
      exact ⟨rfl, rfl, h, Kept.refl _ _⟩
theorem play_len {S L : List Int} {what : Nat} {d : Int} : (Pool.play S L what d).2.1.length = S.length ∧ (Pool.play S L what d).2.2.length = L.length := by
  unfold Pool.play
  simp only
  repeat' split
  all_goals first | exact ⟨rfl, rfl⟩ | (refine ⟨?_, rfl⟩; simp [Pool.fill]) | exact ⟨(Pool.fresh_len S L _).1, (Pool.fresh_len S L _).2⟩ | exact ⟨(Pool.fail_len S L _).1, (Pool.fail_len S L _).2⟩
theorem PoolAt.kept {w w' : World} {B b gs cs gl cl : Nat} {S L : List Int} {T : Nat → Prop} (h : PoolAt w B b gs cs gl cl S L) (hk : Kept T w w') (h1 : ¬ T b) (h2 : ¬ T gs) (h3 : ¬ T gl) : PoolAt w' B b gs cs gl cl S L :=
  { h with blk := hk.heap h.blk h1, own1 := Kept.owns h.own1 hk (fun g hg => by simp only [Value.ownBlock, Option.some.injEq] at hg; subst hg; exact h2), own2 := Kept.owns h.own2 hk (fun g hg => by simp only [Value.ownBlock, Option.some.injEq] at hg; subst hg; exact h3) }
theorem RPoolAt.kept {w w' : World} {B b gs cs gl cl : Nat} {S L : List Int} {T : Nat → Prop} (h : RPoolAt w B b gs cs gl cl S L) (hk : Kept T w w') (h1 : ¬ T b) (h2 : ¬ T gs) (h3 : ¬ T gl) : RPoolAt w' B b gs cs gl cl S L :=
  { h with blk := hk.heap h.blk h1, own1 := Kept.owns h.own1 hk (fun g hg => by simp only [Value.ownBlock, Option.some.injEq] at hg; subst hg; exact h2), own2 := Kept.owns h.own2 hk (fun g hg => by simp only [Value.ownBlock, Option.some.injEq] at hg; subst hg; exact h3) }
theorem PoolAt.lts {w : World} {B b gs cs gl cl : Nat} {S L : List Int} (h : PoolAt w B b gs cs gl cl S L) : b < w.heap.size ∧ gs < w.heap.size ∧ gl < w.heap.size :=
  ⟨(Array.getElem?_eq_some_iff.1 h.blk).1, (h.own1.lt gs rfl).2, (h.own2.lt gl rfl).2⟩
theorem RPoolAt.lts {w : World} {B b gs cs gl cl : Nat} {S L : List Int} (h : RPoolAt w B b gs cs gl cl S L) : b < w.heap.size ∧ gs < w.heap.size ∧ gl < w.heap.size :=
  ⟨(Array.getElem?_eq_some_iff.1 h.blk).1, (h.own1.lt gs rfl).2, (h.own2.lt gl rfl).2⟩
end Go.Proofs.YtloaekdijpcmiaaDoor
