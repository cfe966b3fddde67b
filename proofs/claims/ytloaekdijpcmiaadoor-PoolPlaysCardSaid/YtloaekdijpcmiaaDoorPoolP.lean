/- What a pool of disks does, in plain lists: no program in sight. -/
import Derived.Test.YtloaekdijpcmiaaDoorSlices
import Derived.Test.YtloaekdijpcmiaaDoorKept
namespace Go.Proofs.YtloaekdijpcmiaaDoor
namespace Pool
/-- a disk fails: states, slots, what is told -/
def fail (S L : List Int) (j : Nat) : List Int × List Int × Int :=
  let S1 := S.set j 2
  let slot := idx L j
  if slot < 0 then (S1, L, -1) else
  let spare := idx S1 1
  (if spare < 0 then S1 else S1.set spare.toNat 3, L.set slot.toNat spare, spare)
/-- a disk is fresh -/
def fresh (S L : List Int) (j : Nat) : List Int × List Int × Int :=
  let slot := idx L (-1)
  if slot < 0 then (S.set j 1, L, slot) else ((S.set j 1).set j 3, L.set slot.toNat j, slot)
def fill (S : List Int) (j : Nat) : List Int := S.set j 0
def newS (works k : Nat) : List Int := (List.range k).map fun i => if i < works then 0 else 1
def newL (works k : Nat) : List Int := (List.range (min k works)).map fun i : Nat => (i : Int)
theorem newS_len (works k : Nat) : (newS works k).length = k := by simp [newS]
theorem newL_len (works k : Nat) : (newL works k).length = min k works := by simp [newL]
theorem newS_succ (works k : Nat) : newS works (k + 1) = newS works k ++ [if k < works then 0 else 1] := by
  unfold newS; rw [List.range_succ, List.map_append]; rfl
theorem newL_yes {works k : Nat} (h : k < works) : newL works (k + 1) = newL works k ++ [(k : Int)] := by
  unfold newL; rw [Nat.min_eq_left (by omega), Nat.min_eq_left (by omega), List.range_succ, List.map_append]; rfl
theorem newL_no {works k : Nat} (h : ¬ k < works) : newL works (k + 1) = newL works k := by
  unfold newL; rw [Nat.min_eq_right (by omega), Nat.min_eq_right (by omega)]
end Pool
theorem idx_bd (xs : List Int) (x : Int) : -1 ≤ idx xs x ∧ idx xs x < xs.length := by
  unfold idx; split <;> omega
end Go.Proofs.YtloaekdijpcmiaaDoor
