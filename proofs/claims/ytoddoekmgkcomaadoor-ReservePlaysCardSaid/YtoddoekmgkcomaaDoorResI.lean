/- What holds of a reservation whatever hosts ask: plain lists. -/
import Derived.Test.YtoddoekmgkcomaaDoorResP
namespace Go.Proofs.YtoddoekmgkcomaaDoor
namespace Res
structure Inv (s : St) : Prop where
  len : s.1.length = 10
  z : s.1.getD 0 0 = 0
  h : (s.2.1 = 0 ∧ s.2.2 = 0) ∨ (1 ≤ s.2.1 ∧ s.2.1 ≤ 9 ∧ 1 ≤ s.2.2 ∧ s.2.2 ≤ 4 ∧ key s s.2.1 ≠ 0)
theorem Inv.zero : Inv zero := ⟨rfl, rfl, .inl ⟨rfl, rfl⟩⟩
theorem getD_set (l : List Int) (i j : Nat) (x : Int) (h : i < l.length) : (l.set i x).getD j 0 = if i = j then x else l.getD j 0 := by
  rw [List.getD_eq_getElem?_getD, List.getD_eq_getElem?_getD, List.getElem?_set]
  by_cases e : i = j
  · subst e; rw [if_pos rfl, if_pos rfl, if_pos h]; rfl
  · rw [if_neg e, if_neg e]
theorem host_in' {h : Int} (hh : hostB h = true) : 1 ≤ h ∧ h ≤ 9 := by simpa [hostB] using hh
theorem key_in {k : Int} (hk : keyB k = true) : 1 ≤ k ∧ k ≤ 1000000 := by simpa [keyB] using hk
theorem kind_in {k : Int} (hk : kindB k = true) : 1 ≤ k ∧ k ≤ 4 := by simpa [kindB] using hk
theorem Inv.register {s : St} (I : Inv s) (h k : Int) : Inv (register s h k).2 := by
  unfold Res.register
  split
  · exact I
  · rename_i c
    simp only [Bool.or_eq_true, Bool.not_eq_true', not_or, Bool.not_eq_false] at c
    have h1 := host_in' c.1
    have k1 := key_in c.2
    have hl : h.toNat < s.1.length := by rw [I.len]; omega
    refine ⟨by simp [I.len], ?_, ?_⟩
    · show (s.1.set h.toNat k).getD 0 0 = 0
      rw [getD_set _ _ _ _ hl, if_neg (by omega)]; exact I.z
    · rcases I.h with c | ⟨c1, c2, c3, c4, c5⟩
      · exact .inl c
      · refine .inr ⟨c1, c2, c3, c4, ?_⟩
        show (s.1.set h.toNat k).getD s.2.1.toNat 0 ≠ 0
        rw [getD_set _ _ _ _ hl]
        split
        · omega
        · exact c5
theorem Inv.out {s : St} (I : Inv s) {i : Nat} (h1 : 1 ≤ i) (h9 : i < 10) : Inv (out s i) := by
  have hl : i < s.1.length := by rw [I.len]; omega
  refine ⟨by rw [out_len]; exact I.len, ?_, ?_⟩
  · show (s.1.set i 0).getD 0 0 = 0
    rw [getD_set _ _ _ _ hl, if_neg (by omega)]; exact I.z
  · show ((if s.2.1 == (i : Int) then ((0 : Int), (0 : Int)) else s.2).1 = 0 ∧ _) ∨ _
    by_cases c : s.2.1 = i
    · refine .inl ?_
      unfold Res.out
      simp [c]
    · have e : (Res.out s i).2 = s.2 := by unfold Res.out; simp [c]
      rw [← show (Res.out s i).2 = (if s.2.1 == (i : Int) then ((0 : Int), (0 : Int)) else s.2) from rfl, e]
      rcases I.h with d | ⟨c1, c2, c3, c4, c5⟩
      · exact .inl d
      · refine .inr ⟨c1, c2, c3, c4, ?_⟩
        show (s.1.set i 0).getD s.2.1.toNat 0 ≠ 0
        rw [getD_set _ _ _ _ hl, if_neg (by omega)]; exact c5
theorem Inv.leave {s : St} (I : Inv s) (h : Int) : Inv (leave s h).2 := by
  unfold Res.leave
  split
  · exact I
  · rename_i c
    simp only [Bool.not_eq_true', Bool.not_eq_false] at c
    have h1 := host_in' c
    split
    · exact I
    · exact I.out (by omega) (by omega)
theorem Inv.hold {s : St} (I : Inv s) (h k x : Int) : Inv (hold s h k x).2 := by
  unfold Res.hold
  split
  · exact I
  · rename_i c
    simp only [Bool.or_eq_true, Bool.not_eq_true', not_or, Bool.not_eq_false] at c
    have h1 := host_in' c.1
    have k1 := kind_in c.2
    split
    · exact I
    · rename_i d
      split
      · exact I
      · refine ⟨I.len, I.z, .inr ⟨h1.1, h1.2, k1.1, k1.2, ?_⟩⟩
        simp only [denied, Bool.or_eq_true, beq_iff_eq, not_or] at d
        exact d.1
theorem Inv.free {s : St} (I : Inv s) (h k x : Int) : Inv (free s h k x).2 := by
  unfold Res.free
  repeat' split
  all_goals first | exact I | exact ⟨I.len, I.z, .inl ⟨rfl, rfl⟩⟩
theorem Inv.go {s : St} (I : Inv s) {x : Int} (hx : 1 ≤ x) : ∀ i, i ≤ 10 → Inv (go s x i).1 ∧ ((go s x i).1.2 = s.2 ∨ (go s x i).1.2 = (0, 0) ∧ s.2.1 ≠ 0)
  | 0, _ => ⟨I, .inl rfl⟩
  | i + 1, hi => by
    have ih := Inv.go I hx i (by omega)
    unfold Res.go
    simp only
    split
    · rename_i c
      have c' := beq_iff_eq.1 c
      have h1 : 1 ≤ i := by
        rcases Nat.eq_zero_or_pos i with e | e
        · subst e; rw [I.z] at c'; omega
        · exact e
      refine ⟨ih.1.out h1 (by omega), ?_⟩
      by_cases d : (Res.go s x i).1.2.1 = i
      · refine .inr ⟨by unfold Res.out; simp [d], ?_⟩
        rcases ih.2 with e | e
        · rw [← e, d]; omega
        · exact e.2
      · have e : (Res.out (Res.go s x i).1 i).2 = (Res.go s x i).1.2 := by unfold Res.out; simp [d]
        rw [e]; exact ih.2
    · exact ih
theorem Inv.preempt {s : St} (I : Inv s) (h k x : Int) : Inv (preempt s h k x).2 := by
  unfold Res.preempt
  split
  · exact I
  · rename_i c
    simp only [Bool.or_eq_true, Bool.not_eq_true', not_or, Bool.not_eq_false] at c
    have h1 := host_in' c.1
    have k1 := key_in c.2
    have hg := I.go k1.1 10 (Nat.le_refl _)
    split
    · exact I
    · simp only
      split
      · exact hg.1
      · split
        · rename_i d
          simp only [Bool.and_eq_true, Bool.not_eq_true', Bool.and_eq_false_iff, beq_eq_false_iff_ne, bne_iff_ne] at d
          have hs : (Res.go s x 10).1.2 ≠ s.2 := by intro e; rw [e] at d; simp at d
          rcases hg.2 with e | ⟨e, f⟩
          · exact absurd e hs
          · rcases I.h with g | ⟨g1, g2, g3, g4, g5⟩
            · exact absurd g.1 f
            · exact ⟨hg.1.len, hg.1.z, .inr ⟨h1.1, h1.2, g3, g4, d.2⟩⟩
        · exact hg.1
/-- how many of the first i hosts may write -/
def wcnt (s : St) : Nat → Nat
  | 0 => 0
  | i + 1 => wcnt s i + if may s ((i : Int) + 1) true then 1 else 0
theorem wcnt_le (s : St) : ∀ i, wcnt s i ≤ i
  | 0 => Nat.le_refl _
  | i + 1 => by have := wcnt_le s i; unfold wcnt; split <;> omega
theorem wcnt_one {s : St} (h1 : 1 ≤ s.2.1) (hk : s.2.2 = 1 ∨ s.2.2 = 2) : ∀ i : Nat, wcnt s i = if s.2.1 ≤ i then 1 else 0
  | 0 => by rw [if_neg (by omega)]; rfl
  | i + 1 => by
    have hm : may s ((i : Int) + 1) true = decide (s.2.1 = (i : Int) + 1) := by
      unfold may
      rcases hk with e | e <;> simp [e, BEq.beq]
    rw [wcnt, wcnt_one h1 hk i, hm]
    by_cases c : s.2.1 ≤ i
    · rw [if_pos c, if_neg (by simp; omega), if_pos (by omega)]
    · rw [if_neg c]
      by_cases d : s.2.1 = (i : Int) + 1
      · rw [if_pos (by simp [d]), if_pos (by omega)]
      · rw [if_neg (by simp [d]), if_neg (by omega)]
theorem wcnt_all {s : St} (hk : s.2.2 = 0) : ∀ i : Nat, wcnt s i = i
  | 0 => rfl
  | i + 1 => by
    have hm : may s ((i : Int) + 1) true = true := by unfold may; simp [hk]
    rw [wcnt, wcnt_all hk i, hm]; rfl
theorem may_mono (s : St) (k : Int) (h : may s k true = true) : may s k false = true := by
  unfold may at *
  repeat' split
  all_goals simp_all
theorem may_holder {s : St} (I : Inv s) (h : s.2.1 ≠ 0) : may s s.2.1 true = true := by
  rcases I.h with c | ⟨c1, c2, c3, c4, c5⟩
  · exact absurd c.1 h
  · have : s.2.2 = 1 ∨ s.2.2 = 2 ∨ s.2.2 = 3 ∨ s.2.2 = 4 := by omega
    unfold may
    rcases this with e | e | e | e <;> simp [e, c5]
theorem may_members {s : St} (I : Inv s) (k : Int) (h : 3 ≤ s.2.2) : may s k true = (key s k != 0) := by
  rcases I.h with c | ⟨c1, c2, c3, c4, c5⟩
  · omega
  · have : s.2.2 = 3 ∨ s.2.2 = 4 := by omega
    unfold may
    rcases this with e | e <;> simp [e]
end Res
end Go.Proofs.YtoddoekmgkcomaaDoor
