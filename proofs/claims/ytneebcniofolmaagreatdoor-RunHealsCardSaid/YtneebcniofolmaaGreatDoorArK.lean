/- The array of disks, in plain: as long as no three are lost, each block is as it was written last. -/
import Derived.Test.YtneebcniofolmaaGreatDoorScrP
namespace Go.Proofs.YtneebcniofolmaaGreatDoor
set_option linter.unusedVariables false
namespace Ar
theorem S.many_le {s t : S} (hn : t.n = s.n) {row : Nat} (h : ∀ e, e < s.n → t.lost e row = true → s.lost e row = true) : t.many row ≤ s.many row := by
  have : ∀ k, k ≤ s.n → t.manyTo row k ≤ s.manyTo row k := by
    intro k
    induction k with
    | zero => intro _; exact Nat.le_refl _
    | succ k ih =>
      intro hk
      have ih := ih (by omega)
      rw [S.manyTo_succ, S.manyTo_succ]
      cases h1 : t.lost k row with
      | true => rw [h k (by omega) h1, if_pos rfl, if_pos rfl]; omega
      | false => rw [if_neg (by decide)]; split <;> omega
  show t.manyTo row t.n ≤ s.manyTo row s.n
  rw [hn]; exact this s.n (Nat.le_refl _)
theorem S.many_one {s t : S} (hn : t.n = s.n) {row d : Nat} (h : ∀ e, e < s.n → e ≠ d → t.lost e row = true → s.lost e row = true) : t.many row ≤ s.many row + 1 := by
  have : ∀ k, k ≤ s.n → t.manyTo row k ≤ s.manyTo row k + (if d < k then 1 else 0) := by
    intro k
    induction k with
    | zero => intro _; simp [S.manyTo]
    | succ k ih =>
      intro hk
      have ih := ih (by omega)
      rw [S.manyTo_succ, S.manyTo_succ]
      by_cases hd : k = d
      · subst hd
        rw [if_neg (show ¬ k < k by omega)] at ih
        rw [if_pos (show k < k + 1 by omega)]
        split <;> split <;> omega
      · have e : (if d < k + 1 then 1 else 0) = if d < k then 1 else 0 := by
          by_cases h2 : d < k
          · rw [if_pos h2, if_pos (by omega)]
          · rw [if_neg h2, if_neg (by omega)]
        rw [e]
        cases h1 : t.lost k row with
        | true => rw [h k (by omega) hd h1, if_pos rfl, if_pos rfl]; omega
        | false => rw [if_neg (by decide)]; split <;> omega
  have h1 := this s.n (Nat.le_refl _)
  show t.manyTo row t.n ≤ s.manyTo row s.n + 1
  rw [hn]
  split at h1 <;> omega
/-- no three are lost; the cells are the blocks -/
structure Kp (n rows size : Nat) (s : S) (cells : List ByteArray) : Prop where
  good : s.Good
  en : s.n = n
  er : s.rows = rows
  ez : s.size = size
  two : ∀ row, row < rows → s.many row ≤ 2
  len : cells.length = rows * (n - 2)
  same : ∀ y, y < rows * (n - 2) → cells.getD y ⟨#[]⟩ = s.blk y
theorem kp_start {n rows size : Nat} (h3 : 3 ≤ n) (h10 : n ≤ 10) (h1 : 1 ≤ rows) (h2 : rows ≤ 20) (h4 : 1 ≤ size) (h5 : size ≤ 16) : Kp n rows size (s0 n rows size) (List.replicate (rows * (n - 2)) (Dk.noughts size)) := by
  have h := s0_wh h3 h10 h1 h2 h4 h5
  refine ⟨h.good, rfl, rfl, rfl, fun row hr => by rw [many0 h hr]; omega, List.length_replicate, fun y hy => ?_⟩
  rw [List.getD_eq_getElem?_getD, List.getElem?_replicate, if_pos hy]; rfl
section
variable {n rows size : Nat} {s : S} {cells : List ByteArray}
theorem kp_row (h : Kp n rows size s cells) {y : Nat} (hy : y < rows * (n - 2)) : ¬ 2 < s.many (y / (s.n - 2)) := by
  have := h.two (y / (s.n - 2)) (by rw [← h.er]; exact S.row_lt h.good.toOk (by rw [h.en, h.er]; exact hy))
  omega
theorem kp_read (h : Kp n rows size s cells) {y : Nat} (hy : y < rows * (n - 2)) : s.read y = (cells.getD y ⟨#[]⟩, 0) := by
  rw [h.same y hy]
  exact S.read_good h.good (by rw [h.en, h.er]; exact hy) (kp_row h hy)
theorem kp_write (h : Kp n rows size s cells) {y : Nat} {x : ByteArray} (hy : y < rows * (n - 2)) (hx : x.size = size) : (s.write y x).1 = 0 ∧ Kp n rows size (s.write y x).2 (cells.set y x) := by
  have hm := kp_row h hy
  have h1 := S.write_blk h.good (b := y) (x := x) (by rw [h.en, h.er]; exact hy) (by rw [h.ez]; exact hx) hm
  have h2 := S.write_good h.good (y : Int) x
  have e : s.write y x = (0, s.putRow (y / (s.n - 2)) (s.turned (y / (s.n - 2)) (y % (s.n - 2)) x)) := by
    unfold S.write
    rw [if_pos ⟨by omega, by rw [h.en, h.er]; omega⟩, if_pos (by rw [h.ez]; exact hx), Int.toNat_natCast, if_neg hm]
  have hb := h1.2
  refine ⟨h1.1, ?_⟩
  rw [e] at h2 hb ⊢
  refine ⟨h2, h.en, h.er, h.ez, h.two, by rw [List.length_set]; exact h.len, fun q hq => ?_⟩
  rw [hb q (by rw [h.en, h.er]; exact hq), Gv.set_getD (by rw [h.len]; exact hy)]
  split
  · rfl
  · exact h.same q hq
theorem kp_fail (h : Kp n rows size s cells) (hw : ∀ row, row < rows → s.many row ≤ 1) (d : Int) : Kp n rows size (s.fail d).2 cells := by
  have g := S.fail_good h.good d
  unfold S.fail at g ⊢
  by_cases hd : s.has d
  · rw [if_pos hd] at g ⊢
    by_cases hf : s.fl d.toNat = true
    · rw [if_pos hf]; exact h
    · rw [if_neg hf] at g ⊢
      refine ⟨g, h.en, h.er, h.ez, fun row hr => ?_, h.len, h.same⟩
      have hw1 := hw row hr
      have hm1 := S.many_one (s := s) (t := { s with fl := up s.fl d.toNat true }) rfl (row := row) (d := d.toNat) (fun e _ hne hl => by
        unfold S.lost at hl ⊢
        have e1 : up s.fl d.toNat true e = s.fl e := up_ne _ _ hne
        rw [← e1]; exact hl)
      exact Nat.le_trans hm1 (by omega)
  · rw [if_neg hd]; exact h
theorem kp_replace (h : Kp n rows size s cells) (d : Int) : Kp n rows size (s.replace d).2 cells := by
  have g := S.replace_good h.good d
  unfold S.replace at g ⊢
  by_cases hd : s.has d
  · rw [if_pos hd] at g ⊢
    by_cases hf : s.fl d.toNat = true
    · rw [if_pos hf] at g ⊢
      refine ⟨g, h.en, h.er, h.ez, fun row hr => ?_, h.len, h.same⟩
      refine Nat.le_trans (S.many_le (s := s) (t := { s with fl := up s.fl d.toNat false, bt := up s.bt d.toNat 0 }) rfl (fun e _ hl => ?_)) (h.two row hr)
      by_cases he : e = d.toNat
      · unfold S.lost; rw [he, hf]; rfl
      · unfold S.lost at hl ⊢
        have e1 : up s.fl d.toNat false e = s.fl e := up_ne _ _ he
        have e2 : up s.bt d.toNat 0 e = s.bt e := up_ne _ _ he
        rw [← e1, ← e2]; exact hl
    · rw [if_neg hf]; exact h
  · rw [if_neg hd]; exact h
theorem kp_rebuild (h : Kp n rows size s cells) (d : Int) : (s.rebuild d).1.2 ≠ 8 ∧ Kp n rows size (s.rebuild d).2 cells := by
  have g := S.rebuild_good h.good d
  unfold S.rebuild at g ⊢
  by_cases hd : s.has d
  · obtain ⟨k, rfl, hk⟩ := S.has_nat hd
    rw [if_pos hd, Int.toNat_natCast] at g ⊢
    by_cases hc : s.fl k = true ∨ s.bt k = s.rows
    · rw [if_pos hc]; exact ⟨by show (6 : Int) ≠ 8; decide, h⟩
    · have hb := h.good.bt k hk
      have hlt : s.bt k < s.rows := by have : s.bt k ≠ s.rows := fun e => hc (.inr e); omega
      have hm : ¬ 2 < s.many (s.bt k) := by have := h.two (s.bt k) (by rw [← h.er]; exact hlt); omega
      rw [if_neg hc, if_neg hm] at g ⊢
      refine ⟨by show (0 : Int) ≠ 8; decide, g, h.en, h.er, h.ez, fun row hr => ?_, h.len, fun y hy => ?_⟩
      · refine Nat.le_trans (S.many_le (s := s) (t := s.built k) rfl (fun e _ hl => ?_)) (h.two row hr)
        have h1 : (s.fl e || decide (up s.bt k (s.bt k + 1) e ≤ row)) = true := hl
        unfold S.lost
        by_cases he : e = k
        · subst he
          rw [up_self] at h1
          cases h2 : s.fl e with
          | true => rfl
          | false =>
            rw [h2, Bool.false_or] at h1
            have := of_decide_eq_true h1
            rw [Bool.false_or]; exact decide_eq_true (by omega)
        · rw [up_ne _ _ he] at h1; exact h1
      · rw [h.same y hy]
        exact (S.blk_congr (s := s) (t := s.built k) rfl (fun e r => S.built_c h.good hk hlt hm e r) y).symm
  · rw [if_neg hd]; exact ⟨by show (1 : Int) ≠ 8; decide, h⟩
end
/-- the closed fact -/
theorem one_kp : ∃ cells, Kp 3 1 1 (((s0 3 1 1).write 0 ⟨#[7]⟩).2.fail 0).2 cells ∧ ((s0 3 1 1).write 0 ⟨#[7]⟩).1 = 0 ∧ (((s0 3 1 1).write 0 ⟨#[7]⟩).2.fail 0).1 = 0 ∧ ((((s0 3 1 1).write 0 ⟨#[7]⟩).2.fail 0).2.fail 1).1 = 0 ∧ ((((s0 3 1 1).write 0 ⟨#[7]⟩).2.fail 0).2.fail 1).2.read 0 = (⟨#[7]⟩, 0) := by
  have h := s0_wh (n := 3) (rows := 1) (size := 1) (by omega) (by omega) (by omega) (by omega) (by omega) (by omega)
  have hw := wh_write h (y := 0) (x := ⟨#[7]⟩) (by decide) rfl
  have k0 := kp_start (n := 3) (rows := 1) (size := 1) (by omega) (by omega) (by omega) (by omega) (by omega) (by omega)
  have k1 := kp_write k0 (y := 0) (x := ⟨#[7]⟩) (by decide) rfl
  have k1' := k1.2
  have w1 := hw.2.1
  have e0 : ((0 : Nat) : Int) = 0 := rfl
  rw [e0] at k1' w1 hw k1
  obtain ⟨s1, hs1⟩ : ∃ s1, s1 = ((s0 3 1 1).write 0 ⟨#[7]⟩).2 := ⟨_, rfl⟩
  rw [← hs1] at k1' w1 ⊢
  have m0 : ∀ row, row < 1 → s1.many row ≤ 1 := fun row hr => by rw [many0 w1 hr]; omega
  have k2 := kp_fail k1' m0 0
  have f1 : (s1.fail 0).1 = 0 ∧ (s1.fail 0).2 = { s1 with fl := up s1.fl 0 true } := by
    unfold S.fail
    rw [if_pos ⟨by omega, by rw [w1.en]; decide⟩]
    show (if s1.fl 0 = true then _ else _ : Int × S).1 = 0 ∧ (if s1.fl 0 = true then _ else _ : Int × S).2 = _
    rw [w1.fl, if_neg (by decide)]
    exact ⟨rfl, rfl⟩
  have m1 : ∀ row, row < 1 → (s1.fail 0).2.many row ≤ 1 := fun row hr => by
    rw [f1.2]
    have := S.many_one (s := s1) (t := { s1 with fl := up s1.fl 0 true }) rfl (row := row) (d := 0) (fun e _ hne hl => by
      unfold S.lost at hl ⊢
      have e1 : up s1.fl 0 true e = s1.fl e := up_ne _ _ hne
      rw [← e1]; exact hl)
    rw [many0 w1 hr] at this
    omega
  have k3 := kp_fail k2 m1 1
  have f2 : ((s1.fail 0).2.fail 1).1 = 0 := by
    rw [f1.2]
    unfold S.fail
    rw [if_pos ⟨by omega, by show (1 : Int) < (s1.n : Int); rw [w1.en]; decide⟩]
    show (if up s1.fl 0 true 1 = true then _ else _ : Int × S).1 = 0
    rw [up_ne _ _ (by decide), w1.fl, if_neg (by decide)]
  have hr := kp_read k3 (y := 0) (by decide)
  rw [e0] at hr
  refine ⟨_, k2, hw.1, f1.1, f2, ?_⟩
  rw [hr]
  rfl
end Ar
end Go.Proofs.YtneebcniofolmaaGreatDoor
