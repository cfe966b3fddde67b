/- Matrices as lists: products, inverses, their inverses. Plain. -/
import Derived.Test.YtcldioneiededaaMatM
namespace Go.Proofs.Ytcldioneiededaa
set_option linter.unusedVariables false
open Mx Gv
theorem en_lt {n L i j : Nat} (m : Mt) (hi : i < n) (hj : j < L) : en (lt n L m) i j = m i j := by
  unfold en
  rw [List.getD_eq_getElem?_getD, lt_get L m hi]
  show List.getD _ _ _ = _
  exact tab_at _ hj
theorem len0_lt {n L : Nat} (m : Mt) (h : 0 < n) : len0 (lt n L m) = L := by
  obtain ⟨k, rfl⟩ : ∃ k, n = k + 1 := ⟨n - 1, by omega⟩
  unfold len0 lt
  rw [List.range_succ_eq_map]
  show (tab L _).length = L
  exact tab_len _ _
theorem lt_mem {n L : Nat} {m : Mt} {l : List UInt8} (h : l ∈ lt n L m) : l.length = L := by
  unfold lt at h
  obtain ⟨i, _, rfl⟩ := List.mem_map.1 h
  exact tab_len _ _
theorem chkF_lt {n L : Nat} (m : Mt) (hn : n ≤ 12) (hL : L ≤ 12) : chkF (lt n L m) = 0 := by
  unfold chkF
  have h1 : (lt n L m).any (fun l => decide (12 < l.length)) = false := by
    rw [List.any_eq_false]
    intro l hl
    rw [lt_mem hl]; simp; omega
  have h2 : (lt n L m).any (fun l => l.length != len0 (lt n L m)) = false := by
    rw [List.any_eq_false]
    intro l hl
    have h0 : 0 < n := by
      have := List.length_pos_of_mem hl
      rw [lt_len] at this; exact this
    rw [lt_mem hl, len0_lt m h0]; simp
  rw [h1, h2, if_neg (by rw [lt_len]; simp; omega), if_neg (by simp)]
theorem rowR_tab (r : List UInt8) (B : List (List UInt8)) : rowR r B = tab (len0 B) (rsum r (en B) B.length) := by
  unfold rowR
  by_cases h : B.length = 0
  · rw [if_pos h]
    have : B = [] := List.eq_nil_of_length_eq_zero h
    subst this; rfl
  · rw [if_neg h]
theorem map_rows (A : List (List UInt8)) (f : List UInt8 → List UInt8) : A.map f = (List.range A.length).map (fun i => f (A.getD i [])) := by
  apply List.ext_getElem?
  intro i
  rw [List.getElem?_map, List.getElem?_map]
  by_cases h : i < A.length
  · rw [List.getElem?_range h, List.getElem?_eq_getElem h]
    simp [List.getD_eq_getElem?_getD, List.getElem?_eq_getElem h]
  · rw [List.getElem?_eq_none (by omega), List.getElem?_eq_none (by rw [List.length_range]; omega)]; rfl
theorem mmR_lt {A B : List (List UInt8)} (h : mmF A B = 0) : mmR A B = lt A.length (len0 B) (mm B.length (en A) (en B)) := by
  unfold mmR
  rw [if_pos h, map_rows]
  exact List.map_congr_left (fun i _ => rowR_tab _ _)
theorem mmF_0 {A B : List (List UInt8)} (h : mmF A B = 0) : chkF A = 0 ∧ chkF B = 0 ∧ (A.length ≠ 0 → len0 A = B.length) := by
  unfold mmF at h
  by_cases h1 : chkF A = 0
  · rw [if_neg (by simp [h1])] at h
    by_cases h2 : chkF B = 0
    · rw [if_neg (by simp [h2])] at h
      refine ⟨h1, h2, fun h3 => ?_⟩
      by_cases h4 : len0 A = B.length
      · exact h4
      · rw [if_pos ⟨h3, h4⟩] at h; cases h
    · rw [if_pos h2] at h; exact absurd h h2
  · rw [if_pos h1] at h; exact absurd h h1
theorem mmF_ok {A B : List (List UInt8)} (h1 : chkF A = 0) (h2 : chkF B = 0) (h3 : A.length ≠ 0 → len0 A = B.length) : mmF A B = 0 := by
  unfold mmF
  rw [if_neg (by simp [h1]), if_neg (by simp [h2]), if_neg (fun h => h.2 (h3 h.1))]
theorem invF_0 {M : List (List UInt8)} (h : invF M = 0) : chkF M = 0 ∧ 0 < M.length ∧ M.length ≤ 12 ∧ len0 M = M.length ∧ M = lt M.length M.length (en M) ∧ Iv M.length (en M) (iv' M.length (en M)) ∧ invR M = lt M.length M.length (iv' M.length (en M)) := by
  have hR : invR M = lt M.length M.length (iv' M.length (en M)) := by unfold invR; rw [if_pos h]
  unfold invF at h
  by_cases h1 : chkF M = 0
  · rw [if_neg (by simp [h1])] at h
    by_cases h2 : M.length = 0 ∨ len0 M ≠ M.length
    · rw [if_pos h2] at h; cases h
    · rw [if_neg h2] at h
      by_cases h3 : rk M.length M.length (en M) < M.length
      · rw [if_pos h3] at h; cases h
      · have h4 : rk M.length M.length (en M) = M.length := by
          have : rk M.length M.length (en M) ≤ M.length := (el_inv M.length (en M) M.length).len
          omega
        have hl : len0 M = M.length := Classical.byContradiction (fun hc => h2 (.inr hc))
        refine ⟨h1, Nat.pos_of_ne_zero (fun e => h2 (.inl e)), (chkF_0 h1).1, hl, ?_, iv_ok h4, hR⟩
        exact lt_en (L := M.length) (fun i l hl' => by rw [(chkF_0 h1).2.2 i l hl', hl])
  · rw [if_pos h1] at h; exact absurd h h1
/-- what has an inverse X: the answer is X -/
theorem inv_lt {n : Nat} {m X : Mt} (h0 : 0 < n) (hn : n ≤ 12) (h : Iv n m X) : invF (lt n n m) = 0 ∧ invR (lt n n m) = lt n n X := by
  have he : Iv n (en (lt n n m)) X := h.congr (fun i hi j hj => (en_lt m hi hj).symm) (fun _ _ _ _ => rfl)
  have hr : rk n n (en (lt n n m)) = n := (rk_iff n _).2 ⟨X, he⟩
  have hF : invF (lt n n m) = 0 := by
    unfold invF
    rw [chkF_lt m hn hn, if_neg (by simp), lt_len, len0_lt m h0, if_neg (by simp; omega), if_neg (by omega)]
  refine ⟨hF, ?_⟩
  unfold invR
  rw [if_pos hF, lt_len]
  exact lt_ext (Iv.unique (iv_ok hr) he)
theorem mm_ext {n k L : Nat} {A A' B B' : Mt} (hA : ∀ i, i < n → ∀ j, j < k → A i j = A' i j) (hB : ∀ i, i < k → ∀ j, j < L → B i j = B' i j) : ∀ i, i < n → ∀ j, j < L → mm k A B i j = mm k A' B' i j :=
  fun i hi j hj => mm_congr (fun l hl => hA i hi l hl) (fun l hl => hB l hl j hj)
theorem last_1 {a : List (List UInt8)} (h : invF a = 0) : invF (invR a) = 0 ∧ invR (invR a) = a := by
  obtain ⟨_, h0, hn, _, hl, hI, hR⟩ := invF_0 h
  rw [hR]
  have := inv_lt h0 hn hI.symm
  refine ⟨this.1, ?_⟩
  rw [this.2]; exact hl.symm
theorem last_2 {a b : List (List UInt8)} (h : invF a = 0) (h' : invF b = 0) (hl : a.length = b.length) :
    mmF a b = 0 ∧ invF (mmR a b) = 0 ∧ mmF (invR b) (invR a) = 0 ∧ invR (mmR a b) = mmR (invR b) (invR a) := by
  obtain ⟨c1, h0, hn, l1, e1, I1, R1⟩ := invF_0 h
  obtain ⟨c2, _, _, l2, e2, I2, R2⟩ := invF_0 h'
  rw [← hl] at l2 e2 I2 R2
  have hm : mmF a b = 0 := mmF_ok c1 c2 (fun _ => by rw [l1, hl])
  have hmm : mmR a b = lt a.length a.length (mm a.length (en a) (en b)) := by rw [mmR_lt hm, l2, ← hl]
  have hm2 : mmF (invR b) (invR a) = 0 := by
    rw [R1, R2]
    exact mmF_ok (chkF_lt _ hn hn) (chkF_lt _ hn hn) (fun _ => by rw [len0_lt _ h0, lt_len])
  have hI := inv_lt h0 hn (I1.mul I2)
  refine ⟨hm, by rw [hmm]; exact hI.1, hm2, ?_⟩
  rw [hmm, hI.2, mmR_lt hm2, R1, R2, lt_len, lt_len, len0_lt _ h0]
  exact lt_ext (mm_ext (fun i hi j hj => (en_lt _ hi hj).symm) (fun i hi j hj => (en_lt _ hi hj).symm))
end Go.Proofs.Ytcldioneiededaa
