/- Polynomials, plain: quotient and rest are told by what they are; so is the one through points; the references' ways come there. -/
import Derived.Test.YtbikmodfmckaeaaDoorPolI
namespace Go.Proofs.YtbikmodfmckaeaaDoor
set_option linter.unusedVariables false
namespace Pl
open Gv
theorem cm_of {x : List UInt8} {m : Nat} (y : List UInt8) (j : Nat) (h : x.length ≤ m) : xsum m (fun i => Gf.mul (cf x i) (if i ≤ j then cf y (j - i) else 0)) = cm x y j := xsum_more h (fun i hi => by rw [cf_out hi, Gf.zero_mul])
theorem cm_sum {d q q' : List UInt8} (h : ∀ j, cf d j = cf q j ^^^ cf q' j) (b : List UInt8) (j : Nat) : cm d b j = cm q b j ^^^ cm q' b j := by
  rw [← cm_of (m := d.length + q.length + q'.length) b j (by omega), ← cm_of (x := q) (m := d.length + q.length + q'.length) b j (by omega), ← cm_of (x := q') (m := d.length + q.length + q'.length) b j (by omega), ← xsum_xor]
  exact xsum_congr (fun i _ => by rw [h, Gf.add_mul])
theorem cm_top {d b : List UInt8} {m : Nat} (hm : ∀ j, m < j → cf d j = 0) (hb : b.length ≠ 0) : cm d b (m + (b.length - 1)) = Gf.mul (cf d m) (cf b (b.length - 1)) := by
  rw [← cm_of (m := d.length + m + 1) b _ (by omega)]
  rw [xsum_single (k := m) (by omega) _ (fun i _ hne => ?_)]
  · rw [if_pos (by omega), show m + (b.length - 1) - m = b.length - 1 by omega]
  · by_cases h : m < i
    · rw [hm i h, Gf.zero_mul]
    · split
      · rw [cf_out (l := b) (by omega), Gf.mul_zero]
      · rw [Gf.mul_zero]
theorem div_unique {q q' r r' b : List UInt8} (hb0 : b.length ≠ 0) (hb : cf b (b.length - 1) ≠ 0) (hr : r.length < b.length) (hr' : r'.length < b.length)
    (h : ∀ j, cm q b j ^^^ cf r j = cm q' b j ^^^ cf r' j) : (∀ j, cf q j = cf q' j) ∧ ∀ j, cf r j = cf r' j := by
  have hd : ∀ j, cf (plus q q') j = cf q j ^^^ cf q' j := cf_plus q q'
  have hz : ∀ j, cf (plus q q') j = 0 := by
    by_cases h0 : tn (plus q q') (plus q q').length = 0
    · intro j
      by_cases hj : j < (plus q q').length
      · exact tn_zero _ _ _ (by omega) hj
      · exact cf_out (by omega)
    · exfalso
      obtain ⟨m, hm⟩ : ∃ m, m = tn (plus q q') (plus q q').length - 1 := ⟨_, rfl⟩
      have h1 := tn_last h0
      rw [← hm] at h1
      have h2 : ∀ j, m < j → cf (plus q q') j = 0 := fun j hj => by
        by_cases hl : j < (plus q q').length
        · exact tn_zero _ _ _ (by omega) hl
        · exact cf_out (by omega)
      have h3 := cm_top h2 hb0
      rw [cm_sum hd] at h3
      have h4 := h (m + (b.length - 1))
      rw [cf_out (l := r) (by omega), cf_out (l := r') (by omega), Gf.add_zero, Gf.add_zero] at h4
      rw [h4, Gf.add_self] at h3
      exact Gf.mul_ne h1 hb h3.symm
  have hq : ∀ j, cf q j = cf q' j := fun j => by
    have h1 := hz j
    rw [hd] at h1
    exact Gf.add_eq_zero.1 h1
  refine ⟨hq, fun j => ?_⟩
  have h1 := h j
  rw [cm_eq hq (fun _ => rfl) j] at h1
  have h2 := congrArg (fun x => cm q' b j ^^^ x) h1
  simp only [Gf.add_cancel] at h2
  exact h2
theorem trim_trim (l : List UInt8) : trim (trim l) = trim l := trim_eq (cf_trim l)
/-- the references' division comes to quotient and rest -/
theorem div_comes {a b q r : List UInt8} (h0 : (trim b).length ≠ 0) (hq : trim q = q) (hr : trim r = r) (hs : r.length < (trim b).length) (h : ∀ j, cm q (trim b) j ^^^ cf r j = cf a j) : q = quo a b ∧ r = rst a b := by
  have h1 := div_unique (q := q) (q' := quo a b) (r := r) (r' := rst a b) h0 (top_ne h0) hs (rst_short h0) (fun j => by
    rw [h, ← div_right (a := a) h0 j]
    congr 1
    exact (cm_eq (fun _ => rfl) (fun j => cf_trim b j) j).symm)
  refine ⟨?_, ?_⟩
  · rw [← hq, trim_eq h1.1]; exact trim_trim _
  · rw [← hr, trim_eq h1.2]; exact trim_trim _
/-- shorter than n and 0 at n elements: it is 0 -/
theorem few : ∀ (n : Nat) (l : List UInt8) (x : Nat → UInt8), l.length ≤ n → (∀ i j, i < n → j < n → i ≠ j → x i ≠ x j) → (∀ i, i < n → ev l (x i) = 0) → ∀ j, cf l j = 0
  | 0, l, x, hl, _, _, j => cf_out (by omega)
  | n + 1, l, x, hl, hd, he, j => by
    have hb0 : (trim [x n, 1]).length ≠ 0 := trim_ne (j := 1) (by show (1 : UInt8) ≠ 0; decide)
    have hbt : trim [x n, 1] = [x n, 1] := trim_full (n := 1) rfl (by show (1 : UInt8) ≠ 0; decide)
    have hdiv := div_right (a := l) hb0
    have hsh := rst_short (a := l) hb0
    rw [hbt] at hsh
    have hev : ∀ y, ev l y = Gf.mul (ev (quo l [x n, 1]) y) (x n ^^^ y) ^^^ cf (rst l [x n, 1]) 0 := fun y => by
      rw [← ev_two (x n) y, ← ev_conv]
      obtain ⟨m, hm⟩ : ∃ m, m = l.length + (conv (quo l [x n, 1]) [x n, 1]).length + 1 := ⟨_, rfl⟩
      rw [← ev_of (m := m) y (by omega), ← ev_of (l := conv (quo l [x n, 1]) [x n, 1]) (m := m) y (by omega)]
      have hr : cf (rst l [x n, 1]) 0 = xsum m (fun j => Gf.mul (cf (rst l [x n, 1]) j) (Gf.pow y j)) := by
        rw [xsum_single (k := 0) (by omega) _ (fun i _ hi => by rw [cf_out (by simp at hsh; omega), Gf.zero_mul])]
        exact (Gf.mul_one _).symm
      rw [hr, ← xsum_xor]
      exact xsum_congr (fun i _ => by rw [← Gf.add_mul, cf_conv, hdiv])
    have hr0 : cf (rst l [x n, 1]) 0 = 0 := by
      have h := hev (x n)
      rw [he n (by omega), Gf.add_self, Gf.mul_zero, Gf.zero_add] at h
      exact h.symm
    have hqr : ∀ i, i < n → ev (quo l [x n, 1]) (x i) = 0 := fun i hi => by
      have h := hev (x i)
      rw [he i (by omega), hr0, Gf.add_zero] at h
      rcases Gf.mul_eq_zero.1 h.symm with h | h
      · exact h
      · exact absurd (Gf.add_eq_zero.1 h).symm (hd i n (by omega) (by omega) (by omega))
    have hql : (quo l [x n, 1]).length ≤ n := by
      unfold quo
      rw [trim_len, hbt]
      have := tn_le (tab (l.length + 1 - [x n, 1].length) (qs l [x n, 1] (l.length + 1 - [x n, 1].length) (l.length + 1 - [x n, 1].length))) (tab (l.length + 1 - [x n, 1].length) (qs l [x n, 1] (l.length + 1 - [x n, 1].length) (l.length + 1 - [x n, 1].length))).length
      rw [tab_len] at this ⊢
      simp at this ⊢
      omega
    have hq0 := few n _ x hql (fun i j hi hj => hd i j (by omega) (by omega)) hqr
    have h := hdiv j
    rw [cm_eq (a' := []) hq0 (fun _ => rfl) j] at h
    have hr1 : cf (rst l [x n, 1]) j = 0 := by
      cases j with
      | zero => exact hr0
      | succ j => exact cf_out (by simp at hsh; omega)
    rw [hr1, Gf.add_zero] at h
    exact h.symm
theorem clash_no {l : List Pt} : ∀ n, n ≤ l.length → clash l n = false → ∀ i j, i < j → j < n → (pnt l i).1 ≠ (pnt l j).1
  | 0, _, _, i, j, _, h => by omega
  | n + 1, hn, h, i, j, hij, hj => by
    unfold clash at h
    obtain ⟨h1, h2⟩ := Bool.or_eq_false_iff.1 h
    by_cases e : j = n
    · subst e
      intro he
      have h3 := List.any_eq_false.1 h2 (pnt l i) (by
        rw [List.mem_iff_getElem?]
        exact ⟨i, by rw [List.getElem?_take, if_pos hij]; exact pnt_get (by omega)⟩)
      rw [he] at h3
      simp at h3
    · exact clash_no n (by omega) h1 i j hij (by omega)
/-- two through the same points -/
theorem thr_unique {l : List Pt} {o : List UInt8} (hc : clash l l.length = false) (hl : o.length ≤ l.length) (ho : trim o = o) (he : ∀ i, i < l.length → ev o (pnt l i).1 = (pnt l i).2) : o = trim (thr l l.length) := by
  have ht := thr_at l l.length (Nat.le_refl _) hc
  have hz := few l.length (plus o (thr l l.length)) (fun i => (pnt l i).1) (by unfold plus; rw [tab_len, thr_len]; omega) (fun i j hi hj hne => by
      rcases Nat.lt_or_gt_of_ne hne with h | h
      · exact clash_no _ (Nat.le_refl _) hc i j h hj
      · exact (clash_no _ (Nat.le_refl _) hc j i h hi).symm) (fun i hi => by
      show ev _ (pnt l i).1 = 0
      obtain ⟨m, hm⟩ : ∃ m, m = o.length + (thr l l.length).length + (plus o (thr l l.length)).length := ⟨_, rfl⟩
      rw [← ev_of (m := m) _ (by omega)]
      have e1 := ev_of (l := o) (m := m) (pnt l i).1 (by omega)
      have e2 := ev_of (l := thr l l.length) (m := m) (pnt l i).1 (by omega)
      rw [he i hi] at e1
      rw [ht i hi] at e2
      rw [xsum_congr (g := fun j => Gf.mul (cf o j) (Gf.pow (pnt l i).1 j) ^^^ Gf.mul (cf (thr l l.length) j) (Gf.pow (pnt l i).1 j)) (fun j _ => by rw [cf_plus, Gf.add_mul]), xsum_xor, e1, e2, Gf.add_self])
  rw [← ho]
  exact trim_eq (fun j => by
    have h := hz j
    rw [cf_plus] at h
    exact Gf.add_eq_zero.1 h)
/-- by Lagrange: the part of the i-th point, by the first k -/
def lgb (l : List Pt) (i k : Nat) : UInt8 := Gf.inv ((pnt l i).1 ^^^ (pnt l k).1)
def lgp (l : List Pt) (i : Nat) : Nat → List UInt8
  | 0 => [(pnt l i).2]
  | k + 1 => if k = i then lgp l i k else trim (conv (lgp l i k) [Gf.mul (pnt l k).1 (lgb l i k), lgb l i k])
def lag (l : List Pt) : Nat → List UInt8
  | 0 => []
  | i + 1 => trim (plus (lag l i) (lgp l i l.length))
theorem ev_lin (c b x : UInt8) : ev [Gf.mul c b, b] x = Gf.mul b (c ^^^ x) := by
  show xsum 2 _ = _
  rw [xsum_succ, xsum_succ]
  show (0 ^^^ Gf.mul (Gf.mul c b) 1) ^^^ Gf.mul b (Gf.mul x 1) = _
  rw [Gf.zero_add, Gf.mul_one, Gf.mul_one, Gf.mul_add, Gf.mul_comm c b]
theorem lgp_len (l : List Pt) (i : Nat) : ∀ k, (lgp l i k).length ≤ (if i < k then k - 1 else k) + 1
  | 0 => by simp [lgp]
  | k + 1 => by
    have h := lgp_len l i k
    unfold lgp
    split
    · rename_i e
      rw [if_neg (by omega)] at h
      rw [if_pos (by omega)]; omega
    · rename_i e
      have h2 : (trim (conv (lgp l i k) [Gf.mul (pnt l k).1 (lgb l i k), lgb l i k])).length ≤ (lgp l i k).length + 1 := trim_short (fun j hj => by
        rw [cf_conv]; exact cm_out (by simp; omega))
      split at h <;> split <;> omega
theorem lgp_at {l : List Pt} {i : Nat} (hi : i < l.length) (hc : clash l l.length = false) : ∀ k, k ≤ l.length → ev (lgp l i k) (pnt l i).1 = (pnt l i).2
  | 0, _ => by
    show xsum 1 _ = _
    rw [xsum_succ]
    show 0 ^^^ Gf.mul (pnt l i).2 1 = _
    rw [Gf.zero_add, Gf.mul_one]
  | k + 1, hk => by
    unfold lgp
    split
    · exact lgp_at hi hc k (by omega)
    · rename_i e
      rw [ev_trim, ev_conv, lgp_at hi hc k (by omega), ev_lin]
      have hne : (pnt l i).1 ^^^ (pnt l k).1 ≠ 0 := fun h => by
        have h2 := Gf.add_eq_zero.1 h
        rcases Nat.lt_or_gt_of_ne e with h | h
        · exact clash_no _ (Nat.le_refl _) hc k i h hi h2.symm
        · exact clash_no _ (Nat.le_refl _) hc i k h (by omega) h2
      unfold lgb
      rw [Gf.add_comm (pnt l k).1, Gf.inv_mul hne, Gf.mul_one]
theorem lgp_off {l : List Pt} {i m : Nat} (hm : m ≠ i) : ∀ k, m < k → ev (lgp l i k) (pnt l m).1 = 0
  | 0, h => by omega
  | k + 1, h => by
    unfold lgp
    split
    · rename_i e
      exact lgp_off hm k (by omega)
    · rw [ev_trim, ev_conv]
      by_cases e : m = k
      · rw [e, ev_lin, Gf.add_self, Gf.mul_zero, Gf.mul_zero]
      · rw [lgp_off hm k (by omega), Gf.zero_mul]
theorem ev_plus (a b : List UInt8) (x : UInt8) : ev (plus a b) x = ev a x ^^^ ev b x := by
  obtain ⟨m, hm⟩ : ∃ m, m = a.length + b.length + (plus a b).length := ⟨_, rfl⟩
  rw [← ev_of (m := m) x (by omega), ← ev_of (l := a) (m := m) x (by omega), ← ev_of (l := b) (m := m) x (by omega), ← xsum_xor]
  exact xsum_congr (fun i _ => by rw [cf_plus, Gf.add_mul])
theorem ev_nil (x : UInt8) : ev [] x = 0 := rfl
theorem lag_len {l : List Pt} : ∀ n, n ≤ l.length → (lag l n).length ≤ l.length
  | 0, _ => Nat.zero_le _
  | n + 1, hn => by
    unfold lag
    have h1 := lag_len (l := l) n (by omega)
    have h2 := lgp_len l n l.length
    rw [if_pos (by omega)] at h2
    exact trim_short (fun j hj => by rw [cf_plus, cf_out (l := lag l n) (by omega), cf_out (l := lgp l n l.length) (by omega)]; rfl)
theorem lag_at {l : List Pt} (hc : clash l l.length = false) : ∀ n, n ≤ l.length → ∀ m, m < l.length → ev (lag l n) (pnt l m).1 = if m < n then (pnt l m).2 else 0
  | 0, _, m, _ => by rw [if_neg (by omega)]; rfl
  | n + 1, hn, m, hm => by
    unfold lag
    rw [ev_trim, ev_plus, lag_at hc n (by omega) m hm]
    by_cases e : m = n
    · subst e
      rw [if_neg (by omega), if_pos (by omega), lgp_at (by omega) hc _ (Nat.le_refl _), Gf.zero_add]
    · rw [lgp_off e _ (by omega), Gf.add_zero]
      by_cases h : m < n
      · rw [if_pos h, if_pos (by omega)]
      · rw [if_neg h, if_neg (by omega)]
theorem lag_trim (l : List Pt) : ∀ n, trim (lag l n) = lag l n
  | 0 => rfl
  | n + 1 => by unfold lag; exact trim_trim _
theorem lag_thr {l : List Pt} (hc : clash l l.length = false) : lag l l.length = trim (thr l l.length) :=
  thr_unique hc (lag_len _ (Nat.le_refl _)) (lag_trim l _) (fun i hi => by rw [lag_at hc _ (Nat.le_refl _) i hi, if_pos hi])
end Pl
end Go.Proofs.YtbikmodfmckaeaaDoor
