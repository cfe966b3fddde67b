/- Polynomials over the field by their coefficients: values, products, trimmed, divided. Plain. -/
import Derived.Test.YtcldioneiededaaVecP
namespace Go.Proofs.Ytcldioneiededaa
set_option linter.unusedVariables false
namespace Pl
open Gv
/-- a coefficient -/
def cf (l : List UInt8) (j : Nat) : UInt8 := at' l j
theorem cf_out {l : List UInt8} {j : Nat} (h : l.length ≤ j) : cf l j = 0 := by
  unfold cf at'; rw [List.getD_eq_getElem?_getD, List.getElem?_eq_none h]; rfl
theorem cf_tab (n : Nat) (f : Nat → UInt8) (j : Nat) : cf (tab n f) j = if j < n then f j else 0 := tab_getD n f j
theorem xsum_more {n m : Nat} {f : Nat → UInt8} (h : n ≤ m) (h0 : ∀ j, n ≤ j → f j = 0) : xsum m f = xsum n f := by
  obtain ⟨k, rfl⟩ : ∃ k, m = n + k := ⟨m - n, by omega⟩
  rw [xsum_add, xsum_all0 (n := k) (fun j _ => h0 _ (by omega)), Gf.add_zero]
/-- the value -/
def ev (l : List UInt8) (x : UInt8) : UInt8 := xsum l.length (fun j => Gf.mul (cf l j) (Gf.pow x j))
theorem ev_of {l : List UInt8} {m : Nat} (x : UInt8) (h : l.length ≤ m) : xsum m (fun j => Gf.mul (cf l j) (Gf.pow x j)) = ev l x :=
  xsum_more h (fun j hj => by rw [cf_out hj, Gf.zero_mul])
theorem ev_eq {l k : List UInt8} (x : UInt8) (h : ∀ j, cf l j = cf k j) : ev l x = ev k x := by
  rw [← ev_of (l := l) x (Nat.le_max_left l.length k.length), ← ev_of (l := k) x (Nat.le_max_right l.length k.length)]
  exact xsum_congr (fun j _ => by rw [h j])
/-- the coefficient of a product -/
def cm (a b : List UInt8) (j : Nat) : UInt8 := xsum a.length (fun i => Gf.mul (cf a i) (if i ≤ j then cf b (j - i) else 0))
theorem cm_out {a b : List UInt8} {j : Nat} (h : a.length + b.length ≤ j + 1) : cm a b j = 0 := by
  unfold cm
  refine xsum_all0 (fun i hi => ?_)
  by_cases hij : i ≤ j
  · rw [if_pos hij, cf_out (l := b) (by omega), Gf.mul_zero]
  · rw [if_neg hij, Gf.mul_zero]
def conv (a b : List UInt8) : List UInt8 := if a.length = 0 ∨ b.length = 0 then [] else tab (a.length + b.length - 1) (cm a b)
theorem conv_len {a b : List UInt8} (ha : a.length ≠ 0) (hb : b.length ≠ 0) : (conv a b).length = a.length + b.length - 1 := by
  unfold conv; rw [if_neg (by omega), tab_len]
theorem cf_conv (a b : List UInt8) (j : Nat) : cf (conv a b) j = cm a b j := by
  unfold conv
  by_cases h : a.length = 0 ∨ b.length = 0
  · rw [if_pos h, cf_out (by simp)]
    symm
    unfold cm
    rcases h with h | h
    · rw [h]; rfl
    · refine xsum_all0 (fun i hi => ?_)
      by_cases hij : i ≤ j
      · rw [if_pos hij, cf_out (l := b) (by omega), Gf.mul_zero]
      · rw [if_neg hij, Gf.mul_zero]
  · rw [if_neg h, cf_tab]
    by_cases hj : j < a.length + b.length - 1
    · rw [if_pos hj]
    · rw [if_neg hj, cm_out (by omega)]
/-- a sum shifted -/
theorem xsum_shift (n k : Nat) (f : Nat → UInt8) : xsum (n + k) (fun j => if k ≤ j then f (j - k) else 0) = xsum n f := by
  rw [Nat.add_comm, xsum_add, xsum_all0 (n := k) (fun j hj => by rw [if_neg (by omega)]), Gf.zero_add]
  exact xsum_congr (fun j _ => by rw [if_pos (by omega), show k + j - k = j by omega])
theorem ev_conv (a b : List UInt8) (x : UInt8) : ev (conv a b) x = Gf.mul (ev a x) (ev b x) := by
  have hl : (conv a b).length ≤ b.length + a.length := by
    unfold conv; split
    · simp
    · rw [tab_len]; omega
  rw [← ev_of x hl]
  have h1 : xsum (b.length + a.length) (fun j => Gf.mul (cf (conv a b) j) (Gf.pow x j)) = xsum (b.length + a.length) (fun j => xsum a.length (fun i => Gf.mul (cf a i) (Gf.mul (if i ≤ j then cf b (j - i) else 0) (Gf.pow x j)))) :=
    xsum_congr (fun j _ => by
      rw [cf_conv]
      unfold cm
      rw [mul_xsum]
      exact xsum_congr (fun i _ => Gf.mul_assoc _ _ _))
  rw [h1, xsum_swap]
  unfold ev
  rw [mul_xsum]
  refine xsum_congr (fun i hi => ?_)
  rw [← xsum_mul, Gf.mul_assoc]
  congr 1
  rw [xsum_mul]
  have h2 : xsum (b.length + a.length) (fun j => Gf.mul (if i ≤ j then cf b (j - i) else 0) (Gf.pow x j)) = xsum (b.length + i) (fun j => if i ≤ j then Gf.mul (cf b (j - i)) (Gf.pow x (j - i + i)) else 0) := by
    rw [xsum_more (n := b.length + i) (m := b.length + a.length) (by omega) (fun j hj => by
      rw [if_pos (by omega), cf_out (by omega), Gf.zero_mul])]
    refine xsum_congr (fun j _ => ?_)
    by_cases hij : i ≤ j
    · rw [if_pos hij, if_pos hij, show j - i + i = j by omega]
    · rw [if_neg hij, if_neg hij, Gf.zero_mul]
  rw [h2]
  have h3 := xsum_shift b.length i (fun q => Gf.mul (cf b q) (Gf.pow x (q + i)))
  rw [h3]
  refine xsum_congr (fun q _ => ?_)
  rw [Gf.pow_add, Gf.mul_left_comm, Gf.mul_left_comm (Gf.pow x q), Gf.mul_left_comm (Gf.pow x i), Gf.mul_comm (Gf.pow x q) (Gf.pow x i)]
/-- without noughts at the end -/
def tn (l : List UInt8) : Nat → Nat
  | 0 => 0
  | n + 1 => if cf l n = 0 then tn l n else n + 1
theorem tn_le (l : List UInt8) : ∀ n, tn l n ≤ n
  | 0 => Nat.le_refl _
  | n + 1 => by
    unfold tn; split
    · exact Nat.le_succ_of_le (tn_le l n)
    · exact Nat.le_refl _
theorem tn_zero (l : List UInt8) : ∀ n j, tn l n ≤ j → j < n → cf l j = 0
  | 0, j, _, h => by omega
  | n + 1, j, h1, h2 => by
    unfold tn at h1
    by_cases e : cf l n = 0
    · rw [if_pos e] at h1
      by_cases hj : j = n
      · rw [hj]; exact e
      · exact tn_zero l n j h1 (by omega)
    · rw [if_neg e] at h1; omega
def trim (l : List UInt8) : List UInt8 := l.take (tn l l.length)
theorem trim_len (l : List UInt8) : (trim l).length = tn l l.length := by
  unfold trim; rw [List.length_take]; have := tn_le l l.length; omega
theorem cf_take (l : List UInt8) (k j : Nat) : cf (l.take k) j = if j < k then cf l j else 0 := by
  unfold cf at'
  rw [List.getD_eq_getElem?_getD, List.getElem?_take]
  by_cases h : j < k
  · rw [if_pos h, if_pos h, List.getD_eq_getElem?_getD]
  · rw [if_neg h, if_neg h]; rfl
theorem cf_trim (l : List UInt8) (j : Nat) : cf (trim l) j = cf l j := by
  unfold trim
  rw [cf_take]
  by_cases h : j < tn l l.length
  · rw [if_pos h]
  · rw [if_neg h]
    by_cases hj : j < l.length
    · exact (tn_zero l l.length j (by omega) hj).symm
    · exact (cf_out (by omega)).symm
theorem ev_trim (l : List UInt8) (x : UInt8) : ev (trim l) x = ev l x := ev_eq x (cf_trim l)
theorem tn_full {l : List UInt8} {n : Nat} (h : cf l n ≠ 0) : tn l (n + 1) = n + 1 := by unfold tn; rw [if_neg h]
theorem trim_full {l : List UInt8} {n : Nat} (hn : l.length = n + 1) (h : cf l n ≠ 0) : trim l = l := by
  unfold trim; rw [hn, tn_full h, ← hn, List.take_length]
theorem trim_nil {l : List UInt8} (h : ∀ j, j < l.length → cf l j = 0) : trim l = [] := by
  have : tn l l.length = 0 := by
    have key : ∀ n, n ≤ l.length → tn l n = 0 := by
      intro n
      induction n with
      | zero => intro _; rfl
      | succ n ih => intro hn; unfold tn; rw [if_pos (h n (by omega))]; exact ih (by omega)
    exact key _ (Nat.le_refl _)
  unfold trim; rw [this]; rfl
theorem trim_ne {l : List UInt8} {j : Nat} (h : cf l j ≠ 0) : (trim l).length ≠ 0 := by
  intro e
  have h1 := cf_trim l j
  rw [cf_out (by omega)] at h1
  exact h h1.symm
/-- monic of length n + 1 -/
structure Monic (n : Nat) (l : List UInt8) : Prop where
  len : l.length = n + 1
  top : cf l n = 1
theorem Monic.next {n : Nat} {l : List UInt8} (h : Monic n l) (r : UInt8) : Monic (n + 1) (conv l [r, 1]) ∧ trim (conv l [r, 1]) = conv l [r, 1] := by
  have hl : (conv l [r, 1]).length = n + 1 + 1 := by rw [conv_len (by rw [h.len]; omega) (by simp), h.len]; simp
  have ht : cf (conv l [r, 1]) (n + 1) = 1 := by
    rw [cf_conv]
    unfold cm
    rw [h.len, xsum_single (k := n) (by omega) _ (fun i hi hne => by
      rw [if_pos (by omega), cf_out (l := [r, 1]) (by simp; omega), Gf.mul_zero]), if_pos (by omega), h.top, show n + 1 - n = 1 by omega]
    show Gf.mul 1 1 = 1
    rw [Gf.one_mul]
  exact ⟨⟨hl, ht⟩, trim_full hl (by rw [ht]; decide)⟩
theorem ev_two (r x : UInt8) : ev [r, 1] x = r ^^^ x := by
  show (0 ^^^ Gf.mul r (Gf.pow x 0)) ^^^ Gf.mul 1 (Gf.pow x 1) = _
  rw [Gf.zero_add, Gf.one_mul]
  have h0 : Gf.pow x 0 = 1 := rfl
  have h1 : Gf.pow x 1 = x := by
    have := Gf.pow_add x 0 1
    show Gf.pow x (0 + 1) = x
    unfold Gf.pow
    show Gf.mul _ _ = x
    first | exact Gf.one_mul x | exact Gf.mul_one x
  rw [h0, h1, Gf.mul_one]
/-- a product of so many factors -/
def roots (l : List UInt8) : Nat → List UInt8
  | 0 => [1]
  | n + 1 => conv (roots l n) [cf l n, 1]
theorem roots_monic (l : List UInt8) : ∀ n, Monic n (roots l n)
  | 0 => ⟨rfl, rfl⟩
  | n + 1 => ((roots_monic l n).next (cf l n)).1
theorem roots_trim (l : List UInt8) (n : Nat) : trim (conv (roots l n) [cf l n, 1]) = roots l (n + 1) := ((roots_monic l n).next (cf l n)).2
/-- x is one of the first n -/
def isB (l : List UInt8) (x : UInt8) : Nat → Bool
  | 0 => false
  | n + 1 => isB l x n || cf l n == x
theorem roots_zero (l : List UInt8) (x : UInt8) : ∀ n, (ev (roots l n) x = 0) ↔ isB l x n = true
  | 0 => by
    have : ev (roots l 0) x = 1 := by
      show 0 ^^^ Gf.mul 1 (Gf.pow x 0) = 1
      rw [Gf.zero_add, Gf.one_mul]; rfl
    rw [this]
    constructor
    · intro h; exact absurd h (by decide)
    · intro h; cases h
  | n + 1 => by
    show ev (conv (roots l n) [cf l n, 1]) x = 0 ↔ _
    rw [ev_conv, ev_two, Gf.mul_eq_zero, roots_zero l x n, Gf.add_eq_zero]
    show _ ↔ (isB l x n || cf l n == x) = true
    rw [Bool.or_eq_true, beq_iff_eq]
/-- the sums so far -/
def pt (a b : List UInt8) (i : Nat) : Nat → UInt8 := fun j => xsum i (fun q => Gf.mul (cf a q) (if q ≤ j then cf b (j - q) else 0))
def pk (a b : List UInt8) (i k : Nat) : Nat → UInt8 := fun j => pt a b i j ^^^ (if i ≤ j ∧ j < i + k then Gf.mul (cf a i) (cf b (j - i)) else 0)
theorem pt_zero (a b : List UInt8) : pt a b 0 = fun _ => 0 := rfl
theorem pk_zero (a b : List UInt8) (i : Nat) : pk a b i 0 = pt a b i := by
  funext j; unfold pk; rw [if_neg (by omega), Gf.add_zero]
theorem pk_full (a b : List UInt8) (i : Nat) : pk a b i b.length = pt a b (i + 1) := by
  funext j
  show pt a b i j ^^^ _ = pt a b i j ^^^ Gf.mul (cf a i) (if i ≤ j then cf b (j - i) else 0)
  congr 1
  by_cases h : i ≤ j
  · rw [if_pos h]
    by_cases h2 : j < i + b.length
    · rw [if_pos ⟨h, h2⟩]
    · rw [if_neg (fun c => h2 c.2), cf_out (l := b) (by omega), Gf.mul_zero]
  · rw [if_neg (fun c => h c.1), if_neg h, Gf.mul_zero]
theorem pk_at (a b : List UInt8) (i k : Nat) : pk a b i k (i + k) = pt a b i (i + k) := by
  unfold pk; rw [if_neg (by omega), Gf.add_zero]
theorem pk_set {n : Nat} (a b : List UInt8) (i k : Nat) : (tab n (pk a b i k)).set (i + k) (pk a b i k (i + k) ^^^ Gf.mul (cf a i) (cf b k)) = tab n (pk a b i (k + 1)) := by
  rw [tab_set]
  refine tab_ext (fun j _ => ?_)
  by_cases e : j = i + k
  · subst e
    rw [if_pos rfl, pk_at]
    show _ = pt a b i (i + k) ^^^ _
    rw [if_pos ⟨by omega, by omega⟩, show i + k - i = k by omega]
  · rw [if_neg e]
    show pt a b i j ^^^ _ = pt a b i j ^^^ _
    congr 1
    by_cases c : i ≤ j ∧ j < i + k
    · rw [if_pos c, if_pos ⟨c.1, by omega⟩]
    · rw [if_neg c, if_neg (fun c' => c ⟨c'.1, by omega⟩)]
theorem pt_conv {a b : List UInt8} (ha : a.length ≠ 0) (hb : b.length ≠ 0) : tab (a.length + b.length - 1) (pt a b a.length) = conv a b := by
  unfold conv; rw [if_neg (by omega)]; rfl
theorem conv_nil {a b : List UInt8} (h : a.length = 0 ∨ b.length = 0) : conv a b = [] := by unfold conv; rw [if_pos h]
end Pl
end Go.Proofs.Ytcldioneiededaa
