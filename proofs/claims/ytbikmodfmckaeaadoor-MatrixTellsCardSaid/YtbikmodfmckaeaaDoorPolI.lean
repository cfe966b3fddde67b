/- Polynomials: the one through points; a product and a rest are what was divided: plain. -/
import Derived.Test.YtbikmodfmckaeaaDoorPolQ
namespace Go.Proofs.YtbikmodfmckaeaaDoor
set_option linter.unusedVariables false
namespace Pl
open Gv
abbrev Pt := UInt8 × UInt8
def pnt (l : List Pt) (k : Nat) : Pt := l.getD k (0, 0)
theorem pnt_get {l : List Pt} {k : Nat} (h : k < l.length) : l[k]? = some (pnt l k) := by
  unfold pnt; rw [List.getD_eq_getElem?_getD, List.getElem?_eq_getElem h]; rfl
def exs (l : List Pt) : List UInt8 := l.map (·.1)
theorem exs_at (l : List Pt) (k : Nat) : cf (exs l) k = (pnt l k).1 := by
  unfold cf at' exs pnt
  rw [List.getD_eq_getElem?_getD, List.getD_eq_getElem?_getD, List.getElem?_map]
  cases l[k]? <;> rfl
/-- how often the one that is 0 at all so far -/
def by' (l : List Pt) (k : Nat) (o : List UInt8) : UInt8 := Gf.mul ((pnt l k).2 ^^^ ev o (pnt l k).1) (Gf.inv (ev (roots (exs l) k) (pnt l k).1))
/-- the one through the first k -/
def thr (l : List Pt) : Nat → List UInt8
  | 0 => []
  | k + 1 => tab (k + 1) (fun j => cf (thr l k) j ^^^ Gf.mul (by' l k (thr l k)) (cf (roots (exs l) k) j))
theorem thr_len (l : List Pt) : ∀ k, (thr l k).length = k
  | 0 => rfl
  | k + 1 => tab_len _ _
/-- is one of the first n again? -/
def clash (l : List Pt) : Nat → Bool
  | 0 => false
  | n + 1 => clash l n || (l.take n).any (fun q => q.1 == (pnt l n).1)
theorem clash_mono {l : List Pt} {k : Nat} (h : clash l k = true) : ∀ {n}, k ≤ n → clash l n = true := by
  intro n hn
  induction n with
  | zero => have : k = 0 := by omega
            rw [this] at h; exact h
  | succ n ih =>
    by_cases e : k = n + 1
    · rw [← e]; exact h
    · unfold clash; rw [ih (by omega)]; rfl
def thF (l : List Pt) : Int := if 40 < l.length then 4 else if clash l l.length then 7 else 0
theorem isB_take (l : List Pt) (x : UInt8) : ∀ k, k ≤ l.length → isB (exs l) x k = (l.take k).any (fun q => q.1 == x)
  | 0, _ => by simp [isB]
  | k + 1, h => by
    have hk : k < l.length := by omega
    rw [List.take_add_one, pnt_get hk, List.any_append]
    show (isB (exs l) x k || cf (exs l) k == x) = _
    rw [isB_take l x k (by omega), exs_at]
    simp
theorem isB_mem (l : List UInt8) {i k : Nat} (h : i < k) : isB l (cf l i) k = true := by
  induction k with
  | zero => omega
  | succ k ih =>
    show (isB l (cf l i) k || cf l k == cf l i) = true
    by_cases e : i = k
    · subst e; simp
    · rw [ih (by omega)]; rfl
theorem roots_len' (l : List UInt8) (n : Nat) : (roots l n).length = n + 1 := (roots_monic l n).1
theorem ev_step (l : List Pt) (k : Nat) (x : UInt8) : ev (thr l (k + 1)) x = ev (thr l k) x ^^^ Gf.mul (by' l k (thr l k)) (ev (roots (exs l) k) x) := by
  have h1 : ev (thr l (k + 1)) x = xsum (k + 1) (fun j => Gf.mul (cf (thr l k) j) (Gf.pow x j) ^^^ Gf.mul (by' l k (thr l k)) (Gf.mul (cf (roots (exs l) k) j) (Gf.pow x j))) := by
    unfold ev
    rw [thr_len]
    refine xsum_congr (fun j hj => ?_)
    have : cf (thr l (k + 1)) j = cf (thr l k) j ^^^ Gf.mul (by' l k (thr l k)) (cf (roots (exs l) k) j) := by
      show cf (tab (k + 1) _) j = _
      rw [cf_tab, if_pos hj]
    rw [this, Gf.add_mul, Gf.mul_assoc]
  rw [h1, xsum_xor, ev_of x (by rw [thr_len]; omega), ← xsum_mul, ev_of x (by rw [roots_len']; omega)]
theorem thr_at (l : List Pt) : ∀ k, k ≤ l.length → clash l k = false → ∀ i, i < k → ev (thr l k) (pnt l i).1 = (pnt l i).2
  | 0, _, _, i, hi => absurd hi (by omega)
  | k + 1, h, hc, i, hi => by
    have hc' : clash l k = false ∧ (l.take k).any (fun q => q.1 == (pnt l k).1) = false := by
      unfold clash at hc
      exact (Bool.or_eq_false_iff.1 hc)
    rw [ev_step]
    by_cases e : i = k
    · subst e
      have hne : ev (roots (exs l) i) (pnt l i).1 ≠ 0 := fun h0 => by
        have := (roots_zero (exs l) (pnt l i).1 i).1 h0
        rw [isB_take l _ i (by omega), hc'.2] at this
        cases this
      unfold by'
      rw [Gf.mul_assoc, Gf.inv_mul hne, Gf.mul_one, Gf.add_comm (pnt l i).2, ← Gf.add_assoc, Gf.add_self, Gf.zero_add]
    · have h0 : ev (roots (exs l) k) (pnt l i).1 = 0 := by
        refine (roots_zero _ _ _).2 ?_
        rw [← exs_at]
        exact isB_mem _ (by omega)
      rw [h0, Gf.mul_zero, Gf.add_zero]
      exact thr_at l k (by omega) hc'.1 i (by omega)
/-- amid the addition: i of its entries are done -/
def tp (l : List Pt) (k i : Nat) : Nat → UInt8 := fun j => cf (thr l k) j ^^^ (if j < i then Gf.mul (by' l k (thr l k)) (cf (roots (exs l) k) j) else 0)
theorem tp_zero (l : List Pt) (k : Nat) : tp l k 0 = cf (thr l k) := by
  funext j; unfold tp; rw [if_neg (by omega), Gf.add_zero]
theorem tp_full (l : List Pt) (k : Nat) : tab (k + 1) (tp l k (k + 1)) = thr l (k + 1) := tab_ext (fun j hj => by unfold tp; rw [if_pos hj])
theorem tp_at (l : List Pt) (k i : Nat) : tp l k i i = cf (thr l k) i := by unfold tp; rw [if_neg (by omega), Gf.add_zero]
theorem tp_set {m : Nat} (l : List Pt) (k i : Nat) : (tab m (tp l k i)).set i (tp l k i i ^^^ Gf.mul (by' l k (thr l k)) (cf (roots (exs l) k) i)) = tab m (tp l k (i + 1)) := by
  rw [tab_set]
  refine tab_ext (fun j _ => ?_)
  by_cases e : j = i
  · subst e
    rw [if_pos rfl, tp_at]; unfold tp; rw [if_pos (by omega)]
  · rw [if_neg e]; unfold tp
    by_cases c : j < i
    · rw [if_pos c, if_pos (by omega)]
    · rw [if_neg c, if_neg (by omega)]
theorem thr_pad (l : List Pt) (k : Nat) : thr l k ++ [0] = tab (k + 1) (cf (thr l k)) := by
  refine Gv.ext (by rw [List.length_append, thr_len, tab_len]; rfl) (fun j hj => ?_)
  rw [List.length_append, thr_len] at hj
  rw [tab_at _ (by simpa using hj), List.getD_eq_getElem?_getD]
  by_cases c : j < k
  · rw [List.getElem?_append_left (by rw [thr_len]; exact c)]
    unfold cf at'; rw [List.getD_eq_getElem?_getD]
  · obtain rfl : j = k := by simp at hj; omega
    rw [List.getElem?_append_right (by rw [thr_len]; omega), thr_len, Nat.sub_self, cf_out (by rw [thr_len]; omega)]; rfl
theorem thr_self (l : List Pt) (k : Nat) : thr l k = tab k (cf (thr l k)) := by
  have h := tab_self (thr l k)
  rw [thr_len] at h; exact h.symm
/- sums -/
theorem tn_last {l : List UInt8} : ∀ {n}, tn l n ≠ 0 → cf l (tn l n - 1) ≠ 0
  | 0, h => absurd rfl h
  | n + 1, h => by
    unfold tn at h ⊢
    by_cases c : cf l n = 0
    · rw [if_pos c] at h ⊢; exact tn_last h
    · rw [if_neg c]; exact c
theorem trim_short {l : List UInt8} {k : Nat} (h : ∀ j, k ≤ j → cf l j = 0) : (trim l).length ≤ k := by
  rw [trim_len]
  by_cases c : tn l l.length ≤ k
  · exact c
  · exact absurd (h (tn l l.length - 1) (by omega)) (tn_last (by omega))
theorem trim_eq {l k : List UInt8} (h : ∀ j, cf l j = cf k j) : trim l = trim k := by
  have hl : ∀ {l k : List UInt8}, (∀ j, cf l j = cf k j) → (trim l).length ≤ (trim k).length := fun {l k} h => trim_short (fun j hj => by
    rw [h, ← cf_trim]; exact cf_out hj)
  have e : (trim l).length = (trim k).length := Nat.le_antisymm (hl h) (hl (fun j => (h j).symm))
  exact Gv.ext e (fun j _ => by
    show cf (trim l) j = cf (trim k) j
    rw [cf_trim, cf_trim, h])
/-- so much and what is left is what was divided -/
theorem rs_cm {a t : List UInt8} {n : Nat} (hn : n = a.length + 1 - t.length) : ∀ s, s ≤ n → ∀ j, rs a t n s j ^^^ cm (tab n (qs a t n s)) t j = cf a j
  | 0, _, j => by
    unfold cm
    rw [xsum_all0 (fun i hi => by
      rw [tab_len] at hi
      rw [cf_tab, if_pos hi]; unfold qs; rw [if_neg (by omega), Gf.zero_mul]), Gf.add_zero]
    rfl
  | s + 1, hs, j => by
    rw [← rs_cm hn s (by omega) j]
    show rs a t n s j ^^^ _ ^^^ _ = _
    rw [Gf.add_assoc]
    congr 1
    unfold cm
    rw [tab_len, tab_len]
    have e : xsum n (fun i => Gf.mul (cf (tab n (qs a t n (s + 1))) i) (if i ≤ j then cf t (j - i) else 0)) = xsum n (fun i => Gf.mul (cf (tab n (qs a t n s)) i) (if i ≤ j then cf t (j - i) else 0) ^^^ (if i = n - 1 - s then Gf.mul (oq a t n s) (if n - 1 - s ≤ j then cf t (j - (n - 1 - s)) else 0) else 0)) := xsum_congr (fun i hi => by
      rw [cf_tab, cf_tab, if_pos hi, if_pos hi]
      unfold qs
      by_cases c : i = n - 1 - s
      · subst c
        rw [if_pos rfl, if_pos (show n - (s + 1) ≤ n - 1 - s by omega), if_neg (show ¬ n - s ≤ n - 1 - s by omega), Gf.zero_mul, Gf.zero_add, show n - 1 - (n - 1 - s) = s by omega]
      · rw [if_neg c, Gf.add_zero]
        by_cases c2 : n - s ≤ i
        · rw [if_pos c2, if_pos (by omega)]
        · rw [if_neg c2, if_neg (by omega)])
    rw [e, xsum_xor, xsum_single (k := n - 1 - s) (by omega) (fun i => if i = n - 1 - s then _ else 0) (fun i _ hi => if_neg hi), if_pos rfl]
    rw [Gf.add_comm, Gf.add_assoc]
    have e2 : (if n - 1 - s ≤ j ∧ j < n - 1 - s + t.length then Gf.mul (Gf.mul (rs a t n s (n - 1 - s + t.length - 1)) (Gf.inv (cf t (t.length - 1)))) (cf t (j - (n - 1 - s))) else 0) = Gf.mul (oq a t n s) (if n - 1 - s ≤ j then cf t (j - (n - 1 - s)) else 0) := by
      by_cases c : n - 1 - s ≤ j
      · rw [if_pos c]
        by_cases c2 : j < n - 1 - s + t.length
        · rw [if_pos ⟨c, c2⟩]; rfl
        · rw [if_neg (fun h => c2 h.2), cf_out (l := t) (by omega), Gf.mul_zero]
      · rw [if_neg c, if_neg (fun h => c h.1), Gf.mul_zero]
    rw [e2, Gf.add_self, Gf.add_zero]
theorem cm_eq {a a' b b' : List UInt8} (ha : ∀ j, cf a j = cf a' j) (hb : ∀ j, cf b j = cf b' j) (j : Nat) : cm a b j = cm a' b' j := by
  have h1 : ∀ {x : List UInt8} {m : Nat} {y : List UInt8}, x.length ≤ m → xsum m (fun i => Gf.mul (cf x i) (if i ≤ j then cf y (j - i) else 0)) = cm x y j := fun {x m y} h => xsum_more h (fun i hi => by rw [cf_out hi, Gf.zero_mul])
  rw [← h1 (x := a) (m := a.length + a'.length) (by omega), ← h1 (x := a') (m := a.length + a'.length) (by omega)]
  refine xsum_congr (fun i _ => ?_)
  rw [ha]
  by_cases c : i ≤ j
  · rw [if_pos c, if_pos c, hb]
  · rw [if_neg c, if_neg c]
/-- the sum of two -/
def plus (a b : List UInt8) : List UInt8 := tab (max a.length b.length) (fun j => cf a j ^^^ cf b j)
theorem cf_plus (a b : List UInt8) (j : Nat) : cf (plus a b) j = cf a j ^^^ cf b j := by
  unfold plus
  rw [cf_tab]
  by_cases c : j < max a.length b.length
  · rw [if_pos c]
  · rw [if_neg c, cf_out (l := a) (by omega), cf_out (l := b) (by omega)]; rfl
section
variable {a b : List UInt8}
/-- quotient, rest -/
def quo (a b : List UInt8) : List UInt8 := trim (tab (a.length + 1 - (trim b).length) (qs a (trim b) (a.length + 1 - (trim b).length) (a.length + 1 - (trim b).length)))
def rst (a b : List UInt8) : List UInt8 := trim (tab a.length (rs a (trim b) (a.length + 1 - (trim b).length) (a.length + 1 - (trim b).length)))
theorem top_ne (h0 : (trim b).length ≠ 0) : cf (trim b) ((trim b).length - 1) ≠ 0 := by
  rw [cf_trim]
  rw [trim_len] at h0 ⊢
  exact tn_last h0
theorem rst_high (h0 : (trim b).length ≠ 0) {j : Nat} (hj : (trim b).length - 1 ≤ j) : rs a (trim b) (a.length + 1 - (trim b).length) (a.length + 1 - (trim b).length) j = 0 :=
  rs_high h0 (top_ne h0) rfl _ (Nat.le_refl _) j (by omega)
theorem rst_short (h0 : (trim b).length ≠ 0) : (rst a b).length < (trim b).length := by
  have : (rst a b).length ≤ (trim b).length - 1 := trim_short (fun j hj => by
    rw [cf_tab]; split
    · exact rst_high h0 hj
    · rfl)
  omega
theorem cf_rst (h0 : (trim b).length ≠ 0) (j : Nat) : cf (rst a b) j = rs a (trim b) (a.length + 1 - (trim b).length) (a.length + 1 - (trim b).length) j := by
  unfold rst
  rw [cf_trim, cf_tab]
  by_cases c : j < a.length
  · rw [if_pos c]
  · rw [if_neg c]
    by_cases c2 : (trim b).length - 1 ≤ j
    · exact (rst_high h0 c2).symm
    · have hn : a.length + 1 - (trim b).length = 0 := by omega
      rw [hn]; symm; exact cf_out (by omega)
theorem div_right (h0 : (trim b).length ≠ 0) (j : Nat) : cm (quo a b) b j ^^^ cf (rst a b) j = cf a j := by
  rw [cf_rst h0, ← rs_cm (a := a) (t := trim b) rfl _ (Nat.le_refl _) j, Gf.add_comm]
  congr 1
  exact cm_eq (fun j => cf_trim _ j) (fun j => (cf_trim b j).symm) j
theorem prod_short (h0 : (trim b).length ≠ 0) : (trim (conv (quo a b) b)).length ≤ a.length := trim_short (fun j hj => by
  rw [cf_conv]
  have h1 := div_right (a := a) h0 j
  have h2 : cf (rst a b) j = 0 := cf_out (by
    have : (rst a b).length ≤ a.length := by
      unfold rst; rw [trim_len]; have := tn_le (tab a.length (rs a (trim b) (a.length + 1 - (trim b).length) (a.length + 1 - (trim b).length))) a.length; rw [tab_len]; exact this
    omega)
  rw [h2, Gf.add_zero, cf_out (l := a) hj] at h1
  exact h1)
theorem div_sum (h0 : (trim b).length ≠ 0) : trim (plus (trim (conv (quo a b) b)) (rst a b)) = trim a := trim_eq (fun j => by
  rw [cf_plus, cf_trim, cf_conv]; exact div_right h0 j)
end
end Pl
end Go.Proofs.YtbikmodfmckaeaaDoor
