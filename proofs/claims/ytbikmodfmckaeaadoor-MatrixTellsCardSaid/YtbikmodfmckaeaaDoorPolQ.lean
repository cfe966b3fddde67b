/- Polynomials divided: plain. -/
import Derived.Test.YtbikmodfmckaeaaDoorPolP
namespace Go.Proofs.YtbikmodfmckaeaaDoor
set_option linter.unusedVariables false
namespace Pl
open Gv
/-- what is left when s steps of n are done -/
def rs (a t : List UInt8) (n : Nat) : Nat → Nat → UInt8
  | 0 => cf a
  | s + 1 => fun j => rs a t n s j ^^^ (if n - 1 - s ≤ j ∧ j < n - 1 - s + t.length then Gf.mul (Gf.mul (rs a t n s (n - 1 - s + t.length - 1)) (Gf.inv (cf t (t.length - 1)))) (cf t (j - (n - 1 - s))) else 0)
/-- how often, at step s -/
def oq (a t : List UInt8) (n s : Nat) : UInt8 := Gf.mul (rs a t n s (n - 1 - s + t.length - 1)) (Gf.inv (cf t (t.length - 1)))
/-- amid step s: k of the divisor's are done -/
def rk (a t : List UInt8) (n s k : Nat) : Nat → UInt8 := fun j => rs a t n s j ^^^ (if n - 1 - s ≤ j ∧ j < n - 1 - s + k then Gf.mul (oq a t n s) (cf t (j - (n - 1 - s))) else 0)
theorem rk_zero (a t : List UInt8) (n s : Nat) : rk a t n s 0 = rs a t n s := by
  funext j; unfold rk; rw [if_neg (by omega), Gf.add_zero]
theorem rk_full (a t : List UInt8) (n s : Nat) : rk a t n s t.length = rs a t n (s + 1) := rfl
theorem rk_at (a t : List UInt8) (n s k : Nat) : rk a t n s k (n - 1 - s + k) = rs a t n s (n - 1 - s + k) := by
  unfold rk; rw [if_neg (by omega), Gf.add_zero]
theorem rk_set {m : Nat} (a t : List UInt8) (n s k : Nat) : (tab m (rk a t n s k)).set (n - 1 - s + k) (rk a t n s k (n - 1 - s + k) ^^^ Gf.mul (oq a t n s) (cf t k)) = tab m (rk a t n s (k + 1)) := by
  rw [tab_set]
  refine tab_ext (fun j _ => ?_)
  by_cases e : j = n - 1 - s + k
  · subst e
    rw [if_pos rfl, rk_at]
    show _ = rs a t n s (n - 1 - s + k) ^^^ _
    rw [if_pos ⟨by omega, by omega⟩, show n - 1 - s + k - (n - 1 - s) = k by omega]
  · rw [if_neg e]
    show rs a t n s j ^^^ _ = rs a t n s j ^^^ _
    congr 1
    by_cases c : n - 1 - s ≤ j ∧ j < n - 1 - s + k
    · rw [if_pos c, if_pos ⟨c.1, by omega⟩]
    · rw [if_neg c, if_neg (fun c' => c ⟨c'.1, by omega⟩)]
/-- the quotient when s steps are done -/
def qs (a t : List UInt8) (n s : Nat) : Nat → UInt8 := fun j => if n - s ≤ j then oq a t n (n - 1 - j) else 0
theorem qs_zero (a t : List UInt8) (n : Nat) : tab n (qs a t n 0) = tab n (fun _ => 0) := tab_ext (fun j hj => by unfold qs; rw [if_neg (by omega)])
theorem qs_set (a t : List UInt8) {n s : Nat} (h : s < n) : (tab n (qs a t n s)).set (n - 1 - s) (oq a t n s) = tab n (qs a t n (s + 1)) := by
  rw [tab_set]
  refine tab_ext (fun j hj => ?_)
  unfold qs
  by_cases e : j = n - 1 - s
  · subst e
    rw [if_pos rfl, if_pos (by omega), show n - 1 - (n - 1 - s) = s by omega]
  · rw [if_neg e]
    by_cases c : n - s ≤ j
    · rw [if_pos c, if_pos (by omega)]
    · rw [if_neg c, if_neg (by omega)]
theorem rs_high {a t : List UInt8} {n : Nat} (h0 : t.length ≠ 0) (ht : cf t (t.length - 1) ≠ 0) (hn : n = a.length + 1 - t.length) : ∀ s, s ≤ n → ∀ j, n - s + t.length - 1 ≤ j → rs a t n s j = 0
  | 0, _, j, hj => cf_out (by omega)
  | s + 1, hs, j, hj => by
    show rs a t n s j ^^^ _ = 0
    by_cases c : j = n - 1 - s + t.length - 1
    · rw [if_pos ⟨by omega, by omega⟩, ← c, show j - (n - 1 - s) = t.length - 1 by omega, Gf.mul_assoc, Gf.inv_mul ht, Gf.mul_one, Gf.add_self]
    · rw [if_neg (by omega), Gf.add_zero]
      exact rs_high h0 ht hn s (by omega) j (by omega)
/-- the value at a root of the divisor stays -/
theorem rs_ev {a t : List UInt8} {n : Nat} (x : UInt8) (hx : ev t x = 0) (h0 : t.length ≠ 0) (hn : n = a.length + 1 - t.length) : ∀ s, s ≤ n → xsum a.length (fun j => Gf.mul (rs a t n s j) (Gf.pow x j)) = ev a x
  | 0, _ => rfl
  | s + 1, hs => by
    rw [← rs_ev x hx h0 hn s (by omega)]
    have e : xsum a.length (fun j => Gf.mul (rs a t n (s + 1) j) (Gf.pow x j)) = xsum a.length (fun j => Gf.mul (rs a t n s j) (Gf.pow x j) ^^^ (if n - 1 - s ≤ j then Gf.mul (Gf.mul (oq a t n s) (cf t (j - (n - 1 - s)))) (Gf.pow x j) else 0)) := xsum_congr (fun j _ => by
      show Gf.mul (rs a t n s j ^^^ _) _ = _
      rw [Gf.add_mul]
      congr 1
      by_cases c : n - 1 - s ≤ j
      · rw [if_pos c]
        by_cases c2 : j < n - 1 - s + t.length
        · rw [if_pos ⟨c, c2⟩]; rfl
        · rw [if_neg (fun h => c2 h.2), cf_out (l := t) (by omega), Gf.mul_zero]
      · rw [if_neg (fun h => c h.1), if_neg c, Gf.zero_mul])
    rw [e, xsum_xor]
    have e2 : xsum a.length (fun j => if n - 1 - s ≤ j then Gf.mul (Gf.mul (oq a t n s) (cf t (j - (n - 1 - s)))) (Gf.pow x j) else 0) = xsum (a.length - (n - 1 - s) + (n - 1 - s)) (fun j => if n - 1 - s ≤ j then Gf.mul (Gf.mul (oq a t n s) (cf t (j - (n - 1 - s)))) (Gf.pow x (j - (n - 1 - s) + (n - 1 - s))) else 0) := by
      rw [show a.length - (n - 1 - s) + (n - 1 - s) = a.length by omega]
      exact xsum_congr (fun j _ => by
        by_cases c : n - 1 - s ≤ j
        · rw [if_pos c, if_pos c, show j - (n - 1 - s) + (n - 1 - s) = j by omega]
        · rw [if_neg c, if_neg c])
    rw [e2, xsum_shift (a.length - (n - 1 - s)) (n - 1 - s) (fun q => Gf.mul (Gf.mul (oq a t n s) (cf t q)) (Gf.pow x (q + (n - 1 - s))))]
    have e3 : xsum (a.length - (n - 1 - s)) (fun q => Gf.mul (Gf.mul (oq a t n s) (cf t q)) (Gf.pow x (q + (n - 1 - s)))) = Gf.mul (Gf.mul (oq a t n s) (Gf.pow x (n - 1 - s))) (xsum (a.length - (n - 1 - s)) (fun q => Gf.mul (cf t q) (Gf.pow x q))) := by
      rw [xsum_mul]
      refine xsum_congr (fun q _ => ?_)
      rw [Gf.pow_add, Gf.mul_assoc, Gf.mul_assoc]
      congr 1
      rw [Gf.mul_left_comm (Gf.pow x (n - 1 - s)), Gf.mul_comm (Gf.pow x q)]
    rw [e3, ev_of (l := t) x (by omega), hx, Gf.mul_zero, Gf.add_zero]
/-- by x + X: the rest is the value at x -/
theorem rest_root {a : List UInt8} (x : UInt8) (h1 : 1 ≤ a.length) (n : Nat) (hn : n = a.length - 1) : ((trim (tab a.length (rs a [x, 1] n n))).length = 0) ↔ ev a x = 0 := by
  have hx : ev [x, 1] x = 0 := by rw [ev_two, Gf.add_self]
  have hn2 : n = a.length + 1 - ([x, 1] : List UInt8).length := by simp; omega
  have hev := rs_ev x hx (by simp) hn2 n (Nat.le_refl _)
  have hhi := rs_high (a := a) (t := [x, 1]) (by simp) (by show (1 : UInt8) ≠ 0; decide) hn2 n (Nat.le_refl _)
  have hhi1 : ∀ j, 1 ≤ j → rs a [x, 1] n n j = 0 := fun j hj => hhi j (by simp; omega)
  have h0 : ev a x = rs a [x, 1] n n 0 := by
    rw [← hev, xsum_single (k := 0) (by omega) _ (fun j _ hj => by rw [hhi1 j (by omega), Gf.zero_mul])]
    show Gf.mul _ (Gf.pow x 0) = _
    rw [show Gf.pow x 0 = 1 from rfl, Gf.mul_one]
  rw [h0]
  constructor
  · intro hl
    have h := cf_trim (tab a.length (rs a [x, 1] n n)) 0
    rw [cf_out (by omega), cf_tab, if_pos (by omega)] at h
    exact h.symm
  · intro hz
    rw [trim_nil (fun j hj => by
      rw [tab_len] at hj
      rw [cf_tab, if_pos hj]
      by_cases e : j = 0
      · rw [e]; exact hz
      · exact hhi1 j (by omega))]
    rfl
end Pl
end Go.Proofs.YtbikmodfmckaeaaDoor
