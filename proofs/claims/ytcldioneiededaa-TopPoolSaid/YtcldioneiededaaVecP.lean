/- Lists of bytes over the field by their entries, and sums over them, in plain lists. -/
import Derived.Test.YtcldioneiededaaGf
namespace Go.Proofs.Ytcldioneiededaa.Gv
/-- the list of f 0, f 1, .. -/
def tab (n : Nat) (f : Nat → UInt8) : List UInt8 := (List.range n).map f
theorem tab_len (n : Nat) (f : Nat → UInt8) : (tab n f).length = n := by unfold tab; simp
theorem tab_get? (n : Nat) (f : Nat → UInt8) (j : Nat) : (tab n f)[j]? = if j < n then some (f j) else none := by
  unfold tab
  rw [List.getElem?_map]
  by_cases h : j < n
  · rw [List.getElem?_range h, if_pos h]; rfl
  · rw [if_neg h, List.getElem?_eq_none (by rw [List.length_range]; omega)]; rfl
theorem tab_getD (n : Nat) (f : Nat → UInt8) (j : Nat) : (tab n f).getD j 0 = if j < n then f j else 0 := by
  rw [List.getD_eq_getElem?_getD, tab_get?]
  by_cases h : j < n
  · rw [if_pos h, if_pos h]; rfl
  · rw [if_neg h, if_neg h]; rfl
theorem tab_at {n : Nat} (f : Nat → UInt8) {j : Nat} (h : j < n) : (tab n f).getD j 0 = f j := by rw [tab_getD, if_pos h]
theorem tab_ext {n : Nat} {f g : Nat → UInt8} (h : ∀ j, j < n → f j = g j) : tab n f = tab n g := by
  unfold tab
  exact List.map_congr_left (fun j hj => h j (List.mem_range.1 hj))
theorem ext {l m : List UInt8} (hl : l.length = m.length) (h : ∀ j, j < l.length → l.getD j 0 = m.getD j 0) : l = m := by
  apply List.ext_getElem? 
  intro j
  by_cases hj : j < l.length
  · have := h j hj
    rw [List.getD_eq_getElem?_getD, List.getD_eq_getElem?_getD, List.getElem?_eq_getElem hj, List.getElem?_eq_getElem (by omega)] at this
    rw [List.getElem?_eq_getElem hj, List.getElem?_eq_getElem (by omega)]
    exact congrArg some this
  · rw [List.getElem?_eq_none (by omega), List.getElem?_eq_none (by omega)]
theorem tab_self (l : List UInt8) : tab l.length (fun j => l.getD j 0) = l :=
  ext (tab_len _ _) (fun j hj => by rw [tab_len] at hj; rw [tab_at _ hj])
theorem tab_inj {n : Nat} {f g : Nat → UInt8} (h : tab n f = tab n g) {j : Nat} (hj : j < n) : f j = g j := by
  rw [← tab_at f hj, h, tab_at g hj]
/-- the first k as f, the others as g -/
def upto (k : Nat) (f g : Nat → UInt8) : Nat → UInt8 := fun j => if j < k then f j else g j
theorem upto_zero (f g : Nat → UInt8) : upto 0 f g = g := by funext j; unfold upto; rw [if_neg (by omega)]
theorem upto_at (k : Nat) (f g : Nat → UInt8) : upto k f g k = g k := by unfold upto; rw [if_neg (by omega)]
theorem tab_upto (n : Nat) (f g : Nat → UInt8) : tab n (upto n f g) = tab n f := tab_ext (fun j hj => by unfold upto; rw [if_pos hj])
theorem tab_set {n k : Nat} (f : Nat → UInt8) (v : UInt8) : (tab n f).set k v = tab n (fun j => if j = k then v else f j) := by
  apply ext
  · rw [List.length_set, tab_len, tab_len]
  · intro j hj
    rw [List.length_set, tab_len] at hj
    rw [List.getD_eq_getElem?_getD, List.getElem?_set, tab_len, tab_at _ hj]
    by_cases e : k = j
    · subst e; rw [if_pos rfl, if_pos hj, if_pos rfl]; rfl
    · rw [if_neg e, ← List.getD_eq_getElem?_getD, tab_at _ hj, if_neg (fun h => e h.symm)]
theorem upto_set {n k : Nat} (f g : Nat → UInt8) : (tab n (upto k f g)).set k (f k) = tab n (upto (k + 1) f g) := by
  rw [tab_set]
  refine tab_ext (fun j _ => ?_)
  unfold upto
  by_cases e : j = k
  · subst e; rw [if_pos rfl, if_pos (by omega)]
  · rw [if_neg e]
    by_cases h : j < k
    · rw [if_pos h, if_pos (by omega)]
    · rw [if_neg h, if_neg (by omega)]
theorem tab_zero (n : Nat) : tab n (fun _ => 0) = List.replicate n 0 := by
  apply List.ext_getElem?
  intro j
  rw [tab_get?, List.getElem?_replicate]
/-- a sum by exclusive or -/
def xsum : Nat → (Nat → UInt8) → UInt8
  | 0, _ => 0
  | n + 1, f => xsum n f ^^^ f n
theorem xsum_succ (n : Nat) (f : Nat → UInt8) : xsum (n + 1) f = xsum n f ^^^ f n := rfl
theorem xsum_congr {n : Nat} {f g : Nat → UInt8} (h : ∀ j, j < n → f j = g j) : xsum n f = xsum n g := by
  induction n with
  | zero => rfl
  | succ n ih => rw [xsum_succ, xsum_succ, ih (fun j hj => h j (by omega)), h n (by omega)]
theorem xsum_zero (n : Nat) : xsum n (fun _ => 0) = 0 := by
  induction n with
  | zero => rfl
  | succ n ih => rw [xsum_succ, ih]; rfl
theorem xsum_all0 {n : Nat} {f : Nat → UInt8} (h : ∀ j, j < n → f j = 0) : xsum n f = 0 := (xsum_congr h).trans (xsum_zero n)
theorem xsum_xor (n : Nat) (f g : Nat → UInt8) : xsum n (fun j => f j ^^^ g j) = xsum n f ^^^ xsum n g := by
  induction n with
  | zero => exact (Gf.add_self 0).symm
  | succ n ih =>
    rw [xsum_succ, xsum_succ, xsum_succ, ih, Gf.add_assoc, Gf.add_assoc, Gf.add_left_comm (xsum n g) (f n) (g n)]
theorem xsum_mul (c : UInt8) (n : Nat) (f : Nat → UInt8) : Gf.mul c (xsum n f) = xsum n (fun j => Gf.mul c (f j)) := by
  induction n with
  | zero => exact Gf.mul_zero c
  | succ n ih => rw [xsum_succ, xsum_succ, Gf.mul_add, ih]
theorem mul_xsum (c : UInt8) (n : Nat) (f : Nat → UInt8) : Gf.mul (xsum n f) c = xsum n (fun j => Gf.mul (f j) c) := by
  rw [Gf.mul_comm, xsum_mul]; exact xsum_congr (fun j _ => Gf.mul_comm _ _)
theorem xsum_swap (n m : Nat) (f : Nat → Nat → UInt8) : xsum n (fun i => xsum m (fun j => f i j)) = xsum m (fun j => xsum n (fun i => f i j)) := by
  induction n with
  | zero => exact (xsum_zero m).symm
  | succ n ih => rw [xsum_succ, ih, ← xsum_xor]; rfl
theorem xsum_single {n k : Nat} (hk : k < n) (f : Nat → UInt8) (h : ∀ j, j < n → j ≠ k → f j = 0) : xsum n f = f k := by
  induction n with
  | zero => omega
  | succ n ih =>
    rw [xsum_succ]
    by_cases e : k = n
    · subst e
      rw [xsum_all0 (fun j hj => h j (by omega) (by omega)), Gf.zero_add]
    · rw [ih (by omega) (fun j hj => h j (by omega)), h n (by omega) (by omega), Gf.add_zero]
theorem xsum_add (n m : Nat) (f : Nat → UInt8) : xsum (n + m) f = xsum n f ^^^ xsum m (fun j => f (n + j)) := by
  induction m with
  | zero => exact (Gf.add_zero _).symm
  | succ m ih => rw [← Nat.add_assoc, xsum_succ, ih, xsum_succ, Gf.add_assoc]
/-- a sum of k lists of n, each so many times -/
def comb (n k : Nat) (t : Nat → UInt8) (x : Nat → Nat → UInt8) : List UInt8 := tab n (fun j => xsum k (fun i => Gf.mul (t i) (x i j)))
theorem comb_len (n k : Nat) (t : Nat → UInt8) (x : Nat → Nat → UInt8) : (comb n k t x).length = n := tab_len _ _
theorem comb_zero (n : Nat) (t : Nat → UInt8) (x : Nat → Nat → UInt8) : comb n 0 t x = tab n (fun _ => 0) := rfl
/-- an entry of a list of bytes -/
def at' (l : List UInt8) (j : Nat) : UInt8 := l.getD j 0
theorem at_get? {l : List UInt8} {j : Nat} (h : j < l.length) : l[j]? = some (at' l j) := by
  unfold at'; rw [List.getD_eq_getElem?_getD, List.getElem?_eq_getElem h]; rfl
end Go.Proofs.Ytcldioneiededaa.Gv
