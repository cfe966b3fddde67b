/- Intent, in plain lists. -/
import Derived.WalkKit
namespace Go.Proofs.YtangcjffiooapaaDoor.Nt
/-- the dirty regions, in order -/
def L (f : Nat → Bool) : List Int := ((List.range 40).filter f).map (fun k : Nat => (k : Int))
def upd {α : Type} (f : Nat → α) (r : Nat) (b : α) : Nat → α := fun k => if k = r then b else f k
theorem upd_same {α : Type} (f : Nat → α) (r : Nat) (b : α) : upd f r b r = b := if_pos rfl
theorem upd_other {α : Type} (f : Nat → α) {r k : Nat} (b : α) (h : k ≠ r) : upd f r b k = f k := if_neg h
theorem upd_self {α : Type} (f : Nat → α) (r : Nat) : upd f r (f r) = f := by
  funext k; unfold upd; split
  · next h => rw [h]
  · rfl
def lo (f : Nat → Bool) (r : Nat) : List Int := ((List.range r).filter f).map (fun k : Nat => (k : Int))
def hi (f : Nat → Bool) (r : Nat) : List Int := ((List.range' (r + 1) (39 - r)).filter f).map (fun k : Nat => (k : Int))
theorem L_split (f : Nat → Bool) {r : Nat} (h : r < 40) : L f = lo f r ++ (if f r then [(r : Int)] else []) ++ hi f r := by
  have e : List.range 40 = List.range r ++ [r] ++ List.range' (r + 1) (39 - r) := by
    rw [List.range_eq_range', List.range_eq_range']
    have h1 : List.range' 0 40 = List.range' 0 r ++ List.range' r (40 - r) := by
      have := List.range'_append (s := 0) (m := r) (n := 40 - r) (step := 1)
      rw [Nat.one_mul, Nat.zero_add] at this
      rw [this]; congr 1; omega
    rw [h1, show 40 - r = (39 - r) + 1 by omega, List.range'_succ]
    simp
  unfold L lo hi
  rw [e, List.filter_append, List.filter_append, List.map_append, List.map_append]
  congr 2
  cases hf : f r <;> simp [hf]
theorem lo_lt {f : Nat → Bool} {r : Nat} {x : Int} (h : x ∈ lo f r) : 0 ≤ x ∧ x < r := by
  obtain ⟨k, hk, rfl⟩ := List.mem_map.1 h
  have := (List.mem_filter.1 hk).1
  rw [List.mem_range] at this
  omega
theorem hi_gt {f : Nat → Bool} {r : Nat} {x : Int} (h : x ∈ hi f r) : (r : Int) < x := by
  obtain ⟨k, hk, rfl⟩ := List.mem_map.1 h
  have := (List.mem_filter.1 hk).1
  rw [List.mem_range'_1] at this
  omega
theorem count_lo (f : Nat → Bool) {r : Nat} (h : r < 40) : (L f).countP (fun x => decide (x < (r : Int))) = (lo f r).length := by
  have h1 : (lo f r).countP (fun x => decide (x < (r : Int))) = (lo f r).length := List.countP_eq_length.2 (fun x hx => by have := lo_lt hx; simp; omega)
  have h2 : (hi f r).countP (fun x => decide (x < (r : Int))) = 0 := List.countP_eq_zero.2 (fun x hx => by have := hi_gt hx; simp; omega)
  have h3 : List.countP (fun x => decide (x < (r : Int))) (if f r then [(r : Int)] else []) = 0 := by split <;> simp
  rw [L_split f h, List.countP_append, List.countP_append, h1, h2, h3]; omega
theorem lo_upd (f : Nat → Bool) (r : Nat) (b : Bool) : lo (upd f r b) r = lo f r := by
  unfold lo; congr 1
  apply List.filter_congr
  intro k hk
  rw [List.mem_range] at hk
  exact upd_other f b (by omega)
theorem hi_upd (f : Nat → Bool) (r : Nat) (b : Bool) : hi (upd f r b) r = hi f r := by
  unfold hi; congr 1
  apply List.filter_congr
  intro k hk
  rw [List.mem_range'_1] at hk
  exact upd_other f b (by omega)
theorem L_mem {f : Nat → Bool} {r : Nat} (h : r < 40) : (L f).contains (r : Int) = f r := by
  rw [Bool.eq_iff_iff, List.contains_iff_mem]
  unfold L
  constructor
  · intro hm
    obtain ⟨k, hk, e⟩ := List.mem_map.1 hm
    have : k = r := by omega
    subst this
    exact (List.mem_filter.1 hk).2
  · intro hf
    exact List.mem_map.2 ⟨r, List.mem_filter.2 ⟨List.mem_range.2 h, hf⟩, rfl⟩
theorem L_ins {f : Nat → Bool} {r : Nat} (h : r < 40) (hf : f r = false) : L (upd f r true) = (L f).take (lo f r).length ++ (r : Int) :: (L f).drop (lo f r).length := by
  rw [L_split (upd f r true) h, lo_upd, hi_upd, upd_same, L_split f h, hf]
  simp
theorem L_del {f : Nat → Bool} {r : Nat} (h : r < 40) (hf : f r = true) : L (upd f r false) = (L f).take (lo f r).length ++ (L f).drop ((lo f r).length + 1) := by
  rw [L_split (upd f r false) h, lo_upd, hi_upd, upd_same, L_split f h, hf]
  simp
theorem L_sorted (f : Nat → Bool) : (L f).Pairwise (· ≤ ·) := by
  unfold L
  rw [List.pairwise_map]
  have : (List.range 40).Pairwise (fun a b => ((a : Nat) : Int) ≤ (b : Int)) := (List.pairwise_lt_range).imp (fun h => by omega)
  exact this.filter _
theorem L_len (f : Nat → Bool) : (L f).length ≤ 40 := by
  unfold L
  rw [List.length_map]
  exact Nat.le_trans (List.length_filter_le _ _) (by simp)
theorem lo_len (f : Nat → Bool) {r : Nat} (h : r < 40) (hf : f r = true) : (lo f r).length < (L f).length := by
  rw [L_split f h, hf]; simp
theorem lo_le (f : Nat → Bool) {r : Nat} (h : r < 40) : (lo f r).length ≤ (L f).length := by
  rw [L_split f h]; simp
theorem L_none : L (fun _ => false) = [] := by decide +kernel
structure S where
  many : Nat → Nat
  dirty : Nat → Bool
def zero : S := ⟨fun _ => 0, fun _ => false⟩
def beg (s : S) (wide c : Nat) : S := ⟨upd s.many c (s.many c + 1), upd s.dirty (c / wide) true⟩
def fin (s : S) (c : Nat) : S := ⟨upd s.many c (s.many c - 1), s.dirty⟩
def busy (s : S) (wide r : Nat) : Prop := ∃ c, c < 40 ∧ s.many c ≠ 0 ∧ c / wide = r
def cln (s : S) (r : Nat) : S := ⟨s.many, upd s.dirty r false⟩
def crash (s : S) : S := ⟨fun _ => 0, s.dirty⟩
def inB (c : Int) : Bool := decide (0 ≤ c) && decide (c < 40)
theorem in_iff {c : Int} : inB c = true ↔ 0 ≤ c ∧ c < 40 := by unfold inB; simp
end Go.Proofs.YtangcjffiooapaaDoor.Nt
