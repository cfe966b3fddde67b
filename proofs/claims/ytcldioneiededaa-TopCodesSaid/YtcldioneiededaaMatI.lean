/- Any k rows of the unit matrix and Cauchy's have an inverse. Plain. -/
import Derived.Test.YtcldioneiededaaCodD
namespace Go.Proofs.Ytcldioneiededaa
set_option linter.unusedVariables false
namespace Mx
open Gv
/-- a sum over a list -/
def S {α : Type} (f : α → UInt8) : List α → UInt8
  | [] => 0
  | p :: ps => f p ^^^ S f ps
theorem S_congr {α : Type} {f g : α → UInt8} : ∀ {ps : List α}, (∀ p ∈ ps, f p = g p) → S f ps = S g ps
  | [], _ => rfl
  | p :: ps, h => by
    show f p ^^^ S f ps = g p ^^^ S g ps
    rw [h p (List.mem_cons_self ..), S_congr (fun q hq => h q (List.mem_cons_of_mem _ hq))]
theorem S_zero {α : Type} {f : α → UInt8} {ps : List α} (h : ∀ p ∈ ps, f p = 0) : S f ps = 0 := by
  rw [S_congr h]
  induction ps with
  | nil => rfl
  | cons p ps ih => show 0 ^^^ S (fun _ => 0) ps = 0; rw [ih (fun q hq => h q (List.mem_cons_of_mem _ hq)), Gf.add_zero]
theorem S_add {α : Type} (f g : α → UInt8) : ∀ ps : List α, S (fun p => f p ^^^ g p) ps = S f ps ^^^ S g ps
  | [] => (Gf.add_self 0).symm
  | p :: ps => by
    show f p ^^^ g p ^^^ S _ ps = (f p ^^^ S f ps) ^^^ (g p ^^^ S g ps)
    rw [S_add f g ps, Gf.add_assoc, Gf.add_assoc, Gf.add_left_comm (g p)]
theorem S_mul {α : Type} (c : UInt8) (f : α → UInt8) : ∀ ps : List α, Gf.mul c (S f ps) = S (fun p => Gf.mul c (f p)) ps
  | [] => Gf.mul_zero c
  | p :: ps => by
    show Gf.mul c (f p ^^^ S f ps) = Gf.mul c (f p) ^^^ S _ ps
    rw [Gf.mul_add, S_mul c f ps]
theorem S_map {α β : Type} (f : β → UInt8) (h : α → β) : ∀ ps : List α, S f (ps.map h) = S (fun p => f (h p)) ps
  | [] => rfl
  | p :: ps => by show f (h p) ^^^ S f (ps.map h) = _; rw [S_map f h ps]; rfl
theorem S_append {α : Type} (f : α → UInt8) (qs : List α) : ∀ ps : List α, S f (ps ++ qs) = S f ps ^^^ S f qs
  | [] => (Gf.zero_add _).symm
  | p :: ps => by
    show f p ^^^ S f (ps ++ qs) = (f p ^^^ S f ps) ^^^ S f qs
    rw [S_append f qs ps, Gf.add_assoc]
theorem ne_add {a b : UInt8} (h : a ≠ b) : a ^^^ b ≠ 0 := fun e => h (Gf.add_eq_zero.1 e)
/-- no sum of Cauchy's rows is nought but that of none -/
theorem cauchy : ∀ (ps : List (UInt8 × UInt8)) (ys : List UInt8), ps.length ≤ ys.length → (ps.map (·.1)).Nodup → ys.Nodup → (∀ p ∈ ps, ∀ y ∈ ys, p.1 ≠ y) →
    (∀ y ∈ ys, S (fun p => Gf.mul p.2 (Gf.inv (p.1 ^^^ y))) ps = 0) → ∀ p ∈ ps, p.2 = 0
  | [], _, _, _, _, _, _, p, hp => by cases hp
  | (x0, u0) :: ps, [], h, _, _, _, _, _, _ => by simp at h
  | (x0, u0) :: ps, y0 :: yt, hl, hx, hy, hxy, he, p, hp => by
    have hx' : (∀ q ∈ ps, x0 ≠ q.1) ∧ (ps.map (·.1)).Nodup := by
      rw [List.map_cons, List.nodup_cons] at hx
      exact ⟨fun q hq e => hx.1 (List.mem_map.2 ⟨q, hq, e.symm⟩), hx.2⟩
    have hy' : (∀ y ∈ yt, y0 ≠ y) ∧ yt.Nodup := by
      rw [List.nodup_cons] at hy
      exact ⟨fun y hq e => hy.1 (by rw [e]; exact hq), hy.2⟩
    -- what is left of one equation, times x0 + y
    have key : ∀ y, y ∈ y0 :: yt → u0 ^^^ S (fun q => q.2) ps ^^^ S (fun q => Gf.mul (Gf.mul q.2 (x0 ^^^ q.1)) (Gf.inv (q.1 ^^^ y))) ps = 0 := fun y hyy => by
      have h1 := congrArg (Gf.mul (x0 ^^^ y)) (he y hyy)
      rw [Gf.mul_zero] at h1
      rw [← h1]
      show _ = Gf.mul (x0 ^^^ y) (Gf.mul u0 (Gf.inv (x0 ^^^ y)) ^^^ S _ ps)
      rw [Gf.mul_add, S_mul, Gf.mul_left_comm, Gf.mul_inv (ne_add (hxy _ (List.mem_cons_self ..) y hyy)), Gf.mul_one, Gf.add_assoc, ← S_add]
      congr 1
      refine S_congr (fun q hq => ?_)
      have hne := ne_add (hxy q (List.mem_cons_of_mem _ hq) y hyy)
      have e : x0 ^^^ y = (q.1 ^^^ y) ^^^ (x0 ^^^ q.1) := by
        rw [Gf.add_comm q.1 y, Gf.add_assoc, Gf.add_left_comm q.1 x0, Gf.add_self, Gf.add_zero, Gf.add_comm]
      rw [e, Gf.add_mul, Gf.mul_left_comm (q.1 ^^^ y), Gf.mul_inv hne, Gf.mul_one, Gf.mul_assoc, Gf.mul_left_comm (x0 ^^^ q.1)]
    have k0 := key y0 (List.mem_cons_self ..)
    have hrest : ∀ y ∈ yt, S (fun p => Gf.mul p.2 (Gf.inv (p.1 ^^^ y))) (ps.map (fun q => (q.1, Gf.mul (Gf.mul q.2 (x0 ^^^ q.1)) (Gf.inv (q.1 ^^^ y0))))) = 0 := fun y hyy => by
      have k1 := key y (List.mem_cons_of_mem _ hyy)
      have hd : S (fun q => Gf.mul (Gf.mul q.2 (x0 ^^^ q.1)) (Gf.inv (q.1 ^^^ y))) ps ^^^ S (fun q => Gf.mul (Gf.mul q.2 (x0 ^^^ q.1)) (Gf.inv (q.1 ^^^ y0))) ps = 0 := by
        have e1 := Gf.add_eq_zero.1 k1
        have e0 := Gf.add_eq_zero.1 k0
        rw [← e1, ← e0, Gf.add_self]
      rw [← S_add] at hd
      rw [S_map]
      have hc : Gf.mul (y ^^^ y0) (S (fun q => Gf.mul (Gf.mul (Gf.mul q.2 (x0 ^^^ q.1)) (Gf.inv (q.1 ^^^ y0))) (Gf.inv (q.1 ^^^ y))) ps) = 0 := by
        rw [S_mul, ← hd]
        refine S_congr (fun q hq => ?_)
        have h1 := ne_add (hxy q (List.mem_cons_of_mem _ hq) y (List.mem_cons_of_mem _ hyy))
        have h0 := ne_add (hxy q (List.mem_cons_of_mem _ hq) y0 (List.mem_cons_self ..))
        generalize Gf.mul q.2 (x0 ^^^ q.1) = t
        have e : y ^^^ y0 = (q.1 ^^^ y0) ^^^ (q.1 ^^^ y) := by
          rw [Gf.add_comm q.1 y0, Gf.add_assoc, ← Gf.add_assoc q.1 q.1, Gf.add_self, Gf.zero_add, Gf.add_comm]
        rw [e, Gf.add_mul, Gf.mul_assoc t, Gf.mul_left_comm (q.1 ^^^ y0) t, Gf.mul_left_comm (q.1 ^^^ y) t, ← Gf.mul_assoc (q.1 ^^^ y0), Gf.mul_inv h0, Gf.one_mul, Gf.mul_left_comm (q.1 ^^^ y), Gf.mul_inv h1, Gf.mul_one]
      rcases Gf.mul_eq_zero.1 hc with h | h
      · exact absurd (Gf.add_eq_zero.1 h).symm (hy'.1 y hyy)
      · exact h
    have ih := cauchy (ps.map (fun q => (q.1, Gf.mul (Gf.mul q.2 (x0 ^^^ q.1)) (Gf.inv (q.1 ^^^ y0))))) yt (by rw [List.length_map]; simpa using hl) (by rw [List.map_map]; exact hx'.2) hy'.2
      (fun q hq y hyy => by
        obtain ⟨r, hr, rfl⟩ := List.mem_map.1 hq
        exact hxy r (List.mem_cons_of_mem _ hr) y (List.mem_cons_of_mem _ hyy)) hrest
    have hz : ∀ q ∈ ps, q.2 = 0 := fun q hq => by
      have h := ih _ (List.mem_map_of_mem (f := fun q => (q.1, Gf.mul (Gf.mul q.2 (x0 ^^^ q.1)) (Gf.inv (q.1 ^^^ y0)))) hq)
      rcases Gf.mul_eq_zero.1 h with h | h
      · rcases Gf.mul_eq_zero.1 h with h | h
        · exact h
        · exact absurd (Gf.add_eq_zero.1 h) (hx'.1 q hq)
      · exact absurd h (Gf.inv_ne (ne_add (hxy q (List.mem_cons_of_mem _ hq) y0 (List.mem_cons_self ..))))
    rcases List.mem_cons.1 hp with rfl | hp
    · rw [S_zero (fun q hq => hz q hq), S_zero (fun q hq => by rw [hz q hq, Gf.zero_mul, Gf.zero_mul]), Gf.add_zero, Gf.add_zero] at k0
      exact k0
    · exact hz p hp
/- numbers -/
theorem S_range (p : Nat → Bool) (g : Nat → UInt8) : ∀ k, xsum k (fun i => if p i = true then g i else 0) = S g ((List.range k).filter p)
  | 0 => rfl
  | k + 1 => by
    rw [xsum_succ, S_range p g k, List.range_succ, List.filter_append, S_append]
    congr 1
    by_cases h : p k = true
    · rw [if_pos h]
      show _ = S g (List.filter p [k])
      rw [List.filter_cons, if_pos h]
      show g k = g k ^^^ 0
      rw [Gf.add_zero]
    · rw [if_neg h]
      show _ = S g (List.filter p [k])
      rw [List.filter_cons, if_neg h]; rfl
theorem filter_two (p : Nat → Bool) : ∀ l : List Nat, (l.filter p).length + (l.filter (fun i => !(p i))).length = l.length
  | [] => rfl
  | a :: l => by
    have := filter_two p l
    cases h : p a <;> simp [List.filter_cons, h] <;> omega
theorem one_hit (a : Nat) : ∀ k, ((List.range k).filter (fun j => j == a)).length ≤ (if a < k then 1 else 0)
  | 0 => by simp
  | k + 1 => by
    rw [List.range_succ, List.filter_append, List.length_append]
    have := one_hit a k
    by_cases h : k = a
    · subst h
      rw [if_neg (by omega)] at this
      rw [if_pos (by omega)]
      simp; simp at this; exact this
    · have e : (List.filter (fun j => j == a) [k]).length = 0 := by simp [h]
      rw [e]
      by_cases h2 : a < k
      · rw [if_pos h2] at this; rw [if_pos (by omega)]; omega
      · rw [if_neg h2] at this; omega
theorem filter_or (p q : Nat → Bool) : ∀ l : List Nat, (l.filter (fun j => p j || q j)).length ≤ (l.filter p).length + (l.filter q).length
  | [] => by simp
  | b :: l => by
    have ih := filter_or p q l
    cases h : p b <;> cases h' : q b <;> simp [List.filter_cons, h, h'] <;> omega
theorem hits (k : Nat) : ∀ L : List Nat, ((List.range k).filter (fun j => L.contains j)).length ≤ L.length
  | [] => by simp
  | a :: L => by
    have h1 := hits k L
    have h2 := one_hit a k
    have h4 := filter_or (fun j => j == a) (fun j => L.contains j) (List.range k)
    have h5 : (if a < k then 1 else 0) ≤ 1 := by split <;> omega
    have e : (fun j => (a :: L).contains j) = fun j => (j == a || L.contains j) := by funext j; rw [List.contains_cons]
    rw [List.length_cons, e]
    omega
theorem nodup_on {α β : Type} {f : α → β} {l : List α} (hf : ∀ a ∈ l, ∀ b ∈ l, f a = f b → a = b) (h : l.Nodup) : (l.map f).Nodup :=
  List.pairwise_map.2 (h.imp_of_mem (fun ha hb hne e => hne (hf _ ha _ hb e)))
theorem by8_inj {i j : Nat} (hi : i < 256) (hj : j < 256) (h : by8 i = by8 j) : i = j := by
  have := congrArg UInt8.toNat h
  rw [by8_nat hi, by8_nat hj] at this; exact this
/-- any k parts are enough -/
theorem code_full {k : Nat} (idx : Nat → Nat) (hinj : ∀ i j, i < k → j < k → idx i = idx j → i = j) (h256 : ∀ i, i < k → idx i < 256) (hk : k ≤ 256) : rk k k (fun i => cG k (idx i)) = k := by
  have hlen := (el_inv k (fun i => cG k (idx i)) k).len
  refine Classical.byContradiction (fun hc => ?_)
  obtain ⟨u, hu, i0, hi0, hne⟩ := low (n := k) (C := k) (A := fun i => cG k (idx i)) (by
    have : rk k k (fun i => cG k (idx i)) ≤ k := hlen
    omega)
  let IS := (List.range k).filter (fun i => decide (idx i < k))
  let IP := (List.range k).filter (fun i => !decide (idx i < k))
  let ys := (List.range k).filter (fun j => !((IS.map idx).contains j))
  have hcount : IP.length ≤ ys.length := by
    have h1 := filter_two (fun i => decide (idx i < k)) (List.range k)
    have h2 := filter_two (fun j => (IS.map idx).contains j) (List.range k)
    have h3 := hits k (IS.map idx)
    rw [List.length_range] at h1 h2
    rw [List.length_map] at h3
    show ((List.range k).filter (fun i => !decide (idx i < k))).length ≤ ((List.range k).filter (fun j => !((IS.map idx).contains j))).length
    have h4 : IS.length = ((List.range k).filter (fun i => decide (idx i < k))).length := rfl
    omega
  have hIP : ∀ i, i ∈ IP ↔ i < k ∧ k ≤ idx i := fun i => by
    show i ∈ (List.range k).filter _ ↔ _
    rw [List.mem_filter, List.mem_range]; simp
  have hys : ∀ j, j ∈ ys ↔ j < k ∧ ∀ i, i < k → idx i ≠ j := fun j => by
    show j ∈ (List.range k).filter _ ↔ _
    rw [List.mem_filter, List.mem_range]
    constructor
    · rintro ⟨h1, h2⟩
      refine ⟨h1, fun i hi e => ?_⟩
      have : (IS.map idx).contains j = true := by
        rw [List.contains_iff_mem, List.mem_map]
        refine ⟨i, ?_, e⟩
        show i ∈ (List.range k).filter _
        rw [List.mem_filter, List.mem_range]; simp; omega
      rw [this] at h2; cases h2
    · rintro ⟨h1, h2⟩
      refine ⟨h1, ?_⟩
      rw [Bool.not_eq_true', ← Bool.not_eq_true, List.contains_iff_mem, List.mem_map]
      rintro ⟨i, hi, e⟩
      have hi' : i < k := by
        have : i ∈ (List.range k).filter (fun i => decide (idx i < k)) := hi
        rw [List.mem_filter, List.mem_range] at this; exact this.1
      exact h2 i hi' e
  have hnr : (List.range k).Nodup := List.nodup_range
  have hz := cauchy (IP.map (fun i => (by8 (idx i), u i))) (ys.map by8) (by rw [List.length_map, List.length_map]; exact hcount)
    (by
      rw [List.map_map]
      refine nodup_on (fun a ha b hb e => ?_) (hnr.filter _)
      have ha' := (hIP a).1 ha
      have hb' := (hIP b).1 hb
      exact hinj a b ha'.1 hb'.1 (by8_inj (h256 a ha'.1) (h256 b hb'.1) e))
    (by
      refine nodup_on (fun a ha b hb e => ?_) (hnr.filter _)
      have ha' := (hys a).1 ha
      have hb' := (hys b).1 hb
      exact by8_inj (by omega) (by omega) e)
    (fun p hp y hy => by
      obtain ⟨i, hi, rfl⟩ := List.mem_map.1 hp
      obtain ⟨j, hj, rfl⟩ := List.mem_map.1 hy
      have hi' := (hIP i).1 hi
      have hj' := (hys j).1 hj
      intro e
      exact hj'.2 i hi'.1 (by8_inj (h256 i hi'.1) (by omega) e))
    (fun y hy => by
      obtain ⟨j, hj, rfl⟩ := List.mem_map.1 hy
      have hj' := (hys j).1 hj
      have e := hu j hj'.1
      rw [S_map]
      rw [← e]
      have hs := S_range (fun i => !decide (idx i < k)) (fun i => Gf.mul (u i) (Gf.inv (by8 (idx i) ^^^ by8 j))) k
      rw [show S (fun i => Gf.mul (u i) (Gf.inv (by8 (idx i) ^^^ by8 j))) IP = _ from hs.symm]
      refine xsum_congr (fun i hi => ?_)
      unfold cG
      by_cases h : idx i < k
      · rw [if_neg (by simp [h]), if_pos h, un_ne (hj'.2 i hi), Gf.mul_zero]
      · rw [if_pos (by simp [h]), if_neg h])
  have hP : ∀ i, i < k → k ≤ idx i → u i = 0 := fun i hi h =>
    hz (by8 (idx i), u i) (List.mem_map_of_mem (f := fun i => (by8 (idx i), u i)) ((hIP i).2 ⟨hi, h⟩))
  apply hne
  by_cases h : k ≤ idx i0
  · exact hP i0 hi0 h
  · have e := hu (idx i0) (by omega)
    rw [xsum_single hi0 _ (fun i hi hne' => by
      unfold cG
      by_cases h2 : idx i < k
      · rw [if_pos h2, un_ne (fun e => hne' (hinj i i0 hi hi0 e)), Gf.mul_zero]
      · rw [hP i hi (by omega), Gf.zero_mul])] at e
    unfold cG at e
    rw [if_pos (by omega), un_self, Gf.mul_one] at e
    exact e
end Mx
end Go.Proofs.Ytcldioneiededaa
