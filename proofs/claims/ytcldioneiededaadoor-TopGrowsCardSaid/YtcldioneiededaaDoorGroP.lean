/- Plain: cells on disks, while they come to stand on one disk more. -/
import Derived.Test.YtcldioneiededaaDoorBlk
namespace Go.Proofs.YtcldioneiededaaDoor.Gr
set_option linter.unusedVariables false
abbrev Ds := Nat → List ByteArray
abbrev e0 : ByteArray := ByteArray.empty
def pad (l : List ByteArray) (m : Nat) : List ByteArray := l ++ List.replicate (m - l.length) e0
def put (D : Ds) (s : Nat × Nat) (b : ByteArray) : Ds := fun x => if x = s.1 then (pad (D x) (s.2 + 1)).set s.2 b else D x
def spot (n done i : Nat) : Nat × Nat := if i < done then (i % (n + 1), i / (n + 1)) else (i % n, i / n)
def build (p : Nat → Nat × Nat) (now : List ByteArray) : Nat → Ds
  | 0 => fun _ => []
  | k + 1 => put (build p now k) (p k) (now.getD k e0)
def last (p : Nat → Nat × Nat) (d : Nat) : Nat → Nat
  | 0 => 0
  | k + 1 => if (p k).1 = d then max (last p d k) ((p k).2 + 1) else last p d k
theorem pad_len (l : List ByteArray) (m : Nat) : (pad l m).length = max l.length m := by unfold pad; rw [List.length_append, List.length_replicate]; omega
theorem pad_get (l : List ByteArray) (m r : Nat) : (pad l m).getD r e0 = l.getD r e0 := by
  unfold pad
  rw [List.getD_eq_getElem?_getD, List.getD_eq_getElem?_getD]
  by_cases h : r < l.length
  · rw [List.getElem?_append_left h]
  · rw [List.getElem?_append_right (by omega), List.getElem?_eq_none (l := l) (by omega), List.getElem?_replicate]
    split <;> rfl
theorem put_len (D : Ds) (s : Nat × Nat) (b : ByteArray) (x : Nat) : (put D s b x).length = if x = s.1 then max (D x).length (s.2 + 1) else (D x).length := by
  unfold put
  split
  · rw [List.length_set, pad_len]
  · rfl
theorem put_get (D : Ds) (s : Nat × Nat) (b : ByteArray) (x r : Nat) : (put D s b x).getD r e0 = if x = s.1 ∧ r = s.2 then b else (D x).getD r e0 := by
  unfold put
  by_cases h : x = s.1
  · rw [if_pos h]
    by_cases h2 : r = s.2
    · rw [if_pos ⟨h, h2⟩, h2, List.getD_eq_getElem?_getD, List.getElem?_set_self (by rw [pad_len]; omega)]; rfl
    · rw [if_neg (fun e => h2 e.2), List.getD_eq_getElem?_getD, List.getElem?_set_ne (fun e => h2 e.symm), ← List.getD_eq_getElem?_getD, pad_get]
  · rw [if_neg h, if_neg (fun e => h e.1)]
theorem ext {a b : List ByteArray} (hl : a.length = b.length) (h : ∀ r, a.getD r e0 = b.getD r e0) : a = b := by
  apply List.ext_getElem hl
  intro i h1 h2
  have := h i
  rw [List.getD_eq_getElem?_getD, List.getD_eq_getElem?_getD, List.getElem?_eq_getElem h1, List.getElem?_eq_getElem h2] at this
  exact this
theorem build_len (p : Nat → Nat × Nat) (now : List ByteArray) (x : Nat) : ∀ k, (build p now k x).length = last p x k
  | 0 => rfl
  | k + 1 => by
    rw [build, put_len, build_len p now x k, last]
    by_cases h : x = (p k).1
    · rw [if_pos h, if_pos h.symm]
    · rw [if_neg h, if_neg (fun e => h e.symm)]
theorem build_miss (p : Nat → Nat × Nat) (now : List ByteArray) (x r : Nat) : ∀ k, (∀ i, i < k → p i ≠ (x, r)) → (build p now k x).getD r e0 = e0
  | 0, _ => rfl
  | k + 1, h => by
    rw [build, put_get, if_neg (fun e => h k (by omega) (Prod.ext e.1.symm e.2.symm))]
    exact build_miss p now x r k (fun i hi => h i (by omega))
def Inj (p : Nat → Nat × Nat) : Prop := ∀ i j, p i = p j → i = j
theorem build_hit {p : Nat → Nat × Nat} (hp : Inj p) (now : List ByteArray) (i : Nat) : ∀ k, i < k → (build p now k (p i).1).getD (p i).2 e0 = now.getD i e0
  | 0, h => by omega
  | k + 1, h => by
    rw [build, put_get]
    by_cases e : i = k
    · subst e; rw [if_pos ⟨rfl, rfl⟩]
    · rw [if_neg (fun h2 => e (hp i k (Prod.ext h2.1 h2.2)))]
      exact build_hit hp now i k (by omega)
theorem le_last (p : Nat → Nat × Nat) (d i : Nat) : ∀ k, i < k → (p i).1 = d → (p i).2 + 1 ≤ last p d k
  | 0, h, _ => by omega
  | k + 1, h, hd => by
    rw [last]
    by_cases e : i = k
    · subst e; rw [if_pos hd]; omega
    · have := le_last p d i k (by omega) hd
      split <;> omega
theorem last_le (p : Nat → Nat × Nat) (d c : Nat) : ∀ k, (∀ i, i < k → (p i).1 = d → (p i).2 + 1 ≤ c) → last p d k ≤ c
  | 0, _ => Nat.zero_le _
  | k + 1, h => by
    rw [last]
    have h1 := last_le p d c k (fun i hi => h i (by omega))
    split
    · rename_i e
      have := h k (by omega) e
      omega
    · exact h1
theorem last_ext {p p' : Nat → Nat × Nat} (d : Nat) : ∀ k, (∀ i, i < k → p i = p' i) → last p d k = last p' d k
  | 0, _ => rfl
  | k + 1, h => by rw [last, last, h k (by omega), last_ext d k (fun i hi => h i (by omega))]
theorem build_ext {p p' : Nat → Nat × Nat} {now now' : List ByteArray} : ∀ k, (∀ i, i < k → p i = p' i ∧ now.getD i e0 = now'.getD i e0) → build p now k = build p' now' k
  | 0, _ => rfl
  | k + 1, h => by rw [build, build, (h k (by omega)).1, (h k (by omega)).2, build_ext k (fun i hi => h i (by omega))]
theorem dm {w i j : Nat} (h1 : i % w = j % w) (h2 : i / w = j / w) : i = j := by
  rw [← Nat.div_add_mod i w, ← Nat.div_add_mod j w, h1, h2]
theorem far {n i j done : Nat} (h0 : 0 < n) (hi : i < done) (hj : done ≤ j) (h1 : i % (n + 1) = j % n) (h2 : i / (n + 1) = j / n) : False := by
  have a := Nat.div_add_mod i (n + 1)
  have b := Nat.div_add_mod j n
  rw [h1, h2] at a
  generalize j / n = x at *
  generalize j % n = r at *
  rw [Nat.add_mul, Nat.one_mul] at a
  generalize n * x = y at *
  omega
theorem spot_inj {n done : Nat} (h0 : 0 < n) : Inj (spot n done) := by
  intro i j h
  unfold spot at h
  by_cases hi : i < done <;> by_cases hj : j < done
  · rw [if_pos hi, if_pos hj] at h; injection h with h1 h2; exact dm h1 h2
  · rw [if_pos hi, if_neg hj] at h; injection h with h1 h2; exact (far h0 hi (by omega) h1 h2).elim
  · rw [if_neg hi, if_pos hj] at h; injection h with h1 h2; exact (far h0 hj (by omega) h1.symm h2.symm).elim
  · rw [if_neg hi, if_neg hj] at h; injection h with h1 h2; exact dm h1 h2
theorem spot_disk {n : Nat} (h0 : 0 < n) (done i : Nat) : (spot n done i).1 ≤ n := by
  unfold spot
  split
  · exact Nat.le_of_lt_succ (Nat.mod_lt _ (by omega))
  · exact Nat.le_of_lt (Nat.mod_lt _ h0)
theorem spot_row (n done i : Nat) : (spot n done i).2 ≤ i := by unfold spot; split <;> exact Nat.div_le_self _ _
theorem spot_ne {n done i : Nat} (h : i ≠ done) : spot n (done + 1) i = spot n done i := by
  unfold spot
  by_cases hi : i < done
  · rw [if_pos hi, if_pos (by omega)]
  · rw [if_neg hi, if_neg (by omega)]
/-- a cell is written -/
theorem write {p : Nat → Nat × Nat} (hp : Inj p) (now : List ByteArray) {i : Nat} (hi : i < now.length) (b : ByteArray) : put (build p now now.length) (p i) b = build p (now.set i b) (now.set i b).length := by
  funext x
  rw [List.length_set]
  apply ext
  · rw [put_len, build_len, build_len]
    split
    · rename_i e
      have := le_last p x i now.length hi e.symm
      omega
    · rfl
  · intro r
    rw [put_get]
    by_cases h : x = (p i).1 ∧ r = (p i).2
    · rw [if_pos h, h.1, h.2, build_hit hp _ i _ hi, List.getD_eq_getElem?_getD, List.getElem?_set_self hi]; rfl
    · rw [if_neg h]
      by_cases h2 : ∃ k, k < now.length ∧ p k = (x, r)
      · obtain ⟨k, hk, hpk⟩ := h2
        have e1 : x = (p k).1 := by rw [hpk]
        have e2 : r = (p k).2 := by rw [hpk]
        have hik : i ≠ k := fun e => h (by rw [e]; exact ⟨e1, e2⟩)
        rw [e1, e2, build_hit hp _ k _ hk, build_hit hp _ k _ hk, List.getD_eq_getElem?_getD, List.getD_eq_getElem?_getD, List.getElem?_set_ne hik]
      · have h3 : ∀ k, k < now.length → p k ≠ (x, r) := fun k hk e => h2 ⟨k, hk, e⟩
        rw [build_miss _ _ _ _ _ h3, build_miss _ _ _ _ _ h3]
/-- the next cell has moved, before the rows are cut -/
def moved (n done : Nat) (now : List ByteArray) : Ds := put (put (build (spot n done) now now.length) (spot n done done) e0) (spot n (done + 1) done) (now.getD done e0)
theorem moved_len {n done : Nat} {now : List ByteArray} (hd : done < now.length) (x : Nat) : last (spot n (done + 1)) x now.length ≤ (moved n done now x).length := by
  apply last_le
  intro i hi hx
  unfold moved
  rw [put_len, put_len, build_len]
  by_cases e : i = done
  · subst e; rw [if_pos hx.symm]; omega
  · rw [spot_ne e] at hx ⊢
    have := le_last (spot n done) x i now.length hi hx
    split <;> split <;> omega
theorem moved_get {n done : Nat} {now : List ByteArray} (h0 : 0 < n) (hd : done < now.length) (x r : Nat) : (moved n done now x).getD r e0 = (build (spot n (done + 1)) now now.length x).getD r e0 := by
  unfold moved
  rw [put_get, put_get]
  by_cases h : x = (spot n (done + 1) done).1 ∧ r = (spot n (done + 1) done).2
  · rw [if_pos h, h.1, h.2, build_hit (spot_inj h0) _ done _ hd]
  · rw [if_neg h]
    by_cases h2 : ∃ k, k < now.length ∧ spot n (done + 1) k = (x, r)
    · obtain ⟨k, hk, hpk⟩ := h2
      have e1 : x = (spot n (done + 1) k).1 := by rw [hpk]
      have e2 : r = (spot n (done + 1) k).2 := by rw [hpk]
      have hik : k ≠ done := fun e => h (by subst e; exact ⟨e1, e2⟩)
      rw [e1, e2, build_hit (spot_inj h0) _ k _ hk, spot_ne hik]
      rw [if_neg (fun e => hik (spot_inj h0 k done (Prod.ext e.1 e.2))), build_hit (spot_inj h0) _ k _ hk]
    · have h3 : ∀ k, k < now.length → spot n (done + 1) k ≠ (x, r) := fun k hk e => h2 ⟨k, hk, e⟩
      rw [build_miss _ _ _ _ _ h3]
      split
      · rfl
      · rename_i h4
        apply build_miss
        intro k hk e
        by_cases ek : k = done
        · subst ek; exact h4 (by rw [e]; exact ⟨rfl, rfl⟩)
        · exact h3 k hk (by rw [spot_ne ek]; exact e)
/-- the next cell has moved, and the rows are cut -/
theorem step {n done : Nat} {now : List ByteArray} (h0 : 0 < n) (hd : done < now.length) (x : Nat) : (moved n done now x).take (last (spot n (done + 1)) x now.length) = build (spot n (done + 1)) now now.length x := by
  have hl := moved_len (n := n) hd x
  apply List.ext_getElem
  · rw [List.length_take, build_len]; omega
  · intro r h1 h2
    have := moved_get h0 hd x r
    rw [List.length_take] at h1
    rw [List.getD_eq_getElem?_getD, List.getD_eq_getElem?_getD, List.getElem?_eq_getElem (by omega), List.getElem?_eq_getElem h2] at this
    rw [List.getElem_take]
    exact this
theorem parts (w : Nat) (h0 : 0 < w) (k : Nat) : ∃ q r, r < w ∧ k = w * q + r ∧ k % w = r ∧ k / w = q :=
  ⟨k / w, k % w, Nat.mod_lt k h0, (Nat.div_add_mod k w).symm, rfl, rfl⟩
/-- all have moved: how long a disk is -/
theorem last_all (w : Nat) (h0 : 0 < w) (d : Nat) (hd : d < w) : ∀ k, last (fun i => (i % w, i / w)) d k = (k + (w - 1 - d)) / w
  | 0 => by rw [last, Nat.div_eq_of_lt (by omega)]
  | k + 1 => by
    rw [last, last_all w h0 d hd k]
    obtain ⟨q, r, hr, hk, hm, hq⟩ := parts w h0 k
    simp only
    rw [hm, hq]
    have e1 : ∀ s, (w * q + s) / w = q + s / w := fun s => by rw [Nat.mul_add_div h0]
    have small : ∀ s, s < w → s / w = 0 := fun s hs => Nat.div_eq_of_lt hs
    have big : ∀ s, w ≤ s → s < 2 * w → s / w = 1 := fun s h1 h2 => Nat.div_eq_of_lt_le (by omega) (by omega)
    rw [hk, show w * q + r + (w - 1 - d) = w * q + (r + (w - 1 - d)) by omega, show w * q + r + 1 + (w - 1 - d) = w * q + (r + 1 + (w - 1 - d)) by omega, e1, e1]
    by_cases h : r = d
    · rw [if_pos h, small _ (by omega), big _ (by omega) (by omega)]; omega
    · rw [if_neg h]
      by_cases h2 : r < d
      · rw [small _ (by omega), small _ (by omega)]
      · rw [big _ (by omega) (by omega), big _ (by omega) (by omega)]
def tot (p : Nat → Nat × Nat) (m : Nat) : Nat → Nat
  | 0 => 0
  | d + 1 => tot p m d + last p d m
theorem tot_zero (p : Nat → Nat × Nat) : ∀ d, tot p 0 d = 0
  | 0 => rfl
  | d + 1 => by rw [tot, tot_zero p d]; rfl
theorem last_step (w : Nat) (h0 : 0 < w) (d k : Nat) (hd : d < w) : last (fun i => (i % w, i / w)) d (k + 1) = last (fun i => (i % w, i / w)) d k + if k % w = d then 1 else 0 := by
  rw [last]
  simp only
  split
  · rename_i e
    have : last (fun i => (i % w, i / w)) d k = k / w := by
      rw [last_all w h0 d hd]
      obtain ⟨q, r, hr, hk, hm, hq⟩ := parts w h0 k
      rw [hq, hk, show w * q + r + (w - 1 - d) = w * q + (w - 1) by omega, Nat.mul_add_div h0, Nat.div_eq_of_lt (by omega), Nat.add_zero]
    omega
  · rfl
theorem tot_step (w : Nat) (h0 : 0 < w) (k : Nat) : ∀ d, d ≤ w → tot (fun i => (i % w, i / w)) (k + 1) d = tot (fun i => (i % w, i / w)) k d + if k % w < d then 1 else 0
  | 0, _ => rfl
  | d + 1, hd => by
    rw [tot, tot, tot_step w h0 k d (by omega), last_step w h0 d k (by omega)]
    have := Nat.mod_lt k h0
    by_cases e : k % w = d
    · rw [if_neg (by omega), if_pos e, if_pos (by omega)]; omega
    · by_cases e2 : k % w < d
      · rw [if_pos e2, if_neg e, if_pos (by omega)]; omega
      · rw [if_neg e2, if_neg e, if_neg (by omega)]; omega
theorem tot_all (w : Nat) (h0 : 0 < w) : ∀ k, tot (fun i => (i % w, i / w)) k w = k
  | 0 => tot_zero _ _
  | k + 1 => by rw [tot_step w h0 k w (Nat.le_refl _), tot_all w h0 k, if_pos (Nat.mod_lt k h0)]
theorem last_near (w : Nat) (h0 : 0 < w) (d k : Nat) (hd : d < w) : last (fun i => (i % w, i / w)) d k ≤ last (fun i => (i % w, i / w)) 0 k ∧ last (fun i => (i % w, i / w)) 0 k ≤ last (fun i => (i % w, i / w)) d k + 1 := by
  rw [last_all w h0 d hd, last_all w h0 0 h0]
  refine ⟨Nat.div_le_div_right (by omega), ?_⟩
  rw [← Nat.add_div_right _ h0]
  exact Nat.div_le_div_right (by omega)
theorem spot_done {n m : Nat} (i : Nat) (hi : i < m) : spot n m i = (i % (n + 1), i / (n + 1)) := by unfold spot; rw [if_pos hi]
theorem last_done {n m d : Nat} : last (spot n m) d m = last (fun i => (i % (n + 1), i / (n + 1))) d m := last_ext d m (fun i hi => spot_done i hi)
theorem tot_done {n m : Nat} : ∀ d, tot (spot n m) m d = tot (fun i => (i % (n + 1), i / (n + 1))) m d
  | 0 => rfl
  | d + 1 => by rw [tot, tot, tot_done d, last_done]
end Go.Proofs.YtcldioneiededaaDoor.Gr
