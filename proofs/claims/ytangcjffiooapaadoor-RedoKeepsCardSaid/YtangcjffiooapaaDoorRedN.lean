/- A redo log, in plain lists: what is left of its bytes; the law RedoStops's state. -/
import Derived.Test.YtangcjffiooapaaDoorRedP
namespace Go.Proofs.YtangcjffiooapaaDoor.Rd
theorem short_nil : Short [] := .inl (by decide)
theorem short_take {t : List UInt8} (h : Short t) (m : Nat) : Short (t.take m) := by
  rcases h with h | ⟨a, b, r, rfl, h⟩
  · exact .inl (by rw [List.length_take]; omega)
  · by_cases hm : m < 2
    · exact .inl (by rw [List.length_take]; omega)
    · obtain ⟨q, rfl⟩ : ∃ q, m = q + 2 := ⟨m - 2, by omega⟩
      exact .inr ⟨a, b, r.take q, rfl, by rw [List.length_take]; omega⟩
theorem rcd_short {n : Nat} {l : List W} (h : Ok n l) {m : Nat} (hm : m < (rcd l).length) : Short ((rcd l).take m) := by
  have hb := h.body
  rw [rcd_len] at hm
  by_cases h2 : m < 2
  · exact .inl (by rw [List.length_take]; omega)
  · obtain ⟨q, rfl⟩ : ∃ q, m = q + 2 := ⟨m - 2, by omega⟩
    refine .inr ⟨_, _, (body l).take q, rfl, ?_⟩
    rw [List.length_take, UInt8.toNat_ofNat', UInt8.toNat_ofNat', Nat.mod_eq_of_lt (show (body l).length / 256 < 2 ^ 8 by omega), Nat.mod_eq_of_lt (show (body l).length % 256 < 2 ^ 8 by omega)]
    omega
theorem log_nil : log [] = [] := rfl
theorem log_cons (l : List W) (rs : List (List W)) : log (l :: rs) = rcd l ++ log rs := by unfold log; rw [List.flatMap_cons]
/-- what is left of a log -/
theorem cut_log {n : Nat} : ∀ (rs : List (List W)) (t : List UInt8), (∀ l ∈ rs, Ok n l) → Short t → ∀ m : Nat, ∃ i tail, i ≤ rs.length ∧ (log rs ++ t).take m = log (rs.take i) ++ tail ∧ Short tail ∧ ((log (rs.take i)).length ≤ m ∧ ∀ j, i < j → j ≤ rs.length → m < (log (rs.take j)).length)
  | [], t, _, ht, m => ⟨0, t.take m, Nat.le_refl _, by rw [log_nil, List.nil_append]; rfl, short_take ht m, Nat.zero_le _, fun j h1 h2 => by simp at h2; omega⟩
  | l :: rs, t, hrs, ht, m => by
    by_cases hm : m < (rcd l).length
    · refine ⟨0, (rcd l).take m, Nat.zero_le _, ?_, rcd_short (hrs l List.mem_cons_self) hm, Nat.zero_le _, fun j h1 _ => ?_⟩
      · rw [log_cons, List.append_assoc, List.take_append_of_le_length (by omega)]; rfl
      · obtain ⟨q, rfl⟩ : ∃ q, j = q + 1 := ⟨j - 1, by omega⟩
        rw [List.take_succ_cons, log_cons, List.length_append]; omega
    · obtain ⟨i, tail, h1, h2, h3, h4, h5⟩ := cut_log rs t (fun x hx => hrs x (List.mem_cons_of_mem _ hx)) ht (m - (rcd l).length)
      refine ⟨i + 1, tail, by rw [List.length_cons]; omega, ?_, h3, ?_, fun j hj hj2 => ?_⟩
      · rw [log_cons, List.append_assoc, List.take_append, List.take_of_length_le (by omega), h2, List.take_succ_cons, log_cons, List.append_assoc]
      · rw [List.take_succ_cons, log_cons, List.length_append]; omega
      · obtain ⟨q, rfl⟩ : ∃ q, j = q + 1 := ⟨j - 1, by omega⟩
        rw [List.length_cons] at hj2
        have := h5 q (by omega) (by omega)
        rw [List.take_succ_cons, log_cons, List.length_append]; omega
theorem kept_eq (s : R) (keep : Int) : kept s keep = s.bytes.take (s.safe + (max 0 (min keep ((s.bytes.length : Int) - s.safe))).toNat) := rfl
def bad2 : W := ⟨2, ⟨#[]⟩⟩
def a0 : W := ⟨0, ⟨#[97]⟩⟩
def b0 : W := ⟨0, ⟨#[98]⟩⟩
def c1 : W := ⟨1, ⟨#[99]⟩⟩
def ee : List ByteArray := [⟨#[]⟩, ⟨#[]⟩]
theorem ok_a0 : Ok 2 [a0] := ⟨by decide, by intro x hx; simp at hx; subst hx; exact ⟨by decide, by decide, by decide⟩⟩
theorem ok_c1 : Ok 2 [c1] := ⟨by decide, by intro x hx; simp at hx; subst hx; exact ⟨by decide, by decide, by decide⟩⟩
/-- k steps were done, it stops at the step 'after' -/
structure St (after k : Nat) (s : R) : Prop where
  first : s.first = ee
  cells : s.cells.length = 2
  bytes : ∃ rs t, s.bytes = log rs ++ t ∧ (∀ l ∈ rs, Ok 2 l) ∧ Short t ∧ (k ≤ after → t = [])
  safe : s.safe ≤ s.bytes.length
  len : s.bytes.length ≤ 10 * k
  left : s.left = max (-1) ((after : Int) - k)
  stopped : s.stopped = decide (after < k)
def eS (b : Bool) : Int := if b then 6 else 0
theorem st_new (after : Nat) : St after 0 (fail (new ee) after) :=
  ⟨rfl, rfl, ⟨[], [], rfl, (fun l h => by cases h), short_nil, fun _ => rfl⟩, Nat.le_refl _, Nat.le_refl _, by show max (-1) (after : Int) = _; rfl, rfl⟩
theorem St.put_bad {after k : Nat} {s : R} (h : St after k s) : put s [bad2] = (if after < k then 6 else 1, s) := by
  unfold put
  rw [h.stopped, h.cells]
  by_cases hk : after < k
  · rw [if_pos (by simpa using hk), if_pos hk]
  · rw [if_neg (by simpa using hk), if_neg (by decide), if_pos (by decide), if_neg hk]
theorem St.put_a {after k : Nat} {s : R} (h : St after k s) : ∃ s', put s [a0] = (if k < after then 0 else 6, s') ∧ St after (k + 1) s' := by
  have hl := h.left
  by_cases hk : after < k
  · refine ⟨s, ?_, ?_⟩
    · unfold put; rw [h.stopped, if_pos (by simpa using hk), if_neg (by omega)]
    · obtain ⟨rs, t, h1, h2, h3, h4⟩ := h.bytes
      exact ⟨h.first, h.cells, ⟨rs, t, h1, h2, h3, fun hh => by omega⟩, h.safe, by have := h.len; omega, by rw [hl]; omega, by rw [h.stopped]; simp; omega⟩
  · obtain ⟨rs, t, h1, h2, h3, h4⟩ := h.bytes
    have ht : t = [] := h4 (by omega)
    subst ht
    rw [List.append_nil] at h1
    have hln : (rcd [a0]).length = 6 := rfl
    have hlen := h.len
    have hsafe := h.safe
    unfold put
    rw [h.stopped, h.cells, if_neg (by simpa using hk), if_neg (by decide), if_neg (by decide)]
    by_cases he : k = after
    · have hz : s.left = 0 := by rw [hl]; omega
      rw [if_pos (by rw [hz]; rfl), if_neg (by omega)]
      refine ⟨_, rfl, ⟨h.first, h.cells, ⟨rs, _, by show s.bytes ++ _ = _; rw [h1], h2, rcd_short ok_a0 (by rw [hln]; decide), fun hh => by omega⟩, ?_, ?_, ?_, ?_⟩⟩
      · show s.safe ≤ (s.bytes ++ _).length; rw [List.length_append]; omega
      · show (s.bytes ++ _).length ≤ _; rw [List.length_append, List.length_take, hln]; omega
      · show max (-1) (s.left - 1) = _; rw [hl]; omega
      · show (s.left == 0) = _; rw [hz]; simp; omega
    · have hz : s.left ≠ 0 := by rw [hl]; omega
      rw [if_neg (by simpa using hz), if_pos (by omega)]
      refine ⟨_, rfl, ⟨h.first, by show (done s.cells [a0]).length = 2; rw [done_len]; exact h.cells, ⟨rs ++ [[a0]], [], by show s.bytes ++ _ = _; rw [h1, log_snoc, List.append_nil], ?_, short_nil, fun hh => rfl⟩, ?_, ?_, ?_, ?_⟩⟩
      · intro l hl'
        rcases List.mem_append.1 hl' with h5 | h5
        · exact h2 l h5
        · simp at h5; subst h5; exact ok_a0
      · show s.safe ≤ (s.bytes ++ _).length; rw [List.length_append]; omega
      · show (s.bytes ++ _).length ≤ _; rw [List.length_append, hln]; omega
      · show max (-1) (s.left - 1) = _; rw [hl]; omega
      · show (s.left == 0) = _; rw [show (s.left == 0) = false by simpa using hz]; simp; omega
theorem St.sync {after k : Nat} {s : R} (h : St after k s) : ∃ s', sync s = (if k < after then 0 else 6, s') ∧ St after (k + 1) s' := by
  have hl := h.left
  have hlen := h.len
  have hsafe := h.safe
  obtain ⟨rs, t, h1, h2, h3, h4⟩ := h.bytes
  by_cases hk : after < k
  · refine ⟨s, ?_, ?_⟩
    · unfold Rd.sync; rw [h.stopped, if_pos (by simpa using hk), if_neg (by omega)]
    · exact ⟨h.first, h.cells, ⟨rs, t, h1, h2, h3, fun hh => by omega⟩, h.safe, by omega, by rw [hl]; omega, by rw [h.stopped]; simp; omega⟩
  · have ht : t = [] := h4 (by omega)
    unfold Rd.sync
    rw [h.stopped, if_neg (by simpa using hk)]
    by_cases he : k = after
    · have hz : s.left = 0 := by rw [hl]; omega
      rw [if_pos (by rw [hz]; rfl), if_neg (by omega)]
      refine ⟨_, rfl, ⟨h.first, h.cells, ⟨rs, t, h1, h2, h3, fun _ => ht⟩, h.safe, ?_, ?_, ?_⟩⟩
      · show s.bytes.length ≤ _; omega
      · show max (-1) (s.left - 1) = _; rw [hl]; omega
      · show (s.left == 0) = _; rw [hz]; simp; omega
    · have hz : s.left ≠ 0 := by rw [hl]; omega
      rw [if_neg (by simpa using hz), if_pos (by omega)]
      refine ⟨_, rfl, ⟨h.first, h.cells, ⟨rs, t, h1, h2, h3, fun _ => ht⟩, Nat.le_refl _, ?_, ?_, ?_⟩⟩
      · show s.bytes.length ≤ _; omega
      · show max (-1) (s.left - 1) = _; rw [hl]; omega
      · show (s.left == 0) = _; rw [show (s.left == 0) = false by simpa using hz]; simp; omega
theorem St.over {after k : Nat} {s : R} (h : St after k s) (hk : after < k) (l : List W) : Rd.sync s = (6, s) ∧ Rd.put s l = (6, s) := by
  have hs : s.stopped = true := by rw [h.stopped]; simpa using hk
  exact ⟨by unfold Rd.sync; rw [hs, if_pos rfl], by unfold put; rw [hs, if_pos rfl]⟩
theorem St.crash {after k : Nat} {s : R} (h : St after k s) (keep : Int) : ∃ rs tail, kept s keep = log rs ++ tail ∧ (∀ l ∈ rs, Ok s.first.length l) ∧ Short tail ∧ (log rs).length ≤ 10 * k ∧
    ∃ s', Rd.put (Rd.crash s rs) [c1] = (0, s') ∧ (Rd.sync s').1 = 0 ∧ -1 ≤ s'.left ∧ s'.left ≤ 100 ∧ s'.bytes.length ≤ 10 * k + 10 ∧ ((Rd.sync s').2).cells.length = 2 ∧ ((Rd.sync s').2).cells[1]? = some ⟨#[99]⟩ := by
  obtain ⟨rs, t, h1, h2, h3, h4⟩ := h.bytes
  obtain ⟨i, tail, g1, g2, g3, g4, g5⟩ := cut_log rs t h2 h3 (s.safe + (max 0 (min keep ((s.bytes.length : Int) - s.safe))).toNat)
  have hkl : (log (rs.take i)).length ≤ 10 * k := by
    have := congrArg List.length g2
    rw [List.length_append, List.length_take, ← h1] at this
    have := h.len
    omega
  refine ⟨rs.take i, tail, by rw [kept_eq, ← g2, ← h1], ?_, g3, hkl, ?_⟩
  · rw [h.first]
    exact fun l hl => h2 l (List.mem_of_mem_take hl)
  · have hcl : (Rd.crash s (rs.take i)).cells.length = 2 := by show (all s.first _).length = 2; rw [all_len, h.first]; rfl
    have hp : Rd.put (Rd.crash s (rs.take i)) [c1] = (0, { step (Rd.crash s (rs.take i)) with bytes := (Rd.crash s (rs.take i)).bytes ++ rcd [c1], cells := done (Rd.crash s (rs.take i)).cells [c1] }) := by
      unfold put
      rw [if_neg (by show ¬ (false = true); simp), if_neg (by decide), hcl, if_neg (by decide), if_neg (by show ¬ (((-1 : Int) == 0) = true); decide)]
    refine ⟨_, hp, ?_, ?_, ?_, ?_, ?_, ?_⟩
    · rfl
    · exact Int.le_refl _
    · show max (-1) ((-1 : Int) - 1) ≤ 100; decide
    · show (log (rs.take i) ++ rcd [c1]).length ≤ _
      rw [List.length_append, show (rcd [c1]).length = 6 from rfl]; omega
    · show (done (Rd.crash s (rs.take i)).cells [c1]).length = 2; rw [done_len]; exact hcl
    · show (done (Rd.crash s (rs.take i)).cells [c1])[1]? = _
      show ((Rd.crash s (rs.take i)).cells.set 1 ⟨#[99]⟩)[1]? = _
      rw [List.getElem?_set, if_pos rfl, if_pos (by rw [hcl]; decide)]
end Go.Proofs.YtangcjffiooapaaDoor.Rd
