/- A redo log that is put to, synced, stopped, crashed: what it keeps, plain. -/
import Derived.Test.YtangcjffiooapaaDoorRedN
namespace Go.Proofs.YtangcjffiooapaaDoor
set_option linter.unusedVariables false
namespace Rd
def writesF (n : Nat) (l : List W) : Int := if 40 < l.length then 4 else if l.any (badB n) then 1 else 0
theorem writesF_0 {n : Nat} {l : List W} (h : writesF n l = 0) : Ok n l := by
  unfold writesF at h
  by_cases h1 : 40 < l.length
  · rw [if_pos h1] at h; omega
  · rw [if_neg h1] at h
    cases h2 : l.any (badB n) with
    | true => rw [h2] at h; simp at h
    | false =>
      refine ⟨by omega, fun x hx => ?_⟩
      rw [List.any_eq_false] at h2
      have := h2 x hx
      unfold badB at this
      simp at this
      omega
def marks (rs : List (List W)) : List Int := (List.range (rs.length + 1)).map (fun i => ((log (rs.take i)).length : Int))
theorem marks_len (rs : List (List W)) : (marks rs).length = rs.length + 1 := by unfold marks; simp
theorem marks_at (rs : List (List W)) {i : Nat} (h : i ≤ rs.length) : (marks rs)[i]? = some ((log (rs.take i)).length : Int) := by
  unfold marks; rw [List.getElem?_map, List.getElem?_range (by omega)]; rfl
theorem marks_snoc (rs : List (List W)) (l : List W) : marks (rs ++ [l]) = marks rs ++ [((log (rs ++ [l])).length : Int)] := by
  unfold marks
  rw [List.length_append, List.length_singleton, List.range_succ, List.map_append]
  congr 1
  · refine List.map_congr_left fun i hi => ?_
    rw [List.mem_range] at hi
    rw [List.take_append_of_le_length (by omega)]
  · show [((log ((rs ++ [l]).take (rs.length + 1))).length : Int)] = _
    rw [List.take_of_length_le (by simp)]
theorem marks_take (rs : List (List W)) {i : Nat} (h : i ≤ rs.length) : marks (rs.take i) = (marks rs).take (i + 1) := by
  apply List.ext_getElem?
  intro j
  have h1 : (rs.take i).length = i := by rw [List.length_take]; omega
  by_cases hj : j < i + 1
  · rw [marks_at _ (by omega), List.getElem?_take, if_pos hj, marks_at _ (by omega), List.take_take, Nat.min_eq_left (by omega)]
  · rw [List.getElem?_eq_none (by rw [marks_len]; omega), List.getElem?_eq_none (by rw [List.length_take, marks_len]; omega)]
structure Kp (cells : List ByteArray) (a : Nat) (s : R) (rs : List (List W)) : Prop where
  first : s.first = cells
  cel : s.cells = all cells rs
  ok : ∀ l ∈ rs, Ok cells.length l
  byt : ∃ t, s.bytes = log rs ++ t ∧ Short t ∧ (s.stopped = false → t = [])
  safe : s.safe ≤ s.bytes.length
  l1 : -1 ≤ s.left
  l2 : s.left ≤ 9223372036854775807
  len : s.bytes.length ≤ 1000 * a
  num : rs.length ≤ a
theorem Kp.clen {cells : List ByteArray} {a : Nat} {s : R} {rs : List (List W)} (h : Kp cells a s rs) : s.cells.length = cells.length := by rw [h.cel, all_len]
theorem kp_new (cells : List ByteArray) : Kp cells 0 (new cells) [] :=
  ⟨rfl, rfl, (fun l hl => by cases hl), ⟨[], rfl, short_nil, fun _ => rfl⟩, Nat.zero_le _, by show (-1 : Int) ≤ -1; decide, by show (-1 : Int) ≤ 9223372036854775807; decide, Nat.zero_le _, Nat.zero_le _⟩
theorem Kp.fail {cells : List ByteArray} {a : Nat} {s : R} {rs : List (List W)} (h : Kp cells a s rs) {n : Int} (hn : n ≤ 9223372036854775807) : Kp cells a (fail s n) rs :=
  ⟨h.first, h.cel, h.ok, h.byt, h.safe, by show -1 ≤ max (-1) n; omega, by show max (-1) n ≤ _; omega, h.len, h.num⟩
theorem step_l {s : R} (h1 : -1 ≤ s.left) (h2 : s.left ≤ 9223372036854775807) : -1 ≤ (step s).left ∧ (step s).left ≤ 9223372036854775807 := by
  show -1 ≤ max (-1) (s.left - 1) ∧ max (-1) (s.left - 1) ≤ _; omega
theorem Kp.sync {cells : List ByteArray} {a : Nat} {s : R} {rs : List (List W)} (h : Kp cells a s rs) :
    Kp cells a (Rd.sync s).2 rs ∧ (((Rd.sync s).1 = 0 ∧ (Rd.sync s).2.safe = (Rd.sync s).2.bytes.length) ∨ (Rd.sync s).1 = 6) := by
  obtain ⟨t, ht1, ht2, ht3⟩ := h.byt
  have hl := step_l h.l1 h.l2
  unfold Rd.sync
  cases hs : s.stopped with
  | true => exact ⟨h, .inr rfl⟩
  | false =>
    have ht := ht3 hs
    rw [if_neg (by decide)]
    by_cases h0 : s.left = 0
    · rw [if_pos (by simpa using h0)]
      exact ⟨⟨h.first, h.cel, h.ok, ⟨t, ht1, ht2, fun _ => ht⟩, h.safe, hl.1, hl.2, h.len, h.num⟩, .inr rfl⟩
    · rw [if_neg (by simpa using h0)]
      exact ⟨⟨h.first, h.cel, h.ok, ⟨t, ht1, ht2, fun _ => ht⟩, Nat.le_refl _, hl.1, hl.2, h.len, h.num⟩, .inl ⟨rfl, rfl⟩⟩
theorem Kp.more {cells : List ByteArray} {a a' : Nat} {s : R} {rs : List (List W)} (h : Kp cells a s rs) (ha : a ≤ a') : Kp cells a' s rs :=
  ⟨h.first, h.cel, h.ok, h.byt, h.safe, h.l1, h.l2, by have := h.len; omega, by have := h.num; omega⟩
structure Put0 (cells : List ByteArray) (a : Nat) (s : R) (rs : List (List W)) (l : List W) : Prop where
  r : (put s l).1 = 0
  kp : Kp cells (a + 1) (put s l).2 (rs ++ [l])
  f : writesF cells.length l = 0
  grow : s.bytes.length + 2 ≤ (put s l).2.bytes.length
  mark : (put s l).2.bytes.length = (log (rs ++ [l])).length
theorem Kp.put {cells : List ByteArray} {a : Nat} {s : R} {rs : List (List W)} (h : Kp cells a s rs) (hc : cells.length ≤ 40) (l : List W) :
    Put0 cells a s rs l ∨ ((Rd.put s l).1 ≠ 0 ∧ ((Rd.put s l).1 = 6 ∨ ((Rd.put s l).1 ≠ 6 ∧ (Rd.put s l).1 = writesF cells.length l)) ∧ Kp cells (a + 1) (Rd.put s l).2 rs) := by
  obtain ⟨t, ht1, ht2, ht3⟩ := h.byt
  have hl := step_l h.l1 h.l2
  have hcl := h.clen
  have hlen := h.len
  cases hs : s.stopped with
  | true =>
    have e : Rd.put s l = (6, s) := by unfold Rd.put; rw [hs, if_pos rfl]
    rw [e]
    exact .inr ⟨show (6 : Int) ≠ 0 by decide, .inl rfl, h.more (by omega)⟩
  | false =>
    have ht := ht3 hs
    subst ht
    rw [List.append_nil] at ht1
    by_cases h40 : 40 < l.length
    · have e : Rd.put s l = (4, s) := by unfold Rd.put; rw [hs, if_neg (by decide), if_pos h40]
      rw [e]
      exact .inr ⟨show (4 : Int) ≠ 0 by decide, .inr ⟨show (4 : Int) ≠ 6 by decide, by unfold writesF; rw [if_pos h40]⟩, h.more (by omega)⟩
    · cases hb : l.any (badB s.cells.length) with
      | true =>
        have e : Rd.put s l = (1, s) := by unfold Rd.put; rw [hs, if_neg (by decide), if_neg h40, if_pos hb]
        rw [e]
        refine .inr ⟨show (1 : Int) ≠ 0 by decide, .inr ⟨show (1 : Int) ≠ 6 by decide, ?_⟩, h.more (by omega)⟩
        unfold writesF
        rw [if_neg h40, ← hcl, if_pos hb]
      | false =>
        have hwf : writesF cells.length l = 0 := by unfold writesF; rw [if_neg h40, ← hcl, hb]; rfl
        have hok := writesF_0 hwf
        have hbd := hok.body
        have hrl := rcd_len l
        by_cases h0 : s.left = 0
        · have e : Rd.put s l = (6, { step s with bytes := s.bytes ++ (rcd l).take ((rcd l).length / 2) }) := by unfold Rd.put; rw [hs, if_neg (by decide), if_neg h40, if_neg (by rw [hb]; decide), if_pos (by simpa using h0)]
          rw [e]
          refine .inr ⟨show (6 : Int) ≠ 0 by decide, .inl rfl, h.first, h.cel, h.ok, ⟨(rcd l).take ((rcd l).length / 2), ?_, rcd_short hok (by omega), fun hst => ?_⟩, ?_, hl.1, hl.2, ?_, by have := h.num; omega⟩
          · show s.bytes ++ _ = _; rw [ht1]
          · exfalso
            have : (s.left == 0) = false := hst
            rw [h0] at this; cases this
          · show s.safe ≤ (s.bytes ++ _).length; have := h.safe; rw [List.length_append]; omega
          · show (s.bytes ++ _).length ≤ _; rw [List.length_append, List.length_take]; omega
        · have e : Rd.put s l = (0, { step s with bytes := s.bytes ++ rcd l, cells := done s.cells l }) := by unfold Rd.put; rw [hs, if_neg (by decide), if_neg h40, if_neg (by rw [hb]; decide), if_neg (by simpa using h0)]
          have hm : (s.bytes ++ rcd l).length = (log (rs ++ [l])).length := by rw [ht1, log_snoc]
          refine .inl ⟨by rw [e], ?_, hwf, ?_, ?_⟩
          · rw [e]
            refine ⟨h.first, ?_, ?_, ⟨[], ?_, short_nil, fun _ => rfl⟩, ?_, hl.1, hl.2, ?_, ?_⟩
            · show done s.cells l = _; rw [h.cel, all_snoc]
            · intro x hx
              rcases List.mem_append.1 hx with hx | hx
              · exact h.ok x hx
              · rw [List.mem_singleton] at hx; rw [hx]; exact hok
            · show s.bytes ++ rcd l = _; rw [ht1, log_snoc, List.append_nil]
            · show s.safe ≤ (s.bytes ++ _).length; have := h.safe; rw [List.length_append]; omega
            · show (s.bytes ++ _).length ≤ _; rw [List.length_append]; omega
            · rw [List.length_append, List.length_singleton]; have := h.num; omega
          · rw [e]; show _ ≤ (s.bytes ++ _).length; rw [List.length_append]; omega
          · rw [e]; exact hm
/-- as much as is left -/
def high (s : R) (keep : Int) : Nat := s.safe + (max 0 (min keep ((s.bytes.length : Int) - s.safe))).toNat
theorem Kp.crash {cells : List ByteArray} {a : Nat} {s : R} {rs : List (List W)} (h : Kp cells a s rs) (keep : Int) :
    ∃ i tail, i ≤ rs.length ∧ kept s keep = log (rs.take i) ++ tail ∧ (∀ l ∈ rs.take i, Ok s.first.length l) ∧ Short tail ∧ Kp cells a (Rd.crash s (rs.take i)) (rs.take i) ∧
      ((log (rs.take i)).length ≤ high s keep ∧ ∀ j, i < j → j ≤ rs.length → high s keep < (log (rs.take j)).length) := by
  obtain ⟨t, ht1, ht2, ht3⟩ := h.byt
  obtain ⟨i, tail, g1, g2, g3, g4, g5⟩ := cut_log rs t h.ok ht2 (high s keep)
  have hk : kept s keep = log (rs.take i) ++ tail := by
    have e : kept s keep = s.bytes.take (high s keep) := rfl
    generalize high s keep = hh at *
    rw [e, ht1]; exact g2
  have hokt : ∀ l ∈ rs.take i, Ok cells.length l := fun l hl => h.ok l (List.mem_of_mem_take hl)
  have hlen : (log (rs.take i)).length ≤ s.bytes.length := by
    have h1 : (kept s keep).length ≤ s.bytes.length := by rw [kept_eq, List.length_take]; omega
    rw [hk, List.length_append] at h1; omega
  refine ⟨i, tail, g1, hk, by rw [h.first]; exact hokt, g3, ⟨h.first, ?_, hokt, ⟨[], (List.append_nil _).symm, short_nil, fun _ => rfl⟩, Nat.le_refl _, by show (-1 : Int) ≤ -1; decide, by show (-1 : Int) ≤ 9223372036854775807; decide, ?_, ?_⟩, g4, g5⟩
  · show all s.first (rs.take i) = _; rw [h.first]
  · show (log (rs.take i)).length ≤ _; have := h.len; omega
  · rw [List.length_take]; have := h.num; omega
end Rd
end Go.Proofs.YtangcjffiooapaaDoor
