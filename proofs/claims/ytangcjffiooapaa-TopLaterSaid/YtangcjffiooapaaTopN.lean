/- What a cache has below, put as a whole: plain. -/
import Derived.Test.YtangcjffiooapaaRedN
namespace Go.Proofs.Ytangcjffiooapaa
set_option linter.unusedVariables false
namespace Rd
def ats (l : List ByteArray) (n : Nat) : List W := (List.range n).map (fun (k : Nat) => ⟨(k : Int), l.getD k ⟨#[]⟩⟩)
theorem ats_len (l : List ByteArray) (n : Nat) : (ats l n).length = n := by unfold ats; simp
theorem ats_succ (l : List ByteArray) (n : Nat) : ats l (n + 1) = ats l n ++ [⟨(n : Int), l.getD n ⟨#[]⟩⟩] := by unfold ats; rw [List.range_succ, List.map_append]; rfl
theorem done_ats (c l : List ByteArray) (h : c.length = l.length) : ∀ n, n ≤ l.length → done c (ats l n) = l.take n ++ c.drop n
  | 0, _ => rfl
  | n + 1, hn => by
    rw [ats_succ, done_snoc, done_ats c l h n (by omega), put1]
    apply List.ext_getElem?
    intro j
    have h1 : (l.take n).length = n := by rw [List.length_take]; omega
    have h2 : (l.take (n + 1)).length = n + 1 := by rw [List.length_take]; omega
    show ((l.take n ++ c.drop n).set n (l.getD n ⟨#[]⟩))[j]? = _
    rw [List.getElem?_set, List.length_append, h1, List.length_drop]
    by_cases e : n = j
    · subst e
      rw [if_pos rfl, if_pos (by omega), List.getElem?_append_left (by omega), List.getElem?_take, if_pos (by omega), List.getD_eq_getElem?_getD, List.getElem?_eq_getElem (by omega)]; rfl
    · rw [if_neg e]
      by_cases h3 : j < n
      · rw [List.getElem?_append_left (by omega), List.getElem?_append_left (by omega), List.getElem?_take, List.getElem?_take, if_pos h3, if_pos (by omega)]
      · rw [List.getElem?_append_right (by omega), List.getElem?_append_right (by omega), h1, h2, List.getElem?_drop, List.getElem?_drop]
        congr 1; omega
theorem ats_ok (c l : List ByteArray) (h : c.length = l.length) (h40 : l.length ≤ 40) (hs : ∀ b ∈ l, b.size ≤ 16) : Ok c.length (ats l l.length) := by
  refine ⟨by rw [ats_len]; exact h40, fun x hx => ?_⟩
  unfold ats at hx
  obtain ⟨k, hk, rfl⟩ := List.mem_map.1 hx
  rw [List.mem_range] at hk
  refine ⟨by show (0 : Int) ≤ k; omega, by show (k : Int) < _; omega, ?_⟩
  show (l.getD k ⟨#[]⟩).size ≤ 16
  rw [List.getD_eq_getElem?_getD, List.getElem?_eq_getElem hk]
  exact hs _ (List.getElem_mem hk)
theorem ok_any {n : Nat} {l : List W} (h : Ok n l) : l.any (badB n) = false := by
  rw [List.any_eq_false]
  intro x hx
  obtain ⟨h1, h2, h3⟩ := h.pos x hx
  unfold badB
  simp
  omega
structure Later (c l : List ByteArray) (s1 s2 s3 : R) : Prop where
  p1 : put (new c) (ats l l.length) = (0, s1)
  p2 : sync s1 = (0, s2)
  p3 : put s2 [] = (0, s3)
  left1 : s1.left = -1
  left2 : s2.left = -1
  len1 : s1.bytes.length ≤ 1000
  len2 : s2.bytes.length ≤ 1000
  len3 : s3.bytes.length ≤ 1000
  cells2 : s2.cells.length ≤ 40
  cells2o : s1.cells.length ≤ 40
  safe3 : s3.safe ≤ s3.bytes.length
  first : s3.first = c
  ends : ∃ tail, kept s3 0 = log [ats l l.length] ++ tail ∧ Short tail
  all : (crash s3 [ats l l.length]).cells = l
theorem later (c l : List ByteArray) (h : c.length = l.length) (h40 : l.length ≤ 40) (hs : ∀ b ∈ l, b.size ≤ 16) : ∃ s1 s2 s3, Later c l s1 s2 s3 := by
  have hok := ats_ok c l h h40 hs
  have hlen := hok.body
  have hrl := rcd_len (ats l l.length)
  have hd := done_ats c l h l.length (Nat.le_refl _)
  rw [List.take_length, ← h, List.drop_length, List.append_nil] at hd
  rw [h] at hd
  have hdl : (done c (ats l l.length)).length ≤ 40 := by rw [hd]; exact h40
  have ha := ok_any hok
  obtain ⟨ll, hll⟩ : ∃ ll, ll = ats l l.length := ⟨_, rfl⟩
  have hn : ll.length = l.length := by rw [hll]; exact ats_len _ _
  rw [← hll] at hok hlen hrl hd hdl ha
  refine ⟨⟨c, done c ll, rcd ll, 0, -1, false⟩, ⟨c, done c ll, rcd ll, (rcd ll).length, -1, false⟩, ⟨c, done c ll, rcd ll ++ rcd [], (rcd ll).length, -1, false⟩, ?_⟩
  have e0 : (rcd []).length = 3 := by decide
  refine { p1 := ?_, p2 := rfl, p3 := rfl, left1 := rfl, left2 := rfl, len1 := by show (rcd ll).length ≤ 1000; omega, len2 := by show (rcd ll).length ≤ 1000; omega, len3 := ?_, cells2 := hdl, cells2o := hdl, safe3 := ?_, first := rfl, ends := ?_, all := ?_ }
  · rw [← hll]
    unfold put
    rw [if_neg (by simp [new]), if_neg (by omega), show (new c).cells = c from rfl, ha]
    rfl
  · show (rcd ll ++ rcd []).length ≤ 1000; rw [List.length_append]; omega
  · show (rcd ll).length ≤ (rcd ll ++ rcd []).length; rw [List.length_append]; omega
  · refine ⟨[], ?_, short_nil⟩
    rw [← hll, List.append_nil, log_cons, log_nil, List.append_nil]
    show (rcd ll ++ rcd []).take ((rcd ll).length + (max 0 (min 0 (((rcd ll ++ rcd []).length : Int) - (rcd ll).length))).toNat) = _
    have : (max 0 (min 0 (((rcd ll ++ rcd []).length : Int) - (rcd ll).length))).toNat = 0 := by omega
    rw [this, Nat.add_zero, List.take_left']
    rfl
  · rw [← hll]
    show done c ll = l
    exact hd
end Rd
end Go.Proofs.Ytangcjffiooapaa
