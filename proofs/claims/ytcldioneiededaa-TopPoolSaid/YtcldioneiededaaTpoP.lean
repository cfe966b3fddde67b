/- An array and a pool side by side, plain: a disk that fails is taken over by a spare, as long as there is one. -/
import Derived.Test.YtcldioneiededaaArK
import Derived.Test.YtcldioneiededaaSlotsP
namespace Go.Proofs.Ytcldioneiededaa
set_option linter.unusedVariables false
open Ar (up up_self up_ne)
structure Tp (n rows o : Nat) (s : Ar.S) (S L : List Int) (cells : List ByteArray) : Prop where
  kp : Ar.Kp n rows 2 s cells
  inv : Pool.Inv S L
  ll : L.length = n
  three : ∀ j : Nat, S[j]? ≠ some 3
  dead : ∀ i, i < n → (s.fl i = true ↔ L[i]? = some (-1))
  bt : ∀ i, i < n → s.bt i = rows
  many : ∀ row, row < rows → s.many row ≤ o
theorem tp_start {n rows k : Nat} (h3 : 3 ≤ n) (h10 : n ≤ 10) (h1 : 1 ≤ rows) (h2 : rows ≤ 20) : Tp n rows 0 (Ar.s0 n rows 2) (Pool.newS n (n + k)) (Pool.newL n (n + k)) (List.replicate (rows * (n - 2)) (Dk.noughts 2)) := by
  have hw := Ar.s0_wh h3 h10 h1 h2 (show 1 ≤ 2 by omega) (show 2 ≤ 16 by omega)
  refine ⟨Ar.kp_start h3 h10 h1 h2 (by omega) (by omega), Pool.Inv.new n k, by rw [Pool.newL_len]; omega, fun j hj => ?_, fun i hi => ?_, fun i _ => rfl, fun row hr => by rw [Ar.many0 hw hr]; exact Nat.le_refl _⟩
  · unfold Pool.newS at hj
    rw [List.getElem?_map] at hj
    obtain ⟨q, _, hq⟩ := Option.map_eq_some_iff.1 hj
    split at hq
    · cases hq
    · cases hq
  · constructor
    · intro h; cases h
    · intro h
      unfold Pool.newL at h
      rw [List.getElem?_map] at h
      obtain ⟨q, _, hq⟩ := Option.map_eq_some_iff.1 h
      omega
section
variable {n rows o : Nat} {s : Ar.S} {S L : List Int} {cells : List ByteArray}
theorem tp_write (h : Tp n rows o s S L cells) {y : Nat} {x : ByteArray} (hy : y < rows * (n - 2)) (hx : x.size = 2) : (s.write y x).1 = 0 ∧ Tp n rows o (s.write y x).2 S L (cells.set y x) := by
  have hk := Ar.kp_write h.kp hy hx
  have hm := Ar.kp_row h.kp hy
  have e : s.write y x = (0, s.putRow (y / (s.n - 2)) (s.turned (y / (s.n - 2)) (y % (s.n - 2)) x)) := by
    unfold Ar.S.write
    rw [if_pos ⟨by omega, by rw [h.kp.en, h.kp.er]; omega⟩, if_pos (by rw [h.kp.ez]; exact hx), Int.toNat_natCast, if_neg hm]
  refine ⟨hk.1, ?_⟩
  have h2 := hk.2
  rw [e] at h2 ⊢
  exact ⟨h2, h.inv, h.ll, h.three, h.dead, h.bt, h.many⟩
/-- the disk of a slot -/
theorem tp_disk (h : Tp n rows o s S L cells) {k : Nat} {x : Int} (hx : L[k]? = some x) (h0 : x ≠ -1) : k < n ∧ s.fl k = false ∧ ∃ j : Nat, x = j ∧ S[j]? = some 0 ∧ idx L j = k := by
  have hk : k < n := by have := Pool.lt_of_some hx; rw [h.ll] at this; exact this
  refine ⟨hk, ?_, ?_⟩
  · cases hf : s.fl k with
    | false => rfl
    | true =>
      have := (h.dead k hk).1 hf
      rw [hx] at this
      exact absurd (Option.some.inj this) h0
  · rcases h.inv.a k x hx with h1 | ⟨j, rfl, h1⟩
    · exact absurd h1 h0
    · refine ⟨j, rfl, h1.resolve_right (h.three j), ?_⟩
      have hb := idx_bd L (j : Int)
      by_cases hn : idx L (j : Int) < 0
      · exact absurd hx (Pool.idx_neg hn k)
      · obtain ⟨q, hq⟩ : ∃ q : Nat, idx L (j : Int) = q := ⟨(idx L (j : Int)).toNat, by omega⟩
        have := h.inv.b q k j (Pool.idx_some hq) hx
        rw [hq, this]
theorem fail_is (h : Tp n rows o s S L cells) {k : Nat} (hk : k < n) (hf : s.fl k = false) : s.fail k = (0, { s with fl := up s.fl k true }) := by
  unfold Ar.S.fail
  rw [if_pos ⟨by omega, by rw [h.kp.en]; omega⟩, Int.toNat_natCast, hf, if_neg (by decide)]
/-- there is no spare -/
theorem tp_none (h : Tp n rows o s S L cells) (ho : o < 2) {k j : Nat} (hk : k < n) (hf : s.fl k = false) (hj : S[j]? = some 0) (hi : idx L j = k) (hp : idx (S.set j 2) 1 < 0) :
    Pool.fail S L j = (S.set j 2, L.set k (-1), -1) ∧ (s.fail k).1 = 0 ∧ Tp n rows (o + 1) (s.fail k).2 (S.set j 2) (L.set k (-1)) cells := by
  have hm : idx (S.set j 2) 1 = -1 := by have := idx_bd (S.set j 2) 1; omega
  have e : Pool.fail S L j = (S.set j 2, L.set k (-1), -1) := by
    unfold Pool.fail
    simp only [hi, hm, if_neg (show ¬ ((k : Nat) : Int) < 0 by omega), if_pos (show (-1 : Int) < 0 by decide), Int.toNat_natCast]
  have hI := h.inv.fail hj (by decide)
  rw [e] at hI
  have hkp := Ar.kp_fail h.kp (fun row hr => by have := h.many row hr; omega) (k : Int)
  have e2 := fail_is h hk hf
  rw [e2] at hkp ⊢
  refine ⟨e, rfl, hkp, hI, by rw [List.length_set]; exact h.ll, fun q hq => ?_, fun i hin => ?_, h.bt, fun row hr => ?_⟩
  · rcases Pool.get_set hq with ⟨_, h1, _⟩ | ⟨_, h1⟩
    · omega
    · exact h.three q h1
  · show up s.fl k true i = true ↔ _
    by_cases e3 : i = k
    · subst e3
      rw [up_self, Pool.get_set_eq (by rw [h.ll]; exact hk)]
      exact ⟨fun _ => rfl, fun _ => rfl⟩
    · rw [up_ne _ _ e3, Pool.get_set_ne e3]
      exact h.dead i hin
  · have := Ar.S.many_one (s := s) (t := { s with fl := up s.fl k true }) rfl (row := row) (d := k) (fun e _ hne hl => by
      unfold Ar.S.lost at hl ⊢
      have e1 : up s.fl k true e = s.fl e := up_ne _ _ hne
      rw [← e1]; exact hl)
    exact Nat.le_trans this (by have := h.many row hr; omega)
/-- a disk that is built, up to row r; the others are as they were -/
structure Tq (n rows k r : Nat) (s t : Ar.S) (cells : List ByteArray) : Prop where
  kp : Ar.Kp n rows 2 t cells
  fl : ∀ i, i < n → t.fl i = if i = k then false else s.fl i
  bt : ∀ i, i < n → t.bt i = if i = k then r else rows
/-- there is a spare -/
theorem tp_spare (h : Tp n rows o s S L cells) (ho : o < 2) {k j p : Nat} (hk : k < n) (hf : s.fl k = false) (hj : S[j]? = some 0) (hi : idx L j = k) (hp : idx (S.set j 2) 1 = p) :
    Pool.fail S L j = ((S.set j 2).set p 3, L.set k p, (p : Int)) ∧ (s.fail k).1 = 0 ∧ ((s.fail k).2.replace k).1 = 0 ∧ Tq n rows k 0 s ((s.fail k).2.replace k).2 cells := by
  have e : Pool.fail S L j = ((S.set j 2).set p 3, L.set k p, (p : Int)) := by
    unfold Pool.fail
    simp only [hi, hp, if_neg (show ¬ ((k : Nat) : Int) < 0 by omega), if_neg (show ¬ ((p : Nat) : Int) < 0 by omega), Int.toNat_natCast]
  have hkp := Ar.kp_fail h.kp (fun row hr => by have := h.many row hr; omega) (k : Int)
  have e2 := fail_is h hk hf
  have hkp2 := Ar.kp_replace hkp (k : Int)
  have e3 : ({ s with fl := up s.fl k true } : Ar.S).replace k = (0, { s with fl := up (up s.fl k true) k false, bt := up s.bt k 0 }) := by
    unfold Ar.S.replace
    rw [if_pos ⟨by omega, by show (k : Int) < (s.n : Int); rw [h.kp.en]; omega⟩, Int.toNat_natCast]
    show (if up s.fl k true k = true then _ else _) = _
    rw [if_pos (up_self _ _ _)]
  rw [e2] at hkp2 ⊢
  rw [e3] at hkp2 ⊢
  refine ⟨e, rfl, rfl, hkp2, fun i hin => ?_, fun i hin => ?_⟩
  · show up (up s.fl k true) k false i = _
    by_cases e4 : i = k
    · subst e4; rw [up_self, if_pos rfl]
    · rw [up_ne _ _ e4, up_ne _ _ e4, if_neg e4]
  · show up s.bt k 0 i = _
    by_cases e4 : i = k
    · subst e4; rw [up_self, if_pos rfl]
    · rw [up_ne _ _ e4, if_neg e4]; exact h.bt i hin
theorem tq_step {k r : Nat} {t : Ar.S} (h : Tq n rows k r s t cells) (hk : k < n) (hr : r < rows) : (t.rebuild k).1 = ((rows : Int) - (r + 1), 0) ∧ Tq n rows k (r + 1) s (t.rebuild k).2 cells := by
  have hkp := (Ar.kp_rebuild h.kp (k : Int)).2
  have hb : t.bt k = r := by rw [h.bt k hk, if_pos rfl]
  have hf : t.fl k = false := by rw [h.fl k hk, if_pos rfl]
  have e : t.rebuild k = (((t.rows : Int) - (t.bt k + 1), 0), t.built k) := by
    unfold Ar.S.rebuild
    rw [if_pos ⟨by omega, by rw [h.kp.en]; omega⟩, Int.toNat_natCast, if_neg (by rw [hf, hb, h.kp.er]; exact fun h => h.elim (fun h => by cases h) (fun h => by omega)), if_neg (by rw [hb]; have := h.kp.two r hr; omega)]
  rw [e] at hkp ⊢
  refine ⟨by rw [h.kp.er, hb], hkp, h.fl, fun i hin => ?_⟩
  show up t.bt k (t.bt k + 1) i = _
  by_cases e4 : i = k
  · subst e4; rw [up_self, if_pos rfl, hb]
  · rw [up_ne _ _ e4, if_neg e4, h.bt i hin, if_neg e4]
/-- it is built, and filled -/
theorem tq_end {k j p : Nat} {t : Ar.S} (h : Tp n rows o s S L cells) (hq : Tq n rows k rows s t cells) (ho : o < 2) (hk : k < n) (hf : s.fl k = false) (hj : S[j]? = some 0) (hi : idx L j = k) (hp : idx (S.set j 2) 1 = p) :
    ((S.set j 2).set p 3)[p]? = some 3 ∧ Tp n rows o t (Pool.fill ((S.set j 2).set p 3) p) (L.set k p) cells := by
  have hI := h.inv.fail hj (by decide)
  rw [(tp_spare h ho hk hf hj hi hp).1] at hI
  have hpl : p < (S.set j 2).length := Pool.lt_of_some (Pool.idx_some hp)
  have h3 : ((S.set j 2).set p 3)[p]? = some 3 := Pool.get_set_eq hpl
  refine ⟨h3, hq.kp, hI.fill h3, by rw [List.length_set]; exact h.ll, fun q hq2 => ?_, fun i hin => ?_, fun i hin => ?_, fun row hr => ?_⟩
  · unfold Pool.fill at hq2
    rcases Pool.get_set hq2 with ⟨_, h1, _⟩ | ⟨e1, h1⟩
    · omega
    · rw [Pool.get_set_ne e1] at h1
      rcases Pool.get_set h1 with ⟨_, h2, _⟩ | ⟨_, h2⟩
      · omega
      · exact h.three q h2
  · rw [hq.fl i hin]
    by_cases e3 : i = k
    · subst e3
      rw [if_pos rfl, Pool.get_set_eq (by rw [h.ll]; exact hk)]
      constructor
      · intro h; cases h
      · intro h; have := Option.some.inj h; omega
    · rw [if_neg e3, Pool.get_set_ne e3]
      exact h.dead i hin
  · rw [hq.bt i hin]; split <;> rfl
  · refine Nat.le_trans (Ar.S.many_le (s := s) (t := t) (by rw [hq.kp.en, h.kp.en]) (fun e he hl => ?_)) (h.many row hr)
    rw [h.kp.en] at he
    unfold Ar.S.lost at hl ⊢
    rw [hq.fl e he, hq.bt e he] at hl
    rw [h.bt e he]
    by_cases e3 : e = k
    · rw [if_pos e3, if_pos e3, Bool.false_or] at hl
      have := of_decide_eq_true hl
      omega
    · rw [if_neg e3, if_neg e3] at hl; exact hl
end
end Go.Proofs.Ytcldioneiededaa
