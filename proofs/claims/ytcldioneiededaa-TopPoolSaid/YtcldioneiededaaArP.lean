/- The array of disks, in plain: at first all is noughts; written; a disk that is built anew. -/
import Derived.Test.YtcldioneiededaaAryN
namespace Go.Proofs.Ytcldioneiededaa
set_option linter.unusedVariables false
theorem zero_cw (z k : Nat) (hk : 0 < k) : Gv.Cw z k (List.replicate (k + 2) (Dk.noughts z)) := by
  have hs : ∀ s ∈ List.replicate k (Dk.noughts z), s.size = z := fun s h => by rw [(List.mem_replicate.1 h).2]; exact Dk.noughts_size z
  have h0 : 0 < (List.replicate k (Dk.noughts z)).length := by rw [List.length_replicate]; exact hk
  have he : ∀ i j, Gv.ent (List.replicate k (Dk.noughts z)) i j = 0 := fun i j => by
    unfold Gv.ent Gv.at'
    rw [List.getD_eq_getElem?_getD (l := List.replicate k (Dk.noughts z)), List.getElem?_replicate]
    by_cases h : i < k
    · rw [if_pos h]
      show (List.replicate z (0 : UInt8)).toArray.toList.getD j 0 = 0
      rw [List.toList_toArray, List.getD_eq_getElem?_getD, List.getElem?_replicate]
      split <;> rfl
    · rw [if_neg h]
      show ([] : List UInt8).getD j 0 = 0
      rfl
  have hen : ∀ j, Gv.en (Dk.noughts z) j = 0 := fun j => by
    have := he 0 j
    rw [Gv.ent_en] at this
    rw [List.getD_eq_getElem?_getD, List.getElem?_replicate, if_pos hk] at this
    exact this
  refine ⟨List.replicate k (Dk.noughts z), List.length_replicate, hs, ?_⟩
  have hP : Gv.P (List.replicate k (Dk.noughts z)) = Dk.noughts z := by
    refine Gv.block_ext (n := z) (by rw [Gv.P_size, Gv.size0_of hs h0]) (Dk.noughts_size z) (fun j hj => ?_)
    rw [Gv.en_P hs h0 hj, hen]
    exact Gv.xsum_all0 (fun i _ => he i j)
  have hQ : Gv.Q (List.replicate k (Dk.noughts z)) = Dk.noughts z := by
    refine Gv.block_ext (n := z) (by rw [Gv.Q_size, Gv.size0_of hs h0]) (Dk.noughts_size z) (fun j hj => ?_)
    rw [Gv.en_Q hs h0 hj, hen]
    exact Gv.xsum_all0 (fun i _ => by rw [he, Gf.mul_zero])
  rw [hP, hQ, List.replicate_succ', List.replicate_succ', List.append_assoc]
  rfl
namespace Ar
/-- nothing has failed, all is built -/
structure Wh (n rows size : Nat) (s : S) : Prop where
  good : s.Good
  en : s.n = n
  er : s.rows = rows
  ez : s.size = size
  fl : ∀ e, s.fl e = false
  bt : ∀ e, s.bt e = rows
theorem s0_wh {n rows size : Nat} (h3 : 3 ≤ n) (h10 : n ≤ 10) (h1 : 1 ≤ rows) (h2 : rows ≤ 20) (h4 : 1 ≤ size) (h5 : size ≤ 16) : Wh n rows size (s0 n rows size) := by
  refine ⟨⟨⟨h3, h10, h1, h2, h4, h5, fun d r _ _ _ => Dk.noughts_size size, fun d _ => Nat.le_refl _⟩, fun row _ => ?_⟩, rfl, rfl, rfl, fun _ => rfl, fun _ => rfl⟩
  have e : (s0 n rows size).full row = List.replicate (n - 2 + 2) (Dk.noughts size) := by
    show (List.range n).map (fun _ => Dk.noughts size) = _
    rw [show n - 2 + 2 = n by omega, List.map_const', List.length_range]
  rw [e]
  exact zero_cw size (n - 2) (by omega)
theorem lost0 {n rows size : Nat} {s : S} (h : Wh n rows size s) {d r : Nat} (hr : r < rows) : s.lost d r = false := by
  unfold S.lost
  rw [h.fl, h.bt, decide_eq_false (by omega)]; rfl
theorem many0 {n rows size : Nat} {s : S} (h : Wh n rows size s) {r : Nat} (hr : r < rows) : s.many r = 0 := by
  unfold S.many
  rw [List.length_eq_zero_iff, List.filter_eq_nil_iff]
  intro d _
  rw [lost0 h hr]; decide
theorem wh_write {n rows size : Nat} {s : S} (h : Wh n rows size s) {y : Nat} {x : ByteArray} (hy : y < rows * (n - 2)) (hx : x.size = size) :
    (s.write y x).1 = 0 ∧ Wh n rows size (s.write y x).2 ∧ ∀ q, q < rows * (n - 2) → (s.write y x).2.blk q = if q = y then x else s.blk q := by
  have hr := S.row_lt h.good.toOk (b := y) (by rw [h.en, h.er]; exact hy)
  have hm : ¬ 2 < s.many (y / (s.n - 2)) := by rw [many0 h (by rw [← h.er]; exact hr)]; omega
  have h1 := S.write_blk h.good (b := y) (x := x) (by rw [h.en, h.er]; exact hy) (by rw [h.ez]; exact hx) hm
  have h2 := S.write_good h.good (y : Int) x
  refine ⟨h1.1, ?_, fun q hq => h1.2 q (by rw [h.en, h.er]; exact hq)⟩
  have e : s.write y x = (0, s.putRow (y / (s.n - 2)) (s.turned (y / (s.n - 2)) (y % (s.n - 2)) x)) := by
    unfold S.write
    rw [if_pos ⟨by omega, by rw [h.en, h.er]; omega⟩, if_pos (by rw [h.ez]; exact hx), Int.toNat_natCast, if_neg hm]
  rw [e] at h2 ⊢
  exact ⟨h2, h.en, h.er, h.ez, h.fl, h.bt⟩
theorem wh_read {n rows size : Nat} {s : S} (h : Wh n rows size s) {y : Nat} (hy : y < rows * (n - 2)) : s.read y = (s.blk y, 0) := by
  have hr := S.row_lt h.good.toOk (b := y) (by rw [h.en, h.er]; exact hy)
  exact S.read_good h.good (by rw [h.en, h.er]; exact hy) (by rw [many0 h (by rw [← h.er]; exact hr)]; omega)
theorem wh_parts {n rows size : Nat} {s : S} (h : Wh n rows size s) {r : Nat} (hr : r < rows) : s.parts r = s.full r := S.parts_full h.good.toOk (by rw [many0 h hr]; omega)
/-- disk d is built up to row r -/
structure Rb (n rows size d r : Nat) (s t : S) : Prop where
  good : t.Good
  en : t.n = n
  er : t.rows = rows
  ez : t.size = size
  fl : ∀ e, t.fl e = false
  bt : ∀ e, t.bt e = if e = d then r else rows
  full : ∀ row, row < rows → t.full row = s.full row
theorem rb_start {n rows size d : Nat} {s : S} (h : Wh n rows size s) (hd : d < n) : (s.fail d).1 = 0 ∧ ((s.fail d).2.replace d).1 = 0 ∧ Rb n rows size d 0 s ((s.fail d).2.replace d).2 := by
  have e1 : s.fail d = (0, { s with fl := up s.fl d true }) := by
    unfold S.fail
    rw [if_pos ⟨by omega, by rw [h.en]; omega⟩, Int.toNat_natCast, h.fl, if_neg (by decide)]
  have hf : up s.fl d true d = true := up_self _ _ _
  have e2 : ({ s with fl := up s.fl d true } : S).replace d = (0, { s with fl := up (up s.fl d true) d false, bt := up s.bt d 0 }) := by
    unfold S.replace
    rw [if_pos ⟨by omega, by show (d : Int) < (s.n : Int); rw [h.en]; omega⟩, Int.toNat_natCast]
    show (if up s.fl d true d = true then _ else _) = _
    rw [if_pos hf]
  have g1 := S.fail_good h.good (d : Int)
  have g2 := S.replace_good g1 (d : Int)
  rw [e1] at g2 ⊢
  rw [e2] at g2 ⊢
  refine ⟨rfl, rfl, g2, h.en, h.er, h.ez, fun e => ?_, fun e => ?_, fun row _ => rfl⟩
  · show up (up s.fl d true) d false e = false
    unfold up
    split
    · rfl
    · exact h.fl e
  · show up s.bt d 0 e = _
    unfold up
    rw [h.bt]
theorem rb_lost {n rows size d r : Nat} {s t : S} (h : Rb n rows size d r s t) {e row : Nat} (hrow : row < rows) : t.lost e row = (decide (e = d) && decide (r ≤ row)) := by
  unfold S.lost
  rw [h.fl, h.bt, Bool.false_or]
  by_cases he : e = d
  · rw [if_pos he, decide_eq_true he, Bool.true_and]
  · rw [if_neg he, decide_eq_false he, Bool.false_and, decide_eq_false (show ¬ rows ≤ row by omega)]
theorem rb_many {n rows size d r : Nat} {s t : S} (h : Rb n rows size d r s t) {row : Nat} (hrow : row < rows) : t.many row ≤ 1 := by
  have : ∀ k, t.manyTo row k ≤ if d < k then 1 else 0 := by
    intro k
    induction k with
    | zero => exact Nat.le_refl _
    | succ k ih =>
      rw [S.manyTo_succ, rb_lost h hrow]
      by_cases hk : k = d
      · subst hk
        rw [if_neg (show ¬ k < k by omega)] at ih
        rw [if_pos (show k < k + 1 by omega)]
        split <;> omega
      · rw [decide_eq_false hk, Bool.false_and, if_neg (by decide)]
        by_cases h1 : d < k
        · rw [if_pos h1] at ih; rw [if_pos (by omega)]; exact ih
        · rw [if_neg h1] at ih; rw [if_neg (by omega)]; exact ih
  have h1 := this t.n
  show t.manyTo row t.n ≤ 1
  split at h1 <;> omega
theorem rb_step {n rows size d r : Nat} {s t : S} (h : Rb n rows size d r s t) (hd : d < n) (hr : r < rows) : (t.rebuild d).1 = ((rows : Int) - (r + 1), 0) ∧ Rb n rows size d (r + 1) s (t.rebuild d).2 := by
  have hb : t.bt d = r := by rw [h.bt, if_pos rfl]
  have hm : ¬ 2 < t.many (t.bt d) := by have := rb_many h (row := t.bt d) (by omega); omega
  have e : t.rebuild d = (((t.rows : Int) - (t.bt d + 1), 0), t.built d) := by
    unfold S.rebuild
    rw [if_pos ⟨by omega, by rw [h.en]; omega⟩, Int.toNat_natCast, if_neg (by rw [h.fl, h.er, hb]; exact fun h => h.elim (fun h => by cases h) (fun h => by omega)), if_neg hm]
  have g := S.rebuild_good h.good (d : Int)
  rw [e] at g ⊢
  refine ⟨by rw [h.er, hb], g, h.en, h.er, h.ez, h.fl, fun e => ?_, fun row hrow => ?_⟩
  · show up t.bt d (t.bt d + 1) e = _
    unfold up
    split
    · rename_i he; rw [hb]
    · rename_i he; rw [h.bt, if_neg he]
  · rw [← h.full row hrow]
    exact S.full_congr (s := t.built d) (t := t) rfl (fun e => S.built_c h.good (by rw [h.en]; exact hd) (by rw [hb, h.er]; exact hr) hm e row)
theorem rb_parts {n rows size d r : Nat} {s t : S} (h : Rb n rows size d (r + 1) s t) (hr : r < rows) : t.parts r = s.full r := by
  rw [S.parts_full h.good.toOk, h.full r hr]
  intro hpos
  have : t.many r = 0 := by
    unfold S.many
    rw [List.length_eq_zero_iff, List.filter_eq_nil_iff]
    intro e _
    rw [rb_lost h hr, decide_eq_false (show ¬ r + 1 ≤ r by omega), Bool.and_false]; decide
  omega
theorem rb_end {n rows size d : Nat} {s t : S} (h : Rb n rows size d rows s t) (hd : d < n) : t.rebuild d = ((0, 6), t) := by
  unfold S.rebuild
  rw [if_pos ⟨by omega, by rw [h.en]; omega⟩, Int.toNat_natCast, if_pos (.inr (by rw [h.bt, if_pos rfl, h.er]))]
end Ar
end Go.Proofs.Ytcldioneiededaa
