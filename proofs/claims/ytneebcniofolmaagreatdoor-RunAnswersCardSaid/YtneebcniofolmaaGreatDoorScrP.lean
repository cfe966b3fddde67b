/- The array of disks, in plain: at first all is noughts; written; a disk that is built anew. · Parts that were poked, and a scrub, in plain. -/
import Derived.Test.YtneebcniofolmaaGreatDoorScrC
namespace Go.Proofs.YtneebcniofolmaaGreatDoor
set_option linter.unusedVariables false
theorem zero_cw (z k : Nat) (hk : 0 < k) : Gv.Cw z k (List.replicate (k + 2) (Dk.noughts z)) := by
  have hs : ∀ s ∈ List.replicate k (Dk.noughts z), s.size = z := fun s h => by rw [(List.mem_replicate.1 h).2]; exact Dk.noughts_size z
  have h0 : 0 < (List.replicate k (Dk.noughts z)).length := by rw [List.length_replicate]; exact hk
  have he : ∀ i j, Gv.ent (List.replicate k (Dk.noughts z)) i j = 0 := fun i j => by
    unfold Gv.ent Gv.at'
    rw [List.getD_eq_getElem?_getD (l := List.replicate k (Dk.noughts z)), List.getElem?_replicate]
    by_cases h : i < k
    · rw [if_pos h]
      show (List.replicate z (0 : UInt8)).toArray.toList.getD j 0 = 0
      rw [List.toList_toArray, List.getD_eq_getElem?_getD, List.getElem?_replicate]
      split <;> rfl
    · rw [if_neg h]
      show ([] : List UInt8).getD j 0 = 0
      rfl
  have hen : ∀ j, Gv.en (Dk.noughts z) j = 0 := fun j => by
    have := he 0 j
    rw [Gv.ent_en] at this
    rw [List.getD_eq_getElem?_getD, List.getElem?_replicate, if_pos hk] at this
    exact this
  refine ⟨List.replicate k (Dk.noughts z), List.length_replicate, hs, ?_⟩
  have hP : Gv.P (List.replicate k (Dk.noughts z)) = Dk.noughts z := by
    refine Gv.block_ext (n := z) (by rw [Gv.P_size, Gv.size0_of hs h0]) (Dk.noughts_size z) (fun j hj => ?_)
    rw [Gv.en_P hs h0 hj, hen]
    exact Gv.xsum_all0 (fun i _ => he i j)
  have hQ : Gv.Q (List.replicate k (Dk.noughts z)) = Dk.noughts z := by
    refine Gv.block_ext (n := z) (by rw [Gv.Q_size, Gv.size0_of hs h0]) (Dk.noughts_size z) (fun j hj => ?_)
    rw [Gv.en_Q hs h0 hj, hen]
    exact Gv.xsum_all0 (fun i _ => by rw [he, Gf.mul_zero])
  rw [hP, hQ, List.replicate_succ', List.replicate_succ', List.append_assoc]
  rfl
namespace Ar
/-- nothing has failed, all is built -/
structure Wh (n rows size : Nat) (s : S) : Prop where
  good : s.Good
  en : s.n = n
  er : s.rows = rows
  ez : s.size = size
  fl : ∀ e, s.fl e = false
  bt : ∀ e, s.bt e = rows
theorem s0_wh {n rows size : Nat} (h3 : 3 ≤ n) (h10 : n ≤ 10) (h1 : 1 ≤ rows) (h2 : rows ≤ 20) (h4 : 1 ≤ size) (h5 : size ≤ 16) : Wh n rows size (s0 n rows size) := by
  refine ⟨⟨⟨h3, h10, h1, h2, h4, h5, fun d r _ _ _ => Dk.noughts_size size, fun d _ => Nat.le_refl _⟩, fun row _ => ?_⟩, rfl, rfl, rfl, fun _ => rfl, fun _ => rfl⟩
  have e : (s0 n rows size).full row = List.replicate (n - 2 + 2) (Dk.noughts size) := by
    show (List.range n).map (fun _ => Dk.noughts size) = _
    rw [show n - 2 + 2 = n by omega, List.map_const', List.length_range]
  rw [e]
  exact zero_cw size (n - 2) (by omega)
theorem lost0 {n rows size : Nat} {s : S} (h : Wh n rows size s) {d r : Nat} (hr : r < rows) : s.lost d r = false := by
  unfold S.lost
  rw [h.fl, h.bt, decide_eq_false (by omega)]; rfl
theorem many0 {n rows size : Nat} {s : S} (h : Wh n rows size s) {r : Nat} (hr : r < rows) : s.many r = 0 := by
  unfold S.many
  rw [List.length_eq_zero_iff, List.filter_eq_nil_iff]
  intro d _
  rw [lost0 h hr]; decide
theorem wh_write {n rows size : Nat} {s : S} (h : Wh n rows size s) {y : Nat} {x : ByteArray} (hy : y < rows * (n - 2)) (hx : x.size = size) :
    (s.write y x).1 = 0 ∧ Wh n rows size (s.write y x).2 ∧ ∀ q, q < rows * (n - 2) → (s.write y x).2.blk q = if q = y then x else s.blk q := by
  have hr := S.row_lt h.good.toOk (b := y) (by rw [h.en, h.er]; exact hy)
  have hm : ¬ 2 < s.many (y / (s.n - 2)) := by rw [many0 h (by rw [← h.er]; exact hr)]; omega
  have h1 := S.write_blk h.good (b := y) (x := x) (by rw [h.en, h.er]; exact hy) (by rw [h.ez]; exact hx) hm
  have h2 := S.write_good h.good (y : Int) x
  refine ⟨h1.1, ?_, fun q hq => h1.2 q (by rw [h.en, h.er]; exact hq)⟩
  have e : s.write y x = (0, s.putRow (y / (s.n - 2)) (s.turned (y / (s.n - 2)) (y % (s.n - 2)) x)) := by
    unfold S.write
    rw [if_pos ⟨by omega, by rw [h.en, h.er]; omega⟩, if_pos (by rw [h.ez]; exact hx), Int.toNat_natCast, if_neg hm]
  rw [e] at h2 ⊢
  exact ⟨h2, h.en, h.er, h.ez, h.fl, h.bt⟩
theorem wh_read {n rows size : Nat} {s : S} (h : Wh n rows size s) {y : Nat} (hy : y < rows * (n - 2)) : s.read y = (s.blk y, 0) := by
  have hr := S.row_lt h.good.toOk (b := y) (by rw [h.en, h.er]; exact hy)
  exact S.read_good h.good (by rw [h.en, h.er]; exact hy) (by rw [many0 h (by rw [← h.er]; exact hr)]; omega)
theorem wh_parts {n rows size : Nat} {s : S} (h : Wh n rows size s) {r : Nat} (hr : r < rows) : s.parts r = s.full r := S.parts_full h.good.toOk (by rw [many0 h hr]; omega)
/-- disk d is built up to row r -/
structure Rb (n rows size d r : Nat) (s t : S) : Prop where
  good : t.Good
  en : t.n = n
  er : t.rows = rows
  ez : t.size = size
  fl : ∀ e, t.fl e = false
  bt : ∀ e, t.bt e = if e = d then r else rows
  full : ∀ row, row < rows → t.full row = s.full row
theorem rb_start {n rows size d : Nat} {s : S} (h : Wh n rows size s) (hd : d < n) : (s.fail d).1 = 0 ∧ ((s.fail d).2.replace d).1 = 0 ∧ Rb n rows size d 0 s ((s.fail d).2.replace d).2 := by
  have e1 : s.fail d = (0, { s with fl := up s.fl d true }) := by
    unfold S.fail
    rw [if_pos ⟨by omega, by rw [h.en]; omega⟩, Int.toNat_natCast, h.fl, if_neg (by decide)]
  have hf : up s.fl d true d = true := up_self _ _ _
  have e2 : ({ s with fl := up s.fl d true } : S).replace d = (0, { s with fl := up (up s.fl d true) d false, bt := up s.bt d 0 }) := by
    unfold S.replace
    rw [if_pos ⟨by omega, by show (d : Int) < (s.n : Int); rw [h.en]; omega⟩, Int.toNat_natCast]
    show (if up s.fl d true d = true then _ else _) = _
    rw [if_pos hf]
  have g1 := S.fail_good h.good (d : Int)
  have g2 := S.replace_good g1 (d : Int)
  rw [e1] at g2 ⊢
  rw [e2] at g2 ⊢
  refine ⟨rfl, rfl, g2, h.en, h.er, h.ez, fun e => ?_, fun e => ?_, fun row _ => rfl⟩
  · show up (up s.fl d true) d false e = false
    unfold up
    split
    · rfl
    · exact h.fl e
  · show up s.bt d 0 e = _
    unfold up
    rw [h.bt]
theorem rb_lost {n rows size d r : Nat} {s t : S} (h : Rb n rows size d r s t) {e row : Nat} (hrow : row < rows) : t.lost e row = (decide (e = d) && decide (r ≤ row)) := by
  unfold S.lost
  rw [h.fl, h.bt, Bool.false_or]
  by_cases he : e = d
  · rw [if_pos he, decide_eq_true he, Bool.true_and]
  · rw [if_neg he, decide_eq_false he, Bool.false_and, decide_eq_false (show ¬ rows ≤ row by omega)]
theorem rb_many {n rows size d r : Nat} {s t : S} (h : Rb n rows size d r s t) {row : Nat} (hrow : row < rows) : t.many row ≤ 1 := by
  have : ∀ k, t.manyTo row k ≤ if d < k then 1 else 0 := by
    intro k
    induction k with
    | zero => exact Nat.le_refl _
    | succ k ih =>
      rw [S.manyTo_succ, rb_lost h hrow]
      by_cases hk : k = d
      · subst hk
        rw [if_neg (show ¬ k < k by omega)] at ih
        rw [if_pos (show k < k + 1 by omega)]
        split <;> omega
      · rw [decide_eq_false hk, Bool.false_and, if_neg (by decide)]
        by_cases h1 : d < k
        · rw [if_pos h1] at ih; rw [if_pos (by omega)]; exact ih
        · rw [if_neg h1] at ih; rw [if_neg (by omega)]; exact ih
  have h1 := this t.n
  show t.manyTo row t.n ≤ 1
  split at h1 <;> omega
theorem rb_step {n rows size d r : Nat} {s t : S} (h : Rb n rows size d r s t) (hd : d < n) (hr : r < rows) : (t.rebuild d).1 = ((rows : Int) - (r + 1), 0) ∧ Rb n rows size d (r + 1) s (t.rebuild d).2 := by
  have hb : t.bt d = r := by rw [h.bt, if_pos rfl]
  have hm : ¬ 2 < t.many (t.bt d) := by have := rb_many h (row := t.bt d) (by omega); omega
  have e : t.rebuild d = (((t.rows : Int) - (t.bt d + 1), 0), t.built d) := by
    unfold S.rebuild
    rw [if_pos ⟨by omega, by rw [h.en]; omega⟩, Int.toNat_natCast, if_neg (by rw [h.fl, h.er, hb]; exact fun h => h.elim (fun h => by cases h) (fun h => by omega)), if_neg hm]
  have g := S.rebuild_good h.good (d : Int)
  rw [e] at g ⊢
  refine ⟨by rw [h.er, hb], g, h.en, h.er, h.ez, h.fl, fun e => ?_, fun row hrow => ?_⟩
  · show up t.bt d (t.bt d + 1) e = _
    unfold up
    split
    · rename_i he; rw [hb]
    · rename_i he; rw [h.bt, if_neg he]
  · rw [← h.full row hrow]
    exact S.full_congr (s := t.built d) (t := t) rfl (fun e => S.built_c h.good (by rw [h.en]; exact hd) (by rw [hb, h.er]; exact hr) hm e row)
theorem rb_parts {n rows size d r : Nat} {s t : S} (h : Rb n rows size d (r + 1) s t) (hr : r < rows) : t.parts r = s.full r := by
  rw [S.parts_full h.good.toOk, h.full r hr]
  intro hpos
  have : t.many r = 0 := by
    unfold S.many
    rw [List.length_eq_zero_iff, List.filter_eq_nil_iff]
    intro e _
    rw [rb_lost h hr, decide_eq_false (show ¬ r + 1 ≤ r by omega), Bool.and_false]; decide
  omega
theorem rb_end {n rows size d : Nat} {s t : S} (h : Rb n rows size d rows s t) (hd : d < n) : t.rebuild d = ((0, 6), t) := by
  unfold S.rebuild
  rw [if_pos ⟨by omega, by rw [h.en]; omega⟩, Int.toNat_natCast, if_pos (.inr (by rw [h.bt, if_pos rfl, h.er]))]
end Ar
end Go.Proofs.YtneebcniofolmaaGreatDoor
namespace Go.Proofs.YtneebcniofolmaaGreatDoor
set_option linter.unusedVariables false
namespace Ar
section
variable {n rows size : Nat} {s : S}
theorem poke_eq {t : S} (hn : t.n = n) (hr : t.rows = rows) (hz : t.size = size) (hl : ∀ d r, d < n → r < rows → t.lost d r = false) {d r : Nat} {x : ByteArray} (hd : d < n) (hrr : r < rows) (hx : x.size = size) : t.poke d r x = (0, t.setC d r x) := by
  unfold S.poke
  rw [if_pos ⟨⟨by omega, by rw [hn]; omega⟩, ⟨by omega, by rw [hr]; omega⟩⟩, if_pos (by rw [hz]; exact hx), Int.toNat_natCast, Int.toNat_natCast, hl d r hd hrr, if_neg (by decide)]
/-- nothing is lost, whatever stands there -/
structure Al (n rows size : Nat) (t : S) : Prop where
  ok : t.Ok
  en : t.n = n
  er : t.rows = rows
  ez : t.size = size
  fl : ∀ e, t.fl e = false
  bt : ∀ e, t.bt e = rows
theorem Wh.al (h : Wh n rows size s) : Al n rows size s := ⟨h.good.toOk, h.en, h.er, h.ez, h.fl, h.bt⟩
theorem Al.lost {t : S} (h : Al n rows size t) {d r : Nat} (hr : r < rows) : t.lost d r = false := by
  unfold S.lost
  rw [h.fl, h.bt, decide_eq_false (by omega)]; rfl
theorem Al.many {t : S} (h : Al n rows size t) {r : Nat} (hr : r < rows) : ¬ 0 < t.many r := by
  have : t.many r = 0 := by
    unfold S.many
    rw [List.length_eq_zero_iff, List.filter_eq_nil_iff]
    intro d _
    rw [h.lost hr]; decide
  omega
theorem Al.set {t : S} (h : Al n rows size t) (d r : Nat) {x : ByteArray} (hx : x.size = size) : Al n rows size (t.setC d r x) :=
  ⟨S.setC_ok h.ok d r (by rw [h.ez]; exact hx), h.en, h.er, h.ez, h.fl, h.bt⟩
theorem Al.poke {t : S} (h : Al n rows size t) {d r : Nat} {x : ByteArray} (hd : d < n) (hrr : r < rows) (hx : x.size = size) : t.poke d r x = (0, t.setC d r x) :=
  poke_eq h.en h.er h.ez (fun d r _ hr => h.lost hr) hd hrr hx
theorem full_j {t : S} {row j : Nat} (hj : j < t.n) : (t.full row).getD j ⟨#[]⟩ = t.c (dk t.n row j) row := t.full_at row hj
/-- one part of a row is another one, or none -/
theorem Al.scrub1 {t : S} (h : Al n rows size t) (hs : Wh n rows size s) {d r : Nat} (hd : d < n) (hr : r < rows) (hp : ∀ e, e < n → e ≠ d → t.c e r = s.c e r) :
    (t.c d r = s.c d r → t.scrubAt r = ((-1, 0), t)) ∧ (t.c d r ≠ s.c d r → t.scrubAt r = (((d : Int), 0), t.setC d r (s.c d r))) := by
  have hcw := hs.good.cw r (by rw [hs.er]; exact hr)
  rw [hs.ez, hs.en] at hcw
  have h3 := h.ok.n3
  have h10 := h.ok.n10
  have hm := h.many hr
  have en := h.en
  have ew := hs.en
  have hix : ix n r d < n := ix_lt (by omega)
  have hdk : dk n r (ix n r d) = d := dk_ix (by omega) (by omega) hd
  have hsame : ∀ j, j < t.n → j ≠ ix n r d → (t.full r).getD j ⟨#[]⟩ = (s.full r).getD j ⟨#[]⟩ := fun j hj hne => by
    rw [full_j hj, full_j (by omega), en, ew]
    refine hp _ (dk_lt (by omega)) (fun e => hne ?_)
    rw [← e, ix_dk (by omega) (by omega) (by omega)]
  have hat : (t.full r).getD (ix n r d) ⟨#[]⟩ = t.c d r := by rw [full_j (by omega), en, hdk]
  have has : (s.full r).getD (ix n r d) ⟨#[]⟩ = s.c d r := by rw [full_j (by omega), ew, hdk]
  constructor
  · intro he
    have e : t.full r = s.full r := Gv.list_ext (by rw [t.full_len, s.full_len]; omega) (fun j hj => by
      rw [t.full_len] at hj
      by_cases hc : j = ix n r d
      · rw [hc, hat, has, he]
      · exact hsame j hj hc)
    refine S.scrub_right h.ok hm ?_
    rw [e, h.ez, h.en]; exact hcw
  · intro hne
    have hh := S.scrub_one h.ok (row := r) (i := ix n r d) (c := s.full r) (by rw [h.er]; exact hr) hm (by rw [h.ez, h.en]; exact hcw) (by omega) hsame (by rw [hat, has]; exact hne)
    rw [hh, en, hdk, has]
theorem scrub_eq {t : S} (h : Al n rows size t) {r : Nat} (hr : r < rows) : t.scrub (n : Int) (r : Int) = t.scrubAt r := by
  have h3 := h.ok.n3
  have h10 := h.ok.n10
  have en := h.en
  unfold S.scrub
  rw [if_neg (by omega), if_neg (fun hc => hc ⟨by omega, by rw [h.er]; omega⟩), if_neg (fun hc => hc (by omega)), Int.toNat_natCast]
end
/-- the closed fact -/
theorem one_scrub : ((s0 3 1 1).poke 2 0 ⟨#[1]⟩).1 = 0 ∧ (((s0 3 1 1).poke 2 0 ⟨#[1]⟩).2.scrub 3 0).1 = (2, 0) := by
  have h := s0_wh (n := 3) (rows := 1) (size := 1) (by omega) (by omega) (by omega) (by omega) (by omega) (by omega)
  have hp := h.al.poke (d := 2) (r := 0) (x := ⟨#[1]⟩) (by omega) (by omega) rfl
  have e2 : ((2 : Nat) : Int) = 2 := rfl
  have e0 : ((0 : Nat) : Int) = 0 := rfl
  have e3 : ((3 : Nat) : Int) = 3 := rfl
  rw [e2, e0] at hp
  rw [hp]
  have ht := h.al.set 2 0 (x := ⟨#[1]⟩) rfl
  have hs := (ht.scrub1 h (d := 2) (r := 0) (by omega) (by omega) (fun e _ hne => by rw [S.setC_c, if_neg (fun hc => hne hc.1)])).2 (by
    rw [S.setC_c, if_pos ⟨rfl, rfl⟩]
    intro hc
    have h1 : (⟨#[1]⟩ : ByteArray).data = (Dk.noughts 1).data := congrArg ByteArray.data hc
    revert h1
    decide)
  have hq := scrub_eq ht (r := 0) (by omega)
  rw [e3, e0] at hq
  rw [hq, hs]
  exact ⟨rfl, rfl⟩
theorem two_scrub {n i k : Nat} {b c : ByteArray} (h3 : 3 ≤ n) (h10 : n ≤ 10) (hi : i < n) (hk : k < n) (hik : i < k) (hb : b.size = 2) (hc : c.size = 2) (hb0 : b ≠ ⟨#[0, 0]⟩) :
    (s0 n 1 2).poke i 0 b = (0, (s0 n 1 2).setC i 0 b) ∧ ((s0 n 1 2).setC i 0 b).poke k 0 c = (0, ((s0 n 1 2).setC i 0 b).setC k 0 c) ∧ ((((s0 n 1 2).setC i 0 b).setC k 0 c).scrub n 0).1.2 = 8 ∨
    (s0 n 1 2).poke i 0 b = (0, (s0 n 1 2).setC i 0 b) ∧ ((s0 n 1 2).setC i 0 b).poke k 0 c = (0, ((s0 n 1 2).setC i 0 b).setC k 0 c) ∧ ((((s0 n 1 2).setC i 0 b).setC k 0 c).scrub n 0).1.2 = 0 ∧ 0 ≤ ((((s0 n 1 2).setC i 0 b).setC k 0 c).scrub n 0).1.1 := by
  have h := s0_wh (n := n) (rows := 1) (size := 2) h3 h10 (by omega) (by omega) (by omega) (by omega)
  have e0 : ((0 : Nat) : Int) = 0 := rfl
  have hp := h.al.poke (d := i) (r := 0) (x := b) hi (by omega) hb
  have h1 := h.al.set i 0 hb
  have hp2 := h1.poke (d := k) (r := 0) (x := c) hk (by omega) hc
  have h2 := h1.set k 0 hc
  have hq := scrub_eq h2 (r := 0) (by omega)
  rw [e0] at hp hp2 hq
  rw [hq]
  obtain ⟨t, ht⟩ : ∃ t, t = ((s0 n 1 2).setC i 0 b).setC k 0 c := ⟨_, rfl⟩
  have htc : ∀ e, t.c e 0 = if e = k then c else if e = i then b else Dk.noughts 2 := fun e => by
    rw [ht, S.setC_c, S.setC_c]
    by_cases h1 : e = k
    · rw [if_pos ⟨h1, rfl⟩, if_pos h1]
    · rw [if_neg (fun h => h1 h.1), if_neg h1]
      by_cases h2 : e = i
      · rw [if_pos ⟨h2, rfl⟩, if_pos h2]
      · rw [if_neg (fun h => h2 h.1), if_neg h2]; rfl
  rw [hp, hp2, ← ht]
  rw [← ht] at h2
  have hcw := h.good.cw 0 (by show 0 < 1; omega)
  have hm := h2.many (r := 0) (by omega)
  have en := h2.en
  have hsn : (s0 n 1 2).n = n := rfl
  have hsz : (s0 n 1 2).size = 2 := rfl
  have hix : ix n 0 i < n := ix_lt (by omega)
  have hdk : dk n 0 (ix n 0 i) = i := dk_ix h3 h10 hi
  have hr := S.scrub_two h2.ok (row := 0) (x := ix n 0 i) (y := ix n 0 k) (c := (s0 n 1 2).full 0) (by rw [h2.er]; omega) hm (by rw [h2.ez, h2.en]; exact hcw) (by omega) (fun j hj hx hy => by
    rw [full_j hj, full_j (by omega), en, hsn, htc]
    have e1 : dk n 0 j ≠ k := fun e => hy (by rw [← e, ix_dk h3 h10 (by omega)])
    have e2 : dk n 0 j ≠ i := fun e => hx (by rw [← e, ix_dk h3 h10 (by omega)])
    rw [if_neg e1, if_neg e2]; rfl) (by
    rw [full_j (by omega), full_j (by omega), en, hsn, hdk, htc, if_neg (by omega), if_pos rfl]
    exact hb0)
  rcases hr with hr | ⟨hr1, hr2⟩
  · exact .inl ⟨rfl, rfl, by rw [hr]⟩
  · exact .inr ⟨rfl, rfl, hr2, hr1⟩
end Ar
end Go.Proofs.YtneebcniofolmaaGreatDoor
