/- The walk of the law MatrixTells: it returns true. -/
import Derived.Test.YtbikmodfmckaeaaDoorRMatF
import Derived.Test.YtbikmodfmckaeaaDoorCauC
import Derived.Test.YtbikmodfmckaeaaDoorFuncs
namespace Go.Proofs.YtbikmodfmckaeaaDoor
open Go.ChangeShapes Go.WideShapes Go.ChangeAt Go.RowKit
set_option linter.unusedVariables false
theorem rows_eq (M : List (List UInt8)) (va vb : Value) (w : World) (ha : RowsM w va M) (hb : RowsM w vb M) :
    Calls Tryd.prog 27 #[va, vb] w fun e w' => e = .returned (.bool true) ∧ Below w.heap.size w w' :=
  (same_rows M M va vb w ha hb).mono (fun e w' h => by
    unfold SameM at h
    rw [show (M == M) = true from beq_self_eq_true M] at h
    exact h)
theorem bytes_ofZ : ∀ (xs : List Int), (∀ n ∈ xs, (Lit.int .u8 n).wf = true) → ∃ l : List UInt8, xs.map (Value.int .u8) = l.map bv
  | [], _ => ⟨[], rfl⟩
  | x :: xs, h => by
    obtain ⟨a, rfl⟩ := byte_of (h x (List.mem_cons_self ..))
    obtain ⟨l, hl⟩ := bytes_ofZ xs (fun n hn => h n (List.mem_cons_of_mem _ hn))
    exact ⟨a :: l, by rw [List.map_cons, List.map_cons, hl]⟩
def idF (q : Int) : Int := if q < 1 ∨ 12 < q then 1 else 0
def idR (q : Int) : List (List UInt8) := if q < 1 ∨ 12 < q then [] else lt q.toNat q.toNat Mx.un
def dupF (all : List UInt8) (e : Int) (i : Nat) : Int := if (all.take i).Nodup then e else 7
def dupJ (all : List UInt8) (e : Int) (i j : Nat) : Int := if (all.take i).Nodup ∧ all.getD i 0 ∉ all.take j then e else 7
theorem dupJ_zero (all : List UInt8) (e : Int) (i : Nat) : dupJ all e i 0 = dupF all e i := by
  unfold dupJ dupF
  simp
theorem mem_take_succ {all : List UInt8} {j : Nat} (hj : j < all.length) (a : UInt8) : a ∈ all.take (j + 1) ↔ a ∈ all.take j ∨ a = all.getD j 0 := by
  rw [List.take_add_one, List.getElem?_eq_getElem hj, List.getD_eq_getElem?_getD, List.getElem?_eq_getElem hj]
  simp only [Option.toList_some, Option.getD_some, List.mem_append, List.mem_singleton]
theorem dupJ_hit {all : List UInt8} (e : Int) {i j : Nat} (hj : j < all.length) (h : all.getD i 0 = all.getD j 0) : dupJ all e i (j + 1) = 7 := by
  unfold dupJ
  rw [if_neg]
  rintro ⟨_, h2⟩
  exact h2 ((mem_take_succ hj _).2 (.inr h))
theorem dupJ_miss {all : List UInt8} (e : Int) {i j : Nat} (hj : j < all.length) (h : all.getD i 0 ≠ all.getD j 0) : dupJ all e i (j + 1) = dupJ all e i j := by
  unfold dupJ
  have e1 : (all.getD i 0 ∉ all.take (j + 1)) ↔ (all.getD i 0 ∉ all.take j) := by
    rw [mem_take_succ hj]
    exact ⟨fun h1 h2 => h1 (.inl h2), fun h1 h2 => h2.elim h1 h⟩
  simp only [e1]
theorem dupJ_full {all : List UInt8} (e : Int) {i : Nat} (hi : i < all.length) : dupJ all e i i = dupF all e (i + 1) := by
  unfold dupJ dupF
  have e1 : ((all.take i).Nodup ∧ all.getD i 0 ∉ all.take i) ↔ (all.take (i + 1)).Nodup := by
    rw [List.take_add_one, List.getElem?_eq_getElem hi, List.getD_eq_getElem?_getD, List.getElem?_eq_getElem hi]
    simp only [Option.getD_some, Option.toList_some]
    rw [List.nodup_append]
    simp
    intro _
    constructor
    · intro h a ha e; exact h (e ▸ ha)
    · intro h ha; exact h _ ha rfl
  simp only [e1]
theorem cau_ne {x y : List UInt8} (h : (x ++ y).Nodup) {i j : Nat} (hi : i < x.length) (hj : j < y.length) : Gf.add (Gv.at' x i) (Gv.at' y j) ≠ 0 := by
  intro e
  rw [List.nodup_append] at h
  have h1 : Gv.at' x i ∈ x := by show List.getD _ _ _ ∈ _; rw [List.getD_eq_getElem?_getD, List.getElem?_eq_getElem hi]; exact List.getElem_mem hi
  have h2 : Gv.at' y j ∈ y := by show List.getD _ _ _ ∈ _; rw [List.getD_eq_getElem?_getD, List.getElem?_eq_getElem hj]; exact List.getElem_mem hj
  refine h.2.2 _ h1 _ h2 ?_
  rw [Gf.add_def] at e
  exact UInt8.xor_eq_zero_iff.1 e
set_option maxRecDepth 100000 in
set_option maxHeartbeats 8000000 in
theorem matrixTells_walk (va vb : Value) (q : Int) (vx vy : Value) (hq : (Lit.int .i64 q).wf = true) (w : World) (hg : Handle w) (fa : ∃ A, RowsM w va A) (fb : ∃ B, RowsM w vb B) (fx : ∃ xs : List Int, Row w vx (xs.map (Value.int .u8)) ∧ ∀ n ∈ xs, (Lit.int .u8 n).wf = true)
    (fy : ∃ xs : List Int, Row w vy (xs.map (Value.int .u8)) ∧ ∀ n ∈ xs, (Lit.int .u8 n).wf = true) :
    Calls Tryd.prog 4 #[va, vb, iv q, vx, vy] w fun e w' => e = .returned (.bool true) ∧ Below w.heap.size w w' := by
  obtain ⟨A, ha⟩ := fa
  obtain ⟨B, hb⟩ := fb
  obtain ⟨xi, hxr, hxw⟩ := fx
  obtain ⟨yi, hyr, hyw⟩ := fy
  obtain ⟨x, hx⟩ := bytes_ofZ xi hxw
  obtain ⟨y, hy⟩ := bytes_ofZ yi hyw
  rw [hx] at hxr
  rw [hy] at hyr
  have hqb := bounds_i64 hq
  have HA := Lib.hid ha
  have HB := Lib.hid hb
  have HX : Hid (RowB w vx x) := Lib.hid hxr
  have HY : Hid (RowB w vy y) := Lib.hid hyr
  obtain ⟨pa, ca, rfl, _, hca, ha3⟩ := ha.shape
  obtain ⟨pb, cb, rfl, _, hcb, _⟩ := hb.shape
  obtain ⟨px, cx, rfl, hx1, hx2⟩ := HX.out.shape
  obtain ⟨py, cy, rfl, hy1, hy2⟩ := HY.out.shape
  obtain ⟨n, hn⟩ : ∃ n, n = A.length := ⟨_, rfl⟩
  obtain ⟨m, hm⟩ : ∃ n, n = B.length := ⟨_, rfl⟩
  obtain ⟨nx, hnx⟩ : ∃ n, n = x.length := ⟨_, rfl⟩
  obtain ⟨ny, hny⟩ : ∃ n, n = y.length := ⟨_, rfl⟩
  obtain ⟨L, hL⟩ : ∃ n, n = len0 A := ⟨_, rfl⟩
  rw [← hn] at HA ha3 ⊢
  rw [← hm] at HB ⊢
  rw [← hnx] at HX hx1 ⊢
  rw [← hny] at HY hy1 ⊢
  rw [← hL] at ha3
  have Hn := Lib.hid hn
  have Hm := Lib.hid hm
  have Hnx := Lib.hid hnx
  have Hny := Lib.hid hny
  have HL := Lib.hid hL
  have Ha3 := Lib.hid ha3
  have Hg0 := Lib.hid hg
  unfold maxLen at hca hcb hx2 hy2
  obtain ⟨eA, heA⟩ : ∃ e, e = chkF A := ⟨_, rfl⟩
  obtain ⟨f1, hf1⟩ : ∃ e : Int, e = if eA = 0 then chkF B else eA := ⟨_, rfl⟩
  obtain ⟨f2, hf2⟩ : ∃ e, e = mmF A B := ⟨_, rfl⟩
  obtain ⟨f3, hf3⟩ : ∃ e, e = invF A := ⟨_, rfl⟩
  obtain ⟨rk, hrk⟩ : ∃ e, e = rkR A := ⟨_, rfl⟩
  obtain ⟨bq, hbq⟩ : ∃ b, b = decide (f1 = 0 ∧ n ≠ 0 ∧ L ≠ m) := ⟨_, rfl⟩
  obtain ⟨bi, hbi⟩ : ∃ b, b = decide (eA = 0 ∧ (n = 0 ∨ L ≠ n)) := ⟨_, rfl⟩
  obtain ⟨bn, hbn⟩ : ∃ b, b = decide (q < 1 ∨ 12 < q) := ⟨_, rfl⟩
  obtain ⟨fi, hfi⟩ : ∃ e, e = idF q := ⟨_, rfl⟩
  obtain ⟨bl, hbl⟩ : ∃ b, b = decide (12 < nx ∨ 12 < ny) := ⟨_, rfl⟩
  obtain ⟨e4, he4⟩ : ∃ e : Int, e = if 12 < nx ∨ 12 < ny then 4 else 0 := ⟨_, rfl⟩
  obtain ⟨fc, hfc⟩ : ∃ e, e = cauF x y := ⟨_, rfl⟩
  have HeA := Lib.hid heA
  have Hf1 := Lib.hid hf1
  have Hf2 := Lib.hid hf2
  have Hf3 := Lib.hid hf3
  have Hrk := Lib.hid hrk
  have Hbq := Lib.hid hbq
  have Hbi := Lib.hid hbi
  have Hbn := Lib.hid hbn
  have Hfi := Lib.hid hfi
  have Hbl := Lib.hid hbl
  have He4 := Lib.hid he4
  have Hfc := Lib.hid hfc
  clear ha hb hxr hyr hxw hyw hx hy hq hg hn hm hnx hny hL ha3 heA hf1 hf2 hf3 hrk hbq hbi hbn hfi hbl he4 hfc
  go_enter Tryd.func4, Tryd.ntmps4
  go_wp2_with fail
  refine (rmatrix_any A _ w HA.out).mono ?_
  rintro e w' ⟨rfl, n1, rfl⟩
  have HB0 : Hid (Below w.heap.size w w) := Lib.hid (Below.refl _ _)
  have hz0 : w.heap.size ≤ w.heap.size := Nat.le_refl _
  have hb1 : Below w.heap.size w (w.drewN n1) := bdrew (Below.refl _ _) n1
  obtain ⟨w1, hw1⟩ : ∃ x, x = w.drewN n1 := ⟨_, rfl⟩
  rw [← hw1] at hb1 ⊢
  rw [← HeA.out]
  have Hg1 := Lib.hid (Hg0.out.below (Nat.le_refl _) hb1)
  have HB1 := Lib.hid (HB0.out.trans (hb1.mono hz0))
  have hz1 := HB1.out.size
  have HC := Lib.hid (check_any A _ w1 (HA.out.below HB1.out))
  rw [← HeA.out] at HC
  clear hw1 hb1 Hg0
  go_wp2_with fail
  refine HC.out.mono ?_
  rintro e w2 ⟨rfl, hb2⟩
  have Hg2 := Lib.hid (Hg1.out.below (Nat.le_refl _) hb2)
  have HB2 := Lib.hid (HB1.out.trans (hb2.mono hz1))
  have hz2 := HB2.out.size
  clear hb2 Hg1 HC
  go_wp2_with fail
  refine (same_eq _ _ Hg2.out).mono ?_
  rintro e w3 ⟨rfl, hb3⟩
  have Hg3 := Lib.hid (Hg2.out.below (Nat.le_refl _) hb3)
  have HB3 := Lib.hid (HB2.out.trans (hb3.mono hz2))
  have hz3 := HB3.out.size
  clear hb3 Hg2
  go_upto_if 41 with (fail)
  go_cut [13] (fun z wq => z = iv f1 ∧ ∃ wk, wk = wq ∧ Below w3.heap.size w3 wk)
  case first => as_aux_lemma =>
    by_cases h0 : eA = 0
    · have h1 : f1 = chkF B := by rw [Hf1.out, if_pos h0]
      have H1 := Lib.hid h1
      have HC := Lib.hid (rmatrix_any B _ w3 (HB.out.below HB3.out))
      subst h0
      clear h1
      go_wp2_with fail
      refine HC.out.mono ?_
      rintro e w' ⟨rfl, n1, rfl⟩
      rw [← H1.out]
      go_wp2_with fail
      go_meet
      exact ⟨rfl, _, rfl, bdrew (Below.refl _ _) n1⟩
    · obtain rfl : f1 = eA := by rw [Hf1.out, if_neg h0]
      have t1 : (f1 == 0) = false := beq_f h0
      clear h0
      go_wp2_with fail
      go_meet
      exact ⟨rfl, _, rfl, Below.refl _ _⟩
  case rest =>
  obtain ⟨rfl, w4, rfl, hb4⟩ := hcut
  have Hg4 := Lib.hid (Hg3.out.below (Nat.le_refl _) hb4)
  have HB4 := Lib.hid (HB3.out.trans (hb4.mono hz3))
  have hz4 := HB4.out.size
  clear hb4 Hg3
  go_upto_region 6 with (fail)
  go_cut [59] (fun z wq => z = .bool bq ∧ w4 = wq)
  case first => as_aux_lemma =>
    by_cases h0 : f1 = 0
    · subst h0
      by_cases hn0 : n = 0
      · subst hn0
        obtain rfl : bq = false := by rw [Hbq.out]; exact dec_f (fun h => h.2.1 rfl)
        go_wp2_with fail
        go_meet
        exact ⟨rfl, rfl⟩
      · obtain ⟨g, o, p0, c0, hpe, hg, hcell⟩ := Ha3.out (Nat.pos_of_ne_zero hn0)
        have hcr := (HB4.out.cell (p := ⟨g, o, none⟩) hg).trans hcell
        subst hpe
        have t1 : (0 : Int) < (n : Int) := by omega
        by_cases hlm : L = m
        · obtain rfl : bq = false := by rw [Hbq.out]; exact dec_f (fun h => h.2.2 hlm)
          have t2 : ((L : Int) != (m : Int)) = false := bne_f (by omega)
          clear hn0 hlm hcell
          go_wp2_with fail
          go_meet
          exact ⟨rfl, rfl⟩
        · obtain rfl : bq = true := by rw [Hbq.out]; exact dec_t ⟨rfl, hn0, hlm⟩
          have t2 : ((L : Int) != (m : Int)) = true := bne_t (by omega)
          clear hn0 hlm hcell
          go_wp2_with fail
          go_meet
          exact ⟨rfl, rfl⟩
    · obtain rfl : bq = false := by rw [Hbq.out]; exact dec_f (fun h => h0 h.1)
      have t1 : (f1 == 0) = false := beq_f h0
      clear h0
      go_wp2_with fail
      go_meet
      exact ⟨rfl, rfl⟩
  case rest =>
  obtain ⟨rfl, rfl⟩ := hcut
  have hf2 : f2 = if bq then 3 else f1 := by
    rw [Hf2.out]; unfold mmF
    rw [← HeA.out, ← Hn.out, ← Hm.out, ← HL.out]
    by_cases h0 : eA = 0
    · rw [if_neg (by simp [h0])]
      have e1 : f1 = chkF B := by rw [Hf1.out, if_pos h0]
      rw [← e1]
      by_cases h1 : f1 = 0
      · rw [if_neg (by simp [h1]), Hbq.out]
        by_cases h2 : n ≠ 0 ∧ L ≠ m
        · rw [if_pos h2, dec_t ⟨h1, h2⟩]; rfl
        · rw [if_neg h2, dec_f (fun h => h2 h.2)]; exact h1.symm
      · rw [if_pos h1, Hbq.out, dec_f (fun h => h1 h.1)]; rfl
    · have e1 : f1 = eA := by rw [Hf1.out, if_neg h0]
      rw [if_pos h0, Hbq.out, dec_f (fun h => h0 (e1.symm.trans h.1)), e1]; rfl
  have Hf2b := Lib.hid hf2
  clear hf2
  go_upto_if 59 with (fail)
  go_cut [13] (fun z wq => z = iv f2 ∧ w4 = wq)
  case first => as_aux_lemma =>
    cases bq with
    | true =>
      obtain rfl : f2 = 3 := Hf2b.out
      go_wp2_with fail
      go_meet
      exact ⟨rfl, rfl⟩
    | false =>
      obtain rfl : f2 = f1 := Hf2b.out
      go_wp2_with fail
      go_meet
      exact ⟨rfl, rfl⟩
  case rest =>
  obtain ⟨rfl, rfl⟩ := hcut
  go_upto_if 61 with (fail)
  go_cut [14] (fun z wq => ∃ wk, wk = wq ∧ RowsM wk z (mmR A B) ∧ Below w4.heap.size w4 wk)
  case first => as_aux_lemma =>
    by_cases h0 : f2 = 0
    · have hF : mmF A B = 0 := Hf2.out.symm.trans h0
      have HC := Lib.hid (rmat_any A B hF _ _ w4 (HA.out.below HB4.out) (HB.out.below HB4.out))
      have HR : Hid (mmR A B = A.map (fun r => rowR r B)) := Lib.hid (by unfold mmR; rw [if_pos hF])
      unfold CaPost at HC
      rw [← HR.out] at HC
      subst h0
      clear hF
      go_wp2_with fail
      refine HC.out.mono ?_
      rintro e w5 ⟨v5, rfl, hM, hb⟩
      have HM := Lib.hid hM
      have Hb := Lib.hid hb
      clear hM hb HC
      go_wp2_with fail
      go_meet
      exact ⟨_, rfl, HM.out, Hb.out⟩
    · have HR : Hid (mmR A B = []) := Lib.hid (by unfold mmR; rw [if_neg (fun h => h0 (Hf2.out.trans h))])
      have t1 : (f2 == 0) = false := beq_f h0
      clear h0
      go_wp2_with fail
      go_meet
      exact ⟨_, rfl, by rw [HR.out]; exact RowsM.nil _, Below.refl _ _⟩
  case rest => as_aux_lemma =>
  obtain ⟨w5, rfl, hM5, hb5⟩ := hcut
  have Hg5 := Lib.hid (Hg4.out.below (Nat.le_refl _) hb5)
  have HB5 := Lib.hid (HB4.out.trans (hb5.mono hz4))
  have hz5 := HB5.out.size
  have HM5 := Lib.hid hM5
  have HE := Lib.hid (mmul_tot A B _ _ w5 (HA.out.below HB5.out) (HB.out.below HB5.out))
  unfold MmPost at HE
  rw [← Hf2.out] at HE
  clear hM5 hb5 Hg4
  go_wp2_with fail
  refine HE.out.mono ?_
  rintro e w6 ⟨v6, rfl, hM6, hb6⟩
  have Hg6 := Lib.hid (Hg5.out.below (Nat.le_refl _) hb6)
  have HB6 := Lib.hid (HB5.out.trans (hb6.mono hz5))
  have hz6 := HB6.out.size
  have HM6 := Lib.hid hM6
  have HW6 := Lib.hid (HM5.out.below hb6)
  clear hM6 hb6 HE Hg5 HM5
  go_wp2_with fail
  refine (same_eq _ _ Hg6.out).mono ?_
  rintro e w7 ⟨rfl, hb7⟩
  have Hg7 := Lib.hid (Hg6.out.below (Nat.le_refl _) hb7)
  have HB7 := Lib.hid (HB6.out.trans (hb7.mono hz6))
  have hz7 := HB7.out.size
  have HTx := Lib.hid (rows_eq (mmR A B) v6 u14 w7 (HM6.out.below hb7) (HW6.out.below hb7))
  clear hb7 Hg6 HM6 HW6
  go_wp2_with fail
  refine HTx.out.mono ?_
  rintro e w8 ⟨rfl, hb8⟩
  have Hg8 := Lib.hid (Hg7.out.below (Nat.le_refl _) hb8)
  have HB8 := Lib.hid (HB7.out.trans (hb8.mono hz7))
  have hz8 := HB8.out.size
  clear hb8 Hg7 HTx
  go_upto_region 15 with (fail)
  go_cut [95] (fun z wq => z = .bool bi ∧ w8 = wq)
  case first => as_aux_lemma =>
    by_cases h0 : eA = 0
    · subst h0
      by_cases hn0 : n = 0
      · subst hn0
        obtain rfl : bi = true := by rw [Hbi.out]; exact dec_t ⟨rfl, .inl rfl⟩
        go_wp2_with fail
        go_meet
        exact ⟨rfl, rfl⟩
      · obtain ⟨g, o, p0, c0, hpe, hg, hcell⟩ := Ha3.out (Nat.pos_of_ne_zero hn0)
        have hcr := (HB8.out.cell (p := ⟨g, o, none⟩) hg).trans hcell
        subst hpe
        have t1 : ((n : Int) == 0) = false := beq_f (by omega)
        have t3 : (0 : Int) < (n : Int) := by omega
        by_cases hlm : L = n
        · obtain rfl : bi = false := by rw [Hbi.out]; exact dec_f (fun h => h.2.elim hn0 (fun h => h hlm))
          have t2 : ((L : Int) != (n : Int)) = false := bne_f (by omega)
          clear hn0 hlm hcell
          go_wp2_with fail
          go_meet
          exact ⟨rfl, rfl⟩
        · obtain rfl : bi = true := by rw [Hbi.out]; exact dec_t ⟨rfl, .inr hlm⟩
          have t2 : ((L : Int) != (n : Int)) = true := bne_t (by omega)
          clear hn0 hlm hcell
          go_wp2_with fail
          go_meet
          exact ⟨rfl, rfl⟩
    · obtain rfl : bi = false := by rw [Hbi.out]; exact dec_f (fun h => h0 h.1)
      have t1 : (eA == 0) = false := beq_f h0
      clear h0
      go_wp2_with fail
      go_meet
      exact ⟨rfl, rfl⟩
  case rest =>
  obtain ⟨rfl, rfl⟩ := hcut
  go_upto_if 95 with (fail)
  go_cut [13, 14, 18, 19] (fun z y _ _ wq => z = iv f3 ∧ ∃ wk, wk = wq ∧ RowsM wk y (invR A) ∧ Below w8.heap.size w8 wk)
  case first => as_aux_lemma =>
    have hF3 := Hf3.out
    unfold invF at hF3
    rw [← HeA.out, ← Hn.out, ← HL.out] at hF3
    cases bi with
    | true =>
      have h := of_decide_eq_true Hbi.out.symm
      obtain rfl : f3 = 3 := by rw [hF3, if_neg (by simp [h.1]), if_pos h.2]
      have HR : Hid (invR A = []) := Lib.hid (by unfold invR; rw [if_neg (by rw [← Hf3.out]; decide)])
      clear h hF3
      go_wp2_with fail
      go_meet
      exact ⟨rfl, _, rfl, by rw [HR.out]; exact RowsM.nil _, Below.refl _ _⟩
    | false =>
      have h := of_decide_eq_false Hbi.out.symm
      by_cases h0 : eA = 0
      · have hn0 : n ≠ 0 := fun e => h ⟨h0, .inl e⟩
        have hLn : L = n := Classical.byContradiction (fun e => h ⟨h0, .inr e⟩)
        rw [if_neg (by simp [h0]), if_neg (by rintro (h | h); exact hn0 h; exact h hLn)] at hF3
        have hck := chkF_0 (HeA.out.symm.trans h0)
        have hA : A = lt n n (en A) := by
          have h1 := lt_en (M := A) (L := n) (fun i l hl => by rw [hck.2.2 i l hl, ← HL.out, hLn])
          rw [← Hn.out] at h1; exact h1
        have hM : RowsM w8 (.slice pa n ca) (lt n n (en A)) := by rw [← hA]; exact HA.out.below HB8.out
        have hn12 : n ≤ 12 := by rw [Hn.out]; exact hck.1
        have HC := Lib.hid (rinverse_any (en A) n (by omega) (by omega) _ w8 hM)
        unfold RIvPost at HC
        have HF3 := Lib.hid hF3
        subst h0
        clear hF3 h hck hA hM hLn
        go_wp2_with fail
        refine HC.out.mono ?_
        rintro e w9 ⟨hb, h | h⟩
        · obtain ⟨hr, v9, rfl, hM9⟩ := h
          obtain rfl : f3 = 0 := by rw [HF3.out, if_neg (by omega)]
          have HR : Hid (invR A = lt n n (Mx.iv' n (en A))) := Lib.hid (by unfold invR; rw [if_pos Hf3.out.symm, ← Hn.out])
          have HM9 := Lib.hid hM9
          have Hb := Lib.hid hb
          clear hr hM9 hb HC
          go_wp2_with fail
          go_meet
          exact ⟨rfl, _, rfl, by rw [HR.out]; exact HM9.out, Hb.out⟩
        · obtain ⟨hr, rfl⟩ := h
          obtain rfl : f3 = 5 := by rw [HF3.out, if_pos hr]
          have HR : Hid (invR A = []) := Lib.hid (by unfold invR; rw [if_neg (by rw [← Hf3.out]; decide)])
          have Hb := Lib.hid hb
          clear hr hb HC
          go_wp2_with fail
          go_meet
          exact ⟨rfl, _, rfl, by rw [HR.out]; exact RowsM.nil _, Hb.out⟩
      · obtain rfl : f3 = eA := by rw [hF3, if_pos h0]
        have HR : Hid (invR A = []) := Lib.hid (by unfold invR; rw [if_neg (fun h => h0 (Hf3.out.trans h))])
        have t1 : (f3 == 0) = false := beq_f h0
        clear h hF3 h0
        go_wp2_with fail
        go_meet
        exact ⟨rfl, _, rfl, by rw [HR.out]; exact RowsM.nil _, Below.refl _ _⟩
  case rest =>
  obtain ⟨rfl, w9, rfl, hM9, hb9⟩ := hcut
  have Hg9 := Lib.hid (Hg8.out.below (Nat.le_refl _) hb9)
  have HB9 := Lib.hid (HB8.out.trans (hb9.mono hz8))
  have hz9 := HB9.out.size
  have HM9 := Lib.hid hM9
  have HE := Lib.hid (inverse_tot A _ w9 (HA.out.below HB9.out))
  unfold InvPost at HE
  rw [← Hf3.out] at HE
  clear hM9 hb9 Hg8
  go_wp2_with fail
  refine HE.out.mono ?_
  rintro e w10 ⟨v10, rfl, hM10, hb10⟩
  have Hg10 := Lib.hid (Hg9.out.below (Nat.le_refl _) hb10)
  have HB10 := Lib.hid (HB9.out.trans (hb10.mono hz9))
  have hz10 := HB10.out.size
  have HM10 := Lib.hid hM10
  have HW10 := Lib.hid (HM9.out.below hb10)
  clear hM10 hb10 HE Hg9 HM9
  go_wp2_with fail
  refine (same_eq _ _ Hg10.out).mono ?_
  rintro e w11 ⟨rfl, hb11⟩
  have Hg11 := Lib.hid (Hg10.out.below (Nat.le_refl _) hb11)
  have HB11 := Lib.hid (HB10.out.trans (hb11.mono hz10))
  have hz11 := HB11.out.size
  have HTx := Lib.hid (rows_eq (invR A) v10 u14 w11 (HM10.out.below hb11) (HW10.out.below hb11))
  clear hb11 Hg10 HM10 HW10
  go_wp2_with fail
  refine HTx.out.mono ?_
  rintro e w12 ⟨rfl, hb12⟩
  have Hg12 := Lib.hid (Hg11.out.below (Nat.le_refl _) hb12)
  have HB12 := Lib.hid (HB11.out.trans (hb12.mono hz11))
  have hz12 := HB12.out.size
  clear hb12 Hg11 HTx
  obtain ⟨br, hbr⟩ : ∃ b, b = decide (eA = 0 ∧ n ≠ 0) := ⟨_, rfl⟩
  have Hbr := Lib.hid hbr
  clear hbr
  go_upto_region 25 with (fail)
  go_cut [125] (fun z wq => z = .bool br ∧ w12 = wq)
  case first => as_aux_lemma =>
    by_cases h0 : eA = 0
    · subst h0
      by_cases hn0 : n = 0
      · subst hn0
        obtain rfl : br = false := by rw [Hbr.out]; exact dec_f (fun h => h.2 rfl)
        go_wp2_with fail
        go_meet
        exact ⟨rfl, rfl⟩
      · obtain rfl : br = true := by rw [Hbr.out]; exact dec_t ⟨rfl, hn0⟩
        go_wp2_with fail
        go_meet
        exact ⟨congrArg Value.bool (dec_t (by omega)), rfl⟩
    · obtain rfl : br = false := by rw [Hbr.out]; exact dec_f (fun h => h0 h.1)
      have t1 : (eA == 0) = false := beq_f h0
      clear h0
      go_wp2_with fail
      go_meet
      exact ⟨rfl, rfl⟩
  case rest => as_aux_lemma =>
  obtain ⟨rfl, rfl⟩ := hcut
  go_upto_if 125 with (fail)
  go_cut [21] (fun z wq => z = iv rk ∧ ∃ wk, wk = wq ∧ Below w12.heap.size w12 wk)
  case first => as_aux_lemma =>
    have hR := Hrk.out
    unfold rkR at hR
    rw [← HeA.out, ← Hn.out, ← HL.out] at hR
    cases br with
    | true =>
      have h := of_decide_eq_true Hbr.out.symm
      rw [if_pos h] at hR
      obtain ⟨h0, hn0⟩ := h
      have hck := chkF_0 (HeA.out.symm.trans h0)
      have hA : A = lt n L (en A) := by
        have h1 := lt_en (M := A) (L := L) (fun i l hl => by rw [hck.2.2 i l hl, ← HL.out])
        rw [← Hn.out] at h1; exact h1
      have hM : RowsM w12 (.slice pa n ca) (lt n L (en A)) := by rw [← hA]; exact HA.out.below HB12.out
      have hn12 : n ≤ 12 := by rw [Hn.out]; exact hck.1
      have hL12 : L ≤ 12 := by rw [HL.out]; exact hck.2.1
      obtain ⟨g, o, p0, c0, hpe, hg, hcell⟩ := Ha3.out (Nat.pos_of_ne_zero hn0)
      have hcr := (HB12.out.cell (p := ⟨g, o, none⟩) hg).trans hcell
      subst hpe
      have t3 : (0 : Int) < (n : Int) := by omega
      have HR := Lib.hid hR
      by_cases hL0 : L = 0
      · subst hL0
        have HC := Lib.hid (rstairs_none (en A) n 0 (by omega) (by omega) (by omega) _ w12 hM)
        obtain rfl : rk = 0 := by rw [hR]; rfl
        clear hR hck hA hM hcell h0 hn0
        go_wp2_with fail
        refine HC.out.mono ?_
        rintro e w13 ⟨u, rfl, hb⟩
        have Hb := Lib.hid hb
        clear hb HC
        go_wp2_with fail
        go_meet
        exact ⟨rfl, _, rfl, Hb.out⟩
      · have HC := Lib.hid (rstairs_any (en A) n L L (by omega) (by omega) (Nat.le_refl _) (by omega) (by omega) _ w12 hM)
        unfold RStPost at HC
        rw [show ((Mx.el n (en A) L).2 : Int) = rk from hR.symm] at HC
        clear hR hck hA hM hcell h0 hn0
        go_wp2_with fail
        refine HC.out.mono ?_
        rintro e w13 ⟨g', c', bs', rfl, _, hb⟩
        have Hb := Lib.hid hb
        clear hb HC
        go_wp2_with fail
        go_meet
        exact ⟨rfl, _, rfl, Hb.out⟩
    | false =>
      have h := of_decide_eq_false Hbr.out.symm
      rw [if_neg h] at hR
      subst hR
      clear h
      go_wp2_with fail
      go_meet
      exact ⟨rfl, _, rfl, Below.refl _ _⟩
  case rest =>
  obtain ⟨rfl, w13, rfl, hb13⟩ := hcut
  have Hg13 := Lib.hid (Hg12.out.below (Nat.le_refl _) hb13)
  have HB13 := Lib.hid (HB12.out.trans (hb13.mono hz12))
  have hz13 := HB13.out.size
  have HE := Lib.hid (rank_tot A _ w13 (HA.out.below HB13.out))
  rw [← Hrk.out, ← HeA.out] at HE
  clear hb13 Hg12
  go_wp2_with fail
  refine HE.out.mono ?_
  rintro e w14 ⟨rfl, hb14⟩
  have Hg14 := Lib.hid (Hg13.out.below (Nat.le_refl _) hb14)
  have HB14 := Lib.hid (HB13.out.trans (hb14.mono hz13))
  have hz14 := HB14.out.size
  clear hb14 HE Hg13
  go_wp2_with fail
  refine (same_eq _ _ Hg14.out).mono ?_
  rintro e w15 ⟨rfl, hb15⟩
  have Hg15 := Lib.hid (Hg14.out.below (Nat.le_refl _) hb15)
  have HB15 := Lib.hid (HB14.out.trans (hb15.mono hz14))
  have hz15 := HB15.out.size
  clear hb15 Hg14
  go_upto_region 31 with (fail)
  go_cut [153] (fun z wq => z = .bool bn ∧ w15 = wq)
  case first => as_aux_lemma =>
    by_cases h1 : q < 1
    · obtain rfl : bn = true := by rw [Hbn.out]; exact dec_t (.inl h1)
      go_wp2_with fail
      go_meet
      exact ⟨rfl, rfl⟩
    · by_cases h2 : 12 < q
      · obtain rfl : bn = true := by rw [Hbn.out]; exact dec_t (.inr h2)
        go_wp2_with fail
        go_meet
        exact ⟨rfl, rfl⟩
      · obtain rfl : bn = false := by rw [Hbn.out]; exact dec_f (fun h => h.elim h1 h2)
        go_wp2_with fail
        go_meet
        exact ⟨rfl, rfl⟩
  case rest =>
  obtain ⟨rfl, rfl⟩ := hcut
  go_upto_if 153 with (fail)
  go_cut [11, 14] (fun z y wq => z = iv fi ∧ ∃ wk, wk = wq ∧ RowsM wk y (idR q) ∧ Below w15.heap.size w15 wk)
  case first => as_aux_lemma =>
    cases bn with
    | true =>
      have h := of_decide_eq_true Hbn.out.symm
      obtain rfl : fi = 1 := by rw [Hfi.out]; exact if_pos h
      have HR : Hid (idR q = []) := Lib.hid (if_pos h)
      clear h
      go_wp2_with fail
      go_meet
      exact ⟨rfl, _, rfl, by rw [HR.out]; exact RowsM.nil _, Below.refl _ _⟩
    | false =>
      have h := of_decide_eq_false Hbn.out.symm
      obtain rfl : fi = 0 := by rw [Hfi.out]; exact if_neg h
      obtain ⟨k, rfl⟩ : ∃ k : Nat, q = k := ⟨q.toNat, by omega⟩
      have HR : Hid (idR (k : Int) = lt k k Mx.un) := Lib.hid (if_neg h)
      have HC := Lib.hid (runit_any k (by omega) w15)
      unfold CaPost at HC
      rw [← HR.out] at HC
      clear h
      go_wp2_with fail
      refine HC.out.mono ?_
      rintro e w16 ⟨v16, rfl, hM, hb⟩
      have HM := Lib.hid hM
      have Hb := Lib.hid hb
      clear hM hb HC
      go_wp2_with fail
      go_meet
      exact ⟨rfl, _, rfl, HM.out, Hb.out⟩
  case rest =>
  obtain ⟨rfl, w16, rfl, hM16, hb16⟩ := hcut
  have Hg16 := Lib.hid (Hg15.out.below (Nat.le_refl _) hb16)
  have HB16 := Lib.hid (HB15.out.trans (hb16.mono hz15))
  have hz16 := HB16.out.size
  have HM16 := Lib.hid hM16
  have HE : Hid (Calls Tryd.prog 33 #[iv q] w16 fun e w' => ∃ v, e = .returned (.tuple #[v, errV fi]) ∧ RowsM w' v (idR q) ∧ Below w16.heap.size w16 w') := Lib.hid (by rw [Hfi.out]; exact identity_tot q w16)
  clear hM16 hb16 Hg15
  go_wp2_with fail
  refine HE.out.mono ?_
  rintro e w17 ⟨v17, rfl, hM17, hb17⟩
  have Hg17 := Lib.hid (Hg16.out.below (Nat.le_refl _) hb17)
  have HB17 := Lib.hid (HB16.out.trans (hb17.mono hz16))
  have hz17 := HB17.out.size
  have HM17 := Lib.hid hM17
  have HW17 := Lib.hid (HM16.out.below hb17)
  clear hM17 hb17 HE Hg16 HM16
  go_wp2_with fail
  refine (same_eq _ _ Hg17.out).mono ?_
  rintro e w18 ⟨rfl, hb18⟩
  have Hg18 := Lib.hid (Hg17.out.below (Nat.le_refl _) hb18)
  have HB18 := Lib.hid (HB17.out.trans (hb18.mono hz17))
  have hz18 := HB18.out.size
  have HTx := Lib.hid (rows_eq (idR q) v17 u14 w18 (HM17.out.below hb18) (HW17.out.below hb18))
  clear hb18 Hg17 HM17 HW17
  go_wp2_with fail
  refine HTx.out.mono ?_
  rintro e w19 ⟨rfl, hb19⟩
  have Hg19 := Lib.hid (Hg18.out.below (Nat.le_refl _) hb19)
  have HB19 := Lib.hid (HB18.out.trans (hb19.mono hz18))
  have hz19 := HB19.out.size
  clear hb19 Hg18 HTx
  go_upto_region 38 with (fail)
  go_cut [176] (fun z wq => z = .bool bl ∧ w19 = wq)
  case first => as_aux_lemma =>
    by_cases h1 : 12 < nx
    · obtain rfl : bl = true := by rw [Hbl.out]; exact dec_t (.inl h1)
      have t1 : decide (12 < (nx : Int)) = true := dec_t (by omega)
      have t2 : (12 : Int) < (nx : Int) := by omega
      clear h1
      go_wp2_with fail
      go_meet
      exact ⟨rfl, rfl⟩
    · have t1 : decide (12 < (nx : Int)) = false := dec_f (by omega)
      have t1' : ¬ (12 : Int) < (nx : Int) := by omega
      by_cases h2 : 12 < ny
      · obtain rfl : bl = true := by rw [Hbl.out]; exact dec_t (.inr h2)
        have t2 : decide (12 < (ny : Int)) = true := dec_t (by omega)
        have t3 : (12 : Int) < (ny : Int) := by omega
        clear h1 h2
        go_wp2_with fail
        go_meet
        exact ⟨rfl, rfl⟩
      · obtain rfl : bl = false := by rw [Hbl.out]; exact dec_f (fun h => h.elim h1 h2)
        have t2 : decide (12 < (ny : Int)) = false := dec_f (by omega)
        have t2' : ¬ (12 : Int) < (ny : Int) := by omega
        clear h1 h2
        go_wp2_with fail
        go_meet
        exact ⟨rfl, rfl⟩
  case rest => as_aux_lemma =>
  obtain ⟨rfl, rfl⟩ := hcut
  go_upto_if 176 with (fail)
  go_cut [11] (fun z wq => z = iv e4 ∧ w19 = wq)
  case first => as_aux_lemma =>
    cases bl with
    | true =>
      have h := of_decide_eq_true Hbl.out.symm
      obtain rfl : e4 = 4 := by rw [He4.out]; exact if_pos h
      clear h
      go_wp2_with fail
      go_meet
      exact ⟨rfl, rfl⟩
    | false =>
      have h := of_decide_eq_false Hbl.out.symm
      obtain rfl : e4 = 0 := by rw [He4.out]; exact if_neg h
      clear h
      go_wp2_with fail
      go_meet
      exact ⟨rfl, rfl⟩
  case rest =>
  obtain ⟨rfl, rfl⟩ := hcut
  obtain ⟨all, hall⟩ : ∃ l : List UInt8, l = if e4 = 0 then x ++ y else [] := ⟨_, rfl⟩
  have h12 : e4 = 0 → nx ≤ 12 ∧ ny ≤ 12 := fun h => by
    have h1 := He4.out
    by_cases h2 : 12 < nx ∨ 12 < ny
    · rw [if_pos h2, h] at h1; cases h1
    · omega
  have H12 := Lib.hid h12
  have Hall := Lib.hid hall
  clear hall h12
  go_upto_if 178 with (fail)
  go_cut [25] (fun z wq => ∃ wk, wk = wq ∧ RowB wk z all ∧ Below w19.heap.size w19 wk)
  case first => as_aux_lemma =>
    by_cases h0 : e4 = 0
    · have h12 := H12.out h0
      have Ha : Hid (all = x ++ y) := Lib.hid (by rw [Hall.out, if_pos h0])
      have HX9 := Lib.hid (HX.out.below HB19.out)
      have HY9 := Lib.hid (HY.out.below HB19.out)
      have hl1 : x.length ≤ 140737488351232 := by rw [← Hnx.out]; omega
      have hl2 : nx + y.length ≤ 140737488351232 := by rw [← Hny.out]; omega
      subst h0
      clear h12
      go_wp2_with (at_builtin; refine copyB _ rfl _ _ rfl rfl x _ HX9.out rfl hl1 ?_)
      intro v8 w8' hO8 hb8
      rw [← Hnx.out] at hO8
      have HO8 := Lib.hid hO8
      have HB8 := Lib.hid hb8
      have hz8 := hb8.size
      have HY8 := Lib.hid (HY9.out.below hb8)
      clear hO8 hb8 HX9 HY9
      go_wp2_with (at_builtin; refine spreadB w8' rfl _ _ rfl w19.heap.size hz8 _ nx _ rfl HO8.out y _ HY8.out rfl hl2 ?_)
      intro v9 w9' hO9 hb9
      have hR : RowB w9' v9 all := by
        rw [← List.map_append, ← Ha.out] at hO9
        exact OwnR.row (OwnR.of_owns hO9)
      have HR := Lib.hid hR
      have HB9' := Lib.hid (HB8.out.trans hb9)
      clear hR hO9 hb9 HB8 HO8 HY8
      go_wp2_with fail
      go_meet
      exact ⟨_, rfl, HR.out, HB9'.out⟩
    · have Ha : Hid (all = []) := Lib.hid (by rw [Hall.out, if_neg h0])
      have t1 : (e4 == 0) = false := beq_f h0
      clear h0
      go_wp2_with fail
      go_meet
      exact ⟨_, rfl, by rw [Ha.out]; exact ⟨none, 0, rfl, Nat.le_refl _, Nat.zero_le _, fun _ => rfl, fun h => by simp at h⟩, Below.refl _ _⟩
  case rest =>
  obtain ⟨w20, rfl, hM20, hb20⟩ := hcut
  have Hg20 := Lib.hid (Hg19.out.below (Nat.le_refl _) hb20)
  have HB20 := Lib.hid (HB19.out.trans (hb20.mono hz19))
  have hz20 := HB20.out.size
  obtain ⟨pl, cl, rfl, hl1, hl2⟩ := hM20.shape
  have HM20 := Lib.hid hM20
  obtain ⟨N, hN⟩ : ∃ N, N = all.length := ⟨_, rfl⟩
  rw [← hN] at hl1 HM20 ⊢
  unfold maxLen at hl2
  have HN := Lib.hid hN
  clear hM20 hb20 hN Hg19
  go_wp2_with fail
  go_loopg [11, 26, 27] N (fun gk v11 v26 v27 wr => ∃ i nd : Nat, i + gk = N ∧ v26 = iv i ∧ v11 = iv (dupF all e4 i) ∧ wr = w20.drewN nd)
  case atStart => exact ⟨0, 0, by omega, rfl, rfl, rfl⟩
  case round =>
    obtain ⟨gO, hgO⟩ : ∃ x : Nat, x = gk := ⟨_, rfl⟩
    subst hgO
    obtain ⟨i, nd, hi, rfl, rfl, hwr⟩ := hrel
    have Hi := Lib.hid hi
    have Hwr := Lib.hid hwr
    obtain ⟨ef, hef⟩ : ∃ e, e = dupF all e4 i := ⟨_, rfl⟩
    rw [← hef]
    have Hef := Lib.hid hef
    obtain ⟨wO, hwO⟩ : ∃ x : World, x = wr := ⟨_, rfl⟩
    subst hwO
    clear hi hwr hef
    by_cases hiN : i < N
    · as_aux_lemma =>
      obtain ⟨gl, ol, cl', hvl, hgl, _, _, hc1⟩ := HM20.out.cellAt (j := i) (by rw [← HN.out]; exact hiN)
      injection hvl with epl q8 q9
      subst epl
      have d1 : ∀ k, (wO.drewN k).cell? ⟨gl, ol + i, none⟩ = some (bv (Gv.at' all i)) := fun k => by rw [Hwr.out]; simpa using hc1
      have D1 := Lib.hid d1
      have hiI : (i : Int) < (N : Int) := by omega
      clear q8 q9 hc1 d1
      go_wp2_with fail
      go_loopg [11, 27] i (fun gk v11 v27 wr => ∃ j nd : Nat, j + gk = i ∧ v27 = iv j ∧ v11 = iv (dupJ all e4 i j) ∧ wr = wO.drewN nd)
      case atStart => exact ⟨0, 0, by omega, rfl, by rw [dupJ_zero, Hef.out], rfl⟩
      case round =>
        obtain ⟨j, n2, hj, rfl, rfl, hwr⟩ := hrel
        have Hj := Lib.hid hj
        have Hwr2 := Lib.hid hwr
        obtain ⟨ej, hej⟩ : ∃ e, e = dupJ all e4 i j := ⟨_, rfl⟩
        rw [← hej]
        have Hej := Lib.hid hej
        by_cases hji : j < i
        · obtain ⟨gl2, ol2, cl2, hvl, _, _, _, hc2⟩ := HM20.out.cellAt (j := j) (by rw [← HN.out]; omega)
          injection hvl with e1 q8 q9
          injection e1 with e1
          injection e1 with e2 e3
          subst e2 e3
          have d1 : wr.cell? ⟨gl, ol + i, none⟩ = some (bv (Gv.at' all i)) := by rw [Hwr2.out]; exact D1.out n2
          have d2 : wr.cell? ⟨gl, ol + j, none⟩ = some (bv (Gv.at' all j)) := by rw [Hwr2.out, Hwr.out]; simpa using hc2
          have hjl : j < all.length := by rw [← HN.out]; omega
          obtain ⟨a, ha⟩ : ∃ a, a = Gv.at' all i := ⟨_, rfl⟩
          obtain ⟨b, hb⟩ : ∃ b, b = Gv.at' all j := ⟨_, rfl⟩
          rw [← ha] at d1
          rw [← hb] at d2
          have hjI : (j : Int) < (i : Int) := by omega
          have hjN : (j : Int) < (N : Int) := by omega
          have hmiss : a ≠ b → ej = dupJ all e4 i (j + 1) := fun h => by rw [dupJ_miss e4 hjl (by show Gv.at' all i ≠ Gv.at' all j; rw [← ha, ← hb]; exact h), hej]
          have hhit : a = b → dupJ all e4 i (j + 1) = 7 := fun h => dupJ_hit e4 hjl (by show Gv.at' all i = Gv.at' all j; rw [← ha, ← hb]; exact h)
          have Hmiss := Lib.hid hmiss
          have Hhit := Lib.hid hhit
          clear hej q8 q9 hc2 ha hb hj hwr hjl hmiss hhit
          by_cases hab : a = b
          · have t1 : ((a.toNat : Int) == (b.toNat : Int)) = true := beq_t (by rw [hab])
            have Hh := Lib.hid (Hhit.out hab)
            clear hab
            go_wp2_with fail
            go_quiet (fail)
            go_wp2_with fail
            go_roundg (gk - 1)
            case measure => have := Hj.out; omega
            case rel => exact ⟨j + 1, n2 + nq, by have := Hj.out; omega, by go_num, by rw [Hh.out], by rw [Hwr2.out, World.drewN_drewN]⟩
          · have t1 : ((a.toNat : Int) == (b.toNat : Int)) = false := beq_f (fun h => hab (Gf.byte_ext (by omega)))
            have Hh := Lib.hid (Hmiss.out hab)
            clear hab
            go_wp2_with fail
            go_quiet (fail)
            go_wp2_with fail
            go_roundg (gk - 1)
            case measure => have := Hj.out; omega
            case rel => exact ⟨j + 1, n2 + nq, by have := Hj.out; omega, by go_num, by rw [Hh.out], by rw [Hwr2.out, World.drewN_drewN]⟩
        · have hji' : j = i := by have := Hj.out; omega
          subst hji'
          have Hh : Hid (ej = dupF all e4 (j + 1)) := Lib.hid (by rw [hej]; exact dupJ_full e4 (by rw [← HN.out]; exact hiN))
          clear hej hj hwr
          go_wp2_with fail
          go_roundg (gO - 1)
          case measure => have := Hi.out; omega
          case rel => exact ⟨j + 1, nd + n2, by have := Hi.out; omega, by go_num, by rw [Hh.out], by rw [Hwr2.out, Hwr.out, World.drewN_drewN]⟩
    · as_aux_lemma =>
      have hiN' : i = N := by have := Hi.out; omega
      have hfc : ef = fc := by
        rw [Hef.out, hiN', HN.out, Hfc.out]
        unfold dupF cauF
        rw [List.take_length, ← Hnx.out, ← Hny.out]
        by_cases h : 12 < nx ∨ 12 < ny
        · have h4 : e4 = 4 := by rw [He4.out, if_pos h]
          have hal : all = [] := by rw [Hall.out, if_neg (by omega)]
          rw [if_pos h, hal, if_pos List.nodup_nil, h4]
        · have h4 : e4 = 0 := by rw [He4.out, if_neg h]
          have hal : all = x ++ y := by rw [Hall.out, if_pos h4]
          rw [if_neg h, hal, h4]
      subst hfc
      have hb21 : Below w20.heap.size w20 wO := by rw [Hwr.out]; exact bdrew (Below.refl _ _) nd
      obtain ⟨w21, hw21⟩ : ∃ x : World, x = wO := ⟨_, rfl⟩
      subst hw21
      have Hg21 := Lib.hid (Hg20.out.below (Nat.le_refl _) hb21)
      have HB21 := Lib.hid (HB20.out.trans (hb21.mono hz20))
      have hz21 := HB21.out.size
      have hfz : ef = 0 → (x ++ y).Nodup ∧ nx ≤ 12 ∧ ny ≤ 12 := fun h => by
        have h1 := Hfc.out
        unfold cauF at h1
        rw [← Hnx.out, ← Hny.out] at h1
        by_cases h2 : 12 < nx ∨ 12 < ny
        · rw [if_pos h2, h] at h1; cases h1
        · rw [if_neg h2] at h1
          by_cases h3 : (x ++ y).Nodup
          · exact ⟨h3, by omega, by omega⟩
          · rw [if_neg h3, h] at h1; cases h1
      have Hfz := Lib.hid hfz
      obtain ⟨K, hK⟩ : ∃ K, K = if ef = 0 then nx else 0 := ⟨_, rfl⟩
      have HK := Lib.hid hK
      have hKx : K ≤ nx := by rw [hK]; split <;> omega
      have hcl : (cau x y).length = nx := by unfold cau; rw [List.length_map, Hnx.out]
      have Hcl := Lib.hid hcl
      have hiI : ¬ (i : Int) < (N : Int) := by omega
      clear hiN hiN' hb21 Hwr hfz hK Hef Hi Hg20 HM20 HN hl1 hcl
      go_wp2_with fail
      go_loopg [14, 28, 29, 30, 31] K (fun gk v14 v28 v29 v30 v31 wr => ∃ vs : List Value, vs.length + gk = K ∧ v28 = iv vs.length ∧ RowsO wr w21.heap.size v14 vs (cau x y) ∧ Below w21.heap.size w21 wr)
      case atStart => exact ⟨[], by simp, rfl, RowsO.nil _ _ _, Below.refl _ _⟩
      case round =>
        obtain ⟨wO, hwO⟩ : ∃ x : World, x = wr := ⟨_, rfl⟩
        obtain ⟨gO, hgO⟩ : ∃ x : Nat, x = gk := ⟨_, rfl⟩
        subst hwO hgO
        obtain ⟨vs, hi, rfl, hR, hB⟩ := hrel
        obtain ⟨i, hie⟩ : ∃ i, i = vs.length := ⟨_, rfl⟩
        rw [← hie] at hi ⊢
        have Hie := Lib.hid hie
        have Hi := Lib.hid hi
        have HR := Lib.hid hR
        have HBo := Lib.hid hB
        have hz := hB.size
        clear hi hR hB hie
        by_cases hin : i < K
        · as_aux_lemma =>
          have h0 : ef = 0 := Classical.byContradiction (fun h => by have := HK.out; rw [if_neg h] at this; omega)
          obtain ⟨hnd, hnx12, hny12⟩ := Hfz.out h0
          have Hnd := Lib.hid hnd
          subst h0
          have hix : i < nx := by omega
          have hiI : (i : Int) < (nx : Int) := by omega
          obtain ⟨g, o, cc', hv2, hg, _, _, hc⟩ := HX.out.cellAt (j := i) (by rw [← Hnx.out]; exact hix)
          injection hv2 with e1 q8 q9
          have He1 := Lib.hid e1
          have hBw := HB21.out.trans (HBo.out.mono hz21)
          have d0 : wO.cell? ⟨g, o + i, none⟩ = some (bv (Gv.at' x i)) := (hBw.cell (p := ⟨g, o + i, none⟩) hg).trans hc
          have D0 := Lib.hid d0
          have HBw := Lib.hid hBw
          obtain ⟨a, ha⟩ : ∃ a, a = Gv.at' x i := ⟨_, rfl⟩
          rw [← ha] at d0 D0
          have hxa : x[i]? = some a := by rw [ha]; exact Gv.at_get? (by rw [← Hnx.out]; exact hix)
          have Hxa := Lib.hid hxa
          have Ha := Lib.hid ha
          rw [e1]
          clear e1 q8 q9 hc ha hxa hBw d0 hnd
          go_wp2_with fail
          go_loopg [29, 30, 31] ny (fun gk v29 v30 v31 wr => CaIn a y w wO ny gk v29 v30 wr)
          case atStart => exact ⟨0, by omega, rfl, World.ownsRow_nil _ _ _ _, Below.refl _ _⟩
          case round =>
            obtain ⟨k, hk, rfl, hO, hB2⟩ := hrel
            have Hk := Lib.hid hk
            have HO := Lib.hid hO
            have HB2' := Lib.hid hB2
            have hz2 := hB2.size
            clear hk hO
            by_cases hkm : k < ny
            · obtain ⟨g2, o2, cc2, hv3, hg2, _, _, hc2⟩ := HY.out.cellAt (j := k) (by rw [← Hny.out]; exact hkm)
              injection hv3 with e1 q8 q9
              have He2 := Lib.hid e1
              have d1 : wr.cell? ⟨g2, o2 + k, none⟩ = some (bv (Gv.at' y k)) := ((HBw.out.trans (hB2.mono HBw.out.size)).cell (p := ⟨g2, o2 + k, none⟩) hg2).trans hc2
              have d0 : wr.cell? ⟨g, o + i, none⟩ = some (bv a) := (hB2.cell (p := ⟨g, o + i, none⟩) (World.block_lt_of_cell? wO _ D0.out)).trans D0.out
              obtain ⟨b, hb⟩ : ∃ b, b = Gv.at' y k := ⟨_, rfl⟩
              rw [← hb] at d1
              have hyb : y[k]? = some b := by rw [hb]; exact Gv.at_get? (by rw [← Hny.out]; exact hkm)
              have hnx : (y.map (fun b => bv (Gf.inv (a ^^^ b)))).take k ++ [bv (Gf.inv (a ^^^ b))] = (y.map (fun b => bv (Gf.inv (a ^^^ b)))).take (k + 1) := by
                rw [List.take_add_one, List.getElem?_map, hyb]; rfl
              have hne : Gf.add a b ≠ 0 := by rw [Ha.out, hb]; exact cau_ne Hnd.out (by rw [← Hnx.out]; exact hix) (by rw [← Hny.out]; exact hkm)
              obtain ⟨c, hc⟩ : ∃ c, c = Gf.add a b := ⟨_, rfl⟩
              rw [← hc] at hne
              have hcx : Gf.inv (a ^^^ b) = Gf.inv c := by rw [hc, Gf.add_def]
              rw [hcx] at hnx
              have Hnx2 := Lib.hid hnx
              have HPl : Hid (∀ W : World, Calls Tryd.prog 35 #[bv a, bv b] W fun e w' => e = .returned (bv c) ∧ ∃ n, W.drewN n = w') := Lib.hid (fun W => by rw [hc]; exact rplus_any a b _ _ rfl rfl W)
              have HIv : Hid (∀ W : World, Calls Tryd.prog 34 #[bv c] W fun e w' => e = .returned (bv (Gf.inv c)) ∧ ∃ n, W.drewN n = w') := Lib.hid (fun W => rinv_any c hne _ rfl W)
              have hk9 : k + 1 ≤ 1000000 := by omega
              have hkI : (k : Int) < (ny : Int) := by omega
              rw [e1]
              clear e1 q8 q9 hc2 hb hyb hnx hc hcx hne hB2
              go_wp2_with fail
              go_quiet (first | (go_at_call 35; exact quiet_drew (HPl.out _)) | (go_at_call 34; exact quiet_drew (HIv.out _)))
              have hb3 : Below wO.heap.size wO (wr.drewN nq) := HB2'.out.trans (bdrew (Below.refl _ _) nq |>.mono hz2)
              obtain ⟨w3', hw3⟩ : ∃ x, x = wr.drewN nq := ⟨_, rfl⟩
              have HO3 : Hid (w3'.ownsRow wO.heap.size 5 1 u29 k ((y.map (fun b => bv (Gf.inv (a ^^^ b)))).take k)) := Lib.hid (by rw [hw3]; exact owns_below HO.out (bdrew (Below.refl _ _) nq))
              rw [← hw3] at hb3 ⊢
              have HB3' := Lib.hid hb3
              have hz3' := hb3.size
              clear hb3 hw3 HPl HIv HB2' d0 d1
              go_wp2_with (at_builtin; refine app1 wO w3' _ 5 22 rfl _ _ rfl wO.heap.size Tryd.underlying22 info_byteV rfl _ k _ rfl _ rfl rfl HO3.out rfl hk9 (by decide) hz3' HB3'.out ?_)
              intro v8 w8 hown8 hb8 hgr8 hat8
              rw [Hnx2.out] at hown8
              have HO8 := Lib.hid hown8
              have HB8' := Lib.hid hb8
              clear hown8 hb8 hgr8 hat8 HO HO3 HB3'
              go_wp2_with fail
              rw [← He2.out]
              go_roundg (gk - 1)
              case measure => have := Hk.out; omega
              case rel => exact ⟨k + 1, by have := Hk.out; omega, by go_num, HO8.out, HB8'.out⟩
            · have hkm' : k = ny := by have := Hk.out; omega
              have hkI : ¬ (k : Int) < (ny : Int) := by omega
              have hO9 : OwnB wr wO.heap.size u29 (y.map (fun b => Gf.inv (a ^^^ b))) := by
                have h := OwnR.of_owns HO.out
                rw [hkm', List.take_of_length_le (by rw [List.length_map, ← Hny.out]; exact Nat.le_refl _)] at h
                unfold OwnB
                rw [List.map_map]; exact h
              have hcr : (cau x y)[i]? = some (y.map (fun b => Gf.inv (a ^^^ b))) := by unfold cau; rw [List.getElem?_map, Hxa.out]; rfl
              have HR2 := Lib.hid (HR.out.below HB2'.out)
              have hub : ∀ g, u29.ownBlock = some g → u14.ownBlock ≠ some g := fun g h1 h2 => by
                have k1 := (OwnR.lt hO9 h1).1
                have k2 := (OwnR.lt (OwnR.of_owns HR.out.own) h2).2
                omega
              have hlen : ∀ (j : Nat) u, vs[j]? = some u → ∃ r, (cau x y)[j]? = some r := fun j u hu => by
                have h1 := (List.getElem?_eq_some_iff.1 hu).1
                rw [← Hie.out] at h1
                exact ⟨_, List.getElem?_eq_getElem (by rw [Hcl.out]; omega)⟩
              have hi9 : i + 1 ≤ 1000000 := by omega
              have hBr := HBo.out.trans (HB2'.out.mono hz)
              have HBr := Lib.hid hBr
              have hzr := hBr.size
              have H9 := Lib.hid (OwnR.mono hO9 hz)
              obtain ⟨p8, n8, c8, rfl⟩ := hO9.slice
              have Hub := Lib.hid hub
              have Hlen := Lib.hid hlen
              have Hcr := Lib.hid hcr
              have hown : wr.ownsRow w21.heap.size 22 1 u14 i vs := by have h := HR2.out.own; rw [← Hie.out] at h; exact h
              have Hown := Lib.hid hown
              obtain ⟨p5, n5, c5, rfl⟩ := (OwnR.of_owns hown).slice
              clear hO9 hcr hub hlen hBr HO HB2' hkm hown hB2 hkm'
              go_wp2_with (at_builtin; refine app1 w21 wr (.slice p8 n8 c8) 22 44 rfl _ _ rfl w21.heap.size Tryd.underlying44 info_rowC rfl _ i _ rfl _ rfl rfl Hown.out rfl hi9 (by decide) hzr HBr.out ?_)
              intro v9 w9 hown9 hb9 hgr9 hat9
              rw [Hie.out] at hown9
              have hR9 := HR2.out.push Hlen.out (by rw [← Hie.out]; exact Hcr.out) H9.out Hub.out hown9 hgr9 hat9
              have HR9 := Lib.hid hR9
              have HB9' := Lib.hid hb9
              have hl9 : (vs ++ [Value.slice p8 n8 c8]).length = i + 1 := by rw [List.length_append, ← Hie.out]; rfl
              have Hl9 := Lib.hid hl9
              clear hown9 hb9 hgr9 hat9 hR9 hl9 HR HR2 H9 Hub Hlen Hcr Hown HBr
              go_wp2_with fail
              rw [← He1.out]
              go_roundg (gO - 1)
              case measure => have := Hi.out; omega
              case rel => exact ⟨_, by rw [Hl9.out]; have := Hi.out; omega, by rw [Hl9.out]; go_num, HR9.out, HB9'.out⟩
        · as_aux_lemma =>
          have hin' : i = K := by have := Hi.out; omega
          have hM22 : RowsM wO u14 (cauR x y) := by
            unfold cauR
            rw [← Hfc.out]
            by_cases h0 : ef = 0
            · rw [if_pos h0]
              exact HR.out.rowsM (by rw [← Hie.out, hin', HK.out, if_pos h0, Hcl.out])
            · rw [if_neg h0]
              have hv0 : vs = [] := List.eq_nil_of_length_eq_zero (by rw [← Hie.out, hin', HK.out, if_neg h0])
              have h := OwnR.row (OwnR.of_owns HR.out.own)
              rw [hv0] at h
              exact ⟨[], h, rfl, fun j l hl => by simp at hl⟩
          have hb22 := HBo.out
          obtain ⟨w22, hw22⟩ : ∃ x : World, x = wO := ⟨_, rfl⟩
          subst hw22
          have Hg22 := Lib.hid (Hg21.out.below (Nat.le_refl _) hb22)
          have HB22 := Lib.hid (HB21.out.trans (hb22.mono hz21))
          have hz22 := HB22.out.size
          have HM22 := Lib.hid hM22
          have HE := Lib.hid (cauchy_tot x y _ _ w22 (HX.out.below HB22.out) (HY.out.below HB22.out))
          unfold CcPost at HE
          rw [← Hfc.out] at HE
          have hgo : ((i : Int) < (nx : Int) ∧ (ef == 0) = false) ∨ ¬ (i : Int) < (nx : Int) := by
            by_cases h0 : ef = 0
            · right; rw [hin', HK.out, if_pos h0]; omega
            · by_cases h1 : i < nx
              · left; exact ⟨by omega, beq_f h0⟩
              · right; omega
          have Hgo := Lib.hid hgo
          clear hM22 hb22 Hg21 HR HBo HK hin hin' hgo Hi Hie
          go_upto_region 53 with (fail)
          go_cut [212] (fun z wq => z = .bool false ∧ w22 = wq)
          case first =>
            rcases Hgo.out with ⟨t1, t2⟩ | t1
            · go_wp2_with fail
              go_meet
              exact ⟨rfl, rfl⟩
            · go_wp2_with fail
              go_meet
              exact ⟨rfl, rfl⟩
          case rest =>
          obtain ⟨rfl, rfl⟩ := hcut
          clear Hgo
          go_wp2_with fail
          refine HE.out.mono ?_
          rintro e w23 ⟨v23, rfl, hM23, hb23⟩
          have Hg23 := Lib.hid (Hg22.out.below (Nat.le_refl _) hb23)
          have HB23 := Lib.hid (HB22.out.trans (hb23.mono hz22))
          have hz23 := HB23.out.size
          have HM23 := Lib.hid hM23
          have HW23 := Lib.hid (HM22.out.below hb23)
          clear hM23 hb23 HE Hg22 HM22
          go_wp2_with fail
          refine (same_eq _ _ Hg23.out).mono ?_
          rintro e w24 ⟨rfl, hb24⟩
          have Hg24 := Lib.hid (Hg23.out.below (Nat.le_refl _) hb24)
          have HB24 := Lib.hid (HB23.out.trans (hb24.mono hz23))
          have hz24 := HB24.out.size
          have HTx := Lib.hid (rows_eq (cauR x y) v23 u14 w24 (HM23.out.below hb24) (HW23.out.below hb24))
          clear hb24 Hg23 HM23 HW23
          go_wp2_with fail
          refine HTx.out.mono ?_
          rintro e w25 ⟨rfl, hb25⟩
          have Hg25 := Lib.hid (Hg24.out.below (Nat.le_refl _) hb25)
          have HB25 := Lib.hid (HB24.out.trans (hb25.mono hz24))
          have hz25 := HB25.out.size
          clear hb25 Hg24 HTx
          go_wp2_with fail
          go_ret
          exact ⟨rfl, HB25.out⟩
end Go.Proofs.YtbikmodfmckaeaaDoor
