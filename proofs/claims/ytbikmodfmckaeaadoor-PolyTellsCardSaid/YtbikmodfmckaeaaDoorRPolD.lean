/- The walk of the references' division of polynomials. -/
import Derived.Test.YtbikmodfmckaeaaDoorRPolX
import Derived.Test.YtbikmodfmckaeaaDoorRPolP
import Derived.Test.YtbikmodfmckaeaaDoorPolR
namespace Go.Proofs.YtbikmodfmckaeaaDoor
open Go.ChangeShapes Go.WideShapes Go.ChangeAt Go.RowKit
set_option linter.unusedVariables false
namespace Pl
open Gv
theorem cm_shl (t : List UInt8) (y : UInt8) (n j : Nat) : cm (shl [y] 1 n) t j = cf (shl t y n) j := by
  rw [cf_shl, ← cm_of (m := n + 1) t j (by rw [shl_len]; simp)]
  rw [xsum_single (k := n) (by omega) _ (fun i hi hne => by
    rw [cf_shl]; unfold shf; rw [if_neg (by omega), Gf.zero_mul])]
  rw [cf_shl]
  unfold shf
  rw [if_pos (Nat.le_refl _), Nat.sub_self]
  show Gf.mul (Gf.mul y 1) _ = _
  rw [Gf.mul_one]
  by_cases h : n ≤ j
  · rw [if_pos h, if_pos h, Gf.mul_comm]
  · rw [if_neg h, if_neg h, Gf.mul_zero]
def dby (r t : List UInt8) : UInt8 := Gf.mul (cf r (r.length - 1)) (Gf.inv (cf t (t.length - 1)))
def dq (q r t : List UInt8) : List UInt8 := trim (plus q (shl [dby r t] 1 (r.length - t.length)))
def dr (r t : List UInt8) : List UInt8 := trim (plus r (shl t (dby r t) (r.length - t.length)))
theorem dv_same (q r t : List UInt8) (j : Nat) : cm (dq q r t) t j ^^^ cf (dr r t) j = cm q t j ^^^ cf r j := by
  rw [cm_sum (d := dq q r t) (q := q) (q' := shl [dby r t] 1 (r.length - t.length)) (fun j => by unfold dq; rw [cf_trim, cf_plus]), cm_shl]
  unfold dr
  rw [cf_trim, cf_plus, Gf.add_comm (cf r j), Gf.add_assoc, Gf.add_cancel]
theorem dv_short {r t : List UInt8} (h0 : t.length ≠ 0) (ht : cf t (t.length - 1) ≠ 0) (hl : t.length ≤ r.length) : (dr r t).length < r.length := by
  have h : (dr r t).length ≤ r.length - 1 := trim_short (fun j hj => by
    rw [cf_plus, cf_shl]
    unfold shf
    by_cases e : j = r.length - 1
    · subst e
      rw [if_pos (by omega), show r.length - 1 - (r.length - t.length) = t.length - 1 by omega]
      unfold dby
      rw [Gf.mul_comm (cf t _), Gf.mul_assoc, Gf.inv_mul ht, Gf.mul_one, Gf.add_self]
    · rw [cf_out (l := r) (by omega), if_pos (by omega), cf_out (l := t) (by omega), Gf.zero_mul]; rfl)
  omega
theorem dq_len {q r t : List UInt8} {n : Nat} (hq : q.length ≤ n + 1) (hr : r.length ≤ n) (h0 : t.length ≠ 0) : (dq q r t).length ≤ n + 1 := trim_short (fun j hj => by
  rw [cf_plus, cf_out (l := q) (by omega), cf_out (l := shl _ _ _) (by rw [shl_len]; simp; omega)]; rfl)
end Pl
def RDvRel (a t : List UInt8) (B : Nat) (w2 : World) (na gk : Nat) (v0 v6 : Value) (wr : World) : Prop :=
  ∃ q r : List UInt8, r.length = gk ∧ r.length ≤ na ∧ q.length ≤ na + 1 ∧ Pl.trim q = q ∧ Pl.trim r = r ∧ (∀ j, Pl.cm q t j ^^^ Pl.cf r j = Pl.cf a j) ∧ OwnB wr B v0 r ∧ OwnB wr B v6 q ∧ Below w2.heap.size w2 wr
def RDvPost (a b : List UInt8) (w : World) (e : Ending) (w' : World) : Prop :=
  ∃ v1 v2, e = .returned (.tuple #[v1, v2]) ∧ OwnB w' w.heap.size v1 (Pl.quo a b) ∧ OwnB w' w.heap.size v2 (Pl.rst a b) ∧ Below w.heap.size w w'
set_option maxRecDepth 100000 in
set_option maxHeartbeats 4000000 in
theorem rdivmod_any (a b : List UInt8) (h0 : (Pl.trim b).length ≠ 0) (ha : a.length ≤ 1000) (hb : b.length ≤ 1000) (va vb : Value) (w : World) (hva : RowB w va a) (hvb : RowB w vb b) :
    Calls Tryd.prog 19 #[va, vb] w (RDvPost a b w) := by
  have HTa := Lib.hid (rtrim_any a (by omega) va w hva)
  have HTb := Lib.hid (fun (W : World) (hW : Below w.heap.size w W) => rtrim_any b (by omega) vb W (RowB.below hvb hW))
  obtain ⟨pa, ca, rfl, _, _⟩ := hva.shape
  obtain ⟨pb, cb, rfl, _, _⟩ := hvb.shape
  obtain ⟨t, ht⟩ : ∃ t, t = Pl.trim b := ⟨_, rfl⟩
  have htop := Pl.top_ne h0
  have htl : t.length ≤ 1000 := by rw [ht, Pl.trim_len]; have := Pl.tn_le b b.length; omega
  have hal : (Pl.trim a).length ≤ 1000 := by rw [Pl.trim_len]; have := Pl.tn_le a a.length; omega
  have HD : Hid (∀ q r, Pl.trim q = q → Pl.trim r = r → r.length < t.length → (∀ j, Pl.cm q t j ^^^ Pl.cf r j = Pl.cf a j) → q = Pl.quo a b ∧ r = Pl.rst a b) := Lib.hid (fun q r h1 h2 h3 h4 => Pl.div_comes h0 h1 h2 (by rw [← ht]; exact h3) (by rw [← ht]; exact h4))
  rw [← ht] at h0 htop
  unfold TrimPost at HTa HTb
  rw [← ht] at HTb
  have HTop := Lib.hid htop
  obtain ⟨T, hT⟩ : ∃ T, T + 1 = t.length := ⟨t.length - 1, by omega⟩
  have HTl := Lib.hid hT
  have hT9 : T ≤ 999 := by omega
  clear hT
  have HA9 : Hid (Pl.trim (Pl.trim a) = Pl.trim a ∧ ∀ j, Pl.cf (Pl.trim a) j = Pl.cf a j) := Lib.hid ⟨Pl.trim_trim a, Pl.cf_trim a⟩
  generalize Pl.trim a = a0 at *
  have h0' := h0
  have H0 := Lib.hid h0'
  have Hal := Lib.hid hal
  clear hva hvb ht htop h0 h0'
  generalize a.length = la at *
  generalize b.length = lb at *
  go_enter Tryd.func19, Tryd.ntmps19
  go_wp2_with fail
  refine HTa.out.mono ?_
  rintro e w1 ⟨v0, rfl, hO0, hb0⟩
  have HO0 := Lib.hid hO0
  have HB0 := Lib.hid hb0
  have hz0 := hb0.size
  clear hO0 hb0 HTa
  go_wp2_with fail
  refine (HTb.out w1 HB0.out).mono ?_
  rintro e w2 ⟨v1, rfl, hO1, hb1⟩
  have HO1 := Lib.hid hO1
  have HO2 := Lib.hid (OwnR.below HO0.out hb1)
  have HB2 := Lib.hid (HB0.out.trans (hb1.mono hz0))
  have hz2 := HB2.out.size
  clear hO1 hb1 HTb HO0 HB0
  go_wp2_with fail
  obtain ⟨p1, c1, rfl, h11, h12⟩ := RowB.shape (OwnB.row HO1.out)
  rw [← HTl.out] at h11 ⊢
  unfold maxLen at h12
  have HR1 : Hid (RowB w2 (.slice p1 (T + 1) c1) t) := Lib.hid (by rw [HTl.out]; exact OwnB.row HO1.out)
  go_loopg [0, 6, 7, 8] a0.length (fun gk v0 v6 v7 v8 wr => RDvRel a t w.heap.size w2 1000 gk v0 v6 wr)
  case atStart => exact ⟨[], a0, rfl, Hal.out, by simp, rfl, HA9.out.1, fun j => by rw [← HA9.out.2 j]; show 0 ^^^ _ = _; rw [Gf.zero_add], HO2.out, OwnR.nil _ _ _, Below.refl _ _⟩
  case round =>
    clear HO2 HA9
    obtain ⟨q, r, hrl, hr9, hq9, hqt, hrt, hall, hOr, hOq, hB⟩ := hrel
    have Hrl := Lib.hid hrl
    have Hr9 := Lib.hid hr9
    have Hq9 := Lib.hid hq9
    have Hqt := Lib.hid hqt
    have Hrt := Lib.hid hrt
    have Hall := Lib.hid hall
    have HOr := Lib.hid hOr
    have HOq := Lib.hid hOq
    have HB := Lib.hid hB
    have hz := hB.size
    obtain ⟨p0, c0, hv0, h01, h02⟩ := RowB.shape (OwnB.row hOr)
    rw [hrl] at hv0 h01
    subst hv0
    unfold maxLen at h02
    clear hrl hq9 hqt hrt hall hOr hOq hB
    have hgk9 : gk ≤ 1000 := by have := Hrl.out; omega
    clear hr9
    by_cases hge : T + 1 ≤ gk
    · obtain ⟨R, rfl⟩ : ∃ R, gk = R + 1 := ⟨gk - 1, by omega⟩
      obtain ⟨g, o, cc, hv2, _, _, _, hc⟩ := RowB.cellAt (OwnB.row HOr.out) (j := R) (by rw [Hrl.out]; omega)
      injection hv2 with e1 e2 e3
      have He1 := Lib.hid e1
      have d0 : wr.cell? ⟨g, o + R, none⟩ = some (bv (Pl.cf r R)) := hc
      rw [e1] at HOr ⊢
      clear e1 e2 e3 hc
      obtain ⟨g1, o1, cc1, hv2, hg1, _, _, hc⟩ := RowB.cellAt HR1.out (j := T) (by rw [← HTl.out]; omega)
      injection hv2 with e1 e2 e3
      have He2 := Lib.hid e1
      have d1 : wr.cell? ⟨g1, o1 + T, none⟩ = some (bv (Pl.cf t T)) := (HB.out.cell (p := ⟨g1, o1 + T, none⟩) hg1).trans hc
      rw [e1]
      have hR1 := HR1.out
      rw [e1] at hR1
      have HR1' := Lib.hid hR1
      clear e1 e2 e3 hc hR1
      obtain ⟨x, hx⟩ : ∃ x, x = Pl.cf r R := ⟨_, rfl⟩
      obtain ⟨y, hy⟩ : ∃ y, y = Pl.cf t T := ⟨_, rfl⟩
      rw [← hx] at d0
      rw [← hy] at d1
      have hy0 : y ≠ 0 := by rw [hy]; have := HTop.out; rw [← HTl.out] at this; exact this
      obtain ⟨by', hby⟩ : ∃ b, b = Gf.mul x (Gf.inv y) := ⟨_, rfl⟩
      obtain ⟨iy, hiy⟩ : ∃ b, b = Gf.inv y := ⟨_, rfl⟩
      have hdby : by' = Pl.dby r t := by unfold Pl.dby; rw [Hrl.out, ← HTl.out, hby, hx, hy]; rfl
      have Hdby := Lib.hid hdby
      have HIv : Hid (∀ W : World, Calls Tryd.prog 34 #[bv y] W fun e w' => e = .returned (bv iy) ∧ ∃ n, W.drewN n = w') := Lib.hid (fun W => by rw [hiy]; exact rinv_any y hy0 _ rfl W)
      have HMu : Hid (∀ W : World, Calls Tryd.prog 56 #[bv x, bv iy] W fun e w' => e = .returned (bv by') ∧ ∃ n, W.drewN n = w') := Lib.hid (fun W => by rw [hby, hiy]; exact rmul_any x _ _ _ rfl rfl W)
      have w1' : IntKind.i64.wrap (R : Int) = (R : Int) := IntWalk.i64_in _ (by omega)
      have w2' : IntKind.i64.wrap (T : Int) = (T : Int) := IntWalk.i64_in _ (by omega)
      have w3' : (R : Int) < (R : Int) + 1 := by omega
      have w4' : (T : Int) < (T : Int) + 1 := by omega
      have w5' : (0 : Int) ≤ (R : Int) := by omega
      have w6' : (0 : Int) ≤ (T : Int) := by omega
      obtain ⟨d, hd⟩ : ∃ d, d = r.length - t.length := ⟨_, rfl⟩
      have hdI : (R : Int) + 1 - ((T : Int) + 1) = (d : Int) := by rw [hd, Hrl.out, ← HTl.out]; omega
      have hdI2 : (R : Int) - (T : Int) = (d : Int) := by omega
      have hd9 : d ≤ 1000 := by omega
      have Hd := Lib.hid hd
      clear hx hy hby hiy hdby hd
      go_wp2_with fail
      go_quiet (first | (go_at_call 34; exact quiet_drew (HIv.out _)) | (go_at_call 56; exact quiet_drew (HMu.out _)))
      obtain ⟨w3, hw3⟩ : ∃ x : World, x = wr.drewN nq := ⟨_, rfl⟩
      rw [← hw3]
      have hb3 : Below wr.heap.size wr w3 := by rw [hw3]; exact bdrew (Below.refl _ _) nq
      have HB3 := Lib.hid (HB.out.trans (hb3.mono hz))
      have hz3 := HB3.out.size
      have HOr3 := Lib.hid (OwnR.below HOr.out hb3)
      have HOq3 := Lib.hid (OwnR.below HOq.out hb3)
      clear hw3 hb3 HIv HMu d0 d1 HOr HOq HB
      have hTm := rtimes_any [by'] (by simp) 1 d (by omega) _ _ (one_row w3 by')
      have HTm := Lib.hid hTm
      have hal4 : Below w3.heap.size w3 (w3.alloc (.cells #[bv by'] 5)) := (Below.refl _ _).alloc (Nat.le_refl _) _
      have Hal4 := Lib.hid hal4
      clear hTm hal4
      go_wp2_with fail
      refine HTm.out.mono ?_
      rintro e w4 ⟨v4, rfl, hO4, hb4⟩
      have hb34 := Hal4.out.trans (hb4.mono Hal4.out.size)
      have HB4 := Lib.hid (HB3.out.trans (hb34.mono hz3))
      have hz4 := HB4.out.size
      have HOr4 := Lib.hid (OwnR.below HOr3.out hb34)
      have HOq4 := Lib.hid (OwnR.below HOq3.out hb34)
      have HS := Lib.hid (rsum_any q _ (by have := Hq9.out; omega) (by rw [shl_len]; simp; omega) _ _ w4 (OwnB.row HOq4.out) (OwnB.row hO4))
      unfold TrimPost at HS
      clear hO4 hb4 hb34 HTm HB3 HOr3 HOq3 Hal4
      go_wp2_with fail
      refine HS.out.mono ?_
      rintro e w5 ⟨v5, rfl, hO5, hb5⟩
      have HB5 := Lib.hid (HB4.out.trans (hb5.mono hz4))
      have hz5 := HB5.out.size
      have HOr5 := Lib.hid (OwnR.below HOr4.out hb5)
      have HOq5 := Lib.hid (OwnR.mono hO5 (Nat.le_trans hz2 hz4))
      clear hO5 hb5 HS HB4 HOr4 HOq4
      have HTm := Lib.hid (rtimes_any t (by have := HTl.out; omega) by' d (by omega) _ w5 (RowB.below HR1'.out HB5.out))
      go_wp2_with fail
      refine HTm.out.mono ?_
      rintro e w6 ⟨v6, rfl, hO6, hb6⟩
      have HB6 := Lib.hid (HB5.out.trans (hb6.mono hz5))
      have hz6 := HB6.out.size
      have HOr6 := Lib.hid (OwnR.below HOr5.out hb6)
      have HOq6 := Lib.hid (OwnR.below HOq5.out hb6)
      have HS := Lib.hid (rsum_any r _ (by have := Hrl.out; omega) (by rw [shl_len]; have := HTl.out; omega) _ _ w6 (OwnB.row HOr6.out) (OwnB.row hO6))
      unfold TrimPost at HS
      clear hO6 hb6 HTm HB5 HOr5 HOq5
      go_wp2_with fail
      refine HS.out.mono ?_
      rintro e w7 ⟨v7, rfl, hO7, hb7⟩
      have HB7 := Lib.hid (HB6.out.trans (hb7.mono hz6))
      have HOr7 := Lib.hid (OwnR.mono hO7 (Nat.le_trans hz2 hz6))
      have HOq7 := Lib.hid (OwnR.below HOq6.out hb7)
      clear hO7 hb7 HS HB6 HOr6 HOq6
      go_wp2_with fail
      rw [← He2.out]
      go_roundg ((Pl.dr r t).length)
      case measure =>
        have h := Pl.dv_short (r := r) H0.out HTop.out (by rw [← HTl.out, Hrl.out]; exact hge)
        rw [Hrl.out] at h; exact h
      case rel =>
        have hs := Pl.dv_short (r := r) H0.out HTop.out (by rw [← HTl.out, Hrl.out]; exact hge)
        refine ⟨Pl.dq q r t, Pl.dr r t, rfl, by rw [Hrl.out] at hs; omega, Pl.dq_len Hq9.out (by rw [Hrl.out]; omega) H0.out, Pl.trim_trim _, Pl.trim_trim _, fun j => by rw [Pl.dv_same]; exact Hall.out j, ?_, ?_, HB7.out⟩
        · have h := HOr7.out
          rw [Hdby.out, Hd.out] at h; exact h
        · have h := HOq7.out
          rw [Hdby.out, Hd.out] at h; exact h
    · have hfin := HD.out q r Hqt.out Hrt.out (by rw [Hrl.out, ← HTl.out]; omega) Hall.out
      have HOr9 : Hid (OwnB wr w.heap.size (.slice p0 gk c0) (Pl.rst a b)) := Lib.hid (by rw [← hfin.2]; exact HOr.out)
      have HOq9 : Hid (OwnB wr w.heap.size u6 (Pl.quo a b)) := Lib.hid (by rw [← hfin.1]; exact HOq.out)
      have HB9 := Lib.hid (HB2.out.trans (HB.out.mono hz2))
      clear hfin HOr HOq HB
      go_wp2_with fail
      go_ret2
      exact ⟨_, _, rfl, HOq9.out, HOr9.out, HB9.out⟩
end Go.Proofs.YtbikmodfmckaeaaDoor
