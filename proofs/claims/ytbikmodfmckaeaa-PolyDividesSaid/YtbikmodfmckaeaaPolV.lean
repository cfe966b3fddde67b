/- The walk of the law PolyDivides: it returns true. -/
import Derived.Test.YtbikmodfmckaeaaPolE
import Derived.Test.YtbikmodfmckaeaaPolG
import Derived.Test.YtbikmodfmckaeaaPolR
import Derived.Test.YtbikmodfmckaeaaOpenP
import Derived.Deep.DeepCutAuto
namespace Go.Proofs.Ytbikmodfmckaeaa
open Go.ChangeShapes Go.WideShapes Go.ChangeAt Go.RowKit
set_option linter.unusedVariables false
open Pl (Pt pnt)
def two : List Pt := [(0, 5), (1, 4)]
theorem two_F : Pl.thF two = 0 := by decide +kernel
theorem two_thr : Pl.trim (Pl.thr two two.length) = [5, 1] := by decide +kernel
theorem row_two (w : World) : RowPt (w.alloc (.cells #[bv 0, bv 5, bv 1, bv 4] 35)) (.slice (some ⟨w.heap.size, 0, none⟩) 2 2) two := by
  refine ⟨some ⟨w.heap.size, 0, none⟩, 2, rfl, Nat.le_refl _, by omega, fun j l hj => ?_⟩
  have hj2 : j < 2 := (List.getElem?_eq_some_iff.1 hj).1
  refine ⟨w.heap.size, 0, rfl, by simp, ?_, ?_⟩
  · rw [cell_of_row _ _ _ _ _ _ (heap_alloc_new w _), Nat.zero_add]
    have h2 : j = 0 ∨ j = 1 := by omega
    rcases h2 with rfl | rfl
    · cases Option.some.inj hj; rfl
    · cases Option.some.inj hj; rfl
  · rw [cell_of_row _ _ _ _ _ _ (heap_alloc_new w _), Nat.zero_add]
    have h2 : j = 0 ∨ j = 1 := by omega
    rcases h2 with rfl | rfl
    · cases Option.some.inj hj; rfl
    · cases Option.some.inj hj; rfl
def PvRel (l : List Pt) (w : World) (B : Nat) (vp : Value) (q : List UInt8) (n gk : Nat) (i : Value) (wr : World) : Prop :=
  ∃ k : Nat, k + gk = n ∧ i = iv k ∧ RowB wr vp q ∧ Below w.heap.size w wr
set_option maxRecDepth 100000 in
set_option maxHeartbeats 4000000 in
theorem polyDivides_walk (va vb : Value) (xi : Int) (vl : Value) (hxi : (Lit.int .u8 xi).wf = true) (w : World) (fa : ∃ xs : List Int, Row w va (xs.map (Value.int .u8)) ∧ ∀ n ∈ xs, (Lit.int .u8 n).wf = true)
    (fb : ∃ xs : List Int, Row w vb (xs.map (Value.int .u8)) ∧ ∀ n ∈ xs, (Lit.int .u8 n).wf = true) (fl : ∃ ls : List Pt, RowPt w vl ls) :
    Calls Try.prog 4 #[va, vb, .int .u8 xi, vl] w fun e w' => e = .returned (.bool true) ∧ Below w.heap.size w w' := by
  obtain ⟨xs, hrow, hwf⟩ := fa
  obtain ⟨a, hl⟩ := bytes_of xs hwf
  rw [hl] at hrow
  have HA : Hid (RowB w va a) := Lib.hid hrow
  clear hrow hl hwf xs
  obtain ⟨xs, hrow, hwf⟩ := fb
  obtain ⟨b, hl⟩ := bytes_of xs hwf
  rw [hl] at hrow
  have HB : Hid (RowB w vb b) := Lib.hid hrow
  clear hrow hl hwf xs
  obtain ⟨ls, hls⟩ := fl
  have HL := Lib.hid hls
  obtain ⟨x, rfl⟩ := byte_of hxi
  obtain ⟨pl, cl, rfl, hl1, hl2, hlc⟩ := hls
  have Hlc := Lib.hid hlc
  obtain ⟨nl, hnl⟩ : ∃ n, n = ls.length := ⟨_, rfl⟩
  rw [← hnl] at HL hl1 ⊢
  have Hnl := Lib.hid hnl
  have hb1 : Below w.heap.size w (w.alloc (.cells #[bv 0, bv 5, bv 1, bv 4] 35)) := (Below.refl _ _).alloc (Nat.le_refl _) _
  have HT := Lib.hid (through_any two _ _ (row_two w))
  unfold ThrPost at HT
  rw [two_F, two_thr, errV_0] at HT
  have HB1 := Lib.hid hb1
  have hz1 := hb1.size
  clear hnl hlc hxi hb1
  go_enter Try.func4, Try.ntmps4
  go_wp2_with fail
  refine HT.out.mono ?_
  rintro e w2 ⟨v2, rfl, hO2, hb2⟩
  have hO2 : OwnB w2 _ v2 [5, 1] := hO2
  have HB2 := Lib.hid (HB1.out.trans (hb2.mono hz1))
  obtain ⟨g2, o2, c2, rfl, _, _, _, _, k0, _⟩ := OwnB.cellAt hO2 (j := 0) (by simp)
  have k1 : w2.cell? ⟨g2, o2 + 1, none⟩ = some (bv 1) := by
    obtain ⟨_, _, _, hv, _, _, _, _, k1, _⟩ := OwnB.cellAt hO2 (j := 1) (by simp)
    injection hv with e1 _ _
    injection e1 with e1
    injection e1 with e1 e2
    subst e1 e2
    exact k1
  have k0' : w2.cell? ⟨g2, o2, none⟩ = some (bv 5) := k0
  simp only [List.length_cons, List.length_nil]
  clear hO2 hb2 HT HB1 hz1 k0
  have HD := Lib.hid (div_tot a b va vb w2 (RowB.below HA.out HB2.out) (RowB.below HB.out HB2.out))
  have hz2 := HB2.out.size
  obtain ⟨F, hF⟩ : ∃ F, F = Pl.dvF a b := ⟨_, rfl⟩
  rw [← hF] at HD
  have HF := Lib.hid hF
  clear hF
  go_wp2_with fail
  refine HD.out.mono ?_
  rintro e w3 ⟨vq, vr, rfl, hq, hr, hb3⟩
  have HQ := Lib.hid (OwnR.mono hq hz2)
  have HR := Lib.hid (OwnR.mono hr hz2)
  have HB3 := Lib.hid (HB2.out.trans (hb3.mono hz2))
  have hz3 := HB3.out.size
  clear hq hr hb3 HD k0' k1 HB2
  obtain ⟨b63, hb63⟩ : ∃ b63, b63 = (F == 0) := ⟨_, rfl⟩
  have Hb63 := Lib.hid hb63
  obtain ⟨ve, hve⟩ : ∃ ve, ve = errV F := ⟨_, rfl⟩
  rw [← hve]
  have Hve := Lib.hid hve
  clear hb63 hve
  go_upto_region 5 with (fail)
  go_cut [63] (fun z wq => z = .bool b63 ∧ w3 = wq)
  case first =>
    by_cases hf : F = 0
    · have hb : b63 = true := by rw [Hb63.out, hf]; rfl
      have he : ve = .nilIface := by rw [Hve.out, hf]; rfl
      clear Hve
      subst hb he
      go_wp2_with fail
      go_meet
      exact ⟨rfl, rfl⟩
    · have hb : b63 = false := by rw [Hb63.out]; exact beq_false_of_ne hf
      have he : ve = ev F := by rw [Hve.out, errV_ne hf]
      clear Hve
      subst hb he
      go_wp2_with fail
      go_meet
      exact ⟨rfl, rfl⟩
  case rest =>
    obtain ⟨rfl, rfl⟩ := hcut
    clear Hve
    go_upto_if 63 with (fail)
    go_cut [] (fun wq => ∃ wk, wk = wq ∧ Below w.heap.size w wk)
    case first =>
      cases b63 with
      | false =>
        go_wp2_with fail
        go_meet
        exact ⟨_, rfl, HB3.out⟩
      | true =>
        have hf : F = 0 := by have := Hb63.out; exact eq_of_beq this.symm
        have hd : Pl.dvF a b = 0 := by rw [← HF.out]; exact hf
        have hno := Pl.dv_no hd
        have hq1 : (Pl.quo a b).length ≤ 40 := by
          unfold Pl.quo; rw [Pl.trim_len]; have := Pl.tn_le (Gv.tab (a.length + 1 - (Pl.trim b).length) (Pl.qs a (Pl.trim b) (a.length + 1 - (Pl.trim b).length) (a.length + 1 - (Pl.trim b).length))) (Gv.tab (a.length + 1 - (Pl.trim b).length) (Pl.qs a (Pl.trim b) (a.length + 1 - (Pl.trim b).length) (a.length + 1 - (Pl.trim b).length))).length
          rw [Gv.tab_len] at this ⊢; omega
        have hp1 := Pl.prod_short (a := a) hno.2.2
        have hr1 := Pl.rst_short (a := a) hno.2.2
        have hb1 : (Pl.trim b).length ≤ b.length := by rw [Pl.trim_len]; exact Pl.tn_le _ _
        have HQ2 : Hid (OwnB w3 w.heap.size vq (Pl.quo a b)) := Lib.hid (by have h := HQ.out; unfold Pl.quoR at h; rw [if_pos hd] at h; exact h)
        have HR2 : Hid (OwnB w3 w.heap.size vr (Pl.rst a b)) := Lib.hid (by have h := HR.out; unfold Pl.rstR at h; rw [if_pos hd] at h; exact h)
        have HM := Lib.hid (pmul_any (Pl.quo a b) b hq1 hno.2.1 vq vb w3 (OwnB.row HQ2.out) (RowB.below HB.out HB3.out))
        have HS := Lib.hid (Pl.div_sum (a := a) hno.2.2)
        obtain ⟨m, hm⟩ : ∃ m, m = Pl.trim (Pl.conv (Pl.quo a b) b) := ⟨_, rfl⟩
        unfold MulPost at HM
        rw [← hm] at HM HS hp1
        obtain ⟨r, hr⟩ : ∃ r, r = Pl.rst a b := ⟨_, rfl⟩
        rw [← hr] at HR2 HS hr1
        have Ha40 : a.length ≤ 40 := hno.1
        have Hb40 : b.length ≤ 40 := hno.2.1
        clear hf hd hno hq1 HQ HR HQ2 hm hr
        go_wp2_with fail
        refine HM.out.mono ?_
        rintro e w4 ⟨vm, rfl, hO4, hb4⟩
        have HO4 := Lib.hid hO4
        have HR4 := Lib.hid (OwnR.below HR2.out hb4)
        have HB4 := Lib.hid (HB3.out.trans (hb4.mono hz3))
        have hz4 := HB4.out.size
        have HAd := Lib.hid (padd_any m r (by omega) (by omega) vm vr w4 (OwnB.row HO4.out) (OwnB.row HR4.out))
        unfold AddPost at HAd
        rw [HS.out] at HAd
        clear hO4 hb4 HM HR2
        go_wp2_with fail
        refine HAd.out.mono ?_
        rintro e w5 ⟨vs, rfl, hO5, hb5⟩
        have HO5 := Lib.hid hO5
        have HR5 := Lib.hid (OwnR.below HR4.out hb5)
        have HB5 := Lib.hid (HB4.out.trans (hb5.mono hz4))
        have hz5 := HB5.out.size
        have HTa := Lib.hid (trim_any a (by omega) va w5 (RowB.below HA.out HB5.out))
        unfold TrimPost at HTa
        clear hO5 hb5 HAd HR4
        go_wp2_with fail
        refine HTa.out.mono ?_
        rintro e w6 ⟨vt, rfl, hO6, hb6⟩
        have HBy := Lib.hid (bytes_any (Pl.trim a) (Pl.trim a) vs vt w6 (OwnR.below HO5.out hb6) hO6)
        rw [beq_self_eq_true] at HBy
        have HR6 := Lib.hid (OwnR.below HR5.out hb6)
        have HB6 := Lib.hid (HB5.out.trans (hb6.mono hz5))
        have hz6 := HB6.out.size
        have HTb := Lib.hid (trim_any b (by omega) vb w6 (RowB.below HB.out HB6.out))
        unfold TrimPost at HTb
        obtain ⟨pr, cr, rfl, _, _⟩ := RowB.shape (OwnB.row HR6.out)
        clear hO6 hb6 HTa HR5 HO5
        go_wp2_with fail
        refine HBy.out.mono ?_
        rintro e w7 ⟨rfl, rfl⟩
        go_wp2_with fail
        refine HTb.out.mono ?_
        rintro e w8 ⟨vt2, rfl, hO8, hb8⟩
        have HB8 := Lib.hid (HB6.out.trans (hb8.mono hz6))
        obtain ⟨p8, c8, rfl, _, _⟩ := RowB.shape (OwnB.row hO8)
        have hlt : ¬ ((Pl.trim b).length : Int) ≤ (r.length : Int) := by omega
        clear hO8 hb8 HTb HBy
        go_wp2_with fail
        go_meet
        exact ⟨_, rfl, HB8.out⟩
    case rest =>
      obtain ⟨wP, hwP, hBP⟩ := hcut
      subst hwP
      have HBP := Lib.hid hBP
      have hzP := hBP.size
      clear hBP HB3 HQ HR HF Hb63 hz3
      clear F
      have HM := Lib.hid (mul_tot a b va vb wP (RowB.below HA.out HBP.out) (RowB.below HB.out HBP.out))
      obtain ⟨F, hF⟩ : ∃ F, F = Pl.fullF a b := ⟨_, rfl⟩
      rw [← hF] at HM
      have HF := Lib.hid hF
      clear hF
      go_wp2_with fail
      refine HM.out.mono ?_
      rintro e w4 ⟨vm, rfl, hO4, hb4⟩
      have HO4 := Lib.hid hO4
      have HB4 := Lib.hid (HBP.out.trans (hb4.mono hzP))
      have hz4 := HB4.out.size
      obtain ⟨pm, cm, rfl, _, _⟩ := RowB.shape (OwnB.row hO4)
      obtain ⟨lm, hlm⟩ : ∃ lm, lm = (Pl.mulR a b).length := ⟨_, rfl⟩
      rw [← hlm] at HO4 ⊢
      have Hlm := Lib.hid hlm
      obtain ⟨ve, hve⟩ : ∃ ve, ve = errV F := ⟨_, rfl⟩
      rw [← hve]
      have Hve := Lib.hid hve
      obtain ⟨b9, hb9⟩ : ∃ b9, b9 = (F == 0 && decide (lm ≤ 40)) := ⟨_, rfl⟩
      have Hb9 := Lib.hid hb9
      clear hb9 hve hlm hO4 hb4 HM HBP
      go_upto_region 11 with (fail)
      go_cut [109] (fun z wq => z = .bool b9 ∧ w4 = wq)
      case first =>
        by_cases hf : F = 0
        · have he : ve = .nilIface := by rw [Hve.out, hf]; rfl
          clear Hve
          by_cases h40 : lm ≤ 40
          · have hb : b9 = true := by rw [Hb9.out, hf, dec_t h40]; rfl
            have t1 : (lm : Int) ≤ 40 := by omega
            clear h40
            subst hb he
            go_wp2_with fail
            go_meet
            exact ⟨rfl, rfl⟩
          · have hb : b9 = false := by rw [Hb9.out, dec_f h40, Bool.and_false]
            have t1 : ¬ (lm : Int) ≤ 40 := by omega
            clear h40
            subst hb he
            go_wp2_with fail
            go_meet
            exact ⟨rfl, rfl⟩
        · have hb : b9 = false := by rw [Hb9.out, beq_false_of_ne hf]; rfl
          have he : ve = ev F := by rw [Hve.out, errV_ne hf]
          clear Hve
          subst hb he
          go_wp2_with fail
          go_meet
          exact ⟨rfl, rfl⟩
      case rest =>
        obtain ⟨rfl, rfl⟩ := hcut
        clear Hve
        go_upto_if 109 with (fail)
        go_cut [] (fun wq => ∃ wk, wk = wq ∧ Below w.heap.size w wk)
        case first =>
          cases b9 with
          | false =>
            go_wp2_with fail
            go_meet
            exact ⟨_, rfl, HB4.out⟩
          | true =>
            have hb9 := Hb9.out
            have hff : F = 0 ∧ lm ≤ 40 := by
              have h := hb9.symm
              rw [Bool.and_eq_true, decide_eq_true_eq] at h
              exact ⟨eq_of_beq h.1, h.2⟩
            have hno := Pl.full_no (HF.out ▸ hff.1)
            have hmu : Pl.mulR a b = Pl.trim (Pl.conv a b) := by unfold Pl.mulR; rw [if_neg (by omega)]
            have hlen : (Pl.trim (Pl.conv a b)).length ≤ 40 := by rw [← hmu, ← Hlm.out]; exact hff.2
            rw [hmu] at HO4
            have hev : Pl.ev (Pl.trim (Pl.conv a b)) x = Gf.mul (Pl.ev a x) (Pl.ev b x) := by rw [Pl.ev_trim, Pl.ev_conv]
            have HE1 := Lib.hid (eval_any a hno.1 x va w4 (RowB.below HA.out HB4.out))
            have HE2 := Lib.hid (fun W h => eval_any b hno.2 x vb W (RowB.below HB.out h))
            have HE3 := Lib.hid (fun W h => eval_any (Pl.trim (Pl.conv a b)) hlen x (.slice pm lm cm) W (OwnB.row (OwnR.below HO4.out h)))
            rw [hev] at HE3
            obtain ⟨y1, hy1⟩ : ∃ y, y = Pl.ev a x := ⟨_, rfl⟩
            obtain ⟨y2, hy2⟩ : ∃ y, y = Pl.ev b x := ⟨_, rfl⟩
            obtain ⟨y3, hy3⟩ : ∃ y, y = Gf.mul y1 y2 := ⟨_, rfl⟩
            rw [← hy1] at HE1 HE3
            rw [← hy2] at HE2 HE3
            rw [← hy3] at HE3
            have HMu := Lib.hid (fun W => mul_any y1 y2 _ _ rfl rfl W)
            rw [← hy3] at HMu
            clear hb9 hff hno hmu hlen hev hy1 hy2 hy3 HF Hb9
            go_wp2_with fail
            refine HE1.out.mono ?_
            rintro e w5 ⟨rfl, hb5⟩
            have HB5 := Lib.hid (HB4.out.trans (hb5.mono hz4))
            have HE2' := Lib.hid (HE2.out w5 HB5.out)
            have hz5 := hb5.size
            have HBa := Lib.hid hb5
            clear hb5 HE1 HE2
            go_wp2_with fail
            refine HE2'.out.mono ?_
            rintro e w6 ⟨rfl, hb6⟩
            have HBb := Lib.hid (HBa.out.trans (hb6.mono hz5))
            have HE3' := Lib.hid (HE3.out w6 HBb.out)
            have hz6 := HBb.out.size
            clear hb6 HE3 HE2' HBa
            go_wp2_with fail
            refine HE3'.out.mono ?_
            rintro e w7 ⟨rfl, hb7⟩
            have HBc := Lib.hid (HBb.out.trans (hb7.mono hz6))
            have HB7 := Lib.hid (HB4.out.trans (HBc.out.mono hz4))
            clear hb7 HE3' HBb HBc
            go_wp2_with fail
            refine (HMu.out _).mono ?_
            rintro e w8 ⟨rfl, rfl⟩
            go_wp2_with fail
            go_meet
            exact ⟨_, rfl, HB7.out⟩
        case rest =>
          obtain ⟨wP, hwP, hBP⟩ := hcut
          subst hwP
          have HBP := Lib.hid hBP
          have hzP := hBP.size
          clear hBP HB4 HO4 HF Hlm Hb9 hz4
          clear F
          have HT := Lib.hid (through_any ls _ wP (RowPt.below HL.out HBP.out))
          unfold ThrPost at HT
          obtain ⟨F, hF⟩ : ∃ F, F = Pl.thF ls := ⟨_, rfl⟩
          rw [← hF] at HT
          have HF := Lib.hid hF
          clear hF
          by_cases hf : F = 0
          · subst hf
            rw [errV_0, if_pos rfl] at HT
            have hth := HF.out
            have h40 : ls.length ≤ 40 ∧ Pl.clash ls ls.length = false := by
              unfold Pl.thF at hth
              by_cases h1 : 40 < ls.length
              · rw [if_pos h1] at hth; cases hth
              · rw [if_neg h1] at hth
                by_cases h2 : Pl.clash ls ls.length = true
                · rw [if_pos h2] at hth; cases hth
                · exact ⟨by omega, by simpa using h2⟩
            have Hat := Lib.hid (Pl.thr_at ls ls.length (Nat.le_refl _) h40.2)
            have hpl : (Pl.trim (Pl.thr ls ls.length)).length ≤ ls.length := by
              rw [Pl.trim_len]
              have := Pl.tn_le (Pl.thr ls ls.length) (Pl.thr ls ls.length).length
              rw [Pl.thr_len] at this ⊢
              exact this
            have hn40 : nl ≤ 40 := by rw [Hnl.out]; exact h40.1
            rw [← Hnl.out] at hpl HT Hat
            obtain ⟨q, hq⟩ : ∃ q, q = Pl.trim (Pl.thr ls nl) := ⟨_, rfl⟩
            have Hev : Hid (∀ i, i < nl → Pl.ev q (pnt ls i).1 = (pnt ls i).2) := Lib.hid (fun i hi => by rw [hq, Pl.ev_trim]; exact Hat.out i hi)
            rw [← hq] at hpl HT
            clear hth h40 hq HF Hat
            go_wp2_with fail
            refine HT.out.mono ?_
            rintro e w4 ⟨vp, rfl, hO4, hb4⟩
            have HB4 := Lib.hid (HBP.out.trans (hb4.mono hzP))
            have HQ4 := Lib.hid (OwnB.row hO4)
            obtain ⟨pq, cq, rfl, _, _⟩ := RowB.shape (OwnB.row hO4)
            obtain ⟨lq, hlq⟩ : ∃ lq, lq = q.length := ⟨_, rfl⟩
            rw [← hlq] at HQ4 hpl ⊢
            have Hlq := Lib.hid hlq
            have tle : decide (nl < lq) = false := dec_f (by omega)
            clear hlq hO4 hb4 HT HBP
            go_wp2_with fail
            clear tle
            go_loopg [26, 27, 28] nl (fun gk v26 v27 v28 wr => PvRel ls w w.heap.size (.slice pq lq cq) q nl gk v26 wr)
            case atStart => exact ⟨0, by omega, rfl, HQ4.out, HB4.out⟩
            case round =>
              clear HQ4 HB4
              obtain ⟨k, hk, rfl, hQ, hB⟩ := hrel
              have Hk := Lib.hid hk
              have HQ := Lib.hid hQ
              have HBr := Lib.hid hB
              have hz := hB.size
              clear hk hQ hB
              by_cases hkn : k < nl
              · have hl := Pl.pnt_get (l := ls) (k := k) (by rw [← Hnl.out]; exact hkn)
                have hev := Hev.out k hkn
                obtain ⟨pt, hpt⟩ : ∃ pt, pt = pnt ls k := ⟨_, rfl⟩
                rw [← hpt] at hl hev
                obtain ⟨px, py⟩ := pt
                obtain ⟨g, off, hpe, hg, c0, c1⟩ := Hlc.out k _ hl
                subst hpe
                have d0 : wr.cell? ⟨g, off + k * 2, none⟩ = some (bv px) := (HBr.out.cell (p := ⟨g, off + k * 2, none⟩) hg).trans c0
                have hgr : g < wr.heap.size := by omega
                have HE := Lib.hid (eval_any q (by rw [← Hlq.out]; omega) px _ wr HQ.out)
                rw [show Pl.ev q px = py from hev] at HE
                clear hl hev hpt c0
                go_wp2_with fail
                refine HE.out.mono ?_
                rintro e w5 ⟨rfl, hb5⟩
                have HB5 := Lib.hid (HBr.out.trans (hb5.mono hz))
                have HQ5 := Lib.hid (RowB.below HQ.out hb5)
                have d1 : w5.cell? ⟨g, off + k * 2 + 1, none⟩ = some (bv py) := (HB5.out.cell (p := ⟨g, off + k * 2 + 1, none⟩) hg).trans c1
                clear hb5 HE d0 c1
                go_wp2_with fail
                go_roundg (gk - 1)
                case measure => have := Hk.out; omega
                case rel => exact ⟨k + 1, by have := Hk.out; omega, by go_num, HQ5.out, HB5.out⟩
              · go_wp2_with fail
                go_ret
                exact ⟨rfl, HBr.out⟩
          · rw [errV_ne hf] at HT
            clear HF
            go_wp2_with fail
            refine HT.out.mono ?_
            rintro e w4 ⟨vp, rfl, hO4, hb4⟩
            have HB4 := Lib.hid (HBP.out.trans (hb4.mono hzP))
            clear hO4 hb4
            go_wp2_with fail
            go_ret
            exact ⟨rfl, HB4.out⟩
end Go.Proofs.Ytbikmodfmckaeaa
