/- The walk of the law PolyTells: it returns true. -/
import Derived.Test.YtbikmodfmckaeaaDoorRPolT
import Derived.Test.YtbikmodfmckaeaaDoorPolE
import Derived.Test.YtbikmodfmckaeaaDoorSame
namespace Go.Proofs.YtbikmodfmckaeaaDoor
open Go.ChangeShapes Go.WideShapes Go.ChangeAt Go.RowKit
set_option linter.unusedVariables false
/-- the fault so far, of points -/
def ptF (l : List Pl.Pt) (k : Nat) : Int := if Pl.clash l k then 7 else 0
theorem clash_succ (l : List Pl.Pt) (k : Nat) : Pl.clash l (k + 1) = (Pl.clash l k || (l.take k).any (fun q => q.1 == (Pl.pnt l k).1)) := rfl
theorem any_take (l : List Pl.Pt) (x : UInt8) (k : Nat) (hk : k < l.length) : (l.take (k + 1)).any (fun q => q.1 == x) = ((l.take k).any (fun q => q.1 == x) || ((Pl.pnt l k).1 == x)) := by
  rw [List.take_add_one, Pl.pnt_get hk, List.any_append]; simp
def thrR (l : List Pl.Pt) : List UInt8 := if Pl.thF l = 0 then Pl.trim (Pl.thr l l.length) else []
def ptE (l : List Pl.Pt) (k : Nat) : Int := if 40 < l.length then 4 else ptF l k
theorem ptE_end {l : List Pl.Pt} {k : Nat} (hk : k ≤ l.length) (h : k = l.length ∨ ptE l k ≠ 0) : ptE l k = Pl.thF l := by
  unfold ptE ptF Pl.thF at *
  by_cases h4 : 40 < l.length
  · rw [if_pos h4, if_pos h4]
  · rw [if_neg h4, if_neg h4] at *
    rcases h with rfl | h
    · rfl
    · cases hc : Pl.clash l k with
      | false => rw [hc] at h; exact absurd rfl h
      | true => rw [Pl.clash_mono hc hk]
def PtRel (l : List Pl.Pt) (w : World) (n gk : Nat) (v10 v24 : Value) (wr : World) : Prop :=
  ∃ k : Nat, k + gk = n ∧ v24 = iv k ∧ v10 = iv (ptE l k) ∧ Below w.heap.size w wr
def ptI (l : List Pl.Pt) (i k : Nat) : Int := if (l.take k).any (fun q => q.1 == (Pl.pnt l i).1) then 7 else 0
def PtIn (l : List Pl.Pt) (i : Nat) (w : World) (gk : Nat) (v10 v25 : Value) (wr : World) : Prop :=
  ∃ k : Nat, k + gk = i ∧ v25 = iv k ∧ v10 = iv (ptI l i k) ∧ Below w.heap.size w wr
theorem bytes_yes (a : List UInt8) (va vb : Value) (w : World) {B1 B2 : Nat} (ha : OwnB w B1 va a) (hb : OwnB w B2 vb a) :
    Calls Tryd.prog 9 #[va, vb] w fun e w' => e = .returned (.bool true) ∧ w = w' :=
  (bytes_any a a va vb w ha hb).mono (by rintro e w' ⟨rfl, rfl⟩; exact ⟨by rw [beq_self_eq_true], rfl⟩)
set_option maxRecDepth 100000 in
set_option maxHeartbeats 8000000 in
theorem polyTells_walk (va vb : Value) (xi : Int) (vl : Value) (hxi : (Lit.int .u8 xi).wf = true) (w : World) (hg : Handle w) (fa : ∃ xs : List Int, Row w va (xs.map (Value.int .u8)) ∧ ∀ n ∈ xs, (Lit.int .u8 n).wf = true) (ra : ∀ p n c, va = .slice p n c → n ≤ 140737488351232)
    (fb : ∃ xs : List Int, Row w vb (xs.map (Value.int .u8)) ∧ ∀ n ∈ xs, (Lit.int .u8 n).wf = true) (rb : ∀ p n c, vb = .slice p n c → n ≤ 140737488351232) (fl : ∃ ls : List Pl.Pt, RowPt w vl ls) :
    Calls Tryd.prog 3 #[va, vb, .int .u8 xi, vl] w fun e w' => e = .returned (.bool true) ∧ Below w.heap.size w w' := by
  obtain ⟨x, rfl⟩ := byte_of hxi
  obtain ⟨xs, hrow, hwf⟩ := fa
  obtain ⟨a, ha⟩ := bytes_of xs hwf
  rw [ha] at hrow
  have HA : Hid (RowB w va a) := Lib.hid hrow
  clear hrow hwf ha xs hxi
  obtain ⟨xs, hrow, hwf⟩ := fb
  obtain ⟨b, hb⟩ := bytes_of xs hwf
  rw [hb] at hrow
  have HBv : Hid (RowB w vb b) := Lib.hid hrow
  clear hrow hwf hb xs
  obtain ⟨l, hl⟩ := fl
  have HL := Lib.hid hl
  obtain ⟨pa, ca, rfl, ha1, ha2⟩ := HA.out.shape
  obtain ⟨pb, cb, rfl, hb1, hb2⟩ := HBv.out.shape
  obtain ⟨pl, cl, rfl, hl1, hl2, _⟩ := hl
  have hla9 := ra _ _ _ rfl
  have hlb9 := rb _ _ _ rfl
  obtain ⟨na, hna⟩ : ∃ n, n = a.length := ⟨_, rfl⟩
  obtain ⟨nb, hnb⟩ : ∃ n, n = b.length := ⟨_, rfl⟩
  obtain ⟨nl, hnl⟩ : ∃ n, n = l.length := ⟨_, rfl⟩
  rw [← hna] at HA ha1 hla9 ⊢
  rw [← hnb] at HBv hb1 hlb9 ⊢
  rw [← hnl] at HL hl1 ⊢
  unfold maxLen at ha2 hb2
  have Hna := Lib.hid hna
  have Hnb := Lib.hid hnb
  have Hnl := Lib.hid hnl
  have Hg0 := Lib.hid hg
  have HT1 := Lib.hid (trim_any a (by rw [← Hna.out]; exact hla9) _ w HA.out)
  clear ra rb hg hna hnb hnl
  unfold TrimPost at HT1
  go_enter Tryd.func3, Tryd.ntmps3
  go_wp2_with fail
  refine HT1.out.mono ?_
  rintro e w1 ⟨v1, rfl, hO1, hb1'⟩
  have HB1 := Lib.hid hb1'
  have hz1 := hb1'.size
  have HO1 := Lib.hid hO1
  have HT2 := Lib.hid (rtrim_any a (by rw [← Hna.out]; exact hla9) _ w1 (HA.out.below hb1'))
  unfold TrimPost at HT2
  clear hO1 hb1' HT1
  go_wp2_with fail
  refine HT2.out.mono ?_
  rintro e w2 ⟨v2, rfl, hO2, hb2'⟩
  have HB2 := Lib.hid (HB1.out.trans (hb2'.mono hz1))
  have hz2 := HB2.out.size
  have HYy := Lib.hid (bytes_yes (Pl.trim a) v1 v2 w2 (OwnR.below HO1.out hb2') hO2)
  have Hg2 := Lib.hid (Hg0.out.below (Nat.le_refl _) HB2.out)
  clear hO2 hb2' HT2 HB1 HO1 Hg0
  go_wp2_with fail
  refine HYy.out.mono ?_
  rintro e w' ⟨rfl, rfl⟩
  clear HYy
  go_upto_if 35 with (fail)
  go_cut [10] (fun z wq => z = iv (Pl.evF a) ∧ w2 = wq)
  case first => as_aux_lemma =>
    by_cases h : 40 < na
    · have e : Pl.evF a = 4 := by unfold Pl.evF; exact if_pos (by rw [← Hna.out]; exact h)
      go_wp2_with fail
      go_meet
      exact ⟨by rw [e], rfl⟩
    · have e : Pl.evF a = 0 := by unfold Pl.evF; exact if_neg (by rw [← Hna.out]; exact h)
      go_wp2_with fail
      go_meet
      exact ⟨by rw [e], rfl⟩
  case rest =>
    obtain ⟨rfl, rfl⟩ := hcut
    go_upto_if 37 with (fail)
    go_cut [11] (fun z wq => z = bv (Pl.evR a x) ∧ ∃ wk, wk = wq ∧ Below w2.heap.size w2 wk)
    case first => as_aux_lemma =>
      by_cases h : 40 < na
      · have e : Pl.evF a = 4 := by unfold Pl.evF; exact if_pos (by rw [← Hna.out]; exact h)
        have e' : Pl.evR a x = 0 := by unfold Pl.evR; exact if_pos (by rw [← Hna.out]; exact h)
        have He' := Lib.hid e'
        have t1 : (Pl.evF a == 0) = false := by rw [e]; rfl
        clear e e'
        go_wp2_with fail
        go_meet
        exact ⟨by rw [He'.out]; rfl, _, rfl, Below.refl _ _⟩
      · have e : Pl.evF a = 0 := by unfold Pl.evF; exact if_neg (by rw [← Hna.out]; exact h)
        have e' : Pl.evR a x = Pl.ev a x := by unfold Pl.evR; exact if_neg (by rw [← Hna.out]; exact h)
        have He' := Lib.hid e'
        have t1 : (Pl.evF a == 0) = true := by rw [e]; rfl
        have HE := Lib.hid (reval_any a x _ w2 (HA.out.below HB2.out))
        clear e e'
        go_wp2_with fail
        refine HE.out.mono ?_
        rintro e w' ⟨rfl, n1, rfl⟩
        go_wp2_with fail
        go_meet
        exact ⟨by rw [He'.out], _, rfl, bdrew (Below.refl _ _) n1⟩
    case rest =>
      obtain ⟨rfl, w3, rfl, hb3⟩ := hcut
      have Hg3 := Lib.hid (Hg2.out.below (Nat.le_refl _) hb3)
      have HB3 := Lib.hid (HB2.out.trans (hb3.mono hz2))
      have hz3 := HB3.out.size
      have HE := Lib.hid (eval_tot a x _ w3 (HA.out.below HB3.out))
      clear hb3 Hg2 HB2
      go_wp2_with fail
      refine HE.out.mono ?_
      rintro e w4 ⟨rfl, hb4⟩
      have Hg4 := Lib.hid (Hg3.out.below (Nat.le_refl _) hb4)
      have HB4 := Lib.hid (HB3.out.trans (hb4.mono hz3))
      have hz4 := HB4.out.size
      clear hb4 Hg3 HB3 HE
      go_wp2_with fail
      refine (same_eq _ _ Hg4.out).mono ?_
      rintro e w5 ⟨rfl, hb5⟩
      have Hg5 := Lib.hid (Hg4.out.below (Nat.le_refl _) hb5)
      have HB5 := Lib.hid (HB4.out.trans (hb5.mono hz4))
      have hz5 := HB5.out.size
      clear hb5 Hg4 HB4
      obtain ⟨y, hy⟩ : ∃ y, y = Pl.evR a x := ⟨_, rfl⟩
      rw [← hy]
      clear hy
      go_upto_if 57 with (fail)
      go_cut [10] (fun z wq => z = iv (Pl.fullF a b) ∧ w5 = wq)
      case first => as_aux_lemma =>
        by_cases h : 40 < nb
        · have e : Pl.fullF a b = 4 := by unfold Pl.fullF; rw [if_pos (.inr (by rw [← Hnb.out]; exact h))]
          have He := Lib.hid e
          clear e
          go_wp2_with fail
          go_meet
          exact ⟨by rw [He.out], rfl⟩
        · have e : Pl.fullF a b = Pl.evF a := by
            unfold Pl.fullF Pl.evF
            by_cases h' : 40 < a.length
            · rw [if_pos h', if_pos (.inl h')]
            · rw [if_neg h', if_neg (fun hh => hh.elim h' (fun h2 => h (by rw [Hnb.out]; exact h2)))]
          have He := Lib.hid e
          clear e
          go_wp2_with fail
          go_meet
          exact ⟨by rw [He.out], rfl⟩
      case rest =>
        obtain ⟨rfl, rfl⟩ := hcut
        go_upto_if 59 with (fail)
        go_cut [15, 16] (fun z u wq => ∃ wk, wk = wq ∧ OwnB wk w.heap.size z (Pl.addR a b) ∧ OwnB wk w.heap.size u (Pl.mulR a b) ∧ Below w5.heap.size w5 wk)
        case first => as_aux_lemma =>
          by_cases h : 40 < a.length ∨ 40 < b.length
          · have e : Pl.fullF a b = 4 ∧ Pl.addR a b = [] ∧ Pl.mulR a b = [] := by unfold Pl.fullF Pl.addR Pl.mulR; rw [if_pos h, if_pos h, if_pos h]; exact ⟨rfl, rfl, rfl⟩
            have t1 : (Pl.fullF a b == 0) = false := by rw [e.1]; rfl
            have He := Lib.hid e.2
            clear e
            go_wp2_with fail
            go_meet
            exact ⟨_, rfl, by rw [He.out.1]; exact OwnR.nil _ _ _, by rw [He.out.2]; exact OwnR.nil _ _ _, Below.refl _ _⟩
          · have e : Pl.fullF a b = 0 ∧ Pl.addR a b = Pl.trim (Pl.plus a b) ∧ Pl.mulR a b = Pl.trim (Pl.conv a b) := by unfold Pl.fullF Pl.addR Pl.mulR; rw [if_neg h, if_neg h, if_neg h]; exact ⟨rfl, rfl, rfl⟩
            have t1 : (Pl.fullF a b == 0) = true := by rw [e.1]; rfl
            have He := Lib.hid e.2
            have HS := Lib.hid (rsum_any a b (by omega) (by omega) _ _ w5 (HA.out.below HB5.out) (HBv.out.below HB5.out))
            unfold TrimPost at HS
            clear e
            go_wp2_with fail
            refine HS.out.mono ?_
            rintro e w6 ⟨v6, rfl, hO6, hb6⟩
            have HO6 := Lib.hid hO6
            have HP := Lib.hid (rprod_any a b (by omega) (by omega) _ _ w6 ((HA.out.below HB5.out).below hb6) ((HBv.out.below HB5.out).below hb6))
            unfold TrimPost at HP
            have Hb6 := Lib.hid hb6
            clear hO6 hb6 HS
            go_wp2_with fail
            refine HP.out.mono ?_
            rintro e w7 ⟨v7, rfl, hO7, hb7⟩
            have HO7 := Lib.hid (OwnR.mono hO7 (Nat.le_trans hz5 Hb6.out.size))
            have HO6' := Lib.hid (OwnR.mono (OwnR.below HO6.out hb7) hz5)
            have Hb7 := Lib.hid (Hb6.out.trans (hb7.mono Hb6.out.size))
            clear hO7 hb7 HP HO6
            go_wp2_with fail
            go_meet
            exact ⟨_, rfl, by rw [He.out.1]; exact HO6'.out, by rw [He.out.2]; exact HO7.out, Hb7.out⟩
        case rest =>
          obtain ⟨w6, rfl, hO15, hO16, hb6⟩ := hcut
          have HO15 := Lib.hid hO15
          have HO16 := Lib.hid hO16
          have Hg6 := Lib.hid (Hg5.out.below (Nat.le_refl _) hb6)
          have HB6 := Lib.hid (HB5.out.trans (hb6.mono hz5))
          have hz6 := HB6.out.size
          have HE := Lib.hid (add_tot a b _ _ w6 (HA.out.below HB6.out) (HBv.out.below HB6.out))
          clear hb6 hO15 hO16 HB5 Hg5
          go_wp2_with fail
          refine HE.out.mono ?_
          rintro e w7 ⟨v7, rfl, hO7, hb7⟩
          have Hg7 := Lib.hid (Hg6.out.below (Nat.le_refl _) hb7)
          have HB7 := Lib.hid (HB6.out.trans (hb7.mono hz6))
          have hz7 := HB7.out.size
          have HO7 := Lib.hid hO7
          have HS15 := Lib.hid (OwnR.below HO15.out hb7)
          have HS16 := Lib.hid (OwnR.below HO16.out hb7)
          clear hO7 hb7 HE HO15 HO16 HB6 Hg6
          go_wp2_with fail
          refine (same_eq _ _ Hg7.out).mono ?_
          rintro e w8 ⟨rfl, hb8⟩
          have Hg8 := Lib.hid (Hg7.out.below (Nat.le_refl _) hb8)
          have HB8 := Lib.hid (HB7.out.trans (hb8.mono hz7))
          have hz8 := HB8.out.size
          have HYy := Lib.hid (bytes_yes (Pl.addR a b) v7 u15 w8 (OwnR.below HO7.out hb8) (OwnR.below HS15.out hb8))
          have HO16 := Lib.hid (OwnR.below HS16.out hb8)
          clear hb8 HO7 HS15 HS16 HB7 Hg7
          go_wp2_with fail
          refine HYy.out.mono ?_
          rintro e w' ⟨rfl, rfl⟩
          have HE := Lib.hid (mul_tot a b _ _ w8 (HA.out.below HB8.out) (HBv.out.below HB8.out))
          clear HYy
          go_wp2_with fail
          refine HE.out.mono ?_
          rintro e w9 ⟨v9, rfl, hO9, hb9⟩
          have Hg9 := Lib.hid (Hg8.out.below (Nat.le_refl _) hb9)
          have HB9 := Lib.hid (HB8.out.trans (hb9.mono hz8))
          have hz9 := HB9.out.size
          have HO9 := Lib.hid hO9
          have HS16 := Lib.hid (OwnR.below HO16.out hb9)
          clear hO9 hb9 HE HO16 HB8 Hg8
          go_wp2_with fail
          refine (same_eq _ _ Hg9.out).mono ?_
          rintro e w10 ⟨rfl, hb10⟩
          have Hg10 := Lib.hid (Hg9.out.below (Nat.le_refl _) hb10)
          have HB10 := Lib.hid (HB9.out.trans (hb10.mono hz9))
          have hz10 := HB10.out.size
          have HYy := Lib.hid (bytes_yes (Pl.mulR a b) v9 u16 w10 (OwnR.below HO9.out hb10) (OwnR.below HS16.out hb10))
          clear hb10 HO9 HS16 HB9 Hg9
          go_wp2_with fail
          refine HYy.out.mono ?_
          rintro e w' ⟨rfl, rfl⟩
          clear HYy
          obtain ⟨bz, hbz⟩ : ∃ bz : Bool, bz = decide (Pl.fullF a b = 0 ∧ (Pl.trim b).length = 0) := ⟨_, rfl⟩
          have Hbz := Lib.hid hbz
          clear hbz
          go_upto_region 20 with (fail)
          go_cut [101] (fun z wq => z = .bool bz ∧ ∃ wk, wk = wq ∧ Below w10.heap.size w10 wk)
          case first => as_aux_lemma =>
            by_cases h : 40 < a.length ∨ 40 < b.length
            · have e : Pl.fullF a b = 4 := by unfold Pl.fullF; rw [if_pos h]
              have ez : bz = false := by rw [Hbz.out, e]; rfl
              have Hez := Lib.hid ez
              have t1 : (Pl.fullF a b == 0) = false := by rw [e]; rfl
              clear e ez
              go_wp2_with fail
              go_meet
              exact ⟨by rw [Hez.out], _, rfl, Below.refl _ _⟩
            · have e : Pl.fullF a b = 0 := by unfold Pl.fullF; rw [if_neg h]
              obtain ⟨n0, hn0⟩ : ∃ n, n = (Pl.trim b).length := ⟨_, rfl⟩
              have ez : bz = ((n0 : Int) == 0) := by
                rw [Hbz.out, e, hn0]
                by_cases h0 : (Pl.trim b).length = 0
                · rw [dec_t ⟨rfl, h0⟩, beq_t (by omega)]
                · rw [dec_f (fun hh => h0 hh.2), beq_f (by omega)]
              have Hez := Lib.hid ez
              have Hn0 := Lib.hid hn0
              have HT := Lib.hid (rtrim_any b (by rw [← Hnb.out]; exact hlb9) _ w10 (HBv.out.below HB10.out))
              unfold TrimPost at HT
              have t1 : (Pl.fullF a b == 0) = true := by rw [e]; rfl
              clear e ez hn0
              go_wp2_with fail
              refine HT.out.mono ?_
              rintro e w11 ⟨v11, rfl, hO, hb⟩
              obtain ⟨p, c, rfl, _, _⟩ := RowB.shape (OwnB.row hO)
              rw [← Hn0.out]
              have Hb := Lib.hid hb
              clear hO hb HT
              go_wp2_with fail
              go_meet
              exact ⟨by rw [Hez.out], _, rfl, Hb.out⟩
          case rest =>
            obtain ⟨rfl, w11, rfl, hb11⟩ := hcut
            have Hg11 := Lib.hid (Hg10.out.below (Nat.le_refl _) hb11)
            have HB11 := Lib.hid (HB10.out.trans (hb11.mono hz10))
            have hz11 := HB11.out.size
            clear hb11 HB10 Hg10
            go_upto_if 101 with (fail)
            go_cut [10, 17, 18] (fun z q r wq => z = iv (Pl.dvF a b) ∧ ∃ wk, wk = wq ∧ OwnB wk w.heap.size q (Pl.quoR a b) ∧ OwnB wk w.heap.size r (Pl.rstR a b) ∧ Below w11.heap.size w11 wk)
            case first => as_aux_lemma =>
              by_cases h : 40 < a.length ∨ 40 < b.length
              · have e : Pl.fullF a b = 4 := by unfold Pl.fullF; rw [if_pos h]
                have ed : Pl.dvF a b = 4 := by unfold Pl.dvF; rw [if_pos h]
                obtain rfl : bz = false := by rw [Hbz.out, e]; rfl
                have t1 : (Pl.fullF a b == 0) = false := by rw [e]; rfl
                have Hed := Lib.hid ed
                have He := Lib.hid e
                clear e ed
                go_wp2_with fail
                go_meet
                unfold Pl.quoR Pl.rstR
                rw [Hed.out, if_neg (by decide), if_neg (by decide)]
                exact ⟨by rw [He.out], _, rfl, OwnR.nil _ _ _, OwnR.nil _ _ _, Below.refl _ _⟩
              · have e : Pl.fullF a b = 0 := by unfold Pl.fullF; rw [if_neg h]
                by_cases h0 : (Pl.trim b).length = 0
                · have ed : Pl.dvF a b = 5 := by unfold Pl.dvF; rw [if_neg h, if_pos h0]
                  obtain rfl : bz = true := by rw [Hbz.out, e]; exact dec_t ⟨rfl, h0⟩
                  have Hed := Lib.hid ed
                  clear e ed
                  go_wp2_with fail
                  go_meet
                  unfold Pl.quoR Pl.rstR
                  rw [Hed.out, if_neg (by decide), if_neg (by decide)]
                  exact ⟨rfl, _, rfl, OwnR.nil _ _ _, OwnR.nil _ _ _, Below.refl _ _⟩
                · have ed : Pl.dvF a b = 0 := by unfold Pl.dvF; rw [if_neg h, if_neg h0]
                  obtain rfl : bz = false := by rw [Hbz.out, e]; exact dec_f (fun hh => h0 hh.2)
                  have t1 : (Pl.fullF a b == 0) = true := by rw [e]; rfl
                  have Hed := Lib.hid ed
                  have He := Lib.hid e
                  have HD := Lib.hid (rdivmod_any a b h0 (by omega) (by omega) _ _ w11 (HA.out.below HB11.out) (HBv.out.below HB11.out))
                  unfold RDvPost at HD
                  clear e ed
                  go_wp2_with fail
                  refine HD.out.mono ?_
                  rintro e w12 ⟨v1, v2, rfl, hO1, hO2, hb⟩
                  have HO1 := Lib.hid (OwnR.mono hO1 hz11)
                  have HO2 := Lib.hid (OwnR.mono hO2 hz11)
                  have Hb := Lib.hid hb
                  clear hO1 hO2 hb HD
                  go_wp2_with fail
                  go_meet
                  unfold Pl.quoR Pl.rstR
                  rw [Hed.out, if_pos rfl, if_pos rfl]
                  exact ⟨by rw [He.out], _, rfl, HO1.out, HO2.out, Hb.out⟩
            case rest =>
              obtain ⟨rfl, w12, rfl, hO17, hO18, hb12⟩ := hcut
              have Hg12 := Lib.hid (Hg11.out.below (Nat.le_refl _) hb12)
              have HB12 := Lib.hid (HB11.out.trans (hb12.mono hz11))
              have hz12 := HB12.out.size
              have HO17 := Lib.hid hO17
              have HO18 := Lib.hid hO18
              have HE := Lib.hid (div_tot a b _ _ w12 (HA.out.below HB12.out) (HBv.out.below HB12.out))
              clear hb12 hO17 hO18 HB11 Hg11
              go_wp2_with fail
              refine HE.out.mono ?_
              rintro e w13 ⟨v13, v22, rfl, hO13, hO22, hb13⟩
              have Hg13 := Lib.hid (Hg12.out.below (Nat.le_refl _) hb13)
              have HB13 := Lib.hid (HB12.out.trans (hb13.mono hz12))
              have hz13 := HB13.out.size
              have HO13 := Lib.hid hO13
              have HO22 := Lib.hid hO22
              have HS17 := Lib.hid (OwnR.below HO17.out hb13)
              have HS18 := Lib.hid (OwnR.below HO18.out hb13)
              clear hb13 hO13 hO22 HE HO17 HO18 HB12 Hg12
              go_wp2_with fail
              refine (same_eq _ _ Hg13.out).mono ?_
              rintro e w14 ⟨rfl, hb14⟩
              have Hg14 := Lib.hid (Hg13.out.below (Nat.le_refl _) hb14)
              have HB14 := Lib.hid (HB13.out.trans (hb14.mono hz13))
              have hz14 := HB14.out.size
              have HYy := Lib.hid (bytes_yes (Pl.quoR a b) v13 u17 w14 (OwnR.below HO13.out hb14) (OwnR.below HS17.out hb14))
              have HYz := Lib.hid (bytes_yes (Pl.rstR a b) v22 u18 w14 (OwnR.below HO22.out hb14) (OwnR.below HS18.out hb14))
              clear hb14 HO13 HO22 HS17 HS18 HB13 Hg13
              go_wp2_with fail
              refine HYy.out.mono ?_
              rintro e w' ⟨rfl, rfl⟩
              go_wp2_with fail
              refine HYz.out.mono ?_
              rintro e w' ⟨rfl, rfl⟩
              clear HYy HYz
              go_upto_if 132 with (fail)
              go_cut [10] (fun z wq => z = iv (ptE l 0) ∧ w14 = wq)
              case first => as_aux_lemma =>
                by_cases h : 40 < nl
                · have e : ptE l 0 = 4 := by unfold ptE; rw [if_pos (by rw [← Hnl.out]; exact h)]
                  have He := Lib.hid e
                  clear e
                  go_wp2_with fail
                  go_meet
                  exact ⟨by rw [He.out], rfl⟩
                · have e : ptE l 0 = 0 := by unfold ptE; rw [if_neg (by rw [← Hnl.out]; exact h)]; rfl
                  have He := Lib.hid e
                  clear e
                  go_wp2_with fail
                  go_meet
                  exact ⟨by rw [He.out], rfl⟩
              case rest =>
                obtain ⟨rfl, rfl⟩ := hcut
                have HL14 := Lib.hid (RowPt.below HL.out HB14.out)
                go_upto_block 0 with (fail)
                go_cut [10] (fun z wq => z = iv (Pl.thF l) ∧ ∃ wk, wk = wq ∧ Below w14.heap.size w14 wk)
                case first => as_aux_lemma =>
                  go_wp2_with fail
                  go_loopg [10, 24, 25] nl (fun gk v10 v24 v25 wr => PtRel l w14 nl gk v10 v24 wr)
                  case atStart => exact ⟨0, by omega, rfl, rfl, Below.refl _ _⟩
                  case round =>
                    obtain ⟨gO, hgO⟩ : ∃ x : Nat, x = gk := ⟨_, rfl⟩
                    obtain ⟨wO, hwO⟩ : ∃ x : World, x = wr := ⟨_, rfl⟩
                    subst hgO hwO
                    obtain ⟨k, hk, rfl, rfl, hB⟩ := hrel
                    obtain ⟨E, hE⟩ : ∃ E, E = ptE l k := ⟨_, rfl⟩
                    rw [← hE]
                    have HE := Lib.hid hE
                    have Hk := Lib.hid hk
                    have HB := Lib.hid hB
                    have hzO := hB.size
                    clear hE hB
                    by_cases hkn : k < nl
                    · by_cases hE0 : E = 0
                      · subst hE0
                        have h40 : ¬ 40 < l.length := by
                          intro h
                          have h2 := HE.out
                          unfold ptE at h2
                          rw [if_pos h] at h2; cases h2
                        have hcl : Pl.clash l k = false := by
                          have h2 := HE.out
                          unfold ptE ptF at h2
                          rw [if_neg h40] at h2
                          cases hc : Pl.clash l k with
                          | false => rfl
                          | true => rw [hc] at h2; cases h2
                        have hend : ptI l k k = ptE l (k + 1) := by
                          unfold ptE ptF ptI
                          rw [if_neg h40, clash_succ, hcl]; rfl
                        have Hend := Lib.hid hend
                        have hl9 : nl ≤ 40 := by rw [Hnl.out]; omega
                        have hi := Pl.pnt_get (l := l) (k := k) (by rw [← Hnl.out]; exact hkn)
                        obtain ⟨y, hy⟩ : ∃ y, y = Pl.pnt l k := ⟨_, rfl⟩
                        have Hy := Lib.hid hy
                        rw [← hy] at hi
                        obtain ⟨qx, qy⟩ := y
                        obtain ⟨_, _, hpe, _, _, hc⟩ := HL14.out
                        injection hpe with e1 e2 e3
                        subst e1 e3
                        obtain ⟨g, off, rfl, hg, c0, _⟩ := hc k _ hi
                        have d0 : wO.cell? ⟨g, off + k * 2, none⟩ = some (bv qx) := (HB.out.cell (p := ⟨g, _, none⟩) hg).trans c0
                        have Hc := Lib.hid hc
                        have tk : decide ((k : Int) < (nl : Int)) = true := dec_t (by omega)
                        clear hk h40 hcl hend hi hy c0 hc e2
                        go_wp2_with fail
                        go_loopg [10, 25] k (fun gk v10 v25 wr => PtIn l k wO gk v10 v25 wr)
                        case atStart => exact ⟨0, by omega, rfl, rfl, Below.refl _ _⟩
                        case round =>
                          obtain ⟨j, hj, rfl, rfl, hB2⟩ := hrel
                          obtain ⟨I, hI⟩ : ∃ I, I = ptI l k j := ⟨_, rfl⟩
                          rw [← hI]
                          have HI := Lib.hid hI
                          have Hj := Lib.hid hj
                          have HB2 := Lib.hid hB2
                          clear hI hB2 hj
                          by_cases hjk : j < k
                          · have hji := Pl.pnt_get (l := l) (k := j) (by rw [← Hnl.out]; omega)
                            obtain ⟨z, hz⟩ : ∃ z, z = Pl.pnt l j := ⟨_, rfl⟩
                            have Hz := Lib.hid hz
                            rw [← hz] at hji
                            obtain ⟨rx, ry⟩ := z
                            obtain ⟨g', off', hp', hg', c0, _⟩ := Hc.out j _ hji
                            injection hp' with hp'
                            injection hp' with e1 e2
                            subst e1 e2
                            have d2 : wr.cell? ⟨g, off + k * 2, none⟩ = some (bv qx) := (HB2.out.cell (p := ⟨g, _, none⟩) (Nat.lt_of_lt_of_le hg hzO)).trans d0
                            have d3 : wr.cell? ⟨g, off + j * 2, none⟩ = some (bv rx) := (HB2.out.cell (p := ⟨g, _, none⟩) (Nat.lt_of_lt_of_le hg hzO)).trans ((HB.out.cell (p := ⟨g, _, none⟩) hg).trans c0)
                            have hst : ptI l k (j + 1) = if rx = qx then 7 else ptI l k j := by
                              unfold ptI
                              rw [any_take _ _ _ (by rw [← Hnl.out]; omega), ← Hz.out, ← Hy.out]
                              by_cases e : rx = qx
                              · subst e; simp
                              · rw [if_neg e, beq_false_of_ne e, Bool.or_false]
                            have Hst := Lib.hid hst
                            clear hji hz c0 hst
                            by_cases e : rx = qx
                            · have t1 : ((rx.toNat : Int) == (qx.toNat : Int)) = true := beq_byte e
                              have He := Lib.hid e
                              clear e
                              go_wp2_with fail
                              go_quiet (fail)
                              go_wp2_with fail
                              go_roundg (gk - 1)
                              case measure => have := Hj.out; omega
                              case rel => exact ⟨j + 1, by have := Hj.out; omega, by go_num, by rw [Hst.out, if_pos He.out], bdrew HB2.out nq⟩
                            · have t1 : ((rx.toNat : Int) == (qx.toNat : Int)) = false := beq_f (fun h => e (UInt8.toNat_inj.1 (by omega)))
                              have He := Lib.hid e
                              clear e
                              go_wp2_with fail
                              go_quiet (fail)
                              go_wp2_with fail
                              go_roundg (gk - 1)
                              case measure => have := Hj.out; omega
                              case rel => exact ⟨j + 1, by have := Hj.out; omega, by go_num, by rw [Hst.out, if_neg He.out, HI.out], bdrew HB2.out nq⟩
                          · obtain rfl : j = k := by have := Hj.out; omega
                            have HB9 := Lib.hid (HB.out.trans (HB2.out.mono hzO))
                            clear HB2 d0
                            go_wp2_with fail
                            go_roundg (gO - 1)
                            case measure => have := Hk.out; omega
                            case rel => exact ⟨j + 1, by have := Hk.out; omega, by go_num, by rw [HI.out, Hend.out], HB9.out⟩
                      · have t1 : (E == 0) = false := beq_f hE0
                        have hfin := ptE_end (l := l) (k := k) (by rw [← Hnl.out]; omega) (.inr (by rw [← HE.out]; exact hE0))
                        have Hfin := Lib.hid hfin
                        clear hk hE0 hfin
                        go_wp2_with fail
                        go_meet
                        exact ⟨by rw [HE.out, Hfin.out], _, rfl, HB.out⟩
                    · have hfin := ptE_end (l := l) (k := k) (by rw [← Hnl.out]; omega) (.inl (by rw [← Hnl.out]; omega))
                      have Hfin := Lib.hid hfin
                      have t1 : ¬ (k : Int) < (nl : Int) := by omega
                      clear hk hfin
                      go_wp2_with fail
                      go_meet
                      exact ⟨by rw [HE.out, Hfin.out], _, rfl, HB.out⟩
                case rest =>
                  obtain ⟨rfl, w15, rfl, hb15⟩ := hcut
                  have Hg15 := Lib.hid (Hg14.out.below (Nat.le_refl _) hb15)
                  have HB15 := Lib.hid (HB14.out.trans (hb15.mono hz14))
                  have hz15 := HB15.out.size
                  clear hb15 HB14 Hg14 HL14
                  go_upto_if 160 with (fail)
                  go_cut [26] (fun z wq => ∃ wk, wk = wq ∧ OwnB wk w.heap.size z (thrR l) ∧ Below w15.heap.size w15 wk)
                  case first => as_aux_lemma =>
                    by_cases h : Pl.thF l = 0
                    · have t1 : (Pl.thF l == 0) = true := by rw [h]; rfl
                      have Hth : Hid (thrR l = Pl.trim (Pl.thr l l.length)) := Lib.hid (by unfold thrR; rw [if_pos h])
                      have h40 : l.length ≤ 40 := by
                        unfold Pl.thF at h
                        split at h
                        · cases h
                        · omega
                      have hcl : Pl.clash l l.length = false := by
                        unfold Pl.thF at h
                        rw [if_neg (by omega)] at h
                        cases hc : Pl.clash l l.length with
                        | false => rfl
                        | true => rw [hc] at h; cases h
                      have HD := Lib.hid (rthrough_any l hcl (by omega) _ w15 (RowPt.below HL.out HB15.out))
                      clear h h40 hcl
                      go_wp2_with fail
                      refine HD.out.mono ?_
                      rintro e w16 ⟨v16, rfl, hO, hb⟩
                      have HO := Lib.hid (OwnR.mono hO hz15)
                      have Hb := Lib.hid hb
                      clear hO hb HD
                      go_wp2_with fail
                      go_meet
                      exact ⟨_, rfl, by rw [Hth.out]; exact HO.out, Hb.out⟩
                    · have Hth : Hid (thrR l = []) := Lib.hid (by unfold thrR; rw [if_neg h])
                      have t1 : (Pl.thF l == 0) = false := beq_f h
                      clear h
                      go_wp2_with fail
                      go_meet
                      exact ⟨_, rfl, by rw [Hth.out]; exact OwnR.nil _ _ _, Below.refl _ _⟩
                  case rest =>
                    obtain ⟨w16, rfl, hO26, hb16⟩ := hcut
                    have Hg16 := Lib.hid (Hg15.out.below (Nat.le_refl _) hb16)
                    have HB16 := Lib.hid (HB15.out.trans (hb16.mono hz15))
                    have hz16 := HB16.out.size
                    have HO26 := Lib.hid hO26
                    have HE := Lib.hid (through_any l _ w16 (RowPt.below HL.out HB16.out))
                    unfold ThrPost at HE
                    clear hb16 hO26 HB15 Hg15
                    go_wp2_with fail
                    refine HE.out.mono ?_
                    rintro e w17 ⟨v17, rfl, hO17, hb17⟩
                    have Hg17 := Lib.hid (Hg16.out.below (Nat.le_refl _) hb17)
                    have HB17 := Lib.hid (HB16.out.trans (hb17.mono hz16))
                    have hz17 := HB17.out.size
                    have HO17 : Hid (OwnB w17 w16.heap.size v17 (thrR l)) := Lib.hid hO17
                    have HS26 := Lib.hid (OwnR.below HO26.out hb17)
                    clear hb17 hO17 HE HO26 HB16 Hg16
                    go_wp2_with fail
                    refine (same_eq _ _ Hg17.out).mono ?_
                    rintro e w18 ⟨rfl, hb18⟩
                    have Hg18 := Lib.hid (Hg17.out.below (Nat.le_refl _) hb18)
                    have HB18 := Lib.hid (HB17.out.trans (hb18.mono hz17))
                    have hz18 := HB18.out.size
                    have HYy := Lib.hid (bytes_yes (thrR l) v17 u26 w18 (OwnR.below HO17.out hb18) (OwnR.below HS26.out hb18))
                    clear hb18 HO17 HS26 HB17 Hg17
                    go_wp2_with fail
                    refine HYy.out.mono ?_
                    rintro e w' ⟨rfl, rfl⟩
                    clear HYy
                    go_wp2_with fail
                    go_ret
                    exact ⟨rfl, HB18.out⟩
end Go.Proofs.YtbikmodfmckaeaaDoor
