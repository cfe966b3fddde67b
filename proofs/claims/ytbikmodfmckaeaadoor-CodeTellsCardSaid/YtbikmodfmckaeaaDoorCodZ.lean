/- The walk of the law CodeTells: it returns true. -/
import Derived.Test.YtbikmodfmckaeaaDoorRCodB
import Derived.Test.YtbikmodfmckaeaaDoorCodT
import Derived.Test.YtbikmodfmckaeaaDoorTextA
import Derived.Test.YtbikmodfmckaeaaDoorBlk
import Derived.Deep.RegionHeld3
namespace Go.Proofs.YtbikmodfmckaeaaDoor
open Go.ChangeShapes Go.WideShapes Go.ChangeAt Go.RowKit
set_option linter.unusedVariables false
theorem texts_bl (xs : List ByteArray) (va vb : Value) (w : World) (ha : Strs w va xs) (hb : Strs w vb xs) :
    Calls Tryd.prog 42 #[va, vb] w fun e w' => e = .returned (.bool true) ∧ Below w.heap.size w w' :=
  (texts_eq xs va vb w ha hb).mono (by
    rintro e w' ⟨h, n, rfl⟩
    exact ⟨h, bdrew (Below.refl _ _) n⟩)
theorem nil_strs (w : World) : Strs w (.slice none 0 0) [] := ⟨none, 0, rfl, Nat.le_refl _, Nat.zero_le _, fun _ => rfl, fun h => by simp at h⟩
set_option maxRecDepth 100000 in
set_option maxHeartbeats 8000000 in
theorem codeTells_walk (k m : Int) (vd vp vl : Value) (hk : (Lit.int .i64 k).wf = true) (hm : (Lit.int .i64 m).wf = true) (w : World) (hg : Handle w) (fd : ∃ ss, Strs w vd ss ∧ ∀ s ∈ ss, s.size ≤ maxLen)
    (fp : ∃ ss, Strs w vp ss ∧ ∀ s ∈ ss, s.size ≤ maxLen) (fl : ∃ ls : List Bool, Row w vl (ls.map Value.bool)) :
    Calls Tryd.prog 6 #[iv k, iv m, vd, vp, vl] w fun e w' => e = .returned (.bool true) ∧ Below w.heap.size w w' := by
  obtain ⟨ds, hd, hdz⟩ := fd
  obtain ⟨ps, hp, hpz⟩ := fp
  obtain ⟨ls, hl⟩ := fl
  have hkb := bounds_i64 hk
  have hmb := bounds_i64 hm
  have HD := Lib.hid hd
  have HP := Lib.hid hp
  have HL := Lib.hid hl
  have Hdz := Lib.hid hdz
  have Hpz := Lib.hid hpz
  obtain ⟨pd, cd, rfl, hd1, hd2, _⟩ := hd.shape
  obtain ⟨pp, cp, rfl, hp1, hp2, _⟩ := hp.shape
  obtain ⟨pl, cl, rfl, hl1, hl2, _⟩ := hl.shape
  simp only [List.length_map] at HD HP HL hd1 hp1 hl1 ⊢
  obtain ⟨nd, hnd⟩ : ∃ n, n = ds.length := ⟨_, rfl⟩
  obtain ⟨np, hnp⟩ : ∃ n, n = ps.length := ⟨_, rfl⟩
  obtain ⟨nl, hnl⟩ : ∃ n, n = ls.length := ⟨_, rfl⟩
  rw [← hnd] at HD hd1 ⊢
  rw [← hnp] at HP hp1 ⊢
  rw [← hnl] at HL hl1 ⊢
  unfold maxLen at hd2 hp2 hl2
  have Hnd := Lib.hid hnd
  have Hnp := Lib.hid hnp
  have Hnl := Lib.hid hnl
  have Hg0 := Lib.hid hg
  obtain ⟨e0, he0⟩ : ∃ e, e = codF k m := ⟨_, rfl⟩
  obtain ⟨b1, hb1⟩ : ∃ b, b = decide (e0 = 0 ∧ (nd : Int) ≠ k) := ⟨_, rfl⟩
  obtain ⟨f1, hf1⟩ : ∃ e : Int, e = if b1 then 3 else e0 := ⟨_, rfl⟩
  obtain ⟨f2, hf2⟩ : ∃ e, e = encF k m ds := ⟨_, rfl⟩
  obtain ⟨b2, hb2⟩ : ∃ b, b = decide (e0 = 0 ∧ ((np : Int) ≠ k + m ∨ (nl : Int) ≠ k + m)) := ⟨_, rfl⟩
  obtain ⟨g1, hg1⟩ : ∃ e : Int, e = if b2 then 3 else e0 := ⟨_, rfl⟩
  obtain ⟨g2, hg2⟩ : ∃ e, e = dtF k m ps ls := ⟨_, rfl⟩
  obtain ⟨b3, hb3⟩ : ∃ b, b = decide (e0 = 0 ∧ (np : Int) ≠ k + m) := ⟨_, rfl⟩
  obtain ⟨h1, hh1⟩ : ∃ e : Int, e = if b3 then 3 else e0 := ⟨_, rfl⟩
  obtain ⟨h2, hh2⟩ : ∃ e, e = rightF k m ps := ⟨_, rfl⟩
  obtain ⟨rt, hrt⟩ : ∃ b, b = rightB k m ps := ⟨_, rfl⟩
  have He0 := Lib.hid he0
  have Hb1 := Lib.hid hb1
  have Hf1 := Lib.hid hf1
  have Hf2 := Lib.hid hf2
  have Hb2 := Lib.hid hb2
  have Hg1' := Lib.hid hg1
  have Hg2' := Lib.hid hg2
  have Hb3 := Lib.hid hb3
  have Hh1 := Lib.hid hh1
  have Hh2 := Lib.hid hh2
  have Hrt := Lib.hid hrt
  have hwk : e0 = 0 → IntKind.i64.wrap (k + m) = k + m := fun h => by
    have := codF_0 (he0.symm.trans h)
    exact IntWalk.i64_in _ (by omega)
  have Hwk := Lib.hid hwk
  have Hk0 : Hid (e0 = 0 → ∃ kn mn : Nat, k = kn ∧ m = mn ∧ 1 ≤ kn ∧ kn + mn ≤ 12) := Lib.hid (fun h => by
    have h := codF_0 (he0.symm.trans h)
    exact ⟨k.toNat, m.toNat, by omega, by omega, by omega, by omega⟩)
  clear hd hp hl hk hm hg hdz hpz hnd hnp hnl he0 hb1 hf1 hf2 hb2 hg1 hg2 hb3 hh1 hh2 hrt hwk
  go_enter Tryd.func6, Tryd.ntmps6
  go_wp2_with fail
  refine (rcode_any k m w).mono ?_
  rintro e w' ⟨rfl, rfl⟩
  have HB0 : Hid (Below w.heap.size w w) := Lib.hid (Below.refl _ _)
  have hz0 : w.heap.size ≤ w.heap.size := Nat.le_refl _
  rw [← He0.out]
  have HC := Lib.hid (ccheck_any k m w)
  rw [← He0.out] at HC
  go_wp2_with fail
  refine HC.out.mono ?_
  rintro e w' ⟨rfl, rfl⟩
  clear HC
  go_wp2_with fail
  refine (same_eq _ _ Hg0.out).mono ?_
  rintro e w1 ⟨rfl, hb1⟩
  have Hg1 := Lib.hid (Hg0.out.below (Nat.le_refl _) hb1)
  have HB1 := Lib.hid (HB0.out.trans (hb1.mono hz0))
  have hz1 := HB1.out.size
  clear hb1 Hg0
  go_upto_region 4 with (fail)
  go_cut [38] (fun z wq => z = .bool b1 ∧ w1 = wq)
  case first => as_aux_lemma =>
    by_cases h0 : e0 = 0
    · subst h0
      by_cases hlk : (nd : Int) = k
      · obtain rfl : b1 = false := by rw [Hb1.out]; exact dec_f (fun h => h.2 hlk)
        have t2 : ((nd : Int) != k) = false := bne_f hlk
        clear hlk
        go_wp2_with fail
        go_meet
        exact ⟨rfl, rfl⟩
      · obtain rfl : b1 = true := by rw [Hb1.out]; exact dec_t ⟨rfl, hlk⟩
        have t2 : ((nd : Int) != k) = true := bne_t hlk
        clear hlk
        go_wp2_with fail
        go_meet
        exact ⟨rfl, rfl⟩
    · obtain rfl : b1 = false := by rw [Hb1.out]; exact dec_f (fun h => h0 h.1)
      have t1 : (e0 == 0) = false := beq_f h0
      clear h0
      go_wp2_with fail
      go_meet
      exact ⟨rfl, rfl⟩
  case rest =>
  obtain ⟨rfl, rfl⟩ := hcut
  go_upto_if 38 with (fail)
  go_cut [13] (fun z wq => z = iv f1 ∧ w1 = wq)
  case first => as_aux_lemma =>
    cases b1 with
    | true =>
      obtain rfl : f1 = 3 := Hf1.out
      go_wp2_with fail
      go_meet
      exact ⟨rfl, rfl⟩
    | false =>
      obtain rfl : f1 = e0 := Hf1.out
      go_wp2_with fail
      go_meet
      exact ⟨rfl, rfl⟩
  case rest =>
  obtain ⟨rfl, rfl⟩ := hcut
  have hf2 : f2 = if f1 = 0 then blkF ds else f1 := by
    rw [Hf2.out]; unfold encF
    rw [← He0.out, ← Hnd.out, Hf1.out, Hb1.out]
    by_cases h0 : e0 = 0
    · rw [if_neg (show ¬ e0 ≠ 0 by simp [h0])]
      by_cases hlk : (nd : Int) = k
      · rw [if_neg (by simp [hlk]), dec_f (fun h => h.2 hlk)]
        show _ = if e0 = 0 then _ else _
        rw [if_pos h0]
      · rw [if_pos hlk, dec_t ⟨h0, hlk⟩]; rfl
    · rw [if_pos h0, dec_f (fun h => h0 h.1)]
      show _ = if e0 = 0 then _ else _
      rw [if_neg h0]; rfl
  have Hf2b := Lib.hid hf2
  clear hf2
  go_upto_if 40 with (fail)
  go_cut [13] (fun z wq => z = iv f2 ∧ ∃ wk, wk = wq ∧ Below w1.heap.size w1 wk)
  case first => as_aux_lemma =>
    by_cases h0 : f1 = 0
    · have h1 : f2 = blkF ds := by rw [Hf2b.out, if_pos h0]
      have H1 := Lib.hid h1
      have HC := Lib.hid (rblocks_any ds Hdz.out _ w1 (HD.out.below HB1.out))
      clear h1
      clear Hf1
      subst h0
      go_wp2_with fail
      refine HC.out.mono ?_
      rintro e w' ⟨rfl, n1, rfl⟩
      rw [← H1.out]
      go_wp2_with fail
      go_meet
      exact ⟨rfl, _, rfl, bdrew (Below.refl _ _) n1⟩
    · obtain rfl : f2 = f1 := by rw [Hf2b.out, if_neg h0]
      have t1 : (f2 == 0) = false := beq_f h0
      clear h0
      go_wp2_with fail
      go_meet
      exact ⟨rfl, _, rfl, Below.refl _ _⟩
  case rest =>
  obtain ⟨rfl, w2, rfl, hb2⟩ := hcut
  have Hg2 := Lib.hid (Hg1.out.below (Nat.le_refl _) hb2)
  have HB2 := Lib.hid (HB1.out.trans (hb2.mono hz1))
  have hz2 := HB2.out.size
  clear hb2 Hg1
  go_upto_if 44 with (fail)
  go_cut [14] (fun z wq => ∃ wk, wk = wq ∧ Strs wk z (encV k m ds) ∧ Below w2.heap.size w2 wk)
  case first => as_aux_lemma =>
    by_cases h0 : f2 = 0
    · have hF : encF k m ds = 0 := Hf2.out.symm.trans h0
      have h00 : e0 = 0 := by
        have h := hF
        unfold encF at h
        rw [← He0.out] at h
        by_cases hh : e0 = 0
        · exact hh
        · rw [if_pos hh] at h; exact absurd h hh
      obtain ⟨kn, mn, rfl, rfl, hk1, hk2⟩ := Hk0.out h00
      have hF2 := hF
      unfold encF at hF2
      rw [← He0.out, if_neg (show ¬ e0 ≠ 0 by simp [h00])] at hF2
      have hlk : (ds.length : Int) = kn := Classical.byContradiction (fun h => by rw [if_pos h] at hF2; cases hF2)
      rw [if_neg (by simp [hlk])] at hF2
      have hbk := blkF_zero hF2
      have HC := Lib.hid (rparity_any kn mn hk1 hk2 ds (by omega) hbk.1 hbk.2 _ w2 (HD.out.below HB2.out))
      have HV : Hid (encV (kn : Int) (mn : Int) ds = encR kn mn ds) := Lib.hid (by unfold encV; rw [if_pos hF]; rfl)
      unfold EnPost at HC
      rw [← HV.out] at HC
      subst h0
      clear hF hF2 hlk hbk h00
      go_wp2_with fail
      refine HC.out.mono ?_
      rintro e w5 ⟨v5, rfl, hO, hb⟩
      have HR := Lib.hid (OwnR.row hO)
      have Hb := Lib.hid hb
      clear hO hb HC
      go_wp2_with fail
      go_meet
      exact ⟨_, rfl, HR.out, Hb.out⟩
    · have HR : Hid (encV k m ds = []) := Lib.hid (by unfold encV; rw [if_neg (fun h => h0 (Hf2.out.trans h))])
      have t1 : (f2 == 0) = false := beq_f h0
      clear h0
      go_wp2_with fail
      go_meet
      exact ⟨_, rfl, by rw [HR.out]; exact nil_strs _, Below.refl _ _⟩
  case rest =>
  obtain ⟨w3, rfl, hM3, hb3⟩ := hcut
  have Hg3 := Lib.hid (Hg2.out.below (Nat.le_refl _) hb3)
  have HB3 := Lib.hid (HB2.out.trans (hb3.mono hz2))
  have hz3 := HB3.out.size
  have HM3 := Lib.hid hM3
  have HE := Lib.hid (encode_tot k m ds _ w3 (HD.out.below HB3.out))
  unfold CencPost at HE
  rw [← Hf2.out] at HE
  clear hM3 hb3 Hg2
  go_wp2_with fail
  refine HE.out.mono ?_
  rintro e w4 ⟨v4, rfl, hM4, hb4⟩
  have Hg4 := Lib.hid (Hg3.out.below (Nat.le_refl _) hb4)
  have HB4 := Lib.hid (HB3.out.trans (hb4.mono hz3))
  have hz4 := HB4.out.size
  have HM4 := Lib.hid (OwnR.row hM4)
  have HW4 := Lib.hid (HM3.out.below hb4)
  clear hM4 hb4 HE Hg3 HM3
  go_wp2_with fail
  refine (same_eq _ _ Hg4.out).mono ?_
  rintro e w5 ⟨rfl, hb5⟩
  have Hg5 := Lib.hid (Hg4.out.below (Nat.le_refl _) hb5)
  have HB5 := Lib.hid (HB4.out.trans (hb5.mono hz4))
  have hz5 := HB5.out.size
  have HTx := Lib.hid (texts_bl (encV k m ds) v4 u14 w5 (Strs.below HM4.out hb5) (HW4.out.below hb5))
  clear hb5 Hg4 HM4 HW4
  go_wp2_with fail
  refine HTx.out.mono ?_
  rintro e w6 ⟨rfl, hb6⟩
  have Hg6 := Lib.hid (Hg5.out.below (Nat.le_refl _) hb6)
  have HB6 := Lib.hid (HB5.out.trans (hb6.mono hz5))
  have hz6 := HB6.out.size
  clear hb6 Hg5 HTx
  go_upto_region 14 with (fail)
  go_cut [82] (fun z wq => z = .bool b2 ∧ w6 = wq)
  case first => as_aux_lemma =>
    by_cases h0 : e0 = 0
    · have hw := Hwk.out h0
      subst h0
      by_cases h1 : (np : Int) = k + m
      · have t1 : ((np : Int) != (k + m)) = false := bne_f h1
        by_cases h2 : (nl : Int) = k + m
        · obtain rfl : b2 = false := by rw [Hb2.out]; exact dec_f (fun h => h.2.elim (fun h => h h1) (fun h => h h2))
          have t2 : ((nl : Int) != (k + m)) = false := bne_f h2
          clear h1 h2
          go_wp2_with fail
          go_meet
          exact ⟨rfl, rfl⟩
        · obtain rfl : b2 = true := by rw [Hb2.out]; exact dec_t ⟨rfl, .inr h2⟩
          have t2 : ((nl : Int) != (k + m)) = true := bne_t h2
          clear h1 h2
          go_wp2_with fail
          go_meet
          exact ⟨rfl, rfl⟩
      · obtain rfl : b2 = true := by rw [Hb2.out]; exact dec_t ⟨rfl, .inl h1⟩
        have t1 : ((np : Int) != (k + m)) = true := bne_t h1
        clear h1
        go_wp2_with fail
        go_meet
        exact ⟨rfl, rfl⟩
    · obtain rfl : b2 = false := by rw [Hb2.out]; exact dec_f (fun h => h0 h.1)
      have t1 : (e0 == 0) = false := beq_f h0
      clear h0
      go_wp2_with fail
      go_meet
      exact ⟨rfl, rfl⟩
  case rest => as_aux_lemma =>
  obtain ⟨rfl, rfl⟩ := hcut
  go_upto_if 82 with (fail)
  go_cut [13] (fun z wq => z = iv g1 ∧ w6 = wq)
  case first => as_aux_lemma =>
    cases b2 with
    | true =>
      obtain rfl : g1 = 3 := Hg1'.out
      go_wp2_with fail
      go_meet
      exact ⟨rfl, rfl⟩
    | false =>
      obtain rfl : g1 = e0 := Hg1'.out
      go_wp2_with fail
      go_meet
      exact ⟨rfl, rfl⟩
  case rest =>
  obtain ⟨rfl, rfl⟩ := hcut
  have hg2 : g2 = if g1 = 0 then decF k.toNat (k + m).toNat ps ls else g1 := by
    rw [Hg2'.out]; unfold dtF
    rw [← He0.out, ← Hnp.out, ← Hnl.out, Hg1'.out, Hb2.out]
    by_cases h0 : e0 = 0
    · rw [if_neg (show ¬ e0 ≠ 0 by simp [h0])]
      by_cases hs : (np : Int) ≠ k + m ∨ (nl : Int) ≠ k + m
      · rw [if_pos hs, dec_t ⟨h0, hs⟩]; rfl
      · rw [if_neg hs, dec_f (fun h => hs h.2)]
        show _ = if e0 = 0 then _ else _
        rw [if_pos h0]
    · rw [if_pos h0, dec_f (fun h => h0 h.1)]
      show _ = if e0 = 0 then _ else _
      rw [if_neg h0]; rfl
  have hg0 : g1 = 0 → e0 = 0 ∧ (np : Int) = k + m ∧ (nl : Int) = k + m := fun h => by
    have h1 := Hg1'.out
    rw [Hb2.out] at h1
    by_cases hs : e0 = 0 ∧ ((np : Int) ≠ k + m ∨ (nl : Int) ≠ k + m)
    · rw [dec_t hs, h] at h1; cases h1
    · rw [dec_f hs] at h1
      have h0 : e0 = 0 := h1.symm.trans h
      exact ⟨h0, Classical.byContradiction (fun e => hs ⟨h0, .inl e⟩), Classical.byContradiction (fun e => hs ⟨h0, .inr e⟩)⟩
  have Hg2b := Lib.hid hg2
  have Hg0b := Lib.hid hg0
  clear hg2 hg0
  go_upto_if 84 with (fail)
  go_cut [13, 14] (fun z y wq => z = iv g2 ∧ ∃ wk, wk = wq ∧ Strs wk y (dtR k m ps ls) ∧ Below w6.heap.size w6 wk)
  case first => as_aux_lemma =>
    by_cases h0 : g1 = 0
    · obtain ⟨h00, hnp, hnl⟩ := Hg0b.out h0
      obtain ⟨kn, mn, rfl, rfl, hk1, hk2⟩ := Hk0.out h00
      have hg : g2 = decF kn (kn + mn) ps ls := by rw [Hg2b.out, if_pos h0]; rfl
      have hr : dtR (kn : Int) (mn : Int) ps ls = if g2 = 0 then decR kn (kn + mn) ps ls else [] := by unfold dtR; rw [← Hg2'.out]; rfl
      have HC := Lib.hid (rdecode_any kn mn hk1 hk2 ps Hpz.out ls (by rw [← Hnp.out]; omega) (by rw [← Hnl.out]; omega) _ _ w6 (HP.out.below HB6.out) (Row.below HL.out HB6.out))
      unfold RDecPost at HC
      rw [← hg, ← hr] at HC
      clear Hg1'
      subst h0
      clear hg hr hnp hnl h00
      go_wp2_with fail
      refine HC.out.mono ?_
      rintro e w7 ⟨v7, rfl, hO, hb⟩
      have HR := Lib.hid (OwnR.row hO)
      have Hb := Lib.hid hb
      clear hO hb HC
      go_wp2_with fail
      go_meet
      exact ⟨rfl, _, rfl, HR.out, Hb.out⟩
    · obtain rfl : g2 = g1 := by rw [Hg2b.out, if_neg h0]
      have HR : Hid (dtR k m ps ls = []) := Lib.hid (by unfold dtR; rw [if_neg (fun h => h0 (Hg2'.out.trans h))])
      have t1 : (g2 == 0) = false := beq_f h0
      clear h0
      go_wp2_with fail
      go_meet
      exact ⟨rfl, _, rfl, by rw [HR.out]; exact nil_strs _, Below.refl _ _⟩
  case rest =>
  obtain ⟨rfl, w7, rfl, hM7, hb7⟩ := hcut
  have Hg7 := Lib.hid (Hg6.out.below (Nat.le_refl _) hb7)
  have HB7 := Lib.hid (HB6.out.trans (hb7.mono hz6))
  have hz7 := HB7.out.size
  have HM7 := Lib.hid hM7
  have HE := Lib.hid (decode_tot k m ps ls _ _ w7 (HP.out.below HB7.out) (Row.below HL.out HB7.out))
  unfold DtPost at HE
  rw [← Hg2'.out] at HE
  clear hM7 hb7 Hg6
  go_wp2_with fail
  refine HE.out.mono ?_
  rintro e w8 ⟨v8, rfl, hM8, hb8⟩
  have Hg8 := Lib.hid (Hg7.out.below (Nat.le_refl _) hb8)
  have HB8 := Lib.hid (HB7.out.trans (hb8.mono hz7))
  have hz8 := HB8.out.size
  have HM8 := Lib.hid (OwnR.row hM8)
  have HW8 := Lib.hid (HM7.out.below hb8)
  clear hM8 hb8 HE Hg7 HM7
  go_wp2_with fail
  refine (same_eq _ _ Hg8.out).mono ?_
  rintro e w9 ⟨rfl, hb9⟩
  have Hg9 := Lib.hid (Hg8.out.below (Nat.le_refl _) hb9)
  have HB9 := Lib.hid (HB8.out.trans (hb9.mono hz8))
  have hz9 := HB9.out.size
  have HTx := Lib.hid (texts_bl (dtR k m ps ls) v8 u14 w9 (Strs.below HM8.out hb9) (HW8.out.below hb9))
  clear hb9 Hg8 HM8 HW8
  go_wp2_with fail
  refine HTx.out.mono ?_
  rintro e w10 ⟨rfl, hb10⟩
  have Hg10 := Lib.hid (Hg9.out.below (Nat.le_refl _) hb10)
  have HB10 := Lib.hid (HB9.out.trans (hb10.mono hz9))
  have hz10 := HB10.out.size
  clear hb10 Hg9 HTx
  go_upto_region 22 with (fail)
  go_cut [119] (fun z wq => z = .bool b3 ∧ w10 = wq)
  case first => as_aux_lemma =>
    by_cases h0 : e0 = 0
    · have hw := Hwk.out h0
      subst h0
      by_cases h1 : (np : Int) = k + m
      · have t1 : ((np : Int) != (k + m)) = false := bne_f h1
        obtain rfl : b3 = false := by rw [Hb3.out]; exact dec_f (fun h => h.2 h1)
        clear h1
        go_wp2_with fail
        go_meet
        exact ⟨rfl, rfl⟩
      · obtain rfl : b3 = true := by rw [Hb3.out]; exact dec_t ⟨rfl, h1⟩
        have t1 : ((np : Int) != (k + m)) = true := bne_t h1
        clear h1
        go_wp2_with fail
        go_meet
        exact ⟨rfl, rfl⟩
    · obtain rfl : b3 = false := by rw [Hb3.out]; exact dec_f (fun h => h0 h.1)
      have t1 : (e0 == 0) = false := beq_f h0
      clear h0
      go_wp2_with fail
      go_meet
      exact ⟨rfl, rfl⟩
  case rest => as_aux_lemma =>
  obtain ⟨rfl, rfl⟩ := hcut
  go_upto_if 119 with (fail)
  go_cut [13] (fun z wq => z = iv h1 ∧ w10 = wq)
  case first => as_aux_lemma =>
    cases b3 with
    | true =>
      obtain rfl : h1 = 3 := Hh1.out
      go_wp2_with fail
      go_meet
      exact ⟨rfl, rfl⟩
    | false =>
      obtain rfl : h1 = e0 := Hh1.out
      go_wp2_with fail
      go_meet
      exact ⟨rfl, rfl⟩
  case rest =>
  obtain ⟨rfl, rfl⟩ := hcut
  have hh2 : h2 = if h1 = 0 then blkF ps else h1 := by
    rw [Hh2.out]; unfold rightF
    rw [← He0.out, ← Hnp.out, Hh1.out, Hb3.out]
    by_cases h0 : e0 = 0
    · rw [if_neg (show ¬ e0 ≠ 0 by simp [h0])]
      by_cases hs : (np : Int) ≠ k + m
      · rw [if_pos hs, dec_t ⟨h0, hs⟩]; rfl
      · rw [if_neg hs, dec_f (fun h => hs h.2)]
        show _ = if e0 = 0 then _ else _
        rw [if_pos h0]
    · rw [if_pos h0, dec_f (fun h => h0 h.1)]
      show _ = if e0 = 0 then _ else _
      rw [if_neg h0]; rfl
  have Hh2b := Lib.hid hh2
  clear hh2
  go_upto_if 121 with (fail)
  go_cut [13] (fun z wq => z = iv h2 ∧ ∃ wk, wk = wq ∧ Below w10.heap.size w10 wk)
  case first => as_aux_lemma =>
    by_cases h0 : h1 = 0
    · have h1' : h2 = blkF ps := by rw [Hh2b.out, if_pos h0]
      have H1 := Lib.hid h1'
      have HC := Lib.hid (rblocks_any ps Hpz.out _ w10 (HP.out.below HB10.out))
      clear h1'
      clear Hh1
      subst h0
      go_wp2_with fail
      refine HC.out.mono ?_
      rintro e w' ⟨rfl, n1, rfl⟩
      rw [← H1.out]
      go_wp2_with fail
      go_meet
      exact ⟨rfl, _, rfl, bdrew (Below.refl _ _) n1⟩
    · obtain rfl : h2 = h1 := by rw [Hh2b.out, if_neg h0]
      have t1 : (h2 == 0) = false := beq_f h0
      clear h0
      go_wp2_with fail
      go_meet
      exact ⟨rfl, _, rfl, Below.refl _ _⟩
  case rest =>
  obtain ⟨rfl, w11, rfl, hb11⟩ := hcut
  have Hg11 := Lib.hid (Hg10.out.below (Nat.le_refl _) hb11)
  have HB11 := Lib.hid (HB10.out.trans (hb11.mono hz10))
  have hz11 := HB11.out.size
  clear hb11 Hg10
  go_upto_if 125 with (fail)
  go_cut [19] (fun z wq => z = .bool rt ∧ ∃ wk, wk = wq ∧ Below w11.heap.size w11 wk)
  case first => as_aux_lemma =>
    by_cases h0 : h2 = 0
    · have hF : rightF k m ps = 0 := Hh2.out.symm.trans h0
      have hF2 := hF
      unfold rightF at hF2
      rw [← He0.out] at hF2
      have h00 : e0 = 0 := Classical.byContradiction (fun h => by rw [if_pos h] at hF2; exact h hF2)
      rw [if_neg (show ¬ e0 ≠ 0 by simp [h00])] at hF2
      obtain ⟨kn, mn, rfl, rfl, hk1, hk2⟩ := Hk0.out h00
      have hlp : (ps.length : Int) = (kn : Int) + (mn : Int) := Classical.byContradiction (fun h => by rw [if_pos h] at hF2; cases hF2)
      rw [if_neg (by simp [hlp])] at hF2
      have hb := blkF_zero hF2
      have hnp : np = kn + mn := by rw [Hnp.out]; omega
      have hR : rt = decide (encR kn mn (ps.take kn) = ps.drop kn) := by
        rw [Hrt.out]; unfold rightB
        rw [hF]
        exact decide_eq_decide.2 ⟨fun h => h.2, fun h => ⟨rfl, h⟩⟩
      have HR := Lib.hid hR
      have hP := HP.out.below HB11.out
      have hhd := Strs.head (k := kn) hP (by rw [← Hnp.out]; omega)
      obtain ⟨gp, op, cq, hpe, _, _, _⟩ := hP.pos (by rw [List.length_map, ← Hnp.out]; omega)
      injection hpe with e1 e2 e3
      clear e2
      subst e1 e3
      have htl := Strs.drop (k := kn) hP (by rw [← Hnp.out]; omega)
      have hsz0 : size0 (ps.take kn) = size0 ps := by
        cases ps with
        | nil => rw [List.take_nil]
        | cons a t =>
          obtain ⟨k', rfl⟩ : ∃ k', kn = k' + 1 := ⟨kn - 1, by omega⟩
          rfl
      have HEn := Lib.hid (fun W (h : Below w11.heap.size w11 W) => rparity_any kn mn hk1 hk2 (ps.take kn) (by rw [List.length_take, ← Hnp.out]; omega) (fun s hs => by rw [hsz0]; exact hb.1 s (List.mem_of_mem_take hs)) (by rw [hsz0]; exact hb.2) (.slice (some ⟨gp, op, none⟩) kn cp) W (hhd.below h))
      unfold EnPost at HEn
      have HTl := Lib.hid htl
      have hkc : kn ≤ cp := by omega
      have hkn : kn ≤ np := by omega
      clear hF hF2 h00 hlp hb hR hP hhd htl hsz0 hnp
      subst h0
      by_cases hck : cp = kn
      · have hm0 : np = kn := by omega
        have HE4 := Lib.hid (fun (W1 W2 : World) (v3 : Value) (ho : OwnR W2 W1.heap.size 9 v3 ((encR kn mn (ps.take kn)).map Value.string)) =>
          texts_any (encR kn mn (ps.take kn)) [] v3 (.slice (some ⟨gp, op, none⟩) 0 0) W2 (OwnR.row ho) ⟨_, 0, rfl, Nat.le_refl _, Nat.zero_le _, (fun h => by cases h), fun h => by simp at h⟩)
        have HR2 : Hid (rt = decide (encR kn mn (ps.take kn) = [])) := Lib.hid (HR.out.trans (decide_eq_decide.2 (by rw [List.drop_of_length_le (by rw [← Hnp.out]; omega)])))
        clear HTl HR
        subst hck
        subst hm0
        go_wp2_with fail
        go_region_held3 (fun _ => True)
          (trivial)
          (first
            | (go_at_call 40; (with_reducible refine (HEn.out _ ?_).mono ?_); exact bdrew (Below.refl w11.heap.size w11) _; rintro e wA ⟨v3, rfl, hO3, hbA⟩; have HBA := Lib.hid ((bdrew (Below.refl w11.heap.size w11) _).trans hbA); have hzA := HBA.out.size; have HE3 := Lib.hid (HE4.out _ _ _ hO3); clear hO3 hbA)
            | (go_at_call 42; (with_reducible refine HE3.out.mono ?_); rintro e wB ⟨rfl, nB, hbB⟩; have HBB : Hid (Below w11.heap.size w11 wB) := Lib.hid (by rw [← hbB]; exact HBA.out.trans (bdrew (Below.refl _ _) nB |>.mono hzA)); clear hbB))
        go_wp2_with fail
        go_meet
        exact ⟨by rw [HR2.out], _, rfl, HBB.out⟩
      · have HE4 := Lib.hid (fun (W1 W2 : World) (v3 : Value) (h : Below w11.heap.size w11 W1) (ho : OwnR W2 W1.heap.size 9 v3 ((encR kn mn (ps.take kn)).map Value.string)) (hb : Below W1.heap.size W1 W2) =>
          texts_any (encR kn mn (ps.take kn)) (ps.drop kn) v3 (.slice (some ⟨gp, op + kn, none⟩) (np - kn) (cp - kn)) W2 (OwnR.row ho) ((HTl.out.below h).below hb))
        clear HTl
        go_wp2_with fail
        go_region_held3 (fun _ => True)
          (trivial)
          (first
            | (go_at_call 40; (with_reducible refine (HEn.out _ ?_).mono ?_); exact bdrew (Below.refl w11.heap.size w11) _; rintro e wA ⟨v3, rfl, hO3, hbA⟩; have HBA := Lib.hid ((bdrew (Below.refl w11.heap.size w11) _).trans hbA); have hzA := HBA.out.size; have HE3 := Lib.hid (HE4.out _ _ _ (bdrew (Below.refl w11.heap.size w11) _) hO3 hbA); clear hO3 hbA)
            | (go_at_call 42; (with_reducible refine HE3.out.mono ?_); rintro e wB ⟨rfl, nB, hbB⟩; have HBB : Hid (Below w11.heap.size w11 wB) := Lib.hid (by rw [← hbB]; exact HBA.out.trans (bdrew (Below.refl _ _) nB |>.mono hzA)); clear hbB))
        go_wp2_with fail
        go_meet
        exact ⟨by rw [HR.out], _, rfl, HBB.out⟩
    · obtain rfl : rt = false := by
        rw [Hrt.out]; unfold rightB
        exact dec_f (fun h => h0 (Hh2.out.trans h.1))
      have t1 : (h2 == 0) = false := beq_f h0
      clear h0
      go_wp2_with fail
      go_meet
      exact ⟨rfl, _, rfl, Below.refl _ _⟩
  case rest =>
  obtain ⟨rfl, w12, rfl, hb12⟩ := hcut
  have Hg12 := Lib.hid (Hg11.out.below (Nat.le_refl _) hb12)
  have HB12 := Lib.hid (HB11.out.trans (hb12.mono hz11))
  have hz12 := HB12.out.size
  have HE := Lib.hid (right_tot k m hkb hmb ps _ w12 (HP.out.below HB12.out))
  unfold RightPost at HE
  rw [← Hh2.out, ← Hrt.out] at HE
  clear hb12 Hg11
  go_wp2_with fail
  refine HE.out.mono ?_
  rintro e w13 ⟨rfl, hb13⟩
  have Hg13 := Lib.hid (Hg12.out.below (Nat.le_refl _) hb13)
  have HB13 := Lib.hid (HB12.out.trans (hb13.mono hz12))
  have hz13 := HB13.out.size
  clear hb13 HE Hg12
  go_wp2_with fail
  refine (same_eq _ _ Hg13.out).mono ?_
  rintro e w14 ⟨rfl, hb14⟩
  have Hg14 := Lib.hid (Hg13.out.below (Nat.le_refl _) hb14)
  have HB14 := Lib.hid (HB13.out.trans (hb14.mono hz13))
  have hz14 := HB14.out.size
  clear hb14 Hg13
  go_wp2_with fail
  go_ret
  exact ⟨rfl, HB14.out⟩
end Go.Proofs.YtbikmodfmckaeaaDoor
