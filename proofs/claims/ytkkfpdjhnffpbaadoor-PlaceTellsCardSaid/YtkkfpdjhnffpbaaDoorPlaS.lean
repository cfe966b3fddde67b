/- The walk of the law PlaceTells: it returns true. -/
import Derived.Test.YtkkfpdjhnffpbaaDoorRPlaW
import Derived.Test.YtkkfpdjhnffpbaaDoorPlaY
import Derived.Test.YtkkfpdjhnffpbaaDoorInts
import Derived.Deep.CutBlock
namespace Go.Proofs.YtkkfpdjhnffpbaaDoor
open Go.ChangeShapes Go.WideShapes Go.ChangeAt Go.RowKit
set_option linter.unusedVariables false
theorem quiet_drewL {P : Program} {f : FuncId} {args : Array Value} {w : World} {n : Nat} {v : Value}
    (h : Calls P f args (w.drewN n) fun e w' => e = .returned v ∧ ∃ k, (w.drewN n).drewN k = w') : Calls P f args (w.drewN n) fun e w'' => e = .returned v ∧ ∃ m, w'' = w.drewN m :=
  h.mono fun _ _ ⟨he, k, hm⟩ => ⟨he, n + k, by rw [← hm, World.drewN_drewN]⟩
set_option maxRecDepth 100000 in
theorem lists_eq (l : List (List Int)) (va vb : Value) (w : World) (ha : Rows2 w va l) (hb : Rows2 w vb l) :
    Calls Tryd.prog 17 #[va, vb] w fun e w' => e = .returned (.bool true) ∧ Below w.heap.size w w' := by
  have HA := Lib.hid ha
  have HB := Lib.hid hb
  obtain ⟨pa, ca, rfl, ha1, ha2⟩ := ha.shape
  obtain ⟨pb, cb, rfl, hb1, hb2⟩ := hb.shape
  unfold maxLen at ha2 hb2
  obtain ⟨n, hn⟩ : ∃ n, n = l.length := ⟨_, rfl⟩
  rw [← hn] at ha1 hb1 HA HB ⊢
  have Hn := Lib.hid hn
  clear hn ha hb
  go_enter Tryd.func17, Tryd.ntmps17
  go_wp2_with fail
  go_loopg [5, 6] n (fun gk v5 v6 wr => ∃ k nd : Nat, k + gk = n ∧ v5 = iv k ∧ wr = w.drewN nd)
  case atStart => exact ⟨0, 0, by omega, rfl, rfl⟩
  case round =>
    obtain ⟨k, nd, hk, rfl, hwr⟩ := hrel
    have Hk := Lib.hid hk
    have Hwr := Lib.hid hwr
    by_cases hkn : k < n
    · obtain ⟨s, hs⟩ : ∃ s, l[k]? = some s := ⟨l[k]'(by rw [← Hn.out]; exact hkn), List.getElem?_eq_getElem _⟩
      obtain ⟨ga, oa, ca2, pa2, cc2, hva, hga, hca, hra, _⟩ := HA.out.at hs
      obtain ⟨gb, ob, cb2, pb2, cd2, hvb, hgb, hcb, hrb, _⟩ := HB.out.at hs
      injection hva with e1 q8 q9
      injection hvb with e2 q6 q7
      have d0 : wr.cell? ⟨ga, oa + k, none⟩ = some (.slice pa2 s.length cc2) := by rw [hwr]; simpa using hca
      have d1 : wr.cell? ⟨gb, ob + k, none⟩ = some (.slice pb2 s.length cd2) := by rw [hwr]; simpa using hcb
      have hbd : ∀ j, Below w.heap.size w (wr.drewN j) := fun j => by rw [hwr]; exact bdrew (bdrew (Below.refl _ _) nd) j
      have HT : Hid (∀ j, Calls Tryd.prog 19 #[.slice pa2 s.length cc2, .slice pb2 s.length cd2] (wr.drewN j) fun e w' => e = .returned (.bool true) ∧ ∃ i, (wr.drewN j).drewN i = w') := Lib.hid (fun j => ints_eq s _ _ _ (hra.below (hbd j)) (hrb.below (hbd j)))
      obtain ⟨ls, hls⟩ : ∃ ls, ls = s.length := ⟨_, rfl⟩
      rw [← hls] at d0 d1 HT
      have He1 := Lib.hid e1
      have He2 := Lib.hid e2
      rw [e1, e2]
      clear hk hga hca hra hgb hcb hrb hbd hwr e1 e2 q6 q7 q8 q9 hls hs
      go_wp2_with fail
      go_quiet ((go_at_call 19; exact quiet_drewL (HT.out _)))
      go_wp2_with fail
      rw [← He1.out, ← He2.out]
      go_roundg (gk - 1)
      case measure => have := Hk.out; omega
      case rel => exact ⟨k + 1, nd + nq, by have := Hk.out; omega, by go_num, by rw [Hwr.out, World.drewN_drewN]⟩
    · clear hk hwr
      go_wp2_with fail
      go_ret
      exact ⟨rfl, by rw [Hwr.out]; exact bdrew (Below.refl _ _) nd⟩
namespace Pl
theorem peE_0 {n : Int} {l : List (List Int)} {d : Int} (h : peE n l d = 0) : Od.chk n l = 0 ∧ 0 ≤ d ∧ d < n := by
  unfold peE at h
  by_cases h1 : Od.chk n l = 0
  · rw [if_neg (fun hc => hc h1)] at h
    by_cases h2 : d < 0 ∨ n ≤ d
    · rw [if_pos h2] at h; cases h
    · exact ⟨h1, by omega, by omega⟩
  · rw [if_pos h1] at h; exact absurd h h1
end Pl
theorem nums_eq (xs : List Nat) (va vb : Value) (w : World) (ha : Row w va (xs.map ivn)) (hb : Row w vb (xs.map ivn)) :
    Calls Tryd.prog 19 #[va, vb] w fun e w' => e = .returned (.bool true) ∧ Below w.heap.size w w' :=
  (ints_eq (ci xs) va vb w (by rw [ci_ivn]; exact ha) (by rw [ci_ivn]; exact hb)).mono (by
    rintro e w' ⟨h, n, rfl⟩
    exact ⟨h, bdrew (Below.refl _ _) n⟩)

set_option maxRecDepth 100000 in
set_option maxHeartbeats 8000000 in
theorem placeTells_walk (n wd m : Int) (vl : Value) (d : Int) (hn : (Lit.int .i64 n).wf = true) (hwd : (Lit.int .i64 wd).wf = true) (hm : (Lit.int .i64 m).wf = true) (hd : (Lit.int .i64 d).wf = true) (w : World) (hg : Handle w) (fl : ∃ l, Rows2 w vl l) :
    Calls Tryd.prog 6 #[iv n, iv wd, iv m, vl, iv d] w fun e w' => e = .returned (.bool true) ∧ Below w.heap.size w w' := by
  obtain ⟨l, hl⟩ := fl
  have HV := Lib.hid hl
  obtain ⟨p, cap, rfl, hl1, hl2⟩ := hl.shape
  unfold maxLen at hl2
  obtain ⟨ml, hml⟩ : ∃ ml, ml = l.length := ⟨_, rfl⟩
  rw [← hml] at HV hl1 ⊢
  have Hml := Lib.hid hml
  have hml9 : ml ≤ 9223372036854775807 := by omega
  obtain ⟨bz, hbz⟩ : ∃ b, b = decide (n < 1 ∨ 10 < n ∨ wd < 1 ∨ n < wd ∨ m < 0 ∨ 40 < m) := ⟨_, rfl⟩
  obtain ⟨F, hF⟩ : ∃ F, F = Pl.plF n wd m := ⟨_, rfl⟩
  obtain ⟨Q, hQ⟩ : ∃ Q, Q = Pl.plL n wd m := ⟨_, rfl⟩
  obtain ⟨C, hC⟩ : ∃ C, C = Od.chk n l := ⟨_, rfl⟩
  obtain ⟨E, hE⟩ : ∃ E, E = Pl.peE n l d := ⟨_, rfl⟩
  obtain ⟨G, hG⟩ : ∃ G, G = Pl.huE l d := ⟨_, rfl⟩
  obtain ⟨V1, hV1⟩ : ∃ V, V = Pl.loV n l := ⟨_, rfl⟩
  obtain ⟨V2, hV2⟩ : ∃ V, V = Pl.peV n l d := ⟨_, rfl⟩
  obtain ⟨V3, hV3⟩ : ∃ V, V = Pl.huV l d := ⟨_, rfl⟩
  have Hbz := Lib.hid hbz
  have HF := Lib.hid hF
  have HQ := Lib.hid hQ
  have HC := Lib.hid hC
  have HE := Lib.hid hE
  have HG := Lib.hid hG
  have HV1 := Lib.hid hV1
  have HV2 := Lib.hid hV2
  have HV3 := Lib.hid hV3
  have Hg := Lib.hid hg
  clear hl hml hbz hF hQ hC hE hG hV1 hV2 hV3 hg hn hwd hm hd
  go_enter Tryd.func6, Tryd.ntmps6
  go_upto_region 2 with (fail)
  go_cut [52] (fun z wq => z = .bool bz ∧ w = wq)
  case first => as_aux_lemma =>
    by_cases c1 : n < 1
    · have HX := Lib.hid (show bz = true by rw [Hbz.out]; exact dec_t (by omega))
      have t1 := dec_t c1
      clear c1
      go_wp2_with fail
      go_meet
      exact ⟨by rw [HX.out], rfl⟩
    · by_cases c2 : 10 < n
      · have HX := Lib.hid (show bz = true by rw [Hbz.out]; exact dec_t (by omega))
        have t1 := dec_f c1
        have t2 := dec_t c2
        clear c1 c2
        go_wp2_with fail
        go_meet
        exact ⟨by rw [HX.out], rfl⟩
      · by_cases c3 : wd < 1
        · have HX := Lib.hid (show bz = true by rw [Hbz.out]; exact dec_t (by omega))
          have t1 := dec_f c1
          have t2 := dec_f c2
          have t3 := dec_t c3
          clear c1 c2 c3
          go_wp2_with fail
          go_meet
          exact ⟨by rw [HX.out], rfl⟩
        · by_cases c4 : n < wd
          · have HX := Lib.hid (show bz = true by rw [Hbz.out]; exact dec_t (by omega))
            have t1 := dec_f c1
            have t2 := dec_f c2
            have t3 := dec_f c3
            have t4 := dec_t c4
            clear c1 c2 c3 c4
            go_wp2_with fail
            go_meet
            exact ⟨by rw [HX.out], rfl⟩
          · by_cases c5 : m < 0
            · have HX := Lib.hid (show bz = true by rw [Hbz.out]; exact dec_t (by omega))
              have t1 := dec_f c1
              have t2 := dec_f c2
              have t3 := dec_f c3
              have t4 := dec_f c4
              have t5 := dec_t c5
              clear c1 c2 c3 c4 c5
              go_wp2_with fail
              go_meet
              exact ⟨by rw [HX.out], rfl⟩
            · by_cases c6 : 40 < m
              · have HX := Lib.hid (show bz = true by rw [Hbz.out]; exact dec_t (by omega))
                have t1 := dec_f c1
                have t2 := dec_f c2
                have t3 := dec_f c3
                have t4 := dec_f c4
                have t5 := dec_f c5
                have t6 := dec_t c6
                clear c1 c2 c3 c4 c5 c6
                go_wp2_with fail
                go_meet
                exact ⟨by rw [HX.out], rfl⟩
              · have HX := Lib.hid (show bz = false by rw [Hbz.out]; exact dec_f (by omega))
                have t1 := dec_f c1
                have t2 := dec_f c2
                have t3 := dec_f c3
                have t4 := dec_f c4
                have t5 := dec_f c5
                have t6 := dec_f c6
                clear c1 c2 c3 c4 c5 c6
                go_wp2_with fail
                go_meet
                exact ⟨by rw [HX.out], rfl⟩
  case rest =>
  obtain ⟨rfl, rfl⟩ := hcut
  go_upto_if 52 with (fail)
  go_cut [11] (fun z wq => z = iv F ∧ w = wq)
  case first => as_aux_lemma =>
    cases bz with
    | true =>
      have HX := Lib.hid (show F = 1 by rw [HF.out]; unfold Pl.plF; exact if_pos (of_decide_eq_true Hbz.out.symm))
      go_wp2_with fail
      go_meet
      exact ⟨by rw [HX.out], rfl⟩
    | false =>
      have HX := Lib.hid (show F = 0 by rw [HF.out]; unfold Pl.plF; exact if_neg (of_decide_eq_false Hbz.out.symm))
      go_wp2_with fail
      go_meet
      exact ⟨by rw [HX.out], rfl⟩
  case rest =>
  obtain ⟨rfl, rfl⟩ := hcut
  clear Hbz
  go_upto_if 54 with (fail)
  go_cut [12] (fun v12 wq => ∃ wk, wk = wq ∧ Rows2 wk v12 Q ∧ Below w.heap.size w wk)
  case first => as_aux_lemma =>
    rcases Pl.plF_cases n wd m with h | ⟨h, a, b, c, rfl, rfl, rfl, h1, h2, h3, h4, h5⟩
    · have hF1 : F = 1 := HF.out.trans h
      have HQ1 : Hid (Q = []) := Lib.hid (by rw [HQ.out]; unfold Pl.plL; rw [if_neg (by rw [h]; decide)])
      have tF := beq_f (show F ≠ 0 by omega)
      clear h hF1
      go_wp2_with fail
      go_meet
      exact ⟨_, rfl, by rw [HQ1.out]; exact rows2_nil _, Below.refl _ _⟩
    · have hF1 : F = 0 := HF.out.trans h
      have HQ1 : Hid (Q = (Pl.st a b c).map ci) := Lib.hid (by rw [HQ.out]; unfold Pl.plL; rw [if_pos h]; rfl)
      have tF := beq_t hF1
      have HR := Lib.hid (rplace a b c h1 h2 h3 h4 h5 w)
      rw [← HQ1.out] at HR
      clear h hF1 h1 h2 h3 h4 h5
      go_wp2_with fail
      refine HR.out.mono ?_
      rintro e w1 ⟨v, rfl, hb1, hr1⟩
      have HB := Lib.hid hb1
      have HR1 := Lib.hid hr1
      clear hb1 hr1 HR
      go_wp2_with fail
      go_meet
      exact ⟨_, rfl, HR1.out, HB.out⟩
  case rest =>
  obtain ⟨w1, hw1, hR1, hB1⟩ := hcut
  subst hw1
  have HR1 := Lib.hid hR1
  have HB1 := Lib.hid hB1
  have HP := Lib.hid (place_tot n wd m w1)
  rw [← HF.out, ← HQ.out] at HP
  obtain ⟨ef, hef⟩ : ∃ ef, ef = errV F := ⟨_, rfl⟩
  rw [← hef] at HP
  have Hef := Lib.hid hef
  clear hR1 hB1 hef
  go_wp2_with fail
  refine HP.out.mono ?_
  rintro e w2 ⟨v2, rfl, hb2, hr2⟩
  have HB2 := Lib.hid (HB1.out.trans (hb2.mono HB1.out.size))
  have HR2 := Lib.hid (HR1.out.below hb2)
  have HS2 := Lib.hid hr2
  have HSm := Lib.hid (same_eq F w2 (Hg.out.below (Nat.le_refl _) HB2.out))
  rw [← Hef.out] at HSm
  clear hb2 hr2 HP HR1
  go_wp2_with fail
  refine HSm.out.mono ?_
  rintro e w3 ⟨rfl, hb3⟩
  have HB3 := Lib.hid (HB2.out.trans (hb3.mono HB2.out.size))
  have HLe := Lib.hid (lists_eq Q v2 u12 w3 (HS2.out.below hb3) (HR2.out.below hb3))
  clear hb3 HSm HR2 HS2
  go_wp2_with fail
  refine HLe.out.mono ?_
  rintro e w4 ⟨rfl, hb4⟩
  have HB4 := Lib.hid (HB3.out.trans (hb4.mono HB3.out.size))
  have HSt := Lib.hid (rstripes_any n l (.slice p ml cap) w4 (HV.out.below HB4.out))
  rw [← HC.out] at HSt
  clear hb4 HLe HB1 HB2 HB3 Hef HF HQ
  go_wp2_with fail
  refine HSt.out.mono ?_
  rintro e w5 ⟨rfl, nd5, hw5⟩
  have HB5 : Hid (Below w.heap.size w w5) := Lib.hid (by rw [hw5]; exact bdrew HB4.out nd5)
  clear hw5 HSt HB4
  go_upto_if 78 with (fail)
  go_cut [16] (fun v16 wq => ∃ wk, wk = wq ∧ Below w.heap.size w wk ∧ ((C = 0 ∧ ∃ g, v16 = .slice (some ⟨g, 0, none⟩) n.toNat n.toNat ∧ w.heap.size ≤ g ∧ OwnR wk g 3 (.slice (some ⟨g, 0, none⟩) n.toNat n.toNat) ((Pl.cts n.toNat []).map ivn)) ∨ (C ≠ 0 ∧ v16 = .slice none 0 0)))
  case first => as_aux_lemma =>
    by_cases h0 : C = 0
    · have hk := Od.chk_0 (HC.out.symm.trans h0)
      obtain ⟨nn, rfl⟩ : ∃ q : Nat, n = q := ⟨n.toNat, by omega⟩
      have h1n : 1 ≤ nn ∧ nn ≤ 10 := by omega
      have tC := beq_t h0
      have HC0 := Lib.hid h0
      have mk := make_intsO nn (by omega) w5
      have hO0 := made_intsO nn (by omega) w5
      rw [← Pl.cts_nil nn] at hO0
      have hal : Below w5.heap.size w5 (w5.alloc (.cells (madeCells #[.int .i64 0] nn) 3)) := (Below.refl _ _).alloc (Nat.le_refl _) _
      obtain ⟨w6, hw6⟩ : ∃ w6, w6 = w5.alloc (.cells (madeCells #[.int .i64 0] nn) 3) := ⟨_, rfl⟩
      obtain ⟨g, hg⟩ : ∃ g, g = w5.heap.size := ⟨_, rfl⟩
      rw [← hw6] at mk hO0 hal
      rw [← hg] at mk hO0
      have HB6 := Lib.hid (HB5.out.trans (hal.mono HB5.out.size))
      have HO0 := Lib.hid hO0
      have hgw : w.heap.size ≤ g := by rw [hg]; exact HB5.out.size
      clear hO0 hal hw6 hg
      clear h0 hk
      go_wp2_with fail
      go_meet
      exact ⟨_, rfl, HB6.out, .inl ⟨HC0.out, g, rfl, hgw, HO0.out⟩⟩
    · have tC := beq_f h0
      have HC0 := Lib.hid h0
      clear h0
      go_wp2_with fail
      go_meet
      exact ⟨_, rfl, HB5.out, .inr ⟨HC0.out, rfl⟩⟩
  case rest =>
  obtain ⟨w6, hw6, hB6, hor⟩ := hcut
  subst hw6
  have HB6 := Lib.hid hB6
  have Hor := Lib.hid hor
  clear hB6 hor HB5
  go_upto_block 0 with (fail)
  go_cut [16] (fun v16 wq => ∃ wk, wk = wq ∧ Below w.heap.size w wk ∧ Row wk v16 (V1.map ivn))
  case first => as_aux_lemma =>
    rcases Hor.out with ⟨h0, g, rfl, hgw, hO⟩ | ⟨h0, rfl⟩
    · have hk := Od.chk_0 (HC.out.symm.trans h0)
      obtain ⟨nn, rfl⟩ : ∃ q : Nat, n = q := ⟨n.toNat, by omega⟩
      have h1n : 1 ≤ nn ∧ nn ≤ 10 := by omega
      have hm40 : ml ≤ 40 := by rw [Hml.out]; exact hk.2.2.1
      have tC := beq_t h0
      have hVe : V1 = Pl.cts nn (Pl.fl l) := by rw [HV1.out]; unfold Pl.loV; rw [if_pos (HC.out.symm.trans h0)]; rfl
      have HVe := Lib.hid hVe
      have Hk := Lib.hid hk
      have HO0 := Lib.hid hO
      obtain ⟨w2, hw2⟩ : ∃ x : World, x = w6 := ⟨_, rfl⟩
      subst hw2
      have HB2 := Lib.hid HB6.out
      rw [Int.toNat_natCast] at HO0 ⊢
      clear hk h0 hO hVe Hor HB6
      go_wp2_with fail
      go_loopg [19] ml (fun gk v19 wr => ∃ i : Nat, i + gk = ml ∧ v19 = iv i ∧ OwnR wr g 3 (.slice (some ⟨g, 0, none⟩) nn nn) ((Pl.cts nn (Pl.fl (l.take i))).map ivn) ∧ Kept (fun x => x = g) w2 wr)
      case atStart => exact ⟨0, by omega, rfl, HO0.out, Kept.refl _ _⟩
      case round =>
        clear HO0
        obtain ⟨gO, hgO⟩ : ∃ x : Nat, x = gk := ⟨_, rfl⟩
        obtain ⟨wO, hwO⟩ : ∃ x : World, x = wr := ⟨_, rfl⟩
        subst hgO hwO
        obtain ⟨i, hi, rfl, hO, hK⟩ := hrel
        have Hi := Lib.hid hi
        have HO := Lib.hid hO
        have HK := Lib.hid hK
        clear hi hO hK
        by_cases him : i < ml
        · obtain ⟨s, hs⟩ : ∃ s, l[i]? = some s := ⟨l[i]'(by rw [← Hml.out]; exact him), List.getElem?_eq_getElem _⟩
          obtain ⟨gs, os, cs, p2, c2, hv, hgs, hcl, hrb, hwf⟩ := HV.out.at hs
          injection hv with e1 q8 q9
          have He1 := Lib.hid e1
          obtain ⟨k, hk⟩ : ∃ k, k = s.length := ⟨_, rfl⟩
          rw [← hk] at hcl hrb
          have d0 := HK.out.cell (b := gs) (o := os + i) ((HB2.out.cell (p := ⟨gs, os + i, none⟩) hgs).trans hcl) (by omega)
          have Hd0 := Lib.hid (And.intro ((HB2.out.cell (p := ⟨gs, os + i, none⟩) hgs).trans hcl) (show ¬ gs = g by omega))
          have hk9 : k ≤ 9223372036854775807 := by
            obtain ⟨_, c', _, h1, h2, _⟩ := hrb.shape
            rw [List.length_map, ← hk] at h1
            unfold maxLen at h2
            omega
          have HRB := Lib.hid hrb
          have HKs := Lib.hid hk
          have Hs := Lib.hid hs
          have Hnds := Lib.hid (Hk.out.2.2.2 s (List.mem_of_getElem? hs)).1
          have Hds := Lib.hid (Hk.out.2.2.2 s (List.mem_of_getElem? hs)).2
          rw [e1]
          clear e1 q8 q9 hcl hrb hk hs hwf hgs
          go_wp2_with fail
          go_loopg [20] k (fun gk v20 wr => ∃ j : Nat, j + gk = k ∧ v20 = iv j ∧ OwnR wr g 3 (.slice (some ⟨g, 0, none⟩) nn nn) ((Pl.cts nn (Pl.fl (l.take i) ++ s.take j)).map ivn) ∧ Kept (fun x => x = g) w2 wr)
          case atStart => exact ⟨0, by omega, rfl, by rw [List.take_zero, List.append_nil]; exact HO.out, HK.out⟩
          case round =>
            clear HO HK d0
            obtain ⟨j, hj, rfl, hO, hK⟩ := hrel
            have Hj := Lib.hid hj
            have HO := Lib.hid hO
            have HK := Lib.hid hK
            have d0 := HK.out.cell Hd0.out.1 Hd0.out.2
            clear hj hO hK
            by_cases hjk : j < k
            · obtain ⟨d, hd⟩ : ∃ d, s[j]? = some d := ⟨s[j]'(by rw [← HKs.out]; exact hjk), List.getElem?_eq_getElem _⟩
              obtain ⟨g2, o2, cc2, hv2, h3, h4, h5⟩ := HRB.out.pos (by rw [List.length_map, ← HKs.out]; omega)
              injection hv2 with e1 q8 q9
              have He2 := Lib.hid e1
              have d1 := h5 j (by rw [List.length_map, ← HKs.out]; exact hjk)
              rw [List.getElem?_map, hd] at d1
              have d1' : w.cell? ⟨g2, o2 + j, none⟩ = some (iv d) := d1
              have hg2g : g2 < w.heap.size := World.block_lt_of_cell? w _ d1'
              have d2 := HK.out.cell (b := g2) (o := o2 + j) ((HB2.out.cell (p := ⟨g2, o2 + j, none⟩) hg2g).trans d1') (by omega)
              have hdb := Hds.out d (List.mem_of_getElem? hd)
              obtain ⟨dn, rfl⟩ : ∃ n : Nat, d = n := ⟨d.toNat, by omega⟩
              have hdn : dn < nn := by omega
              have Hd := Lib.hid hd
              have hjkI' : (j : Int) < (k : Int) := by omega
              have hdI : (dn : Int) < (nn : Int) := by omega
              rw [e1] at d0
              clear e1 q8 q9 h3 h4 h5 d1 hd d1' hg2g hdb
              have hcn : (Pl.fl (l.take i) ++ s.take j).count (dn : Int) ≤ 41 := by
                rw [List.count_append]
                have h1 := Pl.fl_count (d := (dn : Int)) (l := l.take i) (fun t ht => (Hk.out.2.2.2 t (List.mem_of_mem_take ht)).1)
                rw [List.length_take] at h1
                have h2 := Pl.count_one (Hnds.out.sublist (List.take_sublist j s)) (dn : Int)
                omega
              obtain ⟨hx1, hx2, hx3, hx4, hx5, hcc, hff⟩ := OwnR.cellsO HO.out (by rw [List.length_map, Pl.cts_len]; omega)
              have d3 := hcc dn hdn
              rw [ivn_at (Pl.cts_get _ hdn), Nat.zero_add] at d3
              have f3 := hff dn
              have hst1 := HO.out.setAtO (k := dn) (by rw [List.length_map, Pl.cts_len]; exact hdn) (ivn ((Pl.fl (l.take i) ++ s.take j).count (dn : Int) + 1))
              rw [Nat.zero_add, ← List.map_set, ← Pl.cts_snoc _ hdn] at hst1
              obtain ⟨x, hx⟩ : ∃ x, x = (Pl.fl (l.take i) ++ s.take j).count (dn : Int) := ⟨_, rfl⟩
              rw [← hx] at d3 hst1 hcn
              have hwx : IntKind.i64.wrap ((x : Int) + 1) = ((x + 1 : Nat) : Int) := by rw [IntWalk.i64_in _ (by omega)]; omega
              clear hx hx1 hx2 hx3 hx4 hx5 hcc hff
              have hsx : (Pl.fl (l.take i) ++ s.take j) ++ [(dn : Int)] = Pl.fl (l.take i) ++ s.take (j + 1) := by rw [List.take_add_one, Hd.out, List.append_assoc]; rfl
              rw [hsx] at hst1
              have Hst := Lib.hid hst1
              clear hcn hsx hst1
              go_wp2_with fail
              first | rw [← He2.out] | skip
              go_roundg (gk - 1)
              case measure => have := Hj.out; omega
              case rel => exact ⟨j + 1, by have := Hj.out; omega, by go_num, Hst.out, HK.out.set1 dn _⟩
            · obtain rfl : j = k := by have := Hj.out; omega
              have hfs : Pl.fl (l.take i) ++ s.take j = Pl.fl (l.take (i + 1)) := by rw [Pl.fl_snoc Hs.out, HKs.out, List.take_length]
              rw [hfs] at HO
              clear hfs hjk
              go_wp2_with fail
              rw [← He1.out]
              go_roundg (gO - 1)
              case measure => have := Hi.out; omega
              case rel => exact ⟨i + 1, by have := Hi.out; omega, by go_num, HO.out, HK.out⟩
        · obtain rfl : i = ml := by have := Hi.out; omega
          rw [Hml.out, List.take_length, ← HVe.out] at HO
          have HR := Lib.hid (OwnR.row HO.out)
          have HB9 := Lib.hid (HB2.out.trans (HK.out.toBelow HB2.out.size (fun q _ e => by rw [e]; exact hgw)))
          clear him HO HK
          go_wp2_with fail
          go_meet
          exact ⟨_, rfl, HB9.out, HR.out⟩
    · have tC := beq_f h0
      have hVe : V1 = [] := by rw [HV1.out]; unfold Pl.loV; rw [if_neg (fun h => h0 (HC.out.trans h))]
      have HVe := Lib.hid hVe
      clear h0 hVe Hor
      go_wp2_with fail
      go_loopg [19] 0 (fun gk v wr => v = iv 0 ∧ w6 = wr)
      case atStart => exact ⟨rfl, rfl⟩
      case round =>
        obtain ⟨rfl, rfl⟩ := hrel
        by_cases h9 : 0 < ml
        · have t9 := dec_t h9
          clear h9
          go_wp2_with fail
          go_meet
          exact ⟨_, rfl, HB6.out, by rw [HVe.out]; exact row_nil _⟩
        · have t9 := dec_f h9
          clear h9
          go_wp2_with fail
          go_meet
          exact ⟨_, rfl, HB6.out, by rw [HVe.out]; exact row_nil _⟩
  case rest => as_aux_lemma =>
  obtain ⟨w7, hw7, hB7, hR7⟩ := hcut
  subst hw7
  have HB7 := Lib.hid hB7
  have HR7 := Lib.hid hR7
  clear hB7 hR7 HB6 Hor
  have HL := Lib.hid (ploads_tot n l (.slice p ml cap) w7 (HV.out.below HB7.out))
  unfold NmPost at HL
  rw [← HV1.out, ← HC.out] at HL
  obtain ⟨ec, hec⟩ : ∃ ec, ec = errV C := ⟨_, rfl⟩
  rw [← hec] at HL
  have Hec := Lib.hid hec
  clear hec
  go_wp2_with fail
  refine HL.out.mono ?_
  rintro e w8 ⟨vx, rfl, hr, hb⟩
  have HB8 := Lib.hid (HB7.out.trans (hb.mono HB7.out.size))
  have HR8 := Lib.hid (HR7.out.below hb)
  have HX8 := Lib.hid hr
  have HSm := Lib.hid (same_eq C w8 (Hg.out.below (Nat.le_refl _) HB8.out))
  rw [← Hec.out] at HSm
  clear hr hb HL HR7 HB7
  go_wp2_with fail
  refine HSm.out.mono ?_
  rintro e w9 ⟨rfl, hb⟩
  have HB9 := Lib.hid (HB8.out.trans (hb.mono HB8.out.size))
  have HNe := Lib.hid (nums_eq V1 vx u16 w9 (HX8.out.below hb) (HR8.out.below hb))
  clear hb HSm HR8 HX8 HB8
  go_wp2_with fail
  refine HNe.out.mono ?_
  rintro e w10 ⟨rfl, hb⟩
  have HB10 := Lib.hid (HB9.out.trans (hb.mono HB9.out.size))
  clear hb HNe HB9
  obtain ⟨b2, hb2⟩ : ∃ b, b = decide (C = 0 ∧ (d < 0 ∨ n ≤ d)) := ⟨_, rfl⟩
  have Hb2 := Lib.hid hb2
  clear hb2
  go_upto_region 22 with (fail)
  go_cut [136] (fun z wq => z = .bool b2 ∧ w10 = wq)
  case first => as_aux_lemma =>
    by_cases c1 : C = 0
    · by_cases c2 : d < 0
      · have HX := Lib.hid (show b2 = true by rw [Hb2.out]; exact dec_t ⟨c1, .inl c2⟩)
        have t1 := beq_t c1
        have t2 := dec_t c2
        clear c1 c2
        go_wp2_with fail
        go_meet
        exact ⟨by rw [HX.out], rfl⟩
      · by_cases c3 : n ≤ d
        · have HX := Lib.hid (show b2 = true by rw [Hb2.out]; exact dec_t ⟨c1, .inr c3⟩)
          have t1 := beq_t c1
          have t2 := dec_f c2
          have t3 := dec_t c3
          clear c1 c2 c3
          go_wp2_with fail
          go_meet
          exact ⟨by rw [HX.out], rfl⟩
        · have HX := Lib.hid (show b2 = false by rw [Hb2.out]; exact dec_f (fun h => h.2.elim c2 c3))
          have t1 := beq_t c1
          have t2 := dec_f c2
          have t3 := dec_f c3
          clear c1 c2 c3
          go_wp2_with fail
          go_meet
          exact ⟨by rw [HX.out], rfl⟩
    · have HX := Lib.hid (show b2 = false by rw [Hb2.out]; exact dec_f (fun h => c1 h.1))
      have t1 := beq_f c1
      clear c1
      go_wp2_with fail
      go_meet
      exact ⟨by rw [HX.out], rfl⟩
  case rest =>
  obtain ⟨rfl, rfl⟩ := hcut
  go_upto_if 136 with (fail)
  go_cut [11] (fun z wq => z = iv E ∧ w10 = wq)
  case first => as_aux_lemma =>
    cases b2 with
    | true =>
      have h := of_decide_eq_true Hb2.out.symm
      have HX := Lib.hid (show E = 1 by rw [HE.out]; unfold Pl.peE; rw [← HC.out, if_neg (fun hc => hc h.1), if_pos h.2])
      clear h
      go_wp2_with fail
      go_meet
      exact ⟨by rw [HX.out], rfl⟩
    | false =>
      have h := of_decide_eq_false Hb2.out.symm
      have HX := Lib.hid (show E = C by
        rw [HE.out]; unfold Pl.peE; rw [← HC.out]
        by_cases hc : C = 0
        · rw [if_neg (fun h2 => h2 hc), if_neg (fun h2 => h ⟨hc, h2⟩), hc]
        · rw [if_pos hc])
      clear h
      go_wp2_with fail
      go_meet
      exact ⟨by rw [HX.out], rfl⟩
  case rest =>
  obtain ⟨rfl, rfl⟩ := hcut
  clear Hb2 Hec
  go_upto_if 138 with (fail)
  go_cut [18] (fun v18 wq => ∃ wk, wk = wq ∧ Below w.heap.size w wk ∧ ((E = 0 ∧ ∃ g, v18 = .slice (some ⟨g, 0, none⟩) n.toNat n.toNat ∧ w.heap.size ≤ g ∧ OwnR wk g 3 (.slice (some ⟨g, 0, none⟩) n.toNat n.toNat) ((Pl.cts n.toNat []).map ivn)) ∨ (E ≠ 0 ∧ v18 = .slice none 0 0)))
  case first => as_aux_lemma =>
    by_cases h0 : E = 0
    · have hk := Od.chk_0 (Pl.peE_0 (HE.out.symm.trans h0)).1
      obtain ⟨nn, rfl⟩ : ∃ q : Nat, n = q := ⟨n.toNat, by omega⟩
      have h1n : 1 ≤ nn ∧ nn ≤ 10 := by omega
      have tC := beq_t h0
      have HC0 := Lib.hid h0
      have mk := make_intsO nn (by omega) w10
      have hO0 := made_intsO nn (by omega) w10
      rw [← Pl.cts_nil nn] at hO0
      have hal : Below w10.heap.size w10 (w10.alloc (.cells (madeCells #[.int .i64 0] nn) 3)) := (Below.refl _ _).alloc (Nat.le_refl _) _
      obtain ⟨w6, hw6⟩ : ∃ w6, w6 = w10.alloc (.cells (madeCells #[.int .i64 0] nn) 3) := ⟨_, rfl⟩
      obtain ⟨g, hg⟩ : ∃ g, g = w10.heap.size := ⟨_, rfl⟩
      rw [← hw6] at mk hO0 hal
      rw [← hg] at mk hO0
      have HB6 := Lib.hid (HB10.out.trans (hal.mono HB10.out.size))
      have HO0 := Lib.hid hO0
      have hgw : w.heap.size ≤ g := by rw [hg]; exact HB10.out.size
      clear hO0 hal hw6 hg
      clear h0 hk
      go_wp2_with fail
      go_meet
      exact ⟨_, rfl, HB6.out, .inl ⟨HC0.out, g, rfl, hgw, HO0.out⟩⟩
    · have tC := beq_f h0
      have HC0 := Lib.hid h0
      clear h0
      go_wp2_with fail
      go_meet
      exact ⟨_, rfl, HB10.out, .inr ⟨HC0.out, rfl⟩⟩
  case rest =>
  obtain ⟨w11, hw11, hB11, hor⟩ := hcut
  subst hw11
  have HB11 := Lib.hid hB11
  have Hor := Lib.hid hor
  clear hB11 hor HB10
  go_upto_block 4 with (fail)
  go_cut [18] (fun v18 wq => ∃ wk, wk = wq ∧ Below w.heap.size w wk ∧ Row wk v18 (V2.map ivn))
  case first => as_aux_lemma =>
    rcases Hor.out with ⟨h0, g, rfl, hgw, hO⟩ | ⟨h0, rfl⟩
    · have hp := Pl.peE_0 (HE.out.symm.trans h0)
      have hk := Od.chk_0 hp.1
      obtain ⟨nn, rfl⟩ : ∃ q : Nat, n = q := ⟨n.toNat, by omega⟩
      obtain ⟨dd, rfl⟩ : ∃ q : Nat, d = q := ⟨d.toNat, by omega⟩
      have h1n : 1 ≤ nn ∧ nn ≤ 10 := by omega
      have hm40 : ml ≤ 40 := by rw [Hml.out]; exact hk.2.2.1
      have tC := beq_t h0
      have hVe : V2 = Pl.cts nn (Pl.prs (dd : Int) l) := by rw [HV2.out]; unfold Pl.peV; rw [if_pos (HE.out.symm.trans h0)]; rfl
      have HVe := Lib.hid hVe
      have Hk := Lib.hid hk
      have HO0 := Lib.hid hO
      obtain ⟨w2, hw2⟩ : ∃ x : World, x = w11 := ⟨_, rfl⟩
      subst hw2
      have HB2 := Lib.hid HB11.out
      rw [Int.toNat_natCast] at HO0 ⊢
      clear hk h0 hO hVe Hor HB11 hp
      go_wp2_with fail
      go_loopg [23] ml (fun gk v23 wr => ∃ i : Nat, i + gk = ml ∧ v23 = iv i ∧ OwnR wr g 3 (.slice (some ⟨g, 0, none⟩) nn nn) ((Pl.cts nn (Pl.prs (dd : Int) (l.take i))).map ivn) ∧ Kept (fun x => x = g) w2 wr)
      case atStart => exact ⟨0, by omega, rfl, HO0.out, Kept.refl _ _⟩
      case round =>
        clear HO0
        obtain ⟨gO, hgO⟩ : ∃ x : Nat, x = gk := ⟨_, rfl⟩
        obtain ⟨wO, hwO⟩ : ∃ x : World, x = wr := ⟨_, rfl⟩
        subst hgO hwO
        obtain ⟨i, hi, rfl, hO, hK⟩ := hrel
        have Hi := Lib.hid hi
        have HO := Lib.hid hO
        have HK := Lib.hid hK
        clear hi hO hK
        by_cases him : i < ml
        · obtain ⟨s, hs⟩ : ∃ s, l[i]? = some s := ⟨l[i]'(by rw [← Hml.out]; exact him), List.getElem?_eq_getElem _⟩
          have hsn := Pl.prs_snoc (dd : Int) hs
          have Hsn := Lib.hid hsn
          obtain ⟨gs, os, cs, p2, c2, hv, hgs, hcl, hrb, hwf⟩ := HV.out.at hs
          injection hv with e1 q8 q9
          have He1 := Lib.hid e1
          obtain ⟨k, hk⟩ : ∃ k, k = s.length := ⟨_, rfl⟩
          rw [← hk] at hcl hrb
          have d0 := HK.out.cell (b := gs) (o := os + i) ((HB2.out.cell (p := ⟨gs, os + i, none⟩) hgs).trans hcl) (by omega)
          have Hd0 := Lib.hid (And.intro ((HB2.out.cell (p := ⟨gs, os + i, none⟩) hgs).trans hcl) (show ¬ gs = g by omega))
          have hk9 : k ≤ 9223372036854775807 := by
            obtain ⟨_, c', _, h1, h2, _⟩ := hrb.shape
            rw [List.length_map, ← hk] at h1
            unfold maxLen at h2
            omega
          have HRB := Lib.hid hrb
          have HKs := Lib.hid hk
          have Hs := Lib.hid hs
          have Hnds := Lib.hid (Hk.out.2.2.2 s (List.mem_of_getElem? hs)).1
          have Hds := Lib.hid (Hk.out.2.2.2 s (List.mem_of_getElem? hs)).2
          rw [e1]
          clear e1 q8 q9 hcl hrb hk hs hwf hgs
          have hbO := HB2.out.trans (HK.out.toBelow HB2.out.size (fun q _ e => by rw [e]; exact hgw))
          have HCo := Lib.hid (rin_any s (dd : Int) _ wO (HRB.out.below hbO))
          clear hbO hsn
          go_wp2_with fail
          refine HCo.out.mono ?_
          rintro e w' ⟨rfl, rfl⟩
          clear HCo
          obtain ⟨cb, hcb⟩ : ∃ cb, cb = s.contains (dd : Int) := ⟨_, rfl⟩
          rw [← hcb]
          have Hcb := Lib.hid hcb
          clear hcb
          cases cb with
          | false =>
            have hfs : Pl.prs (dd : Int) (l.take (i + 1)) = Pl.prs (dd : Int) (l.take i) := by rw [Hsn.out, ← Hcb.out]; simp
            rw [← hfs] at HO
            clear hfs
            go_wp2_with fail
            go_loopg [25] 0 (fun gk v25 wr => v25 = iv 0 ∧ wO = wr)
            case atStart => exact ⟨rfl, rfl⟩
            case round =>
              obtain ⟨rfl, rfl⟩ := hrel
              by_cases h9 : 0 < k
              · have t9 := dec_t h9
                clear h9
                go_wp2_with fail
                rw [← He1.out]
                go_roundg (gO - 1)
                case measure => have := Hi.out; omega
                case rel => exact ⟨i + 1, by have := Hi.out; omega, by go_num, HO.out, HK.out⟩
              · have t9 := dec_f h9
                clear h9
                go_wp2_with fail
                rw [← He1.out]
                go_roundg (gO - 1)
                case measure => have := Hi.out; omega
                case rel => exact ⟨i + 1, by have := Hi.out; omega, by go_num, HO.out, HK.out⟩
          | true =>
            go_wp2_with fail
            go_loopg [25] k (fun gk v25 wr => ∃ j : Nat, j + gk = k ∧ v25 = iv j ∧ OwnR wr g 3 (.slice (some ⟨g, 0, none⟩) nn nn) ((Pl.cts nn (Pl.prs (dd : Int) (l.take i) ++ (s.take j).filter (fun q => !(q == (dd : Int))))).map ivn) ∧ Kept (fun x => x = g) w2 wr)
            case atStart => exact ⟨0, by omega, rfl, by rw [List.take_zero, List.filter_nil, List.append_nil]; exact HO.out, HK.out⟩
            case round =>
              clear HO HK d0
              obtain ⟨j, hj, rfl, hO, hK⟩ := hrel
              have Hj := Lib.hid hj
              have HO := Lib.hid hO
              have HK := Lib.hid hK
              have d0 := HK.out.cell Hd0.out.1 Hd0.out.2
              clear hj hO hK
              by_cases hjk : j < k
              · obtain ⟨d, hd⟩ : ∃ d, s[j]? = some d := ⟨s[j]'(by rw [← HKs.out]; exact hjk), List.getElem?_eq_getElem _⟩
                obtain ⟨g2, o2, cc2, hv2, h3, h4, h5⟩ := HRB.out.pos (by rw [List.length_map, ← HKs.out]; omega)
                injection hv2 with e1 q8 q9
                have He2 := Lib.hid e1
                have d1 := h5 j (by rw [List.length_map, ← HKs.out]; exact hjk)
                rw [List.getElem?_map, hd] at d1
                have d1' : w.cell? ⟨g2, o2 + j, none⟩ = some (iv d) := d1
                have hg2g : g2 < w.heap.size := World.block_lt_of_cell? w _ d1'
                have d2 := HK.out.cell (b := g2) (o := o2 + j) ((HB2.out.cell (p := ⟨g2, o2 + j, none⟩) hg2g).trans d1') (by omega)
                have hdb := Hds.out d (List.mem_of_getElem? hd)
                obtain ⟨dn, rfl⟩ : ∃ n : Nat, d = n := ⟨d.toNat, by omega⟩
                have hdn : dn < nn := by omega
                have Hd := Lib.hid hd
                have hjkI' : (j : Int) < (k : Int) := by omega
                have hdI : (dn : Int) < (nn : Int) := by omega
                rw [e1] at d0
                clear e1 q8 q9 h3 h4 h5 d1 hd d1' hg2g hdb
                have hstep : (s.take (j + 1)).filter (fun q => !(q == (dd : Int))) = (s.take j).filter (fun q => !(q == (dd : Int))) ++ if dn = dd then [] else [(dn : Int)] := by
                  rw [List.take_add_one, Hd.out, List.filter_append]
                  congr 1
                  show List.filter _ [(dn : Int)] = _
                  rw [List.filter_cons, List.filter_nil]
                  by_cases e : dn = dd
                  · rw [if_pos e, e]; simp
                  · rw [if_neg e]
                    have : ((dn : Int) == (dd : Int)) = false := by rw [beq_eq_false_iff_ne]; omega
                    rw [this]; rfl
                by_cases hed : dn = dd
                · rw [if_pos hed, List.append_nil] at hstep
                  rw [← hstep] at HO
                  have tne := bne_f (show (dn : Int) = (dd : Int) by omega)
                  clear hstep hed
                  go_wp2_with fail
                  first | rw [← He2.out] | skip
                  go_roundg (gk - 1)
                  case measure => have := Hj.out; omega
                  case rel => exact ⟨j + 1, by have := Hj.out; omega, by go_num, HO.out, HK.out⟩
                · rw [if_neg hed] at hstep
                  have tne := bne_t (show (dn : Int) ≠ (dd : Int) by omega)
                  have hcn : (Pl.prs (dd : Int) (l.take i) ++ (s.take j).filter (fun q => !(q == (dd : Int)))).count (dn : Int) ≤ 41 := by
                    rw [List.count_append]
                    have h1 := Pl.prs_count (d := (dd : Int)) (k := (dn : Int)) (l := l.take i) (fun t ht => (Hk.out.2.2.2 t (List.mem_of_mem_take ht)).1)
                    rw [List.length_take] at h1
                    have h2 := Pl.count_one (((Hnds.out.sublist (List.take_sublist j s))).sublist (List.filter_sublist (p := fun q => !(q == (dd : Int))))) (dn : Int)
                    omega
                  obtain ⟨hx1, hx2, hx3, hx4, hx5, hcc, hff⟩ := OwnR.cellsO HO.out (by rw [List.length_map, Pl.cts_len]; omega)
                  have d3 := hcc dn hdn
                  rw [ivn_at (Pl.cts_get _ hdn), Nat.zero_add] at d3
                  have f3 := hff dn
                  have hst1 := HO.out.setAtO (k := dn) (by rw [List.length_map, Pl.cts_len]; exact hdn) (ivn ((Pl.prs (dd : Int) (l.take i) ++ (s.take j).filter (fun q => !(q == (dd : Int)))).count (dn : Int) + 1))
                  rw [Nat.zero_add, ← List.map_set, ← Pl.cts_snoc _ hdn] at hst1
                  obtain ⟨x, hx⟩ : ∃ x, x = (Pl.prs (dd : Int) (l.take i) ++ (s.take j).filter (fun q => !(q == (dd : Int)))).count (dn : Int) := ⟨_, rfl⟩
                  rw [← hx] at d3 hst1 hcn
                  have hwx : IntKind.i64.wrap ((x : Int) + 1) = ((x + 1 : Nat) : Int) := by rw [IntWalk.i64_in _ (by omega)]; omega
                  clear hx hx1 hx2 hx3 hx4 hx5 hcc hff
                  rw [List.append_assoc, ← hstep] at hst1
                  have Hst := Lib.hid hst1
                  clear hcn hstep hst1 hed
                  go_wp2_with fail
                  first | rw [← He2.out] | skip
                  go_roundg (gk - 1)
                  case measure => have := Hj.out; omega
                  case rel => exact ⟨j + 1, by have := Hj.out; omega, by go_num, Hst.out, HK.out.set1 dn _⟩
              · obtain rfl : j = k := by have := Hj.out; omega
                have hfs : Pl.prs (dd : Int) (l.take i) ++ (s.take j).filter (fun q => !(q == (dd : Int))) = Pl.prs (dd : Int) (l.take (i + 1)) := by rw [Hsn.out, ← Hcb.out, HKs.out, List.take_length, if_pos rfl]
                rw [hfs] at HO
                clear hfs hjk
                go_wp2_with fail
                rw [← He1.out]
                go_roundg (gO - 1)
                case measure => have := Hi.out; omega
                case rel => exact ⟨i + 1, by have := Hi.out; omega, by go_num, HO.out, HK.out⟩
        · obtain rfl : i = ml := by have := Hi.out; omega
          rw [Hml.out, List.take_length, ← HVe.out] at HO
          have HR := Lib.hid (OwnR.row HO.out)
          have HB9 := Lib.hid (HB2.out.trans (HK.out.toBelow HB2.out.size (fun q _ e => by rw [e]; exact hgw)))
          clear him HO HK
          go_wp2_with fail
          go_meet
          exact ⟨_, rfl, HB9.out, HR.out⟩
    · have tC := beq_f h0
      have hVe : V2 = [] := by rw [HV2.out]; unfold Pl.peV; rw [if_neg (fun h => h0 (HE.out.trans h))]
      have HVe := Lib.hid hVe
      clear h0 hVe Hor
      go_wp2_with fail
      go_loopg [23] 0 (fun gk v wr => v = iv 0 ∧ w11 = wr)
      case atStart => exact ⟨rfl, rfl⟩
      case round =>
        obtain ⟨rfl, rfl⟩ := hrel
        by_cases h9 : 0 < ml
        · have t9 := dec_t h9
          clear h9
          go_wp2_with fail
          go_meet
          exact ⟨_, rfl, HB11.out, by rw [HVe.out]; exact row_nil _⟩
        · have t9 := dec_f h9
          clear h9
          go_wp2_with fail
          go_meet
          exact ⟨_, rfl, HB11.out, by rw [HVe.out]; exact row_nil _⟩
  case rest => as_aux_lemma =>
  obtain ⟨w12, hw12, hB12, hR12⟩ := hcut
  subst hw12
  have HB12 := Lib.hid hB12
  have HR12 := Lib.hid hR12
  clear hB12 hR12 HB11 Hor
  have HL := Lib.hid (ppeers_tot n l d (.slice p ml cap) w12 (HV.out.below HB12.out))
  unfold NmPost at HL
  rw [← HV2.out, ← HE.out] at HL
  obtain ⟨ee, hee⟩ : ∃ ee, ee = errV E := ⟨_, rfl⟩
  rw [← hee] at HL
  have Hee := Lib.hid hee
  clear hee
  go_wp2_with fail
  refine HL.out.mono ?_
  rintro e w13 ⟨vx, rfl, hr, hb⟩
  have HB13 := Lib.hid (HB12.out.trans (hb.mono HB12.out.size))
  have HR13 := Lib.hid (HR12.out.below hb)
  have HX13 := Lib.hid hr
  have HSm := Lib.hid (same_eq E w13 (Hg.out.below (Nat.le_refl _) HB13.out))
  rw [← Hee.out] at HSm
  clear hr hb HL HR12 HB12
  go_wp2_with fail
  refine HSm.out.mono ?_
  rintro e w14 ⟨rfl, hb⟩
  have HB14 := Lib.hid (HB13.out.trans (hb.mono HB13.out.size))
  have HNe := Lib.hid (nums_eq V2 vx u18 w14 (HX13.out.below hb) (HR13.out.below hb))
  clear hb HSm HR13 HX13 HB13
  go_wp2_with fail
  refine HNe.out.mono ?_
  rintro e w15 ⟨rfl, hb⟩
  have HB15 := Lib.hid (HB14.out.trans (hb.mono HB14.out.size))
  clear hb HNe HB14
  obtain ⟨b3, hb3⟩ : ∃ b, b = decide (d < 0 ∨ 10 ≤ d) := ⟨_, rfl⟩
  have Hb3 := Lib.hid hb3
  clear hb3
  go_upto_region 38 with (fail)
  go_cut [210] (fun z wq => z = .bool b3 ∧ w15 = wq)
  case first => as_aux_lemma =>
    by_cases c2 : d < 0
    · have HX := Lib.hid (show b3 = true by rw [Hb3.out]; exact dec_t (.inl c2))
      have t2 := dec_t c2
      clear c2
      go_wp2_with fail
      go_meet
      exact ⟨by rw [HX.out], rfl⟩
    · by_cases c3 : 10 ≤ d
      · have HX := Lib.hid (show b3 = true by rw [Hb3.out]; exact dec_t (.inr c3))
        have t2 := dec_f c2
        have t3 := dec_t c3
        clear c2 c3
        go_wp2_with fail
        go_meet
        exact ⟨by rw [HX.out], rfl⟩
      · have HX := Lib.hid (show b3 = false by rw [Hb3.out]; exact dec_f (fun h => h.elim c2 c3))
        have t2 := dec_f c2
        have t3 := dec_f c3
        clear c2 c3
        go_wp2_with fail
        go_meet
        exact ⟨by rw [HX.out], rfl⟩
  case rest =>
  obtain ⟨rfl, rfl⟩ := hcut
  obtain ⟨D, hD⟩ : ∃ D : Int, D = if b3 = true then 1 else 0 := ⟨_, rfl⟩
  have HD := Lib.hid hD
  clear hD Hee
  go_upto_if 210 with (fail)
  go_cut [11] (fun z wq => z = iv D ∧ w15 = wq)
  case first => as_aux_lemma =>
    cases b3 with
    | true =>
      have HX := Lib.hid (show D = 1 from HD.out)
      go_wp2_with fail
      go_meet
      exact ⟨by rw [HX.out], rfl⟩
    | false =>
      have HX := Lib.hid (show D = 0 from HD.out)
      go_wp2_with fail
      go_meet
      exact ⟨by rw [HX.out], rfl⟩
  case rest =>
  obtain ⟨rfl, rfl⟩ := hcut
  go_upto_if 212 with (fail)
  go_cut [11] (fun z wq => ∃ wk, wk = wq ∧ z = iv G ∧ Below w.heap.size w wk)
  case first => as_aux_lemma =>
    cases b3 with
    | true =>
      have HX := Lib.hid (show G = D by rw [HG.out]; unfold Pl.huE; rw [if_pos (of_decide_eq_true Hb3.out.symm)]; exact HD.out.symm)
      have tD := beq_f (show D ≠ 0 by rw [show D = 1 from HD.out]; decide)
      go_wp2_with fail
      go_meet
      exact ⟨_, rfl, by rw [HX.out], HB15.out⟩
    | false =>
      have hG : G = Od.chk 10 l := by rw [HG.out]; unfold Pl.huE; rw [if_neg (of_decide_eq_false Hb3.out.symm)]
      have tD := beq_t (show D = 0 from HD.out)
      have HSt := Lib.hid (rstripes_any 10 l (.slice p ml cap) w15 (HV.out.below HB15.out))
      rw [← hG] at HSt
      clear hG
      go_wp2_with fail
      refine HSt.out.mono ?_
      rintro e w16 ⟨rfl, nd16, hw16⟩
      have HB16 : Hid (Below w.heap.size w w16) := Lib.hid (by rw [hw16]; exact bdrew HB15.out nd16)
      clear hw16 HSt
      go_wp2_with fail
      go_meet
      exact ⟨_, rfl, rfl, HB16.out⟩
  case rest =>
  obtain ⟨w16, hw16, rfl, hB16⟩ := hcut
  subst hw16
  have HB16 := Lib.hid hB16
  clear hB16 HB15 Hb3 HD
  go_upto_block 8 with (fail)
  go_cut [17] (fun v17 wq => ∃ wk, wk = wq ∧ Below w.heap.size w wk ∧ Row wk v17 (V3.map ivn))
  case first => as_aux_lemma =>
    by_cases h0 : G = 0
    · have tC := beq_t h0
      have hVe : V3 = Pl.hts d l l.length := by rw [HV3.out]; unfold Pl.huV; rw [if_pos (HG.out.symm.trans h0)]
      have HVe := Lib.hid hVe
      have hm40 : ml ≤ 40 := by
        have h2 := HG.out.symm.trans h0
        unfold Pl.huE at h2
        by_cases h3 : d < 0 ∨ 10 ≤ d
        · rw [if_pos h3] at h2; cases h2
        · rw [if_neg h3] at h2; rw [Hml.out]; exact (Od.chk_0 h2).2.2.1
      clear h0 hVe
      go_wp2_with fail
      go_loopg [17, 27] ml (fun gk v17 v27 wr => ∃ i : Nat, i + gk = ml ∧ v27 = iv i ∧ wr.ownsRow w.heap.size 3 1 v17 (Pl.hts d l i).length ((Pl.hts d l i).map ivn) ∧ Below w.heap.size w wr)
      case atStart => exact ⟨0, by omega, rfl, World.ownsRow_nil _ _ _ _, HB16.out⟩
      case round =>
        clear HB16
        obtain ⟨wO, hwO⟩ : ∃ x : World, x = wr := ⟨_, rfl⟩
        subst hwO
        obtain ⟨i, hi, rfl, hO, hB⟩ := hrel
        have Hi := Lib.hid hi
        have HO := Lib.hid hO
        have HB := Lib.hid hB
        clear hi hO hB
        by_cases him : i < ml
        · obtain ⟨s, hs⟩ : ∃ s, l[i]? = some s := ⟨l[i]'(by rw [← Hml.out]; exact him), List.getElem?_eq_getElem _⟩
          have Hsn := Lib.hid (Pl.hts_succ d hs)
          obtain ⟨gs, os, cs, p2, c2, hv, hgs, hcl, hrb, hwf⟩ := HV.out.at hs
          injection hv with e1 q8 q9
          have He1 := Lib.hid e1
          have d0 := (HB.out.cell (p := ⟨gs, os + i, none⟩) hgs).trans hcl
          have HCo := Lib.hid (rin_any s d _ wO (hrb.below HB.out))
          obtain ⟨k, hk⟩ : ∃ k, k = s.length := ⟨_, rfl⟩
          rw [← hk] at d0 HCo
          rw [e1]
          clear e1 q8 q9 hcl hrb hk hs hwf hgs
          go_wp2_with fail
          refine HCo.out.mono ?_
          rintro e w' ⟨rfl, rfl⟩
          clear HCo
          obtain ⟨cb, hcb⟩ : ∃ cb, cb = s.contains d := ⟨_, rfl⟩
          rw [← hcb]
          have Hcb := Lib.hid hcb
          clear hcb
          cases cb with
          | false =>
            have hfs : Pl.hts d l (i + 1) = Pl.hts d l i := by rw [Hsn.out, ← Hcb.out]; simp
            rw [← hfs] at HO
            clear hfs d0
            go_wp2_with fail
            rw [← He1.out]
            go_roundg (gk - 1)
            case measure => have := Hi.out; omega
            case rel => exact ⟨i + 1, by have := Hi.out; omega, by go_num, HO.out, HB.out⟩
          | true =>
            have hfs : Pl.hts d l (i + 1) = Pl.hts d l i ++ [i] := by rw [Hsn.out, ← Hcb.out, if_pos rfl]
            have hfm : (Pl.hts d l i).map ivn ++ [iv (i : Int)] = (Pl.hts d l (i + 1)).map ivn := by rw [hfs, List.map_append]; rfl
            have hfl : (Pl.hts d l i).length + 1 = (Pl.hts d l (i + 1)).length := by rw [hfs, List.length_append]; rfl
            have Hfm := Lib.hid (And.intro hfm hfl)
            have hi9 : (Pl.hts d l i).length + 1 ≤ 1000000 := by have := Pl.hts_le d l i; omega
            have hz := HB.out.size
            obtain ⟨pv, nv, cv, rfl⟩ := (OwnR.of_owns HO.out).slice
            clear hfs d0 hfm hfl
            go_wp2_with (at_builtin; refine app1 w wO _ 3 23 rfl _ _ rfl w.heap.size Tryd.underlying23 info_int rfl _ _ _ rfl _ rfl rfl HO.out rfl hi9 (by decide) hz HB.out ?_)
            intro v8 w8 hown8 hb8 _ _
            rw [Hfm.out.1, Hfm.out.2] at hown8
            have HO8 := Lib.hid hown8
            have HB8 := Lib.hid hb8
            clear hown8 hb8 HO HB hi9
            go_wp2_with fail
            rw [← He1.out]
            go_roundg (gk - 1)
            case measure => have := Hi.out; omega
            case rel => exact ⟨i + 1, by have := Hi.out; omega, by go_num, HO8.out, HB8.out⟩
        · obtain rfl : i = ml := by have := Hi.out; omega
          have hO := HO.out
          rw [Hml.out, ← HVe.out] at hO
          have HR := Lib.hid (OwnR.row (OwnR.of_owns hO))
          clear him HO hO
          go_wp2_with fail
          go_meet
          exact ⟨_, rfl, HB.out, HR.out⟩
    · have tC := beq_f h0
      have hVe : V3 = [] := by rw [HV3.out]; unfold Pl.huV; rw [if_neg (fun h => h0 (HG.out.trans h))]
      have HVe := Lib.hid hVe
      clear h0 hVe
      go_wp2_with fail
      go_loopg [17, 27] 0 (fun gk v17 v wr => v17 = .slice none 0 0 ∧ v = iv 0 ∧ w16 = wr)
      case atStart => exact ⟨rfl, rfl, rfl⟩
      case round =>
        obtain ⟨rfl, rfl, rfl⟩ := hrel
        by_cases h9 : 0 < ml
        · have t9 := dec_t h9
          clear h9
          go_wp2_with fail
          go_meet
          exact ⟨_, rfl, HB16.out, by rw [HVe.out]; exact row_nil _⟩
        · have t9 := dec_f h9
          clear h9
          go_wp2_with fail
          go_meet
          exact ⟨_, rfl, HB16.out, by rw [HVe.out]; exact row_nil _⟩
  case rest => as_aux_lemma =>
  obtain ⟨w17, hw17, hB17, hR17⟩ := hcut
  subst hw17
  have HB17 := Lib.hid hB17
  have HR17 := Lib.hid hR17
  clear hB17 hR17 HB16
  have HL := Lib.hid (phurt_tot l d (.slice p ml cap) w17 (HV.out.below HB17.out))
  unfold NmPost at HL
  rw [← HV3.out, ← HG.out] at HL
  obtain ⟨eg, heg⟩ : ∃ eg, eg = errV G := ⟨_, rfl⟩
  rw [← heg] at HL
  have Heg := Lib.hid heg
  clear heg
  go_wp2_with fail
  refine HL.out.mono ?_
  rintro e w18 ⟨vx, rfl, hr, hb⟩
  have HB18 := Lib.hid (HB17.out.trans (hb.mono HB17.out.size))
  have HR18 := Lib.hid (HR17.out.below hb)
  have HX18 := Lib.hid hr
  have HSm := Lib.hid (same_eq G w18 (Hg.out.below (Nat.le_refl _) HB18.out))
  rw [← Heg.out] at HSm
  clear hr hb HL HR17 HB17
  go_wp2_with fail
  refine HSm.out.mono ?_
  rintro e w19 ⟨rfl, hb⟩
  have HB19 := Lib.hid (HB18.out.trans (hb.mono HB18.out.size))
  have HNe := Lib.hid (nums_eq V3 vx u17 w19 (HX18.out.below hb) (HR18.out.below hb))
  clear hb HSm HR18 HX18 HB18
  go_wp2_with fail
  refine HNe.out.mono ?_
  rintro e w20 ⟨rfl, hb⟩
  have HB20 := Lib.hid (HB19.out.trans (hb.mono HB19.out.size))
  clear hb HNe HB19
  go_wp2_with fail
  go_ret
  exact ⟨rfl, HB20.out⟩
end Go.Proofs.YtkkfpdjhnffpbaaDoor
