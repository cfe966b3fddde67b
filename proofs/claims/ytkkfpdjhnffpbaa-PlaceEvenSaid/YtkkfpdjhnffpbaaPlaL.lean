/- The walk of the law PlaceEven: it returns true. -/
import Derived.Test.YtkkfpdjhnffpbaaPlaQ
import Derived.BigQuiet
namespace Go.Proofs.Ytkkfpdjhnffpbaa
open Go.ChangeShapes Go.WideShapes Go.ChangeAt Go.RowKit
set_option linter.unusedVariables false
theorem drewN_two (w : World) (a b : Nat) : (w.drewN a).drewN b = w.drewN (a + b) := by simp [World.drewN, Nat.add_assoc]
theorem place_fact : Pl.plF 3 2 3 = 0 ∧ Pl.plL 3 2 3 = [[0, 1], [0, 2], [1, 2]] := by decide
set_option maxRecDepth 100000 in
set_option maxHeartbeats 8000000 in
theorem placeEven_walk (n wd m d : Int) (hn : (Lit.int .i64 n).wf = true) (hwd : (Lit.int .i64 wd).wf = true) (hm : (Lit.int .i64 m).wf = true) (hd : (Lit.int .i64 d).wf = true) (w : World) :
    Calls Try.prog 4 #[iv n, iv wd, iv m, iv d] w fun e w' => e = .returned (.bool true) ∧ Below w.heap.size w w' := by
  have C1 := Lib.hid (place_tot 3 2 3 w)
  rw [place_fact.1, place_fact.2, errV_0] at C1
  clear hn hwd hm hd
  go_enter Try.func4, Try.ntmps4
  go_wp2_with fail
  refine C1.out.mono ?_
  rintro e w1 ⟨v1, rfl, hb1, hr1⟩
  have HB1 := Lib.hid hb1
  obtain ⟨g, o, c, p2, c2, rfl, hg, hcl, hrb, _⟩ := hr1.at (i := 1) (l := [0, 2]) rfl
  obtain ⟨g2, o2, c3, hv2, _, _, hcc⟩ := hrb.pos (by decide)
  injection hv2 with e1 e2 e3
  subst e1
  have d0 : w1.cell? ⟨g2, o2, none⟩ = some (iv 0) := hcc 0 (by decide)
  have d1 : w1.cell? ⟨g2, o2 + 1, none⟩ = some (iv 2) := hcc 1 (by decide)
  have hcl' : w1.cell? ⟨g, o + 1, none⟩ = some (.slice (some ⟨g2, o2, none⟩) 2 c2) := hcl
  clear hcc hrb e2 e3 hcl hg hb1 hr1 C1
  go_wp2_with fail
  have hz1 := HB1.out.size
  clear d0 d1 hcl'
  obtain ⟨F, hF⟩ : ∃ F, F = Pl.plF n wd m := ⟨_, rfl⟩
  have C2 := Lib.hid (place_tot n wd m w1)
  rw [← hF] at C2
  rcases Pl.plF_cases n wd m with h | ⟨h, nn, wn, mn, rfl, rfl, rfl, h1, h2, h3, h4, h5⟩
  · obtain rfl : F = 1 := hF.trans h
    rw [show errV 1 = ev 1 from rfl] at C2
    clear hF h
    refine C2.out.mono ?_
    rintro e w2 ⟨v2, rfl, hb2, _⟩
    have HB2 := Lib.hid (HB1.out.trans (hb2.mono hz1))
    clear hb2 C2
    go_wp2_with fail
    go_ret
    exact ⟨rfl, HB2.out⟩
  obtain rfl : F = 0 := hF.trans h
  have hpl : Pl.plL nn wn mn = (Pl.st nn wn mn).map ci := by unfold Pl.plL; rw [if_pos h]; rfl
  rw [errV_0, hpl] at C2
  obtain ⟨l, hl⟩ : ∃ l, l = (Pl.st nn wn mn).map ci := ⟨_, rfl⟩
  rw [← hl] at C2
  have hll : l.length = mn := by rw [hl, List.length_map, Pl.st_len]
  have hck := Pl.st_chk (n := nn) (w := wn) (k := mn) h1 h2 h5
  rw [← hl] at hck
  have hlo : Pl.loV nn l = Pl.ld nn wn mn := by unfold Pl.loV; rw [if_pos hck.1, hl]; exact Pl.st_loads nn wn mn
  obtain ⟨L, hL⟩ : ∃ L, L = Pl.ld nn wn mn := ⟨_, rfl⟩
  have hLl : L.length = nn := by rw [hL, Pl.ld_len]
  have hsum : L.sum = mn * wn := by rw [hL]; exact Pl.st_sum h4
  have hev : ∀ a b, a < nn → b < nn → L.getD a 0 ≤ L.getD b 0 + 1 := fun a b ha hb => by rw [hL]; exact Pl.even nn wn mn a b ha hb
  have hwide : ∀ s ∈ l, s.length = wn := by rw [hl]; exact Pl.st_wide h4
  have hmw : mn * wn ≤ 400 := Nat.le_trans (Nat.mul_le_mul h5 (Nat.le_trans h4 h2)) (by decide)
  obtain ⟨S, hS⟩ : ∃ S, S = mn * wn := ⟨_, rfl⟩
  have Hl := Lib.hid hl
  have HS := Lib.hid hS
  have HL := Lib.hid hL
  have Hll := Lib.hid hll
  have HLl := Lib.hid hLl
  have Hsum := Lib.hid (hsum.trans hS.symm)
  have Hev := Lib.hid hev
  have Hwide := Lib.hid hwide
  have Hck := Lib.hid hck
  have Hlo := Lib.hid (hlo.trans hL.symm)
  rw [← hS] at hmw
  clear hF h hl hck hlo hL hLl hsum hev hwide hll hS hpl
  refine C2.out.mono ?_
  rintro e w2 ⟨v2, rfl, hb2, hr2⟩
  have HB2 := Lib.hid (HB1.out.trans (hb2.mono hz1))
  have HR2 := Lib.hid hr2
  have C3 := Lib.hid (ploads_tot nn l v2 w2 hr2)
  unfold NmPost at C3
  rw [Hck.out.1, Hlo.out, errV_0] at C3
  clear hb2 hr2 C2
  go_wp2_with fail
  refine C3.out.mono ?_
  rintro e w3 ⟨v3, rfl, hx3, hb3⟩
  have hz2 := HB2.out.size
  have HB3 := Lib.hid (HB2.out.trans (hb3.mono hz2))
  have HR3 := Lib.hid (HR2.out.below hb3)
  have HX3 := Lib.hid hx3
  obtain ⟨p3, c3', rfl, _⟩ := hx3.shape
  obtain ⟨p2', c2', rfl, _⟩ := HR2.out.shape
  have e3 := HLl.out
  have e2 := Hll.out
  rw [List.length_map, e3] at HX3
  rw [List.length_map, e3]
  rw [e2] at HR3
  rw [e2]
  clear hx3 hb3 C3 e2 e3 HR2 HB2 hz2 hz1 HB1
  go_wp2_with fail
  go_loopg [15, 16, 17] nn (fun gk v15 v16 v17 wr => ∃ i : Nat, i + gk = nn ∧ v15 = iv ((L.take i).sum : Nat) ∧ v16 = iv i ∧ ∃ q, wr = w3.drewN q)
  case atStart => exact ⟨0, by omega, rfl, rfl, 0, rfl⟩
  case round =>
    obtain ⟨gO, hgO⟩ : ∃ x : Nat, x = gk := ⟨_, rfl⟩
    subst hgO
    obtain ⟨i, hi, rfl, rfl, q0, hwr⟩ := hrel
    have Hi := Lib.hid hi
    have Hwr := Lib.hid hwr
    clear hi hwr
    by_cases hin : i < nn
    · obtain ⟨x, hx⟩ : ∃ x, L[i]? = some x := ⟨L[i]'(by rw [HLl.out]; exact hin), List.getElem?_eq_getElem _⟩
      obtain ⟨gx, ox, cx, hvx, _, _, hcx⟩ := (HX3.out.below (bdrew (Below.refl _ _) q0)).pos (by rw [List.length_map, HLl.out]; omega)
      rw [← Hwr.out] at hcx
      have c1 := hcx i (by rw [List.length_map, HLl.out]; exact hin)
      rw [ivn_at hx] at c1
      have hsx := Pl.sum_take hx
      have hsl := Pl.sum_take_le L (i + 1)
      rw [Hsum.out] at hsl
      have hw1 : IntKind.i64.wrap (((L.take i).sum : Nat) + (x : Int)) = ((L.take (i + 1)).sum : Nat) := by rw [IntWalk.i64_in _ (by omega)]; omega
      have hin' : (i : Int) < (nn : Int) := by omega
      obtain ⟨s0, hs0⟩ : ∃ s, s = (L.take i).sum := ⟨_, rfl⟩
      obtain ⟨s1, hs1⟩ : ∃ s, s = (L.take (i + 1)).sum := ⟨_, rfl⟩
      rw [← hs0, ← hs1] at hw1
      rw [← hs0]
      have Hs1 := Lib.hid hs1
      have Hx := Lib.hid hx
      have Hvx := Lib.hid hvx
      injection hvx with ex1 ex2 ex3
      subst ex1
      clear hs0 hs1 hsx hsl hx hcx ex2 ex3 Hvx
      go_wp2_with fail
      go_loopg [17] nn (fun gk v17 wr => ∃ k : Nat, k + gk = nn ∧ v17 = iv k ∧ ∃ q, wr = w3.drewN q)
      case atStart => exact ⟨0, by omega, rfl, q0, Hwr.out⟩
      case round =>
        obtain ⟨k, hk, rfl, q1, hwr⟩ := hrel
        have Hk := Lib.hid hk
        have Hwr1 := Lib.hid hwr
        clear hk hwr
        by_cases hkn : k < nn
        · obtain ⟨y, hy⟩ : ∃ y, L[k]? = some y := ⟨L[k]'(by rw [HLl.out]; exact hkn), List.getElem?_eq_getElem _⟩
          obtain ⟨gy, oy, cy, hvy, _, _, hcy⟩ := (HX3.out.below (bdrew (Below.refl _ _) q1)).pos (by rw [List.length_map, HLl.out]; omega)
          injection hvy with ey1 ey2 ey3
          injection ey1 with ey1
          injection ey1 with ey1 ey4
          subst ey1 ey4
          rw [← Hwr1.out] at hcy
          have c3 := hcy i (by rw [List.length_map, HLl.out]; exact hin)
          rw [ivn_at Hx.out] at c3
          have c4 := hcy k (by rw [List.length_map, HLl.out]; exact hkn)
          rw [ivn_at hy] at c4
          have hev := Hev.out i k hin hkn
          rw [List.getD_eq_getElem?_getD, Hx.out, List.getD_eq_getElem?_getD, hy] at hev
          have hev' : x ≤ y + 1 := hev
          have hy9 : y ≤ 400 := by
            have h1 := Pl.sum_take hy
            have h2 := Pl.sum_take_le L (k + 1)
            rw [Hsum.out] at h2
            omega
          have hwy : IntKind.i64.wrap ((y : Int) + 1) = (y : Int) + 1 := IntWalk.i64_in _ (by omega)
          have hgt : decide ((y : Int) + 1 < (x : Int)) = false := dec_f (by omega)
          have hkn' : (k : Int) < (nn : Int) := by omega
          clear hcy hy hev hev' hy9 ey2 ey3 c1
          go_wp2_with fail
          go_quiet (fail)
          go_wp2_with fail
          go_roundg (gk - 1)
          case measure => have := Hk.out; omega
          case rel => exact ⟨k + 1, by have := Hk.out; omega, by go_num, ⟨q1 + nq, by rw [Hwr1.out, drewN_two]⟩⟩
        · have hkn' : ¬ (k : Int) < (nn : Int) := by omega
          clear hkn
          go_wp2_with fail
          go_roundg (gO - 1)
          case measure => have := Hi.out; omega
          case rel => exact ⟨i + 1, by have := Hi.out; omega, by rw [← Hs1.out], by go_num, q1, Hwr1.out⟩
    · have hin' : ¬ (i : Int) < (nn : Int) := by omega
      obtain rfl : i = nn := by have := Hi.out; omega
      rw [List.take_of_length_le (by rw [HLl.out]; exact Nat.le_refl _), Hsum.out]
      have HB4 : Hid (Below w.heap.size w wr) := Lib.hid (by rw [Hwr.out]; exact bdrew HB3.out _)
      have HX4 : Hid (Row wr (.slice p3 i c3') (L.map ivn)) := Lib.hid (by rw [Hwr.out]; exact HX3.out.below (bdrew (Below.refl _ _) _))
      have HR4 : Hid (Rows2 wr (.slice p2' mn c2') l) := Lib.hid (by rw [Hwr.out]; exact HR3.out.below (bdrew (Below.refl _ _) _))
      clear hin HX3 HR3 HB3 Hwr Hi
      go_wp2_with fail
      go_loopg [18] mn (fun gk v18 wq => ∃ k : Nat, k + gk = mn ∧ v18 = iv k ∧ wr = wq)
      case atStart => exact ⟨0, by omega, rfl, rfl⟩
      case round =>
        obtain ⟨k, hk, rfl, rfl⟩ := hrel
        have Hk := Lib.hid hk
        clear hk
        by_cases hkm : k < mn
        · obtain ⟨s, hs⟩ : ∃ s, l[k]? = some s := ⟨l[k]'(by rw [Hll.out]; exact hkm), List.getElem?_eq_getElem _⟩
          obtain ⟨gs, os, cs, p5, c5, hv, hgs, hcl, _, _⟩ := HR4.out.at hs
          rw [Hwide.out s (List.mem_of_getElem? hs)] at hcl
          injection hv with e1 q8 q9
          have He1 := Lib.hid e1
          have hkm' : (k : Int) < (mn : Int) := by omega
          rw [e1]
          clear e1 q8 q9 hs hgs
          go_wp2_with fail
          rw [← He1.out]
          go_roundg (gk - 1)
          case measure => have := Hk.out; omega
          case rel => exact ⟨k + 1, by have := Hk.out; omega, by go_num, rfl⟩
        · have hkm' : ¬ (k : Int) < (mn : Int) := by omega
          clear hkm Hk Hwide
          have hwm : IntKind.i64.wrap ((mn : Int) * (wn : Int)) = (S : Int) := by rw [HS.out, IntWalk.i64_in _ (by rw [← Int.natCast_mul, ← HS.out]; omega)]; omega
          have D1 := Lib.hid (ppeers_tot i l d _ wr HR4.out)
          have D2 := Lib.hid (fun W (hW : Below wr.heap.size wr W) => phurt_tot l d _ W (HR4.out.below hW))
          unfold NmPost at D1 D2
          by_cases hdn : d < 0 ∨ (i : Int) ≤ d
          · have hpe : Pl.peE i l d = 1 := by unfold Pl.peE; rw [if_neg (by rw [Hck.out.1]; simp), if_pos hdn]
            rw [hpe, show errV 1 = ev 1 from rfl] at D1
            obtain ⟨vE, hvE⟩ : ∃ v, v = errV (Pl.huE l d) := ⟨_, rfl⟩
            rw [← hvE] at D2
            clear hpe hvE
            go_wp2_with fail
            refine D1.out.mono ?_
            rintro e w5 ⟨v5, rfl, _, hb5⟩
            have HB5 := Lib.hid hb5
            clear hb5
            go_wp2_with fail
            refine (D2.out _ HB5.out).mono ?_
            rintro e w6 ⟨v6, rfl, _, hb6⟩
            have HB6 := Lib.hid (HB4.out.trans ((HB5.out.trans (hb6.mono HB5.out.size)).mono HB4.out.size))
            clear hb6 D1 D2
            by_cases hd0 : d < 0
            · clear hdn
              go_wp2_with fail
              go_ret
              exact ⟨rfl, HB6.out⟩
            · have hd1 : (i : Int) ≤ d := by omega
              clear hdn
              go_wp2_with fail
              go_ret
              exact ⟨rfl, HB6.out⟩
          · obtain ⟨dd, rfl⟩ : ∃ x : Nat, d = x := ⟨d.toNat, by omega⟩
            have hdi : dd < i := by omega
            have hpe : Pl.peE i l dd = 0 := by unfold Pl.peE; rw [if_neg (by rw [Hck.out.1]; simp), if_neg (by omega)]
            have hpv : Pl.peV i l dd = Pl.cts i (Pl.prs (dd : Int) l) := by unfold Pl.peV; rw [if_pos hpe]; rfl
            have hhe : Pl.huE l dd = 0 := by unfold Pl.huE; rw [if_neg (by omega)]; exact Hck.out.2
            have hhv : Pl.huV l dd = Pl.hts (dd : Int) l mn := by unfold Pl.huV; rw [if_pos hhe, Hll.out]
            rw [hpe, hpv, errV_0] at D1
            rw [hhe, hhv, errV_0] at D2
            obtain ⟨P, hP⟩ : ∃ P, P = Pl.cts i (Pl.prs (dd : Int) l) := ⟨_, rfl⟩
            obtain ⟨T, hT⟩ : ∃ T, T = Pl.hts (dd : Int) l mn := ⟨_, rfl⟩
            obtain ⟨H, hH⟩ : ∃ H, H = T.length := ⟨_, rfl⟩
            have hPl : P.length = i := by rw [hP, Pl.cts_len]
            have hPs : P.sum = H * (wn - 1) := by rw [hP, hH, hT, Hl.out]; exact Pl.st_peers h4 _
            have hHx : L[dd]? = some H := by
              rw [hH, hT, Hl.out, Pl.st_hurt hdi, HL.out, List.getD_eq_getElem?_getD, List.getElem?_eq_getElem (by rw [Pl.ld_len]; exact hdi)]; rfl
            have hH40 : H ≤ 40 := by
              have := Pl.hts_le (dd : Int) l mn
              rw [← hT, ← hH] at this; omega
            have hHw : H * (wn - 1) ≤ 400 := Nat.le_trans (Nat.mul_le_mul hH40 (show wn - 1 ≤ 10 by omega)) (by decide)
            rw [← hP] at D1
            rw [← hT] at D2
            have HPl := Lib.hid hPl
            have HH := Lib.hid hH
            obtain ⟨K, hK⟩ : ∃ K, K = H * (wn - 1) := ⟨_, rfl⟩
            rw [← hK] at hPs hHw
            have HPs := Lib.hid hPs
            obtain ⟨gx, ox, cx, hvx, _, _, hcx⟩ := HX4.out.pos (by rw [List.length_map, HLl.out]; omega)
            injection hvx with ex1 ex2 ex3
            subst ex1
            have c1 := hcx dd (by rw [List.length_map, HLl.out]; exact hdi)
            rw [ivn_at hHx] at c1
            have hgx : gx < wr.heap.size := World.block_lt_of_cell? wr _ c1
            have C1 := Lib.hid c1
            have hwk1 : IntKind.i64.wrap ((wn : Int) - 1) = ((wn - 1 : Nat) : Int) := by rw [IntWalk.i64_in _ (by omega)]; omega
            have hwk2 : IntKind.i64.wrap ((H : Int) * ((wn - 1 : Nat) : Int)) = (K : Int) := by rw [← Int.natCast_mul, ← hK, IntWalk.i64_in _ (by omega)]
            have hd9 : ¬ (dd : Int) < 0 := by omega
            have hd8 : ¬ (i : Int) ≤ (dd : Int) := by omega
            have Hdi := Lib.hid hdi
            have Hwk := Lib.hid (And.intro hwk1 hwk2)
            clear hP hT hH hPl hPs hHx hH40 hK ex2 ex3 hcx c1 hpe hpv hhe hhv hdn hwk1 hwk2 HX4 hdi
            go_wp2_with fail
            refine D1.out.mono ?_
            rintro e w5 ⟨v5, rfl, hx5, hb5⟩
            have HB5 := Lib.hid hb5
            have HX5 := Lib.hid hx5
            clear hb5 hx5
            go_wp2_with fail
            refine (D2.out _ HB5.out).mono ?_
            rintro e w6 ⟨v6, rfl, hx6, hb6⟩
            have HB56 := Lib.hid (HB5.out.trans (hb6.mono HB5.out.size))
            have HB6 := Lib.hid (HB4.out.trans (HB56.out.mono HB4.out.size))
            obtain ⟨p5, c5, rfl, _⟩ := HX5.out.shape
            obtain ⟨p6, c6, rfl, _⟩ := hx6.shape
            have HX6 := Lib.hid (HX5.out.below hb6)
            have c1 := (HB56.out.cell (p := ⟨gx, ox + dd, none⟩) hgx).trans C1.out
            have q5 : (P.map ivn).length = i := by rw [List.length_map, HPl.out]
            have q6 : (T.map ivn).length = H := by rw [List.length_map, HH.out]
            rw [q5] at HX6
            rw [q5, q6]
            clear hb6 D1 D2 hx6 HX5 q5 q6 HB56 HB5 HB4 C1
            go_wp2_with fail
            go_loopg [15, 23] i (fun gk v15 v23 wq => ∃ k : Nat, k + gk = i ∧ v15 = iv ((P.take k).sum : Nat) ∧ v23 = iv k ∧ w6 = wq)
            case atStart => exact ⟨0, by omega, rfl, rfl, rfl⟩
            case round =>
              obtain ⟨k, hk, rfl, rfl, rfl⟩ := hrel
              have Hk := Lib.hid hk
              clear hk
              by_cases hki : k < i
              · obtain ⟨x, hx⟩ : ∃ x, P[k]? = some x := ⟨P[k]'(by rw [HPl.out]; exact hki), List.getElem?_eq_getElem _⟩
                obtain ⟨gy, oy, cy, hvy, _, _, hcy⟩ := HX6.out.pos (by rw [List.length_map, HPl.out]; omega)
                have c2 := hcy k (by rw [List.length_map, HPl.out]; exact hki)
                rw [ivn_at hx] at c2
                have hsx := Pl.sum_take hx
                have hsl := Pl.sum_take_le P (k + 1)
                rw [HPs.out] at hsl
                have hw1 : IntKind.i64.wrap (((P.take k).sum : Nat) + (x : Int)) = ((P.take (k + 1)).sum : Nat) := by rw [IntWalk.i64_in _ (by omega)]; omega
                have hki' : (k : Int) < (i : Int) := by omega
                obtain ⟨s0, hs0⟩ : ∃ s, s = (P.take k).sum := ⟨_, rfl⟩
                obtain ⟨s1, hs1⟩ : ∃ s, s = (P.take (k + 1)).sum := ⟨_, rfl⟩
                rw [← hs0, ← hs1] at hw1
                rw [← hs0]
                have Hs1 := Lib.hid hs1
                injection hvy with e1 q8 q9
                have He1 := Lib.hid e1
                rw [e1]
                clear hs0 hs1 hsx hsl hx hcy e1 q8 q9 c1
                go_wp2_with fail
                rw [← He1.out]
                go_roundg (gk - 1)
                case measure => have := Hk.out; omega
                case rel => exact ⟨k + 1, by have := Hk.out; omega, by rw [← Hs1.out], by go_num, rfl⟩
              · have hki' : ¬ (k : Int) < (i : Int) := by omega
                obtain rfl : k = i := by have := Hk.out; omega
                rw [List.take_of_length_le (by rw [HPl.out]; exact Nat.le_refl _), HPs.out]
                have hwk1 := Hwk.out.1
                have hwk2 := Hwk.out.2
                have hdk : (dd : Int) < (k : Int) := by have := Hdi.out; omega
                clear hki
                go_wp2_with fail
                go_ret
                exact ⟨rfl, HB6.out⟩
end Go.Proofs.Ytkkfpdjhnffpbaa
