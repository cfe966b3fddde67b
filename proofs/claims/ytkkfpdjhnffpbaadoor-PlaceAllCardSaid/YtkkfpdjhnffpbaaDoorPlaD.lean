/- The walk of the law PlaceAll: it returns true. -/
import Derived.Test.YtkkfpdjhnffpbaaDoorPlaA
import Derived.Test.YtkkfpdjhnffpbaaDoorSame
import Derived.BigQuiet
namespace Go.Proofs.YtkkfpdjhnffpbaaDoor
open Go.ChangeShapes Go.WideShapes Go.ChangeAt Go.RowKit
set_option linter.unusedVariables false
set_option maxRecDepth 100000 in
set_option maxHeartbeats 8000000 in
theorem placeAll_walk (n m d : Int) (hn : (Lit.int .i64 n).wf = true) (hm : (Lit.int .i64 m).wf = true) (hd : (Lit.int .i64 d).wf = true) (w : World) (hg : Handle w) :
    Calls Tryd.prog 5 #[iv n, iv m, iv d] w fun e w' => e = .returned (.bool true) ∧ Below w.heap.size w w' := by
  have Hg := Lib.hid hg
  obtain ⟨F, hF⟩ : ∃ F, F = Pl.plF n n m := ⟨_, rfl⟩
  have C1 := Lib.hid (place_tot n n m w)
  rw [← hF] at C1
  clear hn hm hd hg
  rcases Pl.plF_cases n n m with h | ⟨h, nn, wn, mn, rfl, hwn, rfl, h1, h2, h3, h4, h5⟩
  · obtain rfl : F = 1 := hF.trans h
    have hbad : n < 1 ∨ 10 < n ∨ m < 0 ∨ 40 < m := by
      unfold Pl.plF at h
      by_cases c : n < 1 ∨ 10 < n ∨ n < 1 ∨ n < n ∨ m < 0 ∨ 40 < m
      · omega
      · rw [if_neg c] at h; cases h
    rw [show errV 1 = ev 1 from rfl] at C1
    clear hF h
    go_enter Tryd.func5, Tryd.ntmps5
    go_wp2_with fail
    refine C1.out.mono ?_
    rintro e w2 ⟨v2, rfl, hb2, _⟩
    have HB2 := Lib.hid hb2
    clear hb2 C1
    by_cases g1 : n < 1
    · clear hbad
      go_wp2_with fail
      go_ret
      exact ⟨rfl, HB2.out⟩
    · by_cases g2 : 10 < n
      · clear hbad
        go_wp2_with fail
        go_ret
        exact ⟨rfl, HB2.out⟩
      · by_cases g3 : m < 0
        · clear hbad
          go_wp2_with fail
          go_ret
          exact ⟨rfl, HB2.out⟩
        · have g4 : 40 < m := by omega
          clear hbad
          go_wp2_with fail
          go_ret
          exact ⟨rfl, HB2.out⟩
  obtain rfl : wn = nn := by omega
  obtain rfl : F = 0 := hF.trans h
  have hpl : Pl.plL wn wn mn = (Pl.st wn wn mn).map ci := by unfold Pl.plL; rw [if_pos h]; rfl
  rw [errV_0, hpl] at C1
  obtain ⟨l, hl⟩ : ∃ l, l = (Pl.st wn wn mn).map ci := ⟨_, rfl⟩
  rw [← hl] at C1
  have hck := Pl.st_chk (n := wn) (w := wn) (k := mn) h1 h2 h5
  rw [← hl] at hck
  have hll : l.length = mn := by rw [hl, List.length_map, Pl.st_len]
  have Hl := Lib.hid hl
  have Hck := Lib.hid hck
  have Hll := Lib.hid hll
  clear hF h hl hck hll hpl hwn
  go_enter Tryd.func5, Tryd.ntmps5
  go_wp2_with fail
  refine C1.out.mono ?_
  rintro e w2 ⟨v2, rfl, hb2, hr2⟩
  have HB2 := Lib.hid hb2
  have HR2 := Lib.hid hr2
  have hz2 := hb2.size
  have D1 := Lib.hid (phurt_tot l d v2 w2 hr2)
  unfold NmPost at D1
  obtain ⟨E, hE⟩ : ∃ E, E = Pl.huE l d := ⟨_, rfl⟩
  rw [← hE] at D1
  have Hhe := Lib.hid (show E = if d < 0 ∨ 10 ≤ d then 1 else 0 by rw [hE]; unfold Pl.huE; rw [Hck.out.2])
  have Hhv := Lib.hid (show Pl.huV l d = if E = 0 then Pl.hts d l mn else [] by unfold Pl.huV; rw [← hE, Hll.out])
  clear hb2 hr2 C1 hE
  obtain ⟨V, hV⟩ : ∃ V, V = Pl.huV l d := ⟨_, rfl⟩
  rw [← hV] at D1
  have HV := Lib.hid hV
  clear hV
  go_wp2_with fail
  refine D1.out.mono ?_
  rintro e w3 ⟨v3, rfl, hx3, hb3⟩
  have HB3 := Lib.hid (HB2.out.trans (hb3.mono hz2))
  have HR3 := Lib.hid (HR2.out.below hb3)
  have Hg3 := Lib.hid (Hg.out.below (Nat.le_refl _) HB3.out)
  obtain ⟨p3, c3, rfl, _⟩ := hx3.shape
  have hz3 := HB3.out.size
  clear hb3 hx3 D1 HR2 HB2
  by_cases hdn : d < 0 ∨ (wn : Int) ≤ d
  · by_cases hd10 : d < 0 ∨ 10 ≤ d
    · obtain rfl : E = 1 := by rw [Hhe.out, if_pos hd10]
      have S1 := Lib.hid (same_eq 1 w3 Hg3.out)
      rw [show errV 1 = ev 1 from rfl] at S1 ⊢
      by_cases hd0 : d < 0
      · clear hdn hd10
        go_wp2_with fail
        refine S1.out.mono ?_
        rintro e w4 ⟨rfl, hb4⟩
        have HB4 := Lib.hid (HB3.out.trans (hb4.mono hz3))
        clear hb4
        go_wp2_with fail
        go_ret
        exact ⟨rfl, HB4.out⟩
      · have hd1 : 10 ≤ d := by omega
        have hd2 : (wn : Int) ≤ d := by omega
        clear hdn hd10
        go_wp2_with fail
        refine S1.out.mono ?_
        rintro e w4 ⟨rfl, hb4⟩
        have HB4 := Lib.hid (HB3.out.trans (hb4.mono hz3))
        clear hb4
        go_wp2_with fail
        go_ret
        exact ⟨rfl, HB4.out⟩
    · obtain rfl : E = 0 := by rw [Hhe.out, if_neg hd10]
      have hv0 : (V.map ivn).length = 0 := by rw [List.length_map, HV.out, Hhv.out, if_pos rfl, Hl.out]; exact Pl.hts_none (by omega)
      rw [hv0, errV_0]
      have hd0 : ¬ d < 0 := by omega
      have hd1 : d < 10 := by omega
      have hd2 : (wn : Int) ≤ d := by omega
      clear hdn hd10 hv0
      go_wp2_with fail
      go_ret
      exact ⟨rfl, HB3.out⟩
  · obtain ⟨dd, rfl⟩ : ∃ x : Nat, d = x := ⟨d.toNat, by omega⟩
    have hdi : dd < wn := by omega
    obtain rfl : E = 0 := by rw [Hhe.out, if_neg (by omega)]
    have hv0 : (V.map ivn).length = mn := by rw [List.length_map, HV.out, Hhv.out, if_pos rfl, Hl.out]; exact Pl.hts_all hdi
    rw [hv0, errV_0]
    have hpe : Pl.peE wn l dd = 0 := by unfold Pl.peE; rw [if_neg (by rw [Hck.out.1]; simp), if_neg (by omega)]
    have hpv : Pl.peV wn l dd = Pl.cts wn (Pl.prs (dd : Int) l) := by unfold Pl.peV; rw [if_pos hpe]; rfl
    have D2 := Lib.hid (ppeers_tot wn l dd v2 w3 HR3.out)
    unfold NmPost at D2
    rw [hpe, hpv, errV_0] at D2
    have hd0 : ¬ (dd : Int) < 0 := by omega
    have hd1 : ¬ (wn : Int) ≤ (dd : Int) := by omega
    obtain ⟨P, hP⟩ : ∃ P, P = Pl.cts wn (Pl.prs (dd : Int) l) := ⟨_, rfl⟩
    have hPa : ∀ q, q < wn → P[q]? = some (if q = dd then 0 else mn) := fun q hq => by rw [hP, Hl.out]; exact Pl.peers_all hdi hq
    have hPl : (P.map ivn).length = wn := by rw [List.length_map, hP, Pl.cts_len]
    rw [← hP] at D2
    have HPa := Lib.hid hPa
    have HPl := Lib.hid hPl
    clear hdn hv0 hpe hpv hP hPa hPl
    go_wp2_with fail
    refine D2.out.mono ?_
    rintro e w4 ⟨v4, rfl, hx4, hb4⟩
    have HB4 := Lib.hid (HB3.out.trans (hb4.mono hz3))
    have HX4 := Lib.hid hx4
    obtain ⟨p4, c4, rfl, _⟩ := hx4.shape
    have q5 := HPl.out
    rw [q5] at HX4
    rw [q5]
    clear hx4 hb4 D2 q5 HB3 HR3
    go_wp2_with fail
    go_loopg [12] wn (fun gk v12 wq => ∃ k : Nat, k + gk = wn ∧ v12 = iv k ∧ w4 = wq)
    case atStart => exact ⟨0, by omega, rfl, rfl⟩
    case round =>
      obtain ⟨k, hk, rfl, rfl⟩ := hrel
      have Hk := Lib.hid hk
      clear hk
      by_cases hkn : k < wn
      · have hpk := HPa.out k hkn
        obtain ⟨gx, ox, cx, hvx, _, _, hcx⟩ := HX4.out.pos (by rw [HPl.out]; omega)
        have c1 := hcx k (by rw [HPl.out]; exact hkn)
        rw [ivn_at hpk] at c1
        injection hvx with e1 q8 q9
        have He1 := Lib.hid e1
        have hkn' : (k : Int) < (wn : Int) := by omega
        rw [e1]
        clear e1 q8 q9 hcx hpk
        by_cases hkd : k = dd
        · subst hkd
          rw [if_pos rfl] at c1
          go_wp2_with fail
          rw [← He1.out]
          go_roundg (gk - 1)
          case measure => have := Hk.out; omega
          case rel => exact ⟨k + 1, by have := Hk.out; omega, by go_num, rfl⟩
        · rw [if_neg hkd] at c1
          have hkd' : ¬ (k : Int) = (dd : Int) := by omega
          go_wp2_with fail
          rw [← He1.out]
          go_roundg (gk - 1)
          case measure => have := Hk.out; omega
          case rel => exact ⟨k + 1, by have := Hk.out; omega, by go_num, rfl⟩
      · have hkn' : ¬ (k : Int) < (wn : Int) := by omega
        clear hkn
        go_wp2_with fail
        go_ret
        exact ⟨rfl, HB4.out⟩
end Go.Proofs.YtkkfpdjhnffpbaaDoor
