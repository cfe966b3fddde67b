/- The walk of the law PoolPlays: it returns true. -/
import Derived.Deep.RegionHeld3
import Derived.Test.YtloaekdijpcmiaaDoorPoolE
namespace Go.Proofs.YtloaekdijpcmiaaDoor
open Go.ChangeShapes Go.WideShapes Go.ChangeAt Go.RowKit
set_option linter.unusedVariables false
theorem zero_int2' (w : World) : (zeroValue 55).run Tryd.prog w = .ok (.agg #[iv 0, iv 0]) w := by kernel_rfl
def Step2Rel (w0 : World) (gq : Nat) (j : Value) (wr : World) : Prop :=
  ∃ (q : Nat) (x y : Int), q + gq = 2 ∧ j = iv q ∧ wr = w0.alloc (.cells #[iv x, iv y] 55)
def PlaysRel (w : World) (Bp Bm gs cs gl cl gs' cs' gl' cl' m k N gk : Nat) (i : Value) (wr : World) : Prop :=
  ∃ (j : Nat) (S L : List Int), j + gk = N ∧ j ≤ 80 ∧ i = iv j ∧ S.length = m + k ∧ L.length = m ∧ PoolAt wr Bp Bp gs cs gl cl S L ∧ RPoolAt wr Bm Bm gs' cs' gl' cl' S L ∧ Below w.heap.size w wr
set_option maxRecDepth 100000 in
set_option maxHeartbeats 2000000 in
theorem poolPlays_core (m k : Nat) (h1 : 1 ≤ m) (h2 : m ≤ 10) (h4 : k ≤ 10) (v : Value) (xss : List (List Int)) (w : World) (hx : Rows2 w v xss) (hg : Handle w) :
    Calls Tryd.prog 6 #[iv m, iv k, v] w fun e w' => e = .returned (.bool true) ∧ Below w.heap.size w w' := by
  have hz2 := zero_int2'
  have Hg := Lib.hid hg
  obtain ⟨us, hus, hlen, hrows⟩ := hx
  obtain ⟨po, co, rfl, hc1, hc2, hcells⟩ := hus.shape
  rw [hlen] at *
  have Hrows := Lib.hid hrows
  have Hcells := Lib.hid hcells
  unfold maxLen at hc2
  have hNN : xss.length ≤ 9223372036854775807 := by omega
  generalize hN : xss.length = N at *
  have HN := Lib.hid hN
  clear hus hrows hcells hN hg
  go_enter Tryd.func6, Tryd.ntmps6
  go_wp2_with fail
  refine (new_yes m k h1 h2 h4 _).mono ?_
  rintro e w1 ⟨gs, cs, gl, cl, rfl, hP, hw1⟩
  have HP1 := Lib.hid hP
  have Hw1 := Lib.hid hw1
  clear hP hw1
  go_wp2_with fail
  refine (same_nil 0 _).mono ?_
  rintro e w2 ⟨rfl, hb⟩
  have HP2 := Lib.hid (HP1.out.below hb)
  have Hw2 := Lib.hid (Hw1.out.trans (hb.mono Hw1.out.size))
  clear hb HP1 Hw1
  go_wp2_with fail
  refine (rnew_yes m k h1 h2 h4 _).mono ?_
  rintro e w3 ⟨gs', cs', gl', cl', rfl, hR, hb⟩
  have HP3 := Lib.hid (HP2.out.below hb)
  have Hw3 := Lib.hid (Hw2.out.trans (hb.mono Hw2.out.size))
  have HR3 := Lib.hid hR
  have hlts := HP2.out.lts
  have hB0 : w.heap.size ≤ w2.heap.size := Hw2.out.size
  clear hb hR HP2 Hw2
  go_wp2_with fail
  go_loopg [12] N (fun gk i wr => PlaysRel w w.heap.size w2.heap.size gs cs gl cl gs' cs' gl' cl' m k N gk i wr)
  case atStart => exact ⟨0, _, _, by omega, by omega, rfl, Pool.newS_len _ _, by rw [Pool.newL_len, Nat.min_eq_right (by omega)], HP3.out, HR3.out, Hw3.out⟩
  case round =>
    obtain ⟨wO, hwO⟩ : ∃ x : World, x = wr := ⟨_, rfl⟩
    obtain ⟨gO, hgO⟩ : ∃ x : Nat, x = gk := ⟨_, rfl⟩
    subst hwO hgO
    obtain ⟨j, S, L, hj, hj80, rfl, hS, hL, hP, hR, hB⟩ := hrel
    clear HP3 Hw3 HR3
    have HP := Lib.hid hP
    have HR := Lib.hid hR
    have HWB := Lib.hid hB
    have HS := Lib.hid hS
    have HL := Lib.hid hL
    clear hP hR hB hS hL
    have Hj := Lib.hid hj
    by_cases hlt : j < N
    · by_cases hlt80 : j < 80
      · have b80 : decide ((j : Int) < 80) = true := dec_t (by omega)
        obtain ⟨go, oo, hpo, hco⟩ := Hcells.out (by omega)
        obtain ⟨xs, hxs⟩ : ∃ xs, xss[j]? = some xs := ⟨xss[j]'(by rw [HN.out]; exact hlt), List.getElem?_eq_getElem _⟩
        obtain ⟨u, hu, hru, hwf⟩ := Hrows.out j xs hxs
        have hcu := hco j hlt
        rw [hu] at hcu
        obtain ⟨pi, ci, hu2, hi1, hi2, hi3⟩ := hru.shape
        rw [List.length_map] at hu2 hi1 hi3
        rw [hu2] at hcu
        have hlow : go < w.heap.size := World.block_lt_of_cell? w _ hcu
        have fcu : ∀ x y : Int, (wO.alloc (.cells #[iv x, iv y] 55)).cell? ⟨go, oo + j, none⟩ = some (.slice pi xs.length ci) := by
          intro x y
          have h := ((HWB.out.alloc (by have := HWB.out.size; omega) (.cells #[iv x, iv y] 55)).cell (p := ⟨go, oo + j, none⟩) hlow)
          exact h.trans hcu
        have hi2' : xs.length ≤ 9223372036854775807 := by unfold maxLen at hi2; omega
        have Hi3 := Lib.hid hi3
        rw [hpo]
        have Hpo := Lib.hid hpo
        clear hj hco hxs hu hru hwf hcu hu2 hi3 hpo
        go_upto_block 2 with (fail)
        go_cut [14] (fun _ wq => ∃ x y : Int, wq = wO.alloc (.cells #[iv x, iv y] 55))
        case first => as_aux_lemma =>
          go_wp2_with fail
          go_loopg [14] 2 (fun gq q wq => Step2Rel wO gq q wq)
          case atStart => exact ⟨0, 0, 0, rfl, rfl, rfl⟩
          case round =>
            obtain ⟨q, x, y, hq, rfl, rfl⟩ := hrel
            have f1 := fcu x y
            by_cases hq0 : q < xs.length
            · obtain ⟨gi, oi, rfl, hci⟩ := Hi3.out (by omega)
              obtain ⟨z, hz⟩ : ∃ z, xs[q]? = some z := ⟨xs[q], List.getElem?_eq_getElem hq0⟩
              have hcz := hci q hq0
              rw [List.getElem?_map, hz] at hcz
              have hlz : gi < w.heap.size := World.block_lt_of_cell? w _ hcz
              have f2 : (wO.alloc (.cells #[iv x, iv y] 55)).cell? ⟨gi, oi + q, none⟩ = some (iv z) :=
                ((HWB.out.alloc (by have := HWB.out.size; omega) (.cells #[iv x, iv y] 55)).cell (p := ⟨gi, oi + q, none⟩) hlz).trans hcz
              clear hci hz hcz fcu
              have hq3 : q = 0 ∨ q = 1 ∨ q = 2 := by omega
              rcases hq3 with rfl | rfl | rfl
              · rw [Nat.add_zero] at f2
                go_wp2_with fail
                go_roundg 1
                case measure => omega
                case rel => exact ⟨1, z, y, rfl, rfl, rfl⟩
              · go_wp2_with fail
                go_roundg 0
                case measure => omega
                case rel => exact ⟨2, x, z, rfl, rfl, rfl⟩
              · go_wp2_with fail
                go_meet
                exact ⟨x, y, rfl⟩
            · clear fcu
              go_wp2_with fail
              go_meet
              exact ⟨x, y, rfl⟩
        case rest =>
          obtain ⟨x, y, rfl⟩ := hcut
          clear fcu
          have HPa := Lib.hid (HP.out.below ((Below.refl wO.heap.size wO).alloc (Nat.le_refl _) (.cells #[iv x, iv y] 55)))
          have HRa := Lib.hid (HR.out.below ((Below.refl wO.heap.size wO).alloc (Nat.le_refl _) (.cells #[iv x, iv y] 55)))
          have HBa := Lib.hid (HWB.out.alloc HWB.out.size (.cells #[iv x, iv y] 55))
          have hl2 := HP.out.lts
          have hl3 := HR.out.lts
          have hm1 := HR.out.hs
          have hm2 := HR.out.hl
          have hSl : S.length ≤ 100 := by rw [HS.out]; omega
          have hLl : L.length ≤ 100 := by rw [HL.out]; omega
          clear HP HR HWB
          obtain ⟨wA, hwA⟩ : ∃ W : World, W = wO.alloc (.cells #[iv x, iv y] 55) := ⟨_, rfl⟩
          have d0 : wA.cell? ⟨wO.heap.size, 0, none⟩ = some (iv x) := by rw [hwA]; simp
          have d1 : wA.cell? ⟨wO.heap.size, 1, none⟩ = some (iv y) := by rw [hwA]; simp
          have hzA : wO.heap.size < wA.heap.size := by rw [hwA]; simp
          rw [← hwA] at HPa HRa HBa ⊢
          clear hwA
          obtain ⟨f, hf⟩ : ∃ f : Bool, f = (decide (x < 0) || decide (2 < x)) := ⟨_, rfl⟩
          have Hf := Lib.hid hf
          clear hf
          go_upto_region 18 with (fail)
          go_cut [92] (fun s wq => s = .bool f ∧ wA = wq)
          case first => as_aux_lemma =>
            by_cases c : x < 0
            · have e1 := dec_t c
              have HF := Lib.hid (show f = true by rw [Hf.out, e1]; rfl)
              go_wp2_with fail
              go_meet
              exact ⟨by rw [HF.out], rfl⟩
            · have e1 := dec_f c
              have HF := Lib.hid (show f = decide (2 < x) by rw [Hf.out, e1]; rfl)
              go_wp2_with fail
              go_meet
              exact ⟨by rw [HF.out], rfl⟩
          case rest =>
            obtain ⟨rfl, rfl⟩ := hcut
            go_upto_if 92 with (fail)
            go_cut [15] (fun s wq => ∃ q : Nat, q < 3 ∧ s = iv q ∧ wA = wq)
            case first => as_aux_lemma =>
              cases f with
              | true =>
                go_wp2_with fail
                go_meet
                exact ⟨0, by omega, rfl, rfl⟩
              | false =>
                have hx3 : 0 ≤ x ∧ x ≤ 2 := by
                  have h := Hf.out
                  simp only [Bool.false_eq, Bool.or_eq_false_iff, decide_eq_false_iff_not] at h
                  omega
                have Hx := Lib.hid (show x = ((x.toNat : Nat) : Int) by omega)
                have Hx3 := Lib.hid hx3
                clear hx3
                go_wp2_with fail
                go_meet
                exact ⟨x.toNat, by have := Hx3.out; omega, by rw [← Hx.out], rfl⟩
            case rest =>
              obtain ⟨q, hq, rfl, rfl⟩ := hcut
              go_wp2_with fail
              refine (rdo_any HRa.out hSl hLl q hq y).mono ?_
              rintro e wB ⟨rfl, hR, hk⟩
              have d1' : wB.cell? ⟨wO.heap.size, 1, none⟩ = some (iv y) := hk.cell d1 (by omega)
              have HPb := Lib.hid (HPa.out.kept hk (by omega) (by omega) (by omega))
              have HRb := Lib.hid hR
              have HBb := Lib.hid (HBa.out.trans (hk.toBelow HBa.out.size (fun _ _ h => by omega)))
              have hlenP := play_len (S := S) (L := L) (what := q) (d := y)
              have HlP := Lib.hid hlenP
              obtain ⟨P, hP⟩ : ∃ P, P = Pool.play S L q y := ⟨_, rfl⟩
              rw [← hP] at HRb HlP ⊢
              have HP := Lib.hid hP
              clear hR hk d0 d1 HPa HRa HBa hP hlenP Hf f
              go_upto_block 4 with (fail)
              go_cut [18, 19] (fun n e wq => n = iv P.1.1 ∧ e = errV P.1.2 ∧ PoolAt wq w.heap.size w.heap.size gs cs gl cl P.2.1 P.2.2 ∧ RPoolAt wq w2.heap.size w2.heap.size gs' cs' gl' cl' P.2.1 P.2.2 ∧ Below w.heap.size w wq)
              case first => as_aux_lemma =>
                have h3 : q = 0 ∨ q = 1 ∨ q = 2 := by omega
                rcases h3 with rfl | rfl | rfl
                · go_wp2_with fail
                  refine (pfail_any HPb.out hSl hLl y).mono ?_
                  rintro e wC ⟨rfl, h1, hk⟩
                  have HR := Lib.hid (HRb.out.kept hk (by omega) (by omega) (by omega))
                  have HB := Lib.hid (HBb.out.trans (hk.toBelow HBb.out.size (fun _ _ h => by have := HPb.out.hs; have := HPb.out.hl; omega)))
                  rw [← HP.out] at h1 ⊢
                  have H1 := Lib.hid h1
                  clear h1 hk
                  go_wp2_with fail
                  go_meet
                  exact ⟨rfl, rfl, H1.out, HR.out, HB.out⟩
                · go_wp2_with fail
                  refine (pfill_any HPb.out hSl y).mono ?_
                  rintro e wC ⟨rfl, h0, h1, hk⟩
                  have HR := Lib.hid (HRb.out.kept hk (by omega) (by omega) (by omega))
                  have HB := Lib.hid (HBb.out.trans (hk.toBelow HBb.out.size (fun _ _ h => by have := HPb.out.hs; have := HPb.out.hl; omega)))
                  rw [← HP.out] at h0 h1 ⊢
                  have H1 := Lib.hid h1
                  have H0 := Lib.hid h0
                  clear h1 hk h0
                  go_wp2_with fail
                  go_meet
                  exact ⟨by rw [H0.out], rfl, H1.out, HR.out, HB.out⟩
                · go_wp2_with fail
                  refine (pfresh_any HPb.out hSl hLl y).mono ?_
                  rintro e wC ⟨rfl, h1, hk⟩
                  have HR := Lib.hid (HRb.out.kept hk (by omega) (by omega) (by omega))
                  have HB := Lib.hid (HBb.out.trans (hk.toBelow HBb.out.size (fun _ _ h => by have := HPb.out.hs; have := HPb.out.hl; omega)))
                  rw [← HP.out] at h1 ⊢
                  have H1 := Lib.hid h1
                  clear h1 hk
                  go_wp2_with fail
                  go_meet
                  exact ⟨rfl, rfl, H1.out, HR.out, HB.out⟩
              case rest =>
                clear HPb HRb HBb d1'
                obtain ⟨rfl, rfl, hP', hR', hB'⟩ := hcut
                have hg1 := Lib.hid (Hg.out.below (Nat.le_refl _) hB')
                have HP1 := Lib.hid hP'
                have HR1 := Lib.hid hR'
                have HB1 := Lib.hid hB'
                clear hP' hR' hB'
                go_wp2_with fail
                refine (same_eq P.1.2 _ hg1.out).mono ?_
                rintro e wE ⟨rfl, hb⟩
                have HP2 := Lib.hid (HP1.out.below hb)
                have HR2 := Lib.hid (HR1.out.below hb)
                have HB2 := Lib.hid (HB1.out.trans (hb.mono HB1.out.size))
                clear hb HP1 HR1 HB1 hg1
                have hSl2 : P.2.1.length ≤ 100 := by rw [HlP.out.1]; exact hSl
                have hLl2 : P.2.2.length ≤ 100 := by rw [HlP.out.2]; exact hLl
                have hmE : w2.heap.size < wE.heap.size := HR2.out.lts.1
                go_upto_region 30 with (fail)
                go_cut [153] (fun s wq => s = .bool false ∧ Below wE.heap.size wE wq)
                case first => as_aux_lemma =>
                  have c0 := HR2.out.c0
                  have c1 := HR2.out.c1
                  generalize P.2.1 = S' at *
                  generalize P.2.2 = L' at *
                  go_region_held3 (fun w' => w'.cell? ⟨w2.heap.size, 0, none⟩ = some (.slice (some ⟨gs', 0, none⟩) S'.length cs') ∧ w'.cell? ⟨w2.heap.size, 1, none⟩ = some (.slice (some ⟨gl', 0, none⟩) L'.length cl'))
                    (first
                      | exact ⟨c0, c1⟩
                      | exact ⟨c0s, c1s⟩
                      | exact ⟨c0l, c1l⟩
                      | go_keep)
                    (first
                      | (go_at_call 31; refine (states_any (HP2.out.below (bdrew (Below.refl _ _) _)) hSl2).mono ?_; rintro e wS ⟨v, rfl, hown, hb⟩; have HPs := Lib.hid ((HP2.out.below (bdrew (Below.refl _ _) _)).below hb); have HRs := Lib.hid ((HR2.out.below (bdrew (Below.refl _ _) _)).below hb); have HBs := Lib.hid ((bdrew (Below.refl wE.heap.size wE) _).trans hb); have rowA := Lib.hid (row_of_owns hown).1; have c0s := HRs.out.c0; have c1s := HRs.out.c1; clear hown hb)
                      | (go_at_call 32; refine (slots_any (HPs.out.below (bdrew (Below.refl _ _) _)) hLl2).mono ?_; rintro e wL ⟨v2, rfl, hown2, hb2⟩; have HRl := Lib.hid ((HRs.out.below (bdrew (Below.refl _ _) _)).below hb2); have HBl := Lib.hid (HBs.out.trans (((bdrew (Below.refl wS.heap.size wS) _).trans hb2).mono HBs.out.size)); have rowB := Lib.hid (row_of_owns hown2).1; have c0l := HRl.out.c0; have c1l := HRl.out.c1; clear hown2 hb2)
                      | (go_at_call 24; with_reducible refine (ints_eq S' _ _ _ rowA.out HRs.out.row1).mono ?_; rintro e wI ⟨rfl, nd, rfl⟩)
                      | (go_at_call 24; with_reducible refine (ints_eq L' _ _ _ rowB.out HRl.out.row2).mono ?_; rintro e wI ⟨rfl, nd2, rfl⟩))
                  go_wp2_with fail
                  go_meet
                  exact ⟨rfl, bdrew HBl.out _⟩
                case rest =>
                  obtain ⟨rfl, hb⟩ := hcut
                  have HP3 := Lib.hid (HP2.out.below hb)
                  have HR3 := Lib.hid (HR2.out.below hb)
                  have HB3 := Lib.hid (HB2.out.trans (hb.mono HB2.out.size))
                  clear hb HP2 HR2 HB2
                  go_wp2_with fail
                  rw [show (some ({ block := go, off := oo, spot := none } : Addr)) = po from Hpo.out.symm]
                  go_roundg (gO - 1)
                  case measure => have := Hj.out; omega
                  case rel => exact ⟨j + 1, P.2.1, P.2.2, by have := Hj.out; omega, by omega, by go_num, HlP.out.1.trans HS.out, HlP.out.2.trans HL.out, HP3.out, HR3.out, HB3.out⟩
      · go_wp2_with fail
        go_ret
        exact ⟨rfl, HWB.out⟩
    · go_wp2_with fail
      go_ret
      exact ⟨rfl, HWB.out⟩
set_option maxRecDepth 100000 in
set_option maxHeartbeats 1000000 in
theorem poolPlays_no (x y : Int) (v : Value) (hc : x < 1 ∨ 1 ≤ x ∧ 10 < x ∨ 1 ≤ x ∧ x ≤ 10 ∧ y < 0 ∨ 1 ≤ x ∧ x ≤ 10 ∧ 0 ≤ y ∧ 10 < y) (w : World) (hg : Handle w) :
    Calls Tryd.prog 6 #[iv x, iv y, v] w fun e w' => e = .returned (.bool true) ∧ Below w.heap.size w w' := by
  have Hc := Lib.hid hc
  have Hg := Lib.hid hg
  clear hg
  rcases hc with h | ⟨h1, h2⟩ | ⟨h1, h2, h3⟩ | ⟨h1, h2, h3, h4⟩
  all_goals
    go_enter Tryd.func6, Tryd.ntmps6
    go_wp2_with fail
    refine (new_no x y Hc.out _).mono ?_
    rintro e w' ⟨rfl, rfl⟩
    go_wp2_with fail
    refine (same_ev 1 1 _ Hg.out).mono ?_
    rintro e w1 ⟨rfl, hb⟩
    have Hb := Lib.hid hb
    clear hb
    go_wp2_with fail
    go_ret
    exact ⟨rfl, Hb.out⟩
theorem poolPlays_walk (a b : Int) (v : Value) (ha : (Lit.int .i64 a).wf = true) (hb : (Lit.int .i64 b).wf = true) (w : World) (hg : Handle w) (hv : ∃ xss, Rows2 w v xss) :
    Calls Tryd.prog 6 #[iv a, iv b, v] w fun e w' => e = .returned (.bool true) ∧ Below w.heap.size w w' := by
  obtain ⟨xss, hx⟩ := hv
  have ha1 := bounds_i64 ha
  have hb1 := bounds_i64 hb
  clear ha hb
  by_cases h : 1 ≤ a ∧ a ≤ 10 ∧ 0 ≤ b ∧ b ≤ 10
  · obtain ⟨h1, h2, h3, h4⟩ := h
    obtain ⟨m, rfl⟩ : ∃ m : Nat, a = m := ⟨a.toNat, by omega⟩
    obtain ⟨k, rfl⟩ : ∃ k : Nat, b = k := ⟨b.toNat, by omega⟩
    exact poolPlays_core m k (by omega) (by omega) (by omega) v xss w hx hg
  · exact poolPlays_no a b v (by omega) w hg
end Go.Proofs.YtloaekdijpcmiaaDoor
