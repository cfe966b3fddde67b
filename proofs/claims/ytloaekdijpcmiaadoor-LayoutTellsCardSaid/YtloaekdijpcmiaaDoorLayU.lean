/- The walk of the law LayoutTells: it returns true. -/
import Derived.Test.YtloaekdijpcmiaaDoorLayT
namespace Go.Proofs.YtloaekdijpcmiaaDoor
open Go.ChangeShapes Go.WideShapes Go.ChangeAt Go.RowKit
set_option linter.unusedVariables false

set_option maxRecDepth 100000 in
set_option maxHeartbeats 4000000 in
theorem layoutTells_good (n : Nat) (h1 : 3 ≤ n) (h2 : n ≤ 10) (b d r row : Int) (hb1 : -9223372036854775808 ≤ b) (hb2 : b ≤ 9223372036854775807) (hd1 : -9223372036854775808 ≤ d) (hd2 : d ≤ 9223372036854775807) (hr1 : -9223372036854775808 ≤ r) (hr2 : r ≤ 9223372036854775807) (w : World) (hg : Handle w) :
    Calls Tryd.prog 5 #[iv n, iv b, .agg #[iv d, iv r], iv row] w fun e w' => e = .returned (.bool true) ∧ Below w.heap.size w w' := by
  have Hg := Lib.hid hg
  clear hg
  go_enter Tryd.func5, Tryd.ntmps5
  go_wp2_with fail
  refine (lcheck_yes n (by omega) (by omega) _).mono ?_
  rintro e w' ⟨rfl, rfl⟩
  go_wp2_with fail
  refine (same_nil 0 _).mono ?_
  rintro e w1 ⟨rfl, hb1⟩
  have hz1 : w.heap.size < w1.heap.size := by have := hb1.size; simp at this; omega
  have HB1 := Lib.hid (((Below.refl w.heap.size w).alloc (Nat.le_refl _) (.cells #[iv d, iv r] 38)).trans (hb1.mono (by simp)))
  obtain ⟨hc1, hf1⟩ := bcell hb1
  have k0 : w1.cell? ⟨w.heap.size, 0, none⟩ = some (iv d) := by rw [hc1 _ _ (by simp)]; simp
  have k1 : w1.cell? ⟨w.heap.size, 1, none⟩ = some (iv r) := by rw [hc1 _ _ (by simp)]; simp
  clear hb1 hc1 hf1
  obtain ⟨f, hf⟩ : ∃ f : Bool, f = (decide (b < 0) || decide (20 * ((n : Int) - 2) ≤ b)) := ⟨_, rfl⟩
  have Hf := Lib.hid hf
  clear hf
  go_upto_region 7 with (fail)
  go_cut [50] (fun s wc => s = .bool f ∧ wc = w1.alloc (.cells #[.int .i64 0, .int .i64 0] 38))
  case first => as_aux_lemma =>
    by_cases c1 : b < 0
    · have d1 := dec_t c1
      go_wp2_with fail
      go_meet
      exact ⟨by rw [Hf.out, d1, Bool.true_or], rfl⟩
    · have d1 := dec_f c1
      have c2 : 0 ≤ b := by omega
      go_wp2_with fail
      go_meet
      exact ⟨by rw [Hf.out, d1, Bool.false_or], rfl⟩
  case rest =>
    obtain ⟨rfl, rfl⟩ := hcut
    obtain ⟨X, hX⟩ : ∃ X : Int, X = spX n b f := ⟨_, rfl⟩
    obtain ⟨Y, hY⟩ : ∃ Y : Int, Y = spY n b f := ⟨_, rfl⟩
    obtain ⟨E, hE⟩ : ∃ E : Int, E = fE f := ⟨_, rfl⟩
    have HX := Lib.hid hX
    have HY := Lib.hid hY
    have HE := Lib.hid hE
    clear hX hY hE
    go_upto_if 50 with (fail)
    go_cut [11] (fun e wc => e = iv E ∧ wc.heap[w1.heap.size]? = some (.cells #[iv X, iv Y] 38 (0, 0)) ∧ Below w1.heap.size w1 wc)
    case first => as_aux_lemma =>
      cases f with
      | true =>
        go_wp2_with fail
        go_meet
        exact ⟨by rw [HE.out]; rfl, by rw [HX.out, HY.out]; exact heap_alloc_new _ _, (Below.refl _ _).alloc (Nat.le_refl _) _⟩
      | false =>
        have hb3 := spot_in Hf.out
        obtain ⟨m, rfl⟩ : ∃ m : Nat, b = m := ⟨b.toNat, by omega⟩
        obtain ⟨q, hq⟩ : ∃ q : Nat, (m : Int) / ((n : Int) - 2) = q := ⟨((m : Int) / ((n : Int) - 2)).toNat, by have := Int.ediv_nonneg (show 0 ≤ (m : Int) by omega) (show 0 ≤ (n : Int) - 2 by omega); omega⟩
        obtain ⟨k, hk⟩ : ∃ k : Nat, (m : Int) % ((n : Int) - 2) = k := ⟨((m : Int) % ((n : Int) - 2)).toNat, by have := Int.emod_nonneg (m : Int) (show (n : Int) - 2 ≠ 0 by omega); omega⟩
        have hk2 : k < n := by have := Int.emod_lt_of_pos (m : Int) (show 0 < (n : Int) - 2 by omega); omega
        have hq2 : (q : Int) < 20 := by rw [← hq]; exact Int.ediv_lt_of_lt_mul (by omega) hb3.2
        have Hq := Lib.hid hq
        have Hk := Lib.hid hk
        have Hf0 := Lib.hid hb3
        clear hb3
        go_wp2_with fail
        have hw1 : IntKind.i64.wrap ((n : Int) - 2) = (n : Int) - 2 := IntWalk.i64_in _ (by omega)
        have hw2 : (m : Int).tmod ((n : Int) - 2) = (k : Int) := by rw [Int.tmod_eq_emod_of_nonneg (by omega)]; exact Hk.out
        have hw3 : IntKind.i64.wrap (k : Int) = k := IntWalk.i64_in _ (by omega)
        have hw4 : (((n : Int) - 2) == 0) = false := beq_f (by omega)
        have hw5 : (k : Int) < (n : Int) := by omega
        have hw6 : ¬ (n : Int) - 2 = 0 := by omega
        go_region_with (go_at_call 20; refine (rlayout_at n q k w1.heap.size h1 h2 (by omega) (by omega) (by omega) _ (by simp)).mono ?_; rintro e w2 ⟨g, cap, rfl, a1, a2, a3, a4, a5, a6, a7, a8⟩)
        all_goals
          clear hw1 hw2 hw3 hw4
          have H8 := Lib.hid a8
          have e1 : w2.heap[w1.heap.size]? = some (.cells #[iv 0, iv 0] 38 (0, 0)) := by
            rw [a8.block _ (by simp)]; exact heap_alloc_new _ _
          have E1 := Lib.hid e1
          clear a8 e1 a4 a5 a6 a7 a3
          go_wp2_with fail
          go_meet
          refine ⟨by rw [HE.out]; rfl, ?_, ?_⟩
          · rw [heap_setCell_same _ _ _ _ _ _ (heap_setCell_same _ _ _ _ _ _ E1.out), HX.out, HY.out, spX, spY, if_neg (by decide), if_neg (by decide), Hq.out, Hk.out]; rfl
          · exact ((((Below.refl w1.heap.size w1).alloc (Nat.le_refl _) (.cells #[.int .i64 0, .int .i64 0] 38)).drew.trans (H8.out.mono (by simp))).setCell (Nat.le_refl _) _).setCell (Nat.le_refl _) _
    case rest =>
      obtain ⟨rfl, hblk, hB⟩ := hcut
      have K0 := Lib.hid k0
      have K1 := Lib.hid k1
      have j0 : wc.cell? ⟨w1.heap.size, 0, none⟩ = some (iv X) := by rw [cell_of_row _ _ _ _ _ _ hblk]; rfl
      have j1 : wc.cell? ⟨w1.heap.size, 1, none⟩ = some (iv Y) := by rw [cell_of_row _ _ _ _ _ _ hblk]; rfl
      have hzc : w1.heap.size < wc.heap.size := (Array.getElem?_eq_some_iff.1 hblk).1
      have HAc := Lib.hid hB
      have hgc := Lib.hid ((Hg.out.below (Nat.le_refl _) HB1.out).below (Nat.le_refl _) hB)
      clear k0 k1 hblk hB
      go_wp2_with fail
      refine (data_tot n h1 h2 b hb2 hb1 f Hf.out _).mono ?_
      rintro e w2 ⟨rfl, hb⟩
      rw [← HX.out, ← HY.out, ← HE.out]
      have i0 := keep hb j0 hzc
      have i1 := keep hb j1 hzc
      have hz2 := hb.size
      have HA2 := Lib.hid (HAc.out.trans (hb.mono (by omega)))
      have hg2 := Lib.hid (hgc.out.below (Nat.le_refl _) hb)
      clear hb j0 j1
      go_wp2_with fail
      refine (same_eq E _ (hg2.out.below (Nat.le_refl _) ((Below.refl _ _).alloc (Nat.le_refl _) _))).mono ?_
      rintro e w3 ⟨rfl, hb⟩
      have h0 : w3.cell? ⟨w1.heap.size, 0, none⟩ = some (iv X) := keep hb (keep ((Below.refl w2.heap.size w2).alloc (Nat.le_refl _) _) i0 (by omega)) (by simp; omega)
      have h1' : w3.cell? ⟨w1.heap.size, 1, none⟩ = some (iv Y) := keep hb (keep ((Below.refl w2.heap.size w2).alloc (Nat.le_refl _) _) i1 (by omega)) (by simp; omega)
      have h2' : w3.cell? ⟨w2.heap.size, 0, none⟩ = some (iv X) := keep hb (by simp) (by simp)
      have h3' : w3.cell? ⟨w2.heap.size, 1, none⟩ = some (iv Y) := keep hb (by simp) (by simp)
      have hz3 : w1.heap.size < w3.heap.size := by have := hb.size; simp at this; omega
      have HA3 := Lib.hid (HA2.out.trans (((Below.refl w2.heap.size w2).alloc (Nat.le_refl _) (.cells #[iv X, iv Y] 38)).trans (hb.mono (by simp)) |>.mono (by omega)))
      have hg3 := Lib.hid (((hg2.out.below (Nat.le_refl _) ((Below.refl _ _).alloc (Nat.le_refl _) (.cells #[iv X, iv Y] 38)))).below (Nat.le_refl _) hb)
      have k0 := keep HA3.out K0.out hz1
      have k1 := keep HA3.out K1.out hz1
      clear hb i0 i1 HA2 HAc hg2 hgc HX HY HE
      obtain ⟨g, hgg⟩ : ∃ g : Bool, g = gBad n d r := ⟨_, rfl⟩
      have Hgg := Lib.hid hgg
      clear hgg
      go_upto_region 16 with (fail)
      go_cut [105] (fun s wq => s = .bool g ∧ w3 = wq)
      case first => as_aux_lemma =>
        by_cases c1 : d < 0
        · have b1 := dec_t c1
          have Hf2 := Lib.hid (show gBad n d r = true by simp [gBad, c1])
          go_wp2_with fail
          go_meet
          exact ⟨by rw [Hgg.out, Hf2.out], rfl⟩
        · have b1 := dec_f c1
          by_cases c2 : (n : Int) ≤ d
          · have b2 := dec_t c2
            have Hf2 := Lib.hid (show gBad n d r = true by simp [gBad, c2])
            go_wp2_with fail
            go_meet
            exact ⟨by rw [Hgg.out, Hf2.out], rfl⟩
          · have b2 := dec_f c2
            by_cases c3 : r < 0
            · have b3 := dec_t c3
              have Hf2 := Lib.hid (show gBad n d r = true by simp [gBad, c3])
              go_wp2_with fail
              go_meet
              exact ⟨by rw [Hgg.out, Hf2.out], rfl⟩
            · have b3 := dec_f c3
              have Hf2 := Lib.hid (show gBad n d r = decide (20 ≤ r) by simp [gBad, c1, c2, c3])
              go_wp2_with fail
              go_meet
              exact ⟨by rw [Hgg.out, Hf2.out], rfl⟩
      case rest =>
        obtain ⟨rfl, rfl⟩ := hcut
        obtain ⟨G, hG⟩ : ∃ G : Int, G = fE g := ⟨_, rfl⟩
        obtain ⟨R, hR⟩ : ∃ R : Int, R = roV n d r g := ⟨_, rfl⟩
        have HG := Lib.hid hG
        have HR := Lib.hid hR
        clear hG hR
        go_upto_if 105 with (fail)
        go_cut [11, 17] (fun e ro wc => e = iv G ∧ ro = iv R ∧ Below w3.heap.size w3 wc)
        case first => as_aux_lemma =>
          cases g with
          | true =>
            go_wp2_with fail
            go_meet
            exact ⟨by rw [HG.out]; rfl, by rw [HR.out]; rfl, Below.refl _ _⟩
          | false =>
            have hin := role_in Hgg.out
            obtain ⟨dd, rfl⟩ : ∃ dd : Nat, d = dd := ⟨d.toNat, by omega⟩
            obtain ⟨rr, rfl⟩ : ∃ rr : Nat, r = rr := ⟨r.toNat, by omega⟩
            obtain ⟨kd, hkd, hkq⟩ := disk_ex h1 (show dd < n by omega) rr
            have hro := Lay.role_disk (n := n) (row := rr) (k := kd) (by omega) (by omega) (by omega) (by omega) (by omega)
            rw [hkq] at hro
            have Hro := Lib.hid hro
            have Hkq := Lib.hid hkq
            have Hin := Lib.hid hin
            clear hro hkq
            go_wp2_with fail
            refine (rlayout_any n rr h1 h2 (by omega) (by omega) _).mono ?_
            rintro e w4 ⟨v, rfl, hown, hb⟩
            rw [Int.toNat_natCast] at hown
            obtain ⟨go, cap, rfl, _, hgo, hca, hcm, hcell, _⟩ := owns_pos hown (by omega)
            unfold maxLen at hcm
            have k2 := keep hb k0 (by omega)
            have Hcell := Lib.hid hcell
            have Hb := Lib.hid hb
            clear hown hcell hb hin
            go_wp2_with fail
            go_loopg [17, 19] n (fun gk ro i wr => RoleRel kd n w4 gk ro i wr)
            case atStart => exact ⟨0, 0, 0, by omega, rfl, rfl, rfl, rfl⟩
            case round =>
              obtain ⟨k, nd, R0, hk, hR0, rfl, rfl, rfl⟩ := hrel
              have Hk := Lib.hid hk
              have HR0 := Lib.hid hR0
              by_cases hlt : k < n
              · have hc := (Hcell.out k hlt).trans (Lay.orderL_get hlt)
                by_cases he : k = kd
                · subst he
                  rw [Hkq.out] at hc
                  clear hk hR0
                  go_wp2_with fail
                  go_quiet (fail)
                  go_wp2_with fail
                  go_roundg (gk - 1)
                  case measure => have := Hk.out; omega
                  case rel => exact ⟨k + 1, _, k, by have := Hk.out; omega, by rw [if_pos (by omega)], rfl, by go_num, rfl⟩
                · have t1 : (Lay.disk n rr k == (dd : Int)) = false := beq_f (fun h => he (by have := Lay.disk_inj (n := n) (row := rr) (k := kd) (m := k) (by omega) (by omega) (by omega) (by omega) (by omega) (by omega) (by omega) (h.trans Hkq.out.symm); omega))
                  have He := Lib.hid he
                  clear hk hR0 he
                  go_wp2_with fail
                  go_quiet (fail)
                  go_wp2_with fail
                  go_roundg (gk - 1)
                  case measure => have := Hk.out; omega
                  case rel => exact ⟨k + 1, _, R0, by have := Hk.out; omega, by rw [HR0.out]; have := He.out; exact if_step this, rfl, by go_num, rfl⟩
              · have hkn : k = n := by omega
                have hR1 : R0 = kd := by rw [hR0, if_pos (by omega)]
                subst hR1
                have Hlt := Lib.hid hkn
                have hge : ¬ ((k : Int) < (n : Int)) := by omega
                clear hk hR0 hkn hlt
                by_cases q1 : kd = n - 2
                · have t1 : ((kd : Int) == (n : Int) - 2) = true := beq_t (by omega)
                  have Hq1 := Lib.hid q1
                  clear q1
                  go_wp2_with fail
                  go_meet
                  refine ⟨by rw [HG.out]; rfl, by rw [HR.out, roV, if_neg (by decide), Hro.out, if_pos (by have := Hq1.out; omega)]; exact val_i64 (by have := Hq1.out; omega), ?_⟩
                  exact bdrew Hb.out _
                · have t1 : ((kd : Int) == (n : Int) - 2) = false := beq_f (by omega)
                  by_cases q2 : kd = n - 1
                  · have t2 : ((kd : Int) == (n : Int) - 1) = true := beq_t (by omega)
                    have Hq1 := Lib.hid q2
                    clear q1 q2
                    go_wp2_with fail
                    go_meet
                    refine ⟨by rw [HG.out]; rfl, by rw [HR.out, roV, if_neg (by decide), Hro.out, if_pos (by have := Hq1.out; omega)]; exact val_i64 (by have := Hq1.out; omega), ?_⟩
                    exact bdrew Hb.out _
                  · have t2 : ((kd : Int) == (n : Int) - 1) = false := beq_f (by omega)
                    have Hq1 := Lib.hid q1
                    have Hq2 := Lib.hid q2
                    clear q1 q2
                    go_wp2_with fail
                    go_meet
                    refine ⟨by rw [HG.out]; rfl, by rw [HR.out, roV, if_neg (by decide), Hro.out, if_neg (by have := Hq1.out; have := Hq2.out; omega)], ?_⟩
                    exact bdrew Hb.out _
        case rest =>
          obtain ⟨rfl, rfl, hB⟩ := hcut
          have k2 := keep hB k0 (by omega)
          have k3 := keep hB k1 (by omega)
          have HA4 := Lib.hid (HA3.out.trans (hB.mono (by omega)))
          have hg4 := Lib.hid (hg3.out.below (Nat.le_refl _) hB)
          have hz4 : w1.heap.size < wc.heap.size := by have := hB.size; omega
          clear hB k0 k1 h0 h1' h2' h3' hg3 HA3 hz2 hzc
          go_wp2_with fail
          refine (role_tot n h1 h2 d r g Hgg.out _).mono ?_
          rintro e w5 ⟨rfl, hb⟩
          rw [← HR.out, ← HG.out]
          have k0 := keep hb k2 (by omega)
          have k1 := keep hb k3 (by omega)
          have HA5 := Lib.hid (HA4.out.trans (hb.mono (by omega)))
          have hg5 := Lib.hid (hg4.out.below (Nat.le_refl _) hb)
          have hz5 : w1.heap.size < w5.heap.size := by have := hb.size; omega
          clear hb k2 k3 HA4 hg4 hz4
          go_wp2_with fail
          refine (same_eq G _ hg5.out).mono ?_
          rintro e w6 ⟨rfl, hb⟩
          have k2 := keep hb k0 (by omega)
          have k3 := keep hb k1 (by omega)
          have HA6 := Lib.hid (HA5.out.trans (hb.mono (by omega)))
          have hg6 := Lib.hid (hg5.out.below (Nat.le_refl _) hb)
          have hz6 : w1.heap.size < w6.heap.size := by have := hb.size; omega
          clear hb k0 k1 HA5 hg5 hz5
          obtain ⟨h, hh⟩ : ∃ h : Bool, h = (!g && decide (R < 0)) := ⟨_, rfl⟩
          have Hh := Lib.hid hh
          clear hh
          go_upto_region 32 with (fail)
          go_cut [153] (fun s wq => s = .bool h ∧ w6 = wq)
          case first => as_aux_lemma =>
            cases g with
            | true =>
              have t1 : (G == 0) = false := beq_f (by rw [HG.out]; decide)
              go_wp2_with fail
              go_meet
              exact ⟨by rw [Hh.out]; rfl, rfl⟩
            | false =>
              have t1 : (G == 0) = true := beq_t (by rw [HG.out]; rfl)
              go_wp2_with fail
              go_meet
              exact ⟨by rw [Hh.out]; rfl, rfl⟩
          case rest =>
            obtain ⟨rfl, rfl⟩ := hcut
            obtain ⟨E2, hE2⟩ : ∃ E2 : Int, E2 = blE g R := ⟨_, rfl⟩
            obtain ⟨A2, hA2⟩ : ∃ A2 : Int, A2 = blA n r g R := ⟨_, rfl⟩
            have HE2 := Lib.hid hE2
            have HA2 := Lib.hid hA2
            clear hE2 hA2
            go_upto_if 153 with (fail)
            go_cut [11, 22] (fun e a wq => e = iv E2 ∧ a = iv A2 ∧ w6 = wq)
            case first => as_aux_lemma =>
              cases g with
              | true =>
                obtain rfl : h = false := by rw [Hh.out]; rfl
                have t1 : (G == 0) = false := beq_f (by rw [HG.out]; decide)
                go_wp2_with fail
                go_meet
                exact ⟨by rw [HE2.out, HG.out]; rfl, by rw [HA2.out]; rfl, rfl⟩
              | false =>
                have t1 : (G == 0) = true := beq_t (by rw [HG.out]; rfl)
                by_cases hR : R < 0
                · obtain rfl : h = true := by rw [Hh.out]; simp [hR]
                  have He := Lib.hid (show E2 = 5 ∧ A2 = 0 by rw [HE2.out, HA2.out]; simp [blE, blA, hR])
                  go_wp2_with fail
                  go_meet
                  exact ⟨by rw [He.out.1], by rw [He.out.2], rfl⟩
                · obtain rfl : h = false := by rw [Hh.out]; simp [hR]
                  have hin := role_in Hgg.out
                  have hm := mul_bd (r := r) (k := (n : Int) - 2) (by omega) (by omega) (by omega) (by omega)
                  have hRb : R ≤ (n : Int) - 3 := by rw [HR.out]; exact (Lay.role_bd (by omega)).2
                  have hm1 := hm.1
                  have hm2 := hm.2
                  have He := Lib.hid (show E2 = G ∧ A2 = r * ((n : Int) - 2) + R by rw [HE2.out, HA2.out, HG.out]; simp [blE, blA, hR, fE])
                  clear hin hm
                  go_wp2_with fail
                  go_meet
                  exact ⟨by rw [He.out.1], by rw [He.out.2], rfl⟩
            case rest =>
              obtain ⟨rfl, rfl, rfl⟩ := hcut
              go_wp2_with fail
              refine (block_tot n h1 h2 d r g Hgg.out _).mono ?_
              rintro e w7 ⟨rfl, hb⟩
              rw [← HR.out, ← HE2.out, ← HA2.out]
              have HA7 := Lib.hid (HA6.out.trans (hb.mono (by omega)))
              have hg7 := Lib.hid (hg6.out.below (Nat.le_refl _) hb)
              have hz7 : w1.heap.size < w7.heap.size := by have := hb.size; omega
              clear hb k2 k3 HA6 hg6 hz6 HG HR Hh HE2 HA2
              go_wp2_with fail
              refine (same_eq E2 _ hg7.out).mono ?_
              rintro e w8 ⟨rfl, hb⟩
              have HA8 := Lib.hid (HA7.out.trans (hb.mono (by omega)))
              have hg8 := Lib.hid (hg7.out.below (Nat.le_refl _) hb)
              have hz8 : w1.heap.size < w8.heap.size := by have := hb.size; omega
              clear hb HA7 hg7 hz7
              obtain ⟨p, hp⟩ : ∃ p : Bool, p = (decide (row < 0) || decide (20 ≤ row)) := ⟨_, rfl⟩
              have Hp := Lib.hid hp
              clear hp
              go_upto_region 39 with (fail)
              go_cut [186] (fun s wq => s = .bool p ∧ w8 = wq)
              case first => as_aux_lemma =>
                by_cases c1 : row < 0
                · have b1 := dec_t c1
                  have Hq := Lib.hid (show p = true by rw [Hp.out]; simp [c1])
                  go_wp2_with fail
                  go_meet
                  exact ⟨by rw [Hq.out], rfl⟩
                · have b1 := dec_f c1
                  have Hq := Lib.hid (show p = decide (20 ≤ row) by rw [Hp.out, b1, Bool.false_or])
                  go_wp2_with fail
                  go_meet
                  exact ⟨by rw [Hq.out], rfl⟩
              case rest =>
                obtain ⟨rfl, rfl⟩ := hcut
                obtain ⟨P, hP⟩ : ∃ P : Int, P = fE p := ⟨_, rfl⟩
                have HP := Lib.hid hP
                clear hP
                go_upto_if 186 with (fail)
                go_cut [9, 24] (fun e v wq => e = iv P ∧ Row wq v ((orL n row p).map iv) ∧ Below w8.heap.size w8 wq)
                case first => as_aux_lemma =>
                  cases p with
                  | true =>
                    go_wp2_with fail
                    go_meet
                    exact ⟨by rw [HP.out]; rfl, row_nil _, Below.refl _ _⟩
                  | false =>
                    have hin := row_in Hp.out
                    go_wp2_with fail
                    refine (rlayout_any n row h1 h2 hin.1 (by omega) _).mono ?_
                    rintro e wr ⟨v, rfl, hown, hb⟩
                    have hrow := (row_of_owns hown).1
                    rw [Int.toNat_natCast, orL_eq] at hrow
                    have Hrow := Lib.hid hrow
                    have Hb := Lib.hid hb
                    clear hown hrow hb
                    go_wp2_with fail
                    go_meet
                    exact ⟨by rw [HP.out]; rfl, Hrow.out, Hb.out⟩
                case rest =>
                  obtain ⟨rfl, hrow, hb⟩ := hcut
                  have HA9 := Lib.hid (HA8.out.trans (hb.mono (by omega)))
                  have hg9 := Lib.hid (hg8.out.below (Nat.le_refl _) hb)
                  have hz9 : w1.heap.size < wc.heap.size := by have := hb.size; omega
                  have Hrow := Lib.hid hrow
                  clear hb HA8 hg8 hz8 hrow
                  go_wp2_with fail
                  refine (order_tot n h1 h2 row p Hp.out _).mono ?_
                  rintro e w9 ⟨vo, rfl, hrow, hb⟩
                  rw [← HP.out]
                  have HA10 := Lib.hid (HA9.out.trans (hb.mono (by omega)))
                  have hg10 := Lib.hid (hg9.out.below (Nat.le_refl _) hb)
                  have hz10 : w1.heap.size < w9.heap.size := by have := hb.size; omega
                  have Hro := Lib.hid hrow
                  have Hr2 := Lib.hid (Hrow.out.below hb)
                  clear hb HA9 hg9 hz9 hrow Hrow HP
                  go_wp2_with fail
                  refine (same_eq P _ hg10.out).mono ?_
                  rintro e w10 ⟨rfl, hb⟩
                  have HA11 := Lib.hid (HA10.out.trans (hb.mono (by omega)))
                  have Hro2 := Lib.hid (Hro.out.below hb)
                  have Hr3 := Lib.hid (Hr2.out.below hb)
                  have hz11 : w1.heap.size < w10.heap.size := by have := hb.size; omega
                  clear hb HA10 hg10 hz10 Hro Hr2
                  go_wp2_with fail
                  refine (ints_eq _ _ _ _ Hro2.out Hr3.out).mono ?_
                  rintro e w11 ⟨rfl, nd, rfl⟩
                  go_wp2_with fail
                  go_ret
                  exact ⟨rfl, bdrew (HB1.out.trans (HA11.out.mono (by omega))) _⟩

theorem layoutTells_walk (n b d r row : Int) (hn : (Lit.int .i64 n).wf = true) (hb : (Lit.int .i64 b).wf = true) (hd : (Lit.int .i64 d).wf = true) (hr : (Lit.int .i64 r).wf = true) (hrow : (Lit.int .i64 row).wf = true) (w : World) (hg : Handle w) :
    Calls Tryd.prog 5 #[iv n, iv b, .agg #[iv d, iv r], iv row] w fun e w' => e = .returned (.bool true) ∧ Below w.heap.size w w' := by
  have b1 := bounds_i64 hb
  have b2 := bounds_i64 hd
  have b3 := bounds_i64 hr
  by_cases h : 3 ≤ n ∧ n ≤ 10
  · obtain ⟨k, rfl⟩ : ∃ k : Nat, n = k := ⟨n.toNat, by omega⟩
    exact layoutTells_good k (by omega) (by omega) b d r row (by omega) (by omega) (by omega) (by omega) (by omega) (by omega) w hg
  · exact layoutTells_bad n b d r row (by omega) (by omega) (by omega) w hg
end Go.Proofs.YtloaekdijpcmiaaDoor
