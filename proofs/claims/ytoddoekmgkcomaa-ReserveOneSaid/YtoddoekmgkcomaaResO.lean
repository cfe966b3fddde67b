/- The walk of the law ReserveOne: it returns true. -/
import Derived.Test.YtoddoekmgkcomaaResX
import Derived.Test.YtoddoekmgkcomaaResI
import Derived.Deep.DeepCutAuto
import Derived.Deep.CutBlock
namespace Go.Proofs.Ytoddoekmgkcomaa
open Go.ChangeShapes Go.WideShapes Go.ChangeAt Go.RowKit
set_option linter.unusedVariables false
theorem zero_int4 (w : World) : (zeroValue 67).run Try.prog w = .ok (.agg #[iv 0, iv 0, iv 0, iv 0]) w := by kernel_rfl
def OneRel (b N : Nat) (w0 : World) (gk : Nat) (i : Value) (wr : World) : Prop :=
  ∃ (j : Nat) (s : Res.St), j + gk = N ∧ j ≤ 80 ∧ i = iv j ∧ ResAt wr b s ∧ Res.Inv s ∧ Below b w0 wr
def Step4Rel (w0 : World) (gq : Nat) (j : Value) (wr : World) : Prop :=
  ∃ (q : Nat) (x y z t : Int), q + gq = 4 ∧ j = iv q ∧ wr = w0.alloc (.cells #[iv x, iv y, iv z, iv t] 67)
def WrRel (s : Res.St) (w0 : World) (gq : Nat) (wr k : Value) (wq : World) : Prop :=
  ∃ i nd : Nat, i + gq = 9 ∧ wr = iv (Res.wcnt s i : Nat) ∧ k = iv ((i : Int) + 1) ∧ wq = w0.drewN nd
namespace Res
def o1 : Int × St := register zero 1 7
def o2 : Int × St := hold o1.2 1 7 2
theorem o_all : o1.1 = 0 ∧ o2.1 = 0 ∧ may o2.2 1 true = true ∧ may o2.2 2 false = false := by decide +kernel
end Res
set_option maxRecDepth 100000 in
set_option maxHeartbeats 4000000 in
theorem reserveOne_core (v : Value) (xss : List (List Int)) (w : World) (hx : Rows2 w v xss) :
    Calls Try.prog 9 #[v] w fun e w' => e = .returned (.bool true) ∧ Below w.heap.size w w' := by
  have hz4 := zero_int4
  have O1 := Lib.hid Res.o_all.1
  have O2 := Lib.hid Res.o_all.2.1
  have O3 := Lib.hid Res.o_all.2.2.1
  have O4 := Lib.hid Res.o_all.2.2.2
  obtain ⟨us, hus, hlen, hrows⟩ := hx
  obtain ⟨po, co, rfl, hc1, hc2, hcells⟩ := hus.shape
  rw [hlen] at *
  have Hrows := Lib.hid hrows
  have Hcells := Lib.hid hcells
  unfold maxLen at hc2
  have hNN : xss.length ≤ 9223372036854775807 := by omega
  generalize hN : xss.length = N at *
  have HN := Lib.hid hN
  clear hus hrows hcells hN
  go_enter Try.func9, Try.ntmps9
  go_wp2_with fail
  refine (resNew_any _).mono ?_
  rintro e w1 ⟨rfl, hR, hb⟩
  have HR := Lib.hid hR
  have Hb := Lib.hid hb
  clear hR hb
  go_wp2_with fail
  refine (register_any HR.out 1 7).mono ?_
  rintro e w2 ⟨rfl, hR, hk⟩
  rw [show (Res.register Res.zero 1 7).1 = 0 from O1.out, errV_0]
  have HR2 := Lib.hid (show ResAt w2 w.heap.size Res.o1.2 from hR)
  have HK2 := Lib.hid hk
  clear hR hk
  go_wp2_with fail
  refine (hold_any HR2.out 1 7 2).mono ?_
  rintro e w4 ⟨rfl, hR, hk⟩
  rw [show (Res.hold Res.o1.2 1 7 2).1 = 0 from O2.out, errV_0]
  have HR4 := Lib.hid (show ResAt w4 w.heap.size Res.o2.2 from hR)
  have HK4 := Lib.hid (HK2.out.also hk)
  clear hR hk
  go_wp2_with fail
  refine (may_yes HR4.out 1 true rfl).mono ?_
  rintro e w6 ⟨rfl, n, rfl⟩
  rw [O3.out, errV_0]
  go_wp2_with fail
  refine (may_yes (HR4.out.drewN n) 2 false rfl).mono ?_
  rintro e w6 ⟨rfl, n2, rfl⟩
  rw [O4.out, errV_0]
  have HB := Lib.hid (Hb.out.trans (((HK4.out.drewN n).drewN n2).toBelow (by have := Hb.out.size; omega) (fun _ _ h => by rw [h]; exact Nat.le_refl _)))
  obtain ⟨w3, hw3⟩ : ∃ x : World, x = (w4.drewN n).drewN n2 := ⟨_, rfl⟩
  have hw3' : w4.drewN (n + n2) = w3 := by rw [hw3, World.drewN_drewN]
  rw [← hw3] at HB
  clear HR HR2 HR4 HK2 HK4 Hb hw3 O1 O2 O3 O4
  go_wp2_with fail
  clear hw3'
  refine (resNew_any _).mono ?_
  rintro e wA ⟨rfl, hR, hb⟩
  have HR := Lib.hid hR
  have Hb := Lib.hid hb
  have hB0 : w.heap.size ≤ w3.heap.size := HB.out.size
  clear hR hb
  go_wp2_with fail
  go_loopg [9] N (fun gk i wr => OneRel w3.heap.size N w3 gk i wr)
  case atStart => exact ⟨0, _, by omega, by omega, rfl, HR.out, Res.Inv.zero, Hb.out⟩
  case round =>
    obtain ⟨wO, hwO⟩ : ∃ x : World, x = wr := ⟨_, rfl⟩
    obtain ⟨gO, hgO⟩ : ∃ x : Nat, x = gk := ⟨_, rfl⟩
    subst hwO hgO
    obtain ⟨j, s, hj, hj80, rfl, hR, hI, hB⟩ := hrel
    clear HR Hb
    have HI := Lib.hid hI
    have HR := Lib.hid hR
    have HBO := Lib.hid hB
    clear hI hR hB
    have Hj := Lib.hid hj
    by_cases hlt : j < N
    · by_cases hlt80 : j < 80
      · have b80 : decide ((j : Int) < 80) = true := dec_t (by omega)
        obtain ⟨go, oo, hpo, hco⟩ := Hcells.out (by omega)
        obtain ⟨xs, hxs⟩ : ∃ xs, xss[j]? = some xs := ⟨xss[j]'(by rw [HN.out]; exact hlt), List.getElem?_eq_getElem _⟩
        obtain ⟨u, hu, hru, hwf⟩ := Hrows.out j xs hxs
        have hcu := hco j hlt
        rw [hu] at hcu
        obtain ⟨pi, ci, hu2, hi1, hi2, hi3⟩ := hru.shape
        rw [List.length_map] at hu2 hi1 hi3
        rw [hu2] at hcu
        have hlow : go < w.heap.size := World.block_lt_of_cell? w _ hcu
        have HWB := Lib.hid (HB.out.trans (HBO.out.mono hB0))
        have fcu : ∀ x y z t : Int, (wO.alloc (.cells #[iv x, iv y, iv z, iv t] 67)).cell? ⟨go, oo + j, none⟩ = some (.slice pi xs.length ci) := by
          intro x y z t
          have h := ((HWB.out.alloc (by have := HWB.out.size; omega) (.cells #[iv x, iv y, iv z, iv t] 67)).cell (p := ⟨go, oo + j, none⟩) hlow)
          exact h.trans hcu
        have hi2' : xs.length ≤ 9223372036854775807 := by unfold maxLen at hi2; omega
        have Hi3 := Lib.hid hi3
        rw [hpo]
        have Hpo := Lib.hid hpo
        clear hj hco hxs hu hru hwf hcu hu2 hi3 hpo
        go_upto_block 2 with (fail)
        go_cut [11] (fun _ wq => ∃ x y z t : Int, wq = wO.alloc (.cells #[iv x, iv y, iv z, iv t] 67))
        case first => as_aux_lemma =>
          go_wp2_with fail
          go_loopg [11] 4 (fun gq q wq => Step4Rel wO gq q wq)
          case atStart => exact ⟨0, 0, 0, 0, 0, rfl, rfl, rfl⟩
          case round =>
            obtain ⟨q, x, y, z, t, hq, rfl, rfl⟩ := hrel
            have f1 := fcu x y z t
            by_cases hq0 : q < xs.length
            · obtain ⟨gi, oi, rfl, hci⟩ := Hi3.out (by omega)
              obtain ⟨u, hz⟩ : ∃ z, xs[q]? = some z := ⟨xs[q], List.getElem?_eq_getElem hq0⟩
              have hcz := hci q hq0
              rw [List.getElem?_map, hz] at hcz
              have hlz : gi < w.heap.size := World.block_lt_of_cell? w _ hcz
              have f2 : (wO.alloc (.cells #[iv x, iv y, iv z, iv t] 67)).cell? ⟨gi, oi + q, none⟩ = some (iv u) :=
                ((HWB.out.alloc (by have := HWB.out.size; omega) (.cells #[iv x, iv y, iv z, iv t] 67)).cell (p := ⟨gi, oi + q, none⟩) hlz).trans hcz
              clear hci hz hcz fcu
              have hq3 : q = 0 ∨ q = 1 ∨ q = 2 ∨ q = 3 ∨ q = 4 := by omega
              rcases hq3 with rfl | rfl | rfl | rfl | rfl
              · rw [Nat.add_zero] at f2
                go_wp2_with fail
                go_roundg 3
                case measure => omega
                case rel => exact ⟨1, u, y, z, t, rfl, rfl, rfl⟩
              · go_wp2_with fail
                go_roundg 2
                case measure => omega
                case rel => exact ⟨2, x, u, z, t, rfl, rfl, rfl⟩
              · go_wp2_with fail
                go_roundg 1
                case measure => omega
                case rel => exact ⟨3, x, y, u, t, rfl, rfl, rfl⟩
              · go_wp2_with fail
                go_roundg 0
                case measure => omega
                case rel => exact ⟨4, x, y, z, u, rfl, rfl, rfl⟩
              · go_wp2_with fail
                go_meet
                exact ⟨x, y, z, t, rfl⟩
            · clear fcu
              go_wp2_with fail
              go_meet
              exact ⟨x, y, z, t, rfl⟩
        case rest =>
          obtain ⟨x, y, z, t, rfl⟩ := hcut
          clear fcu
          have HRa := Lib.hid (HR.out.below ((Below.refl wO.heap.size wO).alloc (Nat.le_refl _) (.cells #[iv x, iv y, iv z, iv t] 67)))
          have HBa := Lib.hid (HBO.out.alloc (by have := HBO.out.size; omega) (.cells #[iv x, iv y, iv z, iv t] 67))
          go_upto_block 4 with (fail)
          go_cut [] (fun wq => ∃ s', ResAt wq w3.heap.size s' ∧ Res.Inv s' ∧ Below w3.heap.size w3 wq)
          case first => as_aux_lemma =>
            have hsw : x = 0 ∨ x = 1 ∨ x = 2 ∨ x = 3 ∨ x = 4 ∨ x = 5 ∨ (x ≠ 0 ∧ x ≠ 1 ∧ x ≠ 2 ∧ x ≠ 3 ∧ x ≠ 4 ∧ x ≠ 5) := by omega
            have hsz : w3.heap.size ≤ (wO.alloc (.cells #[iv x, iv y, iv z, iv t] 67)).heap.size := by have := HBO.out.size; simp; omega
            have HSz := Lib.hid hsz
            clear hsz
            rcases hsw with h | h | h | h | h | h | ⟨h1, h2, h3, h4, h5, h6⟩
            · subst h
              go_wp2_with fail
              refine (register_any HRa.out y z).mono ?_
              rintro e wq ⟨rfl, hR', hk⟩
              have HR1 := Lib.hid hR'
              have HI1 := Lib.hid (HI.out.register y z)
              have HB1 := Lib.hid (HBa.out.trans (hk.toBelow HSz.out (fun _ _ h => by rw [h]; exact Nat.le_refl _)))
              clear hR' hk
              go_wp2_with fail
              go_meet
              exact ⟨_, HR1.out, HI1.out, HB1.out⟩
            · subst h
              go_wp2_with fail
              refine (register_any HRa.out y z).mono ?_
              rintro e wq ⟨rfl, hR', hk⟩
              have HR1 := Lib.hid hR'
              have HI1 := Lib.hid (HI.out.register y z)
              have HB1 := Lib.hid (HBa.out.trans (hk.toBelow HSz.out (fun _ _ h => by rw [h]; exact Nat.le_refl _)))
              clear hR' hk
              go_wp2_with fail
              go_meet
              exact ⟨_, HR1.out, HI1.out, HB1.out⟩
            · subst h
              go_wp2_with fail
              refine (leave_any HRa.out y).mono ?_
              rintro e wq ⟨rfl, hR', hk⟩
              have HR1 := Lib.hid hR'
              have HI1 := Lib.hid (HI.out.leave y)
              have HB1 := Lib.hid (HBa.out.trans (hk.toBelow HSz.out (fun _ _ h => by rw [h]; exact Nat.le_refl _)))
              clear hR' hk
              go_wp2_with fail
              go_meet
              exact ⟨_, HR1.out, HI1.out, HB1.out⟩
            · subst h
              go_wp2_with fail
              refine (hold_any HRa.out y z t).mono ?_
              rintro e wq ⟨rfl, hR', hk⟩
              have HR1 := Lib.hid hR'
              have HI1 := Lib.hid (HI.out.hold y z t)
              have HB1 := Lib.hid (HBa.out.trans (hk.toBelow HSz.out (fun _ _ h => by rw [h]; exact Nat.le_refl _)))
              clear hR' hk
              go_wp2_with fail
              go_meet
              exact ⟨_, HR1.out, HI1.out, HB1.out⟩
            · subst h
              go_wp2_with fail
              refine (hold_any HRa.out y z t).mono ?_
              rintro e wq ⟨rfl, hR', hk⟩
              have HR1 := Lib.hid hR'
              have HI1 := Lib.hid (HI.out.hold y z t)
              have HB1 := Lib.hid (HBa.out.trans (hk.toBelow HSz.out (fun _ _ h => by rw [h]; exact Nat.le_refl _)))
              clear hR' hk
              go_wp2_with fail
              go_meet
              exact ⟨_, HR1.out, HI1.out, HB1.out⟩
            · subst h
              go_wp2_with fail
              refine (rfree_any HRa.out y z t).mono ?_
              rintro e wq ⟨rfl, hR', hk⟩
              have HR1 := Lib.hid hR'
              have HI1 := Lib.hid (HI.out.free y z t)
              have HB1 := Lib.hid (HBa.out.trans (hk.toBelow HSz.out (fun _ _ h => by rw [h]; exact Nat.le_refl _)))
              clear hR' hk
              go_wp2_with fail
              go_meet
              exact ⟨_, HR1.out, HI1.out, HB1.out⟩
            · have t0 := beq_f h1
              have t1 := beq_f h2
              have t2 := beq_f h3
              have t3 := beq_f h4
              have t4 := beq_f h5
              have t5 := beq_f h6
              clear h1 h2 h3 h4 h5 h6
              go_wp2_with fail
              refine (preempt_any HRa.out y z t).mono ?_
              rintro e wq ⟨rfl, hR', hk⟩
              have HR1 := Lib.hid hR'
              have HI1 := Lib.hid (HI.out.preempt y z t)
              have HB1 := Lib.hid (HBa.out.trans (hk.toBelow HSz.out (fun _ _ h => by rw [h]; exact Nat.le_refl _)))
              clear hR' hk
              go_wp2_with fail
              go_meet
              exact ⟨_, HR1.out, HI1.out, HB1.out⟩
          case rest =>
            clear HRa HBa HR HI HBO
            obtain ⟨s', hR', hI', hB'⟩ := hcut
            have HR := Lib.hid hR'
            have HI := Lib.hid hI'
            have HBO := Lib.hid hB'
            clear hR' hI' hB'
            go_wp2_with fail
            refine (holder_any HR.out).mono ?_
            rintro e wh ⟨rfl, hb⟩
            have HR1 := Lib.hid ((HR.out.below hb).below ((Below.refl _ _).alloc (Nat.le_refl _) (.cells #[iv s'.2.1, iv s'.2.2] 57)))
            have HB1 := Lib.hid ((HBO.out.trans (hb.mono HBO.out.size)).alloc (by have := HBO.out.size; have := hb.size; omega) (.cells #[iv s'.2.1, iv s'.2.2] 57))
            have hz1 : w3.heap.size ≤ wh.heap.size := by have := HBO.out.size; have := hb.size; omega
            clear hb HR HBO
            go_wp2_with fail
            refine (keys_any HR1.out).mono ?_
            rintro e wk ⟨v, rfl, hown, hb⟩
            obtain ⟨gy, cy, rfl, _, hgk, _, hckm, hck, _⟩ := owns_pos hown (by omega)
            unfold maxLen at hckm
            have HR2 := Lib.hid (HR1.out.below hb)
            have HB2 := Lib.hid (HB1.out.trans (hb.mono HB1.out.size))
            have g0 : wk.cell? ⟨wh.heap.size, 0, none⟩ = some (iv s'.2.1) := (hb.cell (p := ⟨wh.heap.size, 0, none⟩) (by simp)).trans (by simp)
            have g1 : wk.cell? ⟨wh.heap.size, 1, none⟩ = some (iv s'.2.2) := (hb.cell (p := ⟨wh.heap.size, 1, none⟩) (by simp)).trans (by simp)
            have Hck := Lib.hid (show ∀ j : Nat, j < 9 → wk.cell? ⟨gy, j, none⟩ = some (iv (s'.1.getD (j + 1) 0)) from fun j hj => by
              rw [hck j hj, List.getElem?_map, List.getElem?_drop, List.getD_eq_getElem?_getD, List.getElem?_eq_getElem (by rw [HI.out.len]; omega), List.getElem?_eq_getElem (by rw [HI.out.len]; omega)]
              simp [Nat.add_comm])
            clear hb hown hck HR1 HB1
            obtain ⟨K, H, D⟩ := s'
            simp only at g0 g1
            have Hck := Lib.hid (show ∀ j : Nat, j < 9 → wk.cell? ⟨gy, j, none⟩ = some (iv (K.getD (j + 1) 0)) from Hck.out)
            have hHD : 0 ≤ H ∧ H ≤ 9 ∧ 0 ≤ D ∧ D ≤ 4 := by have := HI.out.h; simp only at this; omega
            obtain ⟨hH0, hH9, hD0, hD4⟩ := hHD
            go_upto_region 31 with (fail)
            go_cut [166] (fun s wq => s = .bool false ∧ wk = wq)
            case first => as_aux_lemma =>
              rcases HI.out.h with ⟨e1, e2⟩ | ⟨e1, e2, e3, e4, _⟩
              · simp only at e1 e2
                subst e1 e2
                go_wp2_with fail
                go_meet
                exact ⟨rfl, rfl⟩
              · simp only at e1 e2 e3 e4
                have t1 : (H == 0) = false := beq_f (by omega)
                have t2 : (D == 0) = false := beq_f (by omega)
                have d1 : decide (H < 0) = false := dec_f (by omega)
                have d2 : decide (9 < H) = false := dec_f (by omega)
                have d3 : decide (D < 0) = false := dec_f (by omega)
                have d4 : decide (4 < D) = false := dec_f (by omega)
                go_wp2_with fail
                go_meet
                exact ⟨rfl, rfl⟩
            case rest =>
              obtain ⟨rfl, rfl⟩ := hcut
              go_upto_region 33 with (fail)
              go_cut [178] (fun s wq => s = .bool false ∧ wk = wq)
              case first => as_aux_lemma =>
                rcases HI.out.h with ⟨e1, e2⟩ | ⟨e1, e2, e3, e4, e5⟩
                · simp only at e1 e2
                  subst e1 e2
                  go_wp2_with fail
                  go_meet
                  exact ⟨rfl, rfl⟩
                · simp only at e1 e2 e3 e4
                  obtain ⟨m, rfl⟩ : ∃ m : Nat, H = (m : Int) + 1 := ⟨(H - 1).toNat, by omega⟩
                  have hm : m < 9 := by omega
                  have hc := Hck.out m hm
                  have d1 : decide (0 < (m : Int) + 1) = true := dec_t (by omega)
                  have hk : K.getD (m + 1) 0 ≠ 0 := by
                    have h := e5
                    unfold Res.key at h
                    rw [show (((K, (m : Int) + 1, D) : Res.St).2.1).toNat = m + 1 by simp only; omega] at h
                    exact h
                  generalize K.getD (m + 1) 0 = y at *
                  have t1 : (y == 0) = false := beq_f hk
                  clear hk e5
                  go_wp2_with fail
                  go_meet
                  exact ⟨rfl, rfl⟩
              case rest =>
                obtain ⟨rfl, rfl⟩ := hcut
                go_wp2_with fail
                go_loopg [14, 15] 9 (fun gq wr k wq => WrRel (K, H, D) wk gq wr k wq)
                case atStart => exact ⟨0, 0, rfl, rfl, rfl, rfl⟩
                case round => as_aux_lemma =>
                  obtain ⟨i, nd, hi, rfl, rfl, rfl⟩ := hrel
                  have hwl := Res.wcnt_le (K, H, D) i
                  have hws : Res.wcnt (K, H, D) (i + 1) = Res.wcnt (K, H, D) i + if Res.may (K, H, D) ((i : Int) + 1) true then 1 else 0 := rfl
                  generalize hW : Res.wcnt (K, H, D) i = W at *
                  have HW := Lib.hid hW
                  have HWs := Lib.hid hws
                  have Hi := Lib.hid hi
                  clear hW hws hi
                  by_cases hi9 : i < 9
                  · as_aux_lemma =>
                    have hh : Res.hostB ((i : Int) + 1) = true := by simp [Res.hostB]; omega
                    have Hh := Lib.hid hh
                    have hm1 := Res.may_mono (K, H, D) ((i : Int) + 1)
                    have hm2 : ((i : Int) + 1) = H → Res.may (K, H, D) ((i : Int) + 1) true = true := fun e => by rw [e]; exact Res.may_holder HI.out (by simp only; omega)
                    have hm3 : 3 ≤ D → Res.may (K, H, D) ((i : Int) + 1) true = (K.getD (i + 1) 0 != 0) := fun e => by
                      rw [Res.may_members HI.out _ e]; unfold Res.key; rw [show ((i : Int) + 1).toNat = i + 1 by omega]
                    have hc := Hck.out i hi9
                    generalize hA : Res.may (K, H, D) ((i : Int) + 1) false = A at *
                    generalize hBw : Res.may (K, H, D) ((i : Int) + 1) true = Bw at *
                    generalize K.getD (i + 1) 0 = y at *
                    have HA := Lib.hid hA
                    have HBw := Lib.hid hBw
                    clear hA hBw hh
                    by_cases hD3 : 3 ≤ D
                    · have hy := hm3 hD3
                      have d3 := dec_t hD3
                      cases Bw with
                      | true =>
                        obtain rfl := hm1 rfl
                        have t1 : (y != 0) = true := hy.symm
                        clear hm1 hm2 hm3 hy
                        by_cases hiH : (i : Int) + 1 = H
                        · have t2 : (((i : Int) + 1) == H) = true := beq_t hiH
                          clear hiH
                          go_wp2_with fail
                          refine (may_yes (HR2.out.drewN nd) _ false Hh.out).mono ?_
                          rintro e w' ⟨rfl, n1, rfl⟩
                          rw [HA.out, errV_0]
                          go_wp2_with fail
                          refine (may_yes (HR2.out.drewN _) _ true Hh.out).mono ?_
                          rintro e w' ⟨rfl, n2, rfl⟩
                          rw [HBw.out, errV_0]
                          go_wp2_with fail
                          go_roundg (gk - 1)
                          case measure => have := Hi.out; omega
                          case rel => exact ⟨i + 1, _, by have := Hi.out; omega, by rw [HWs.out]; go_num, by go_num, rfl⟩
                        · have t2 : (((i : Int) + 1) == H) = false := beq_f hiH
                          clear hiH
                          go_wp2_with fail
                          refine (may_yes (HR2.out.drewN nd) _ false Hh.out).mono ?_
                          rintro e w' ⟨rfl, n1, rfl⟩
                          rw [HA.out, errV_0]
                          go_wp2_with fail
                          refine (may_yes (HR2.out.drewN _) _ true Hh.out).mono ?_
                          rintro e w' ⟨rfl, n2, rfl⟩
                          rw [HBw.out, errV_0]
                          go_wp2_with fail
                          go_roundg (gk - 1)
                          case measure => have := Hi.out; omega
                          case rel => exact ⟨i + 1, _, by have := Hi.out; omega, by rw [HWs.out]; go_num, by go_num, rfl⟩
                      | false =>
                        have t1 : (y != 0) = false := hy.symm
                        have t2 : (((i : Int) + 1) == H) = false := beq_f (fun e => by have := hm2 e; cases this)
                        clear hm1 hm2 hm3 hy
                        go_wp2_with fail
                        refine (may_yes (HR2.out.drewN nd) _ false Hh.out).mono ?_
                        rintro e w' ⟨rfl, n1, rfl⟩
                        rw [HA.out, errV_0]
                        go_wp2_with fail
                        refine (may_yes (HR2.out.drewN _) _ true Hh.out).mono ?_
                        rintro e w' ⟨rfl, n2, rfl⟩
                        rw [HBw.out, errV_0]
                        go_wp2_with fail
                        go_roundg (gk - 1)
                        case measure => have := Hi.out; omega
                        case rel => exact ⟨i + 1, _, by have := Hi.out; omega, by rw [HWs.out]; go_num, by go_num, rfl⟩
                    · have d3 := dec_f hD3
                      cases Bw with
                      | true =>
                        obtain rfl := hm1 rfl
                        clear hm1 hm2 hm3
                        by_cases hiH : (i : Int) + 1 = H
                        · have t2 : (((i : Int) + 1) == H) = true := beq_t hiH
                          clear hiH
                          go_wp2_with fail
                          refine (may_yes (HR2.out.drewN nd) _ false Hh.out).mono ?_
                          rintro e w' ⟨rfl, n1, rfl⟩
                          rw [HA.out, errV_0]
                          go_wp2_with fail
                          refine (may_yes (HR2.out.drewN _) _ true Hh.out).mono ?_
                          rintro e w' ⟨rfl, n2, rfl⟩
                          rw [HBw.out, errV_0]
                          go_wp2_with fail
                          go_roundg (gk - 1)
                          case measure => have := Hi.out; omega
                          case rel => exact ⟨i + 1, _, by have := Hi.out; omega, by rw [HWs.out]; go_num, by go_num, rfl⟩
                        · have t2 : (((i : Int) + 1) == H) = false := beq_f hiH
                          clear hiH
                          go_wp2_with fail
                          refine (may_yes (HR2.out.drewN nd) _ false Hh.out).mono ?_
                          rintro e w' ⟨rfl, n1, rfl⟩
                          rw [HA.out, errV_0]
                          go_wp2_with fail
                          refine (may_yes (HR2.out.drewN _) _ true Hh.out).mono ?_
                          rintro e w' ⟨rfl, n2, rfl⟩
                          rw [HBw.out, errV_0]
                          go_wp2_with fail
                          go_roundg (gk - 1)
                          case measure => have := Hi.out; omega
                          case rel => exact ⟨i + 1, _, by have := Hi.out; omega, by rw [HWs.out]; go_num, by go_num, rfl⟩
                      | false =>
                        have t2 : (((i : Int) + 1) == H) = false := beq_f (fun e => by have := hm2 e; cases this)
                        clear hm1 hm2 hm3
                        go_wp2_with fail
                        refine (may_yes (HR2.out.drewN nd) _ false Hh.out).mono ?_
                        rintro e w' ⟨rfl, n1, rfl⟩
                        rw [HA.out, errV_0]
                        go_wp2_with fail
                        refine (may_yes (HR2.out.drewN _) _ true Hh.out).mono ?_
                        rintro e w' ⟨rfl, n2, rfl⟩
                        rw [HBw.out, errV_0]
                        go_wp2_with fail
                        go_roundg (gk - 1)
                        case measure => have := Hi.out; omega
                        case rel => exact ⟨i + 1, _, by have := Hi.out; omega, by rw [HWs.out]; go_num, by go_num, rfl⟩
                  · as_aux_lemma =>
                    have hi9' : i = 9 := by have := Hi.out; omega
                    have hw1 : D = 1 ∨ D = 2 → W = 1 := fun e => by
                      rw [← HW.out, hi9']
                      have hH1 : 1 ≤ H := by
                        rcases HI.out.h with ⟨_, e2⟩ | ⟨e1, _⟩
                        · simp only at e2; omega
                        · exact e1
                      rw [Res.wcnt_one (s := (K, H, D)) hH1 e 9, if_pos (show H ≤ ((9 : Nat) : Int) by omega)]
                    have hw0 : D = 0 → W = 9 := fun e => by
                      rw [← HW.out, hi9']; exact Res.wcnt_all (s := (K, H, D)) e 9
                    have h5 : D = 0 ∨ D = 1 ∨ D = 2 ∨ D = 3 ∨ D = 4 := by omega
                    rcases h5 with rfl | rfl | rfl | rfl | rfl
                    · have t1 : ((W : Int) != 9) = false := bne_f (by rw [hw0 rfl]; rfl)
                      clear hw1 hw0
                      go_wp2_with fail
                      rw [show (some ({ block := go, off := oo, spot := none } : Addr)) = po from Hpo.out.symm]
                      go_roundg (gO - 1)
                      case measure => have := Hj.out; omega
                      case rel => exact ⟨j + 1, _, by have := Hj.out; omega, by omega, by go_num, HR2.out.drewN _, HI.out, bdrew HB2.out _⟩
                    · have t1 : ((W : Int) != 1) = false := bne_f (by rw [hw1 (.inl rfl)]; rfl)
                      clear hw1 hw0
                      go_wp2_with fail
                      rw [show (some ({ block := go, off := oo, spot := none } : Addr)) = po from Hpo.out.symm]
                      go_roundg (gO - 1)
                      case measure => have := Hj.out; omega
                      case rel => exact ⟨j + 1, _, by have := Hj.out; omega, by omega, by go_num, HR2.out.drewN _, HI.out, bdrew HB2.out _⟩
                    · have t1 : ((W : Int) != 1) = false := bne_f (by rw [hw1 (.inr rfl)]; rfl)
                      clear hw1 hw0
                      go_wp2_with fail
                      rw [show (some ({ block := go, off := oo, spot := none } : Addr)) = po from Hpo.out.symm]
                      go_roundg (gO - 1)
                      case measure => have := Hj.out; omega
                      case rel => exact ⟨j + 1, _, by have := Hj.out; omega, by omega, by go_num, HR2.out.drewN _, HI.out, bdrew HB2.out _⟩
                    · clear hw1 hw0
                      go_wp2_with fail
                      rw [show (some ({ block := go, off := oo, spot := none } : Addr)) = po from Hpo.out.symm]
                      go_roundg (gO - 1)
                      case measure => have := Hj.out; omega
                      case rel => exact ⟨j + 1, _, by have := Hj.out; omega, by omega, by go_num, HR2.out.drewN _, HI.out, bdrew HB2.out _⟩
                    · clear hw1 hw0
                      go_wp2_with fail
                      rw [show (some ({ block := go, off := oo, spot := none } : Addr)) = po from Hpo.out.symm]
                      go_roundg (gO - 1)
                      case measure => have := Hj.out; omega
                      case rel => exact ⟨j + 1, _, by have := Hj.out; omega, by omega, by go_num, HR2.out.drewN _, HI.out, bdrew HB2.out _⟩
      · go_wp2_with fail
        go_ret
        exact ⟨rfl, HB.out.trans (HBO.out.mono hB0)⟩
    · go_wp2_with fail
      go_ret
      exact ⟨rfl, HB.out.trans (HBO.out.mono hB0)⟩
theorem reserveOne_walk (v : Value) (w : World) (hv : ∃ xss, Rows2 w v xss) :
    Calls Try.prog 9 #[v] w fun e w' => e = .returned (.bool true) ∧ Below w.heap.size w w' := by
  obtain ⟨xss, hx⟩ := hv
  exact reserveOne_core v xss w hx
end Go.Proofs.Ytoddoekmgkcomaa
