/- The walk of the law IntentCovers: it returns true. -/
import Derived.Test.YtangcjffiooapaaIntZ
import Derived.Test.YtangcjffiooapaaInts
import Derived.Test.YtangcjffiooapaaIn
import Derived.Test.YtangcjffiooapaaArr40
import Derived.Test.YtangcjffiooapaaSteps
namespace Go.Proofs.Ytangcjffiooapaa
open Go.ChangeShapes Go.WideShapes Go.ChangeAt Go.RowKit Go.Maps
set_option linter.unusedVariables false
namespace Nt
/-- what is being written stands in a dirty region -/
def Cov (s : S) (wide : Nat) : Prop := ∀ c, c < 40 → s.many c ≠ 0 → s.dirty (c / wide) = true
theorem cov_zero (wide : Nat) : Cov zero wide := fun c _ h => absurd rfl h
theorem cov_beg {s : S} {wide c : Nat} (h : Cov s wide) : Cov (beg s wide c) wide := by
  intro k hk hm
  show upd s.dirty (c / wide) true (k / wide) = true
  have hm' : upd s.many c (s.many c + 1) k ≠ 0 := hm
  by_cases e : k / wide = c / wide
  · rw [e, upd_same]
  · rw [upd_other _ _ e]
    refine h k hk ?_
    rw [upd_other _ _ (fun q => e (by rw [q]))] at hm'
    exact hm'
theorem cov_fin {s : S} {wide c : Nat} (h : Cov s wide) : Cov (fin s c) wide := by
  intro k hk hm
  have hm' : upd s.many c (s.many c - 1) k ≠ 0 := hm
  refine h k hk ?_
  by_cases e : k = c
  · subst e; rw [upd_same] at hm'; omega
  · rw [upd_other _ _ e] at hm'; exact hm'
theorem cov_cln {s : S} {wide r : Nat} (h : Cov s wide) (hb : ¬ busy s wide r) : Cov (cln s r) wide := by
  intro k hk hm
  have hm' : s.many k ≠ 0 := hm
  show upd s.dirty r false (k / wide) = true
  have hne : k / wide ≠ r := fun e => hb ⟨k, hk, hm', e⟩
  rw [upd_other _ _ hne]
  exact h k hk hm'
theorem L_one : L (upd (fun _ => false) (25 / 10) true) = [2] := by decide +kernel
end Nt
theorem setOut {F : Nat → Prop} {w : World} {B b n wide : Nat} {s : Nt.S} {M q : Nat} {u : Value} (h : IntOk F w B b n wide s) (hM : ¬ F M) : IntOk F (w.setCell ⟨M, q, none⟩ u) B b n wide s := by
  obtain ⟨mb, v, D, h1, h2⟩ := h
  have hk : Kept (· = M) w (w.setCell ⟨M, q, none⟩ u) := (Kept.self M w).set1 _ _
  exact ⟨mb, v, D, { h1 with blk := hk.heap h1.blk (fun e => hM (by rw [← e]; exact h2.b)), many := h1.many.kept hk (fun e => hM (by rw [← e]; exact h2.m)), row := h1.row.kept hk (fun g hg e => hM (by rw [← e]; exact h2.v g hg)) }, h2⟩
theorem IntOk.more {F : Nat → Prop} {w : World} {B b n wide : Nat} {s : Nt.S} (h : IntOk F w B b n wide s) : IntOk F w B b (n + 1) wide s := by
  obtain ⟨mb, v, D, h1, h2⟩ := h
  exact ⟨mb, v, D, h1.more, h2⟩
def ICovRel (w : World) (b M wide N gk : Nat) (i : Value) (wr : World) : Prop :=
  ∃ (j : Nat) (s : Nt.S), j + gk = N ∧ j ≤ 80 ∧ i = iv j ∧ IntOk (fun k => w.heap.size ≤ k ∧ k ≠ M) wr 0 b j wide s ∧ Arr40 wr M s.many ∧ Nt.Cov s wide ∧ Below w.heap.size w wr
/-- what the switch leaves -/
def ICovOk (F : Nat → Prop) (w : World) (b M j wide : Nat) (wq : World) : Prop :=
  ∃ s', IntOk F wq 0 b (j + 1) wide s' ∧ Arr40 wq M s'.many ∧ Nt.Cov s' wide ∧ Below w.heap.size w wq
set_option maxRecDepth 100000 in
set_option maxHeartbeats 8000000 in
theorem intentCovers_core (wide : Nat) (h1 : 1 ≤ wide) (h2 : wide ≤ 40) (v : Value) (xss : List (List Int)) (w : World) (hx : Rows2 w v xss) :
    Calls Try.prog 6 #[iv wide, v] w fun e w' => e = .returned (.bool true) ∧ Below w.heap.size w w' := by
  have hz2 := zero_int2
  have hz40 := zero_int40
  obtain ⟨us, hus, hlen, hrows⟩ := hx
  obtain ⟨po, co, rfl, hc1, hc2, hcells⟩ := hus.shape
  rw [hlen] at *
  have Hrows := Lib.hid hrows
  have Hcells := Lib.hid hcells
  unfold maxLen at hc2
  have hNN : xss.length ≤ 9223372036854775807 := by omega
  generalize hN : xss.length = N at *
  have HN := Lib.hid hN
  clear hus hrows hcells hN
  go_enter Try.func6, Try.ntmps6
  go_wp2_with fail
  refine (intNew_any 10 (by omega) (by omega) _).mono ?_
  rintro e w1 ⟨b1, rfl, ⟨mb1, v1, D1, hA1, hIn1⟩, hb1⟩
  have HA1 := Lib.hid hA1
  have HB1 := Lib.hid hb1
  have HIn1 := Lib.hid hIn1
  have hz1 := hb1.size
  clear hA1 hb1 hIn1
  go_wp2_with fail
  refine (begin_yes HA1.out (F := fun k => w.heap.size ≤ k) (fun k hk => by omega) HIn1.out (Nat.zero_le _) (by omega) 25 (by omega)).mono ?_
  rintro e w2 ⟨rfl, ⟨mb2, v2, D2, hA2, hIn2⟩, hk2⟩
  have HA2 := Lib.hid hA2
  have HB2 := Lib.hid (HB1.out.trans (hk2.toBelow hz1 (fun k _ hk => hk)))
  have HIn2 := Lib.hid hIn2
  have hz2' := HB2.out.size
  clear hA2 hk2 hIn2 HA1 HIn1
  go_wp2_with fail
  refine (crash_any HA2.out (F := fun k => w.heap.size ≤ k) (fun k hk => by omega) HIn2.out (Nat.zero_le _)).mono ?_
  rintro e w3 ⟨v3, rfl, hown3, _, hk3⟩
  have hL1 : Nt.L (Nt.beg Nt.zero 10 25).dirty = [2] := Nt.L_one
  rw [hL1] at hown3
  obtain ⟨g3, cap3, rfl, _, hg3, _, _, hc3, _⟩ := owns_pos hown3 (by decide)
  have c3 : w3.cell? ⟨g3, 0, none⟩ = some (iv 2) := hc3 0 (by decide)
  have HB3 := Lib.hid (HB2.out.trans (hk3.toBelow hz2' (fun k _ hk => hk)))
  clear hown3 hk3 hc3 hL1 HA2 HIn2
  have l1 : ([2] : List Int).length = 1 := rfl
  rw [l1]
  go_wp2_with fail
  refine (intNew_any wide h1 h2 _).mono ?_
  rintro e w4 ⟨b, rfl, hI, hb4⟩
  have HI4 := Lib.hid hI
  have HB4 := Lib.hid (HB3.out.trans (hb4.mono HB3.out.size))
  have hz3 := HB3.out.size
  have hz4 := HB4.out.size
  have hz34 := hb4.size
  clear hI hb4 c3
  go_wp2_with fail
  obtain ⟨M, hM⟩ : ∃ M, M = w4.heap.size := ⟨_, rfl⟩
  have hst : ICovRel w b M wide N N (iv 0) (w4.alloc (.cells int40 50)) := by
    refine ⟨0, Nt.zero, by omega, by omega, rfl, (HI4.out.wide (fun k hk h => ⟨by omega, by omega⟩)).below ((Below.refl _ _).alloc (Nat.le_refl _) _), ?_, Nt.cov_zero wide, HB4.out.alloc hz4 _⟩
    rw [hM]; exact Arr40.new w4
  have Hst := Lib.hid hst
  rw [← hM]
  have hwM : w.heap.size ≤ M := by omega
  clear hst hM HI4 HB4 HB3 HB2 HB1
  go_loopg [12] N (fun gk i wr => ICovRel w b M wide N gk i wr)
  case atStart => exact Hst.out
  case round =>
    obtain ⟨wO, hwO⟩ : ∃ x : World, x = wr := ⟨_, rfl⟩
    obtain ⟨gO, hgO⟩ : ∃ x : Nat, x = gk := ⟨_, rfl⟩
    subst hwO hgO
    obtain ⟨j, s, hj, hj80, rfl, hI, hM, hC, hB⟩ := hrel
    have HI := Lib.hid hI
    have HM := Lib.hid hM
    have HC := Lib.hid hC
    have HWB := Lib.hid hB
    have Hj := Lib.hid hj
    have hMl := hM.lt
    clear hI hM hC hB Hst
    by_cases hlt : j < N
    · by_cases hlt80 : j < 80
      · have b80 : decide ((j : Int) < 80) = true := dec_t (by omega)
        obtain ⟨go, oo, hpo, hco⟩ := Hcells.out (by omega)
        obtain ⟨xs, hxs⟩ : ∃ xs, xss[j]? = some xs := ⟨xss[j]'(by rw [HN.out]; exact hlt), List.getElem?_eq_getElem _⟩
        obtain ⟨u, hu, hru, hwf⟩ := Hrows.out j xs hxs
        have hcu := hco j hlt
        rw [hu] at hcu
        obtain ⟨pi, ci, hu2, hi1, hi2, hi3⟩ := hru.shape
        rw [List.length_map] at hu2 hi1 hi3
        rw [hu2] at hcu
        have hlow : go < w.heap.size := World.block_lt_of_cell? w _ hcu
        have fcu : ∀ x y : Int, (wO.alloc (.cells #[iv x, iv y] 37)).cell? ⟨go, oo + j, none⟩ = some (.slice pi xs.length ci) := by
          intro x y
          have h := ((HWB.out.alloc HWB.out.size (.cells #[iv x, iv y] 37)).cell (p := ⟨go, oo + j, none⟩) hlow)
          exact h.trans hcu
        have hi2' : xs.length ≤ 9223372036854775807 := by unfold maxLen at hi2; omega
        have Hi3 := Lib.hid hi3
        rw [hpo]
        have Hpo := Lib.hid hpo
        clear hj hco hxs hu hru hwf hcu hu2 hi3 hpo
        go_upto_block 2 with (fail)
        go_cut [14] (fun _ wq => ∃ x y : Int, wq = wO.alloc (.cells #[iv x, iv y] 37))
        case first => as_aux_lemma =>
          go_wp2_with fail
          go_loopg [14] 2 (fun gq q wq => Step2Rel wO gq q wq)
          case atStart => exact ⟨0, 0, 0, rfl, rfl, rfl⟩
          case round =>
            obtain ⟨q, x, y, hq, rfl, rfl⟩ := hrel
            have f1 := fcu x y
            by_cases hq0 : q < xs.length
            · obtain ⟨gi, oi, rfl, hci⟩ := Hi3.out (by omega)
              obtain ⟨u, hz⟩ : ∃ z, xs[q]? = some z := ⟨xs[q], List.getElem?_eq_getElem hq0⟩
              have hcz := hci q hq0
              rw [List.getElem?_map, hz] at hcz
              have hlz : gi < w.heap.size := World.block_lt_of_cell? w _ hcz
              have f2 : (wO.alloc (.cells #[iv x, iv y] 37)).cell? ⟨gi, oi + q, none⟩ = some (iv u) :=
                ((HWB.out.alloc HWB.out.size (.cells #[iv x, iv y] 37)).cell (p := ⟨gi, oi + q, none⟩) hlz).trans hcz
              clear hci hz hcz fcu
              have hq3 : q = 0 ∨ q = 1 ∨ q = 2 := by omega
              rcases hq3 with rfl | rfl | rfl
              · rw [Nat.add_zero] at f2
                go_wp2_with fail
                go_roundg 1
                case measure => omega
                case rel => exact ⟨1, u, y, rfl, rfl, rfl⟩
              · go_wp2_with fail
                go_roundg 0
                case measure => omega
                case rel => exact ⟨2, x, u, rfl, rfl, rfl⟩
              · go_wp2_with fail
                go_meet
                exact ⟨x, y, rfl⟩
            · clear fcu
              go_wp2_with fail
              go_meet
              exact ⟨x, y, rfl⟩
        case rest =>
          obtain ⟨x, y, rfl⟩ := hcut
          clear fcu
          obtain ⟨D, hD⟩ : ∃ D : Nat, D = wO.heap.size := ⟨_, rfl⟩
          obtain ⟨wA, hwA⟩ : ∃ W : World, W = wO.alloc (.cells #[iv x, iv y] 37) := ⟨_, rfl⟩
          have c0 : wA.cell? ⟨D, 0, none⟩ = some (iv x) := by rw [hwA, hD]; simp
          have c1 : wA.cell? ⟨D, 1, none⟩ = some (iv y) := by rw [hwA, hD]; simp
          have hbA : Below wO.heap.size wO wA := by rw [hwA]; exact (Below.refl _ _).alloc (Nat.le_refl _) _
          have hDz : wA.heap.size = D + 1 := by rw [hwA, hD]; simp
          have hwD : w.heap.size ≤ D := by rw [hD]; exact HWB.out.size
          obtain ⟨F, hF⟩ : ∃ F : Nat → Prop, F = fun k => w.heap.size ≤ k ∧ k ≠ M ∧ k ≠ D := ⟨_, rfl⟩
          have HIA : Hid (IntOk F wA 0 b j wide s) := Lib.hid (IntOk.below (HI.out.wide (fun k hk h => by rw [hF]; exact ⟨h.1, h.2, by omega⟩)) hbA)
          have HMA := Lib.hid (HM.out.below hbA)
          have HBA := Lib.hid (HWB.out.trans (hbA.mono HWB.out.size))
          have hFn : ∀ k, wA.heap.size ≤ k → F k := by intro k hk; rw [hF]; exact ⟨by omega, by omega, by omega⟩
          have HFn := Lib.hid hFn
          have HFo : Hid (∀ k, F k → w.heap.size ≤ k ∧ k ≠ M) := Lib.hid (by intro k hk; rw [hF] at hk; exact ⟨hk.1, hk.2.1⟩)
          have hFM : ¬ F M := by rw [hF]; intro h; exact h.2.1 rfl
          have hFD : ¬ F D := by rw [hF]; intro h; exact h.2.2 rfl
          have HFM := Lib.hid hFM
          have HFD := Lib.hid hFD
          have hMD : M ≠ D := by omega
          rw [← hwA, ← hD]
          clear hwA hD hbA hF hFn hFM hFD HI HM HWB
          go_upto_block 4 with (fail)
          go_cut [] (fun wq => ICovOk F w b M j wide wq)
          case first => as_aux_lemma =>
            obtain ⟨bx, hbx⟩ : ∃ bx : Bool, bx = decide (x = 0 ∨ x = 1) := ⟨_, rfl⟩
            have HBx := Lib.hid hbx
            clear hbx
            obtain ⟨mb, vd, DD, hA, hIn⟩ := HIA.out
            have HA := Lib.hid hA
            have HIn := Lib.hid hIn
            clear hA hIn
            go_upto_if 137 with (fail)
            go_cut [137] (fun s wq => s = .bool bx ∧ wA = wq)
            case first => as_aux_lemma =>
              by_cases h0 : x = 0
              · have HX := Lib.hid (show bx = true by rw [HBx.out]; simp [h0])
                have t0 := beq_t h0
                clear h0
                go_wp2_with fail
                go_meet
                exact ⟨by rw [HX.out, t0], rfl⟩
              · have HX := Lib.hid (show bx = (x == 1) by rw [HBx.out]; simp [h0]; rfl)
                have t0 := beq_f h0
                clear h0
                go_wp2_with fail
                go_meet
                exact ⟨by rw [HX.out], rfl⟩
            case rest =>
            obtain ⟨rfl, rfl⟩ := hcut
            cases bx with
            | true => as_aux_lemma =>
              by_cases hin : Nt.inB y = true
              · have hin2 := Nt.in_iff.1 hin
                obtain ⟨c, rfl⟩ : ∃ c : Nat, y = c := ⟨y.toNat, by omega⟩
                have hc40 : c < 40 := by omega
                have hbd := HA.out.many.bound c
                have b40 : decide ((40 : Int) ≤ (c : Int)) = false := dec_f (by omega)
                have b40' : decide (40 ≤ c) = false := dec_f (by omega)
                clear hin hin2
                go_wp2_with fail
                refine (begin_yes HA.out HFn.out HIn.out (Nat.zero_le _) (by omega) c hc40).mono ?_
                rintro e w5 ⟨rfl, hI, hk⟩
                have HI5 := Lib.hid hI
                have HM5 := Lib.hid (HMA.out.kept hk HFM.out)
                have HB5 := Lib.hid (HBA.out.trans (hk.toBelow (by omega : w.heap.size ≤ wA.heap.size) (fun k _ hk => (HFo.out k hk).1)))
                have c1q := hk.cell c1 HFD.out
                have cMq := HM5.out.cell c hc40
                have fMq := HM5.out.frozen
                have hset := fun (q : Nat) (u : Value) => setOut (q := q) (u := u) HI5.out HFM.out
                have Hset := Lib.hid hset
                clear hI hk hset
                go_wp2_with fail
                go_meet
                refine ⟨Nt.beg s wide c, ?_, HM5.out.set c (s.many c + 1), Nt.cov_beg HC.out, HB5.out.setCell (p := ⟨M, c, none⟩) hwM _⟩
                exact Hset.out _ _
              · have Hin := Lib.hid (show Nt.inB y = false by simpa using hin)
                clear hin
                go_wp2_with fail
                refine (begin_no y Hin.out).mono ?_
                rintro e w5 ⟨rfl, rfl⟩
                go_wp2_with fail
                go_meet
                exact ⟨s, ⟨mb, vd, DD, HA.out.more, HIn.out⟩, HMA.out, HC.out, HBA.out⟩
            | false =>
              have hx01 := of_decide_eq_false HBx.out.symm
              by_cases hx2 : x = 2
              · as_aux_lemma =>
                subst hx2
                clear hx01
                by_cases hin : Nt.inB y = true
                · have hin2 := Nt.in_iff.1 hin
                  obtain ⟨c, rfl⟩ : ∃ c : Nat, y = c := ⟨y.toNat, by omega⟩
                  have hc40 : c < 40 := by omega
                  have hbd := HA.out.many.bound c
                  have b40 : decide ((40 : Int) ≤ (c : Int)) = false := dec_f (by omega)
                  have b40' : decide (40 ≤ c) = false := dec_f (by omega)
                  clear hin hin2
                  have HE := Lib.hid (end_yes HA.out HIn.out (by omega) c hc40)
                  by_cases hm0 : s.many c = 0
                  · rw [if_pos hm0] at HE
                    clear hm0
                    go_wp2_with fail
                    refine HE.out.mono ?_
                    rintro e w5 ⟨he, hI, hk⟩
                    obtain rfl : e = .returned (ev 6) := he
                    have HI5 := Lib.hid hI
                    have HM5 := Lib.hid (HMA.out.kept hk HFM.out)
                    have HB5 := Lib.hid (HBA.out.trans (hk.toBelow (by omega : w.heap.size ≤ wA.heap.size) (fun k _ hk => (HFo.out k hk).1)))
                    have c1q := hk.cell c1 HFD.out
                    have cMq := HM5.out.cell c hc40
                    have fMq := HM5.out.frozen
                    have hset := fun (q : Nat) (u : Value) => setOut (q := q) (u := u) HI5.out HFM.out
                    have Hset := Lib.hid hset
                    clear hI hk hset
                    go_wp2_with fail
                    go_meet
                    exact ⟨s, HI5.out, HM5.out, HC.out, HB5.out⟩
                  · rw [if_neg hm0] at HE
                    have t0 : ((s.many c : Int) == 0) = false := beq_f (by omega)
                    have hm1 : 1 ≤ (s.many c : Int) := by omega
                    have Hm := Lib.hid hm0
                    clear hm0
                    go_wp2_with fail
                    refine HE.out.mono ?_
                    rintro e w5 ⟨he, hI, hk⟩
                    obtain rfl : e = .returned .nilIface := he
                    have HI5 := Lib.hid hI
                    have HM5 := Lib.hid (HMA.out.kept hk HFM.out)
                    have HB5 := Lib.hid (HBA.out.trans (hk.toBelow (by omega : w.heap.size ≤ wA.heap.size) (fun k _ hk => (HFo.out k hk).1)))
                    have c1q := hk.cell c1 HFD.out
                    have cMq := HM5.out.cell c hc40
                    have fMq := HM5.out.frozen
                    have hset := fun (q : Nat) (u : Value) => setOut (q := q) (u := u) HI5.out HFM.out
                    have Hset := Lib.hid hset
                    clear hI hk hset
                    go_wp2_with fail
                    go_meet
                    refine ⟨Nt.fin s c, ?_, ?_, Nt.cov_fin HC.out, HB5.out.setCell (p := ⟨M, c, none⟩) hwM _⟩
                    · exact Hset.out _ _
                    · have h5 := HM5.out.set c (s.many c - 1)
                      rw [show ((s.many c - 1 : Nat) : Int) = (s.many c : Int) - 1 by have := Hm.out; omega] at h5
                      exact h5
                · have Hin := Lib.hid (show Nt.inB y = false by simpa using hin)
                  clear hin
                  go_wp2_with fail
                  refine (end_no y Hin.out).mono ?_
                  rintro e w5 ⟨rfl, rfl⟩
                  go_wp2_with fail
                  go_meet
                  exact ⟨s, ⟨mb, vd, DD, HA.out.more, HIn.out⟩, HMA.out, HC.out, HBA.out⟩
              · have t2 := beq_f hx2
                clear hx2 hx01
                by_cases hy : 0 ≤ y ∧ y ≤ ((39 / wide : Nat) : Int)
                · obtain ⟨r, rfl⟩ : ∃ r : Nat, y = r := ⟨y.toNat, by omega⟩
                  have hr : r ≤ 39 / wide := by omega
                  have HCl := Lib.hid (clean_yes HA.out HFn.out HIn.out r hr)
                  clear hy hr
                  go_wp2_with fail
                  refine HCl.out.mono ?_
                  rintro e w5 (⟨_, he, hI, hk⟩ | ⟨hnb, he, hI, hk⟩)
                  · as_aux_lemma =>
                    subst he
                    have HI5 := Lib.hid (IntOk.more hI)
                    have HM5 := Lib.hid (HMA.out.kept hk HFM.out)
                    have HB5 := Lib.hid (HBA.out.trans (hk.toBelow (by omega : w.heap.size ≤ wA.heap.size) (fun k _ hk => (HFo.out k hk).1)))
                    have c1q := hk.cell c1 HFD.out
                    clear hI hk
                    go_wp2_with fail
                    go_loopg [19] 0 (fun gq i wq => i = iv 0 ∧ wq = w5)
                    case atStart => exact ⟨rfl, rfl⟩
                    case round =>
                    obtain ⟨rfl, rfl⟩ := hrel
                    go_wp2_with fail
                    go_meet
                    exact ⟨s, HI5.out, HM5.out, HC.out, HB5.out⟩
                  · have Hnb := Lib.hid hnb
                    obtain ⟨is, his⟩ : ∃ is, is = s.dirty r := ⟨_, rfl⟩
                    rw [← his] at he
                    subst he
                    clear hnb his
                    have HI5 := Lib.hid (IntOk.more hI)
                    have HM5 := Lib.hid (HMA.out.kept hk HFM.out)
                    have HB5 := Lib.hid (HBA.out.trans (hk.toBelow (by omega : w.heap.size ≤ wA.heap.size) (fun k _ hk => (HFo.out k hk).1)))
                    have c1q := hk.cell c1 HFD.out
                    clear hI hk
                    have hMc : ∀ k, k < 40 → w5.cell? ⟨M, k, none⟩ = some (iv (s.many k)) := HM5.out.cell
                    have HMc := Lib.hid hMc
                    clear hMc
                    cases is with
                    | false => as_aux_lemma =>
                      go_wp2_with fail
                      go_loopg [19] 0 (fun gq i wq => i = iv 0 ∧ wq = w5)
                      case atStart => exact ⟨rfl, rfl⟩
                      case round =>
                      obtain ⟨rfl, rfl⟩ := hrel
                      go_wp2_with fail
                      go_meet
                      exact ⟨Nt.cln s r, HI5.out, HM5.out, Nt.cov_cln HC.out Hnb.out, HB5.out⟩
                    | true => as_aux_lemma =>
                      go_wp2_with fail
                      go_loopg [19] 40 (fun gq i wq => ∃ k nd : Nat, k + gq = 40 ∧ i = iv k ∧ wq = w5.drewN nd)
                      case atStart => exact ⟨0, 0, rfl, rfl, rfl⟩
                      case round =>
                        obtain ⟨k, nd, hk, rfl, rfl⟩ := hrel
                        have Hk := Lib.hid hk
                        by_cases hk40 : k < 40
                        · have cM := HMc.out k hk40
                          have hw0 : ¬ wide = 0 := by omega
                          have hkm : k ≤ 1000000 := by omega
                          have hqo := wrap_quo k wide _ hkm rfl
                          have hqp := wrap_quo' k wide _ hkm rfl
                          obtain ⟨q, hqe⟩ : ∃ q, q = k / wide := ⟨_, rfl⟩
                          rw [← hqe] at hqo hqp
                          have Hq := Lib.hid hqe
                          clear hqe hk
                          by_cases hqr : q = r
                          · have tq : ((q : Int) == (r : Int)) = true := beq_t (by rw [hqr])
                            have hm0 : s.many k = 0 := by
                              rcases Nat.eq_zero_or_pos (s.many k) with h | h
                              · exact h
                              · exact absurd ⟨k, hk40, Nat.ne_of_gt h, by rw [← Hq.out]; exact hqr⟩ Hnb.out
                            rw [hm0] at cM
                            clear hqr hm0
                            go_wp2_with fail
                            go_quiet (fail)
                            go_wp2_with fail
                            go_roundg (gk - 1)
                            case measure => have := Hk.out; omega
                            case rel => exact ⟨k + 1, _, by have := Hk.out; omega, by go_num, rfl⟩
                          · have tq : ((q : Int) == (r : Int)) = false := beq_f (fun e => hqr (Int.ofNat_inj.1 e))
                            clear hqr
                            go_wp2_with fail
                            go_quiet (fail)
                            go_wp2_with fail
                            go_roundg (gk - 1)
                            case measure => have := Hk.out; omega
                            case rel => exact ⟨k + 1, _, by have := Hk.out; omega, by go_num, rfl⟩
                        · have hk40' : k = 40 := by omega
                          subst hk40'
                          clear hk
                          go_wp2_with fail
                          go_meet
                          exact ⟨Nt.cln s r, HI5.out.below (bdrew (Below.refl _ _) _), HM5.out.below (bdrew (Below.refl _ _) _), Nt.cov_cln HC.out Hnb.out, bdrew HB5.out _⟩
                · have hyn : y < 0 ∨ 0 ≤ y ∧ ((39 / wide : Nat) : Int) < y := by omega
                  have HCl := Lib.hid (clean_no HA.out y hyn)
                  clear hy hyn
                  as_aux_lemma =>
                  go_wp2_with fail
                  refine HCl.out.mono ?_
                  rintro e w5 ⟨rfl, rfl⟩
                  go_wp2_with fail
                  go_loopg [19] 0 (fun gq i wq => i = iv 0 ∧ wq = wA)
                  case atStart => exact ⟨rfl, rfl⟩
                  case round =>
                  obtain ⟨rfl, rfl⟩ := hrel
                  go_wp2_with fail
                  go_meet
                  exact ⟨s, ⟨mb, vd, DD, HA.out.more, HIn.out⟩, HMA.out, HC.out, HBA.out⟩
          case rest =>
            obtain ⟨s', hI', hM', hC', hB'⟩ := hcut
            have HMq := Lib.hid hM'
            have HCq := Lib.hid hC'
            have HBq := Lib.hid hB'
            have hBz := hB'.size
            obtain ⟨mb, vd, DD, hA, hIn⟩ := hI'
            have HAq := Lib.hid hA
            have HInq := Lib.hid hIn
            clear hM' hC' hB' hA hIn HIA HMA HBA c0 c1
            go_wp2_with fail
            refine (dirty_any HAq.out).mono ?_
            rintro e w6 ⟨vl, rfl, hown, hb6⟩
            have hrow := (row_of_owns hown).1
            have Hrow := Lib.hid hrow
            obtain ⟨pl, cl, hvl, _⟩ := hrow.get
            rw [List.length_map] at hvl
            subst hvl
            have HA6 := Lib.hid (HAq.out.below hb6)
            have HM6 := Lib.hid (HMq.out.below hb6)
            have HB6 := Lib.hid (HBq.out.trans (hb6.mono hBz))
            have hlL := Nt.L_len s'.dirty
            generalize (Nt.L s'.dirty).length = nl at *
            clear hown hb6 hrow HAq HMq
            go_wp2_with fail
            go_loopg [21] 40 (fun gq i wq => ∃ k : Nat, k + gq = 40 ∧ i = iv k ∧ wq = w6)
            case atStart => exact ⟨0, rfl, rfl, rfl⟩
            case round =>
              obtain ⟨k, hk, rfl, hwq⟩ := hrel
              subst hwq
              have Hk := Lib.hid hk
              by_cases hk40 : k < 40
              · have cM := HM6.out.cell k hk40
                have hw0 : ¬ wide = 0 := by omega
                have hkm : k ≤ 1000000 := by omega
                have hr40 : k / wide < 40 := Nat.lt_of_le_of_lt (Nat.div_le_self _ _) hk40
                have hcov := HCq.out k hk40
                have hqo := wrap_quo k wide _ hkm rfl
                have hqp := wrap_quo' k wide _ hkm rfl
                have hmem := Nt.L_mem (f := s'.dirty) hr40
                have hin := in_any (Nt.L s'.dirty) ((k / wide : Nat) : Int) _ wr Hrow.out
                rw [hmem] at hin
                obtain ⟨q, hqe⟩ : ∃ q, q = k / wide := ⟨_, rfl⟩
                rw [← hqe] at hqo hqp hin hcov
                generalize s'.dirty q = dq at hin hcov
                have Hin := Lib.hid hin
                by_cases hm0 : s'.many k = 0
                · rw [hm0] at cM
                  have tm : decide ((0 : Int) < ((0 : Nat) : Int)) = false := by decide
                  clear hk hcov hmem hin hqe hm0 hr40
                  go_wp2_with fail
                  refine Hin.out.mono ?_
                  rintro e w' ⟨rfl, rfl⟩
                  go_wp2_with fail
                  go_roundg (gk - 1)
                  case measure => have := Hk.out; omega
                  case rel => exact ⟨k + 1, by have := Hk.out; omega, by go_num, rfl⟩
                · have hdq : dq = true := hcov hm0
                  subst hdq
                  have tm : decide ((0 : Int) < ((s'.many k : Nat) : Int)) = true := dec_t (by omega)
                  have tm' : decide (0 < s'.many k) = true := dec_t (by omega)
                  clear hk hcov hmem hin hqe hm0 hr40
                  go_wp2_with fail
                  refine Hin.out.mono ?_
                  rintro e w' ⟨rfl, rfl⟩
                  go_wp2_with fail
                  go_roundg (gk - 1)
                  case measure => have := Hk.out; omega
                  case rel => exact ⟨k + 1, by have := Hk.out; omega, by go_num, rfl⟩
              · have hk40' : k = 40 := by omega
                subst hk40'
                clear hk
                have HIe : Hid (IntOk (fun k => w.heap.size ≤ k ∧ k ≠ M) wr 0 b (j + 1) wide s') := Lib.hid (IntOk.wide ⟨mb, vd, DD, HA6.out, HInq.out⟩ (fun k _ hk => HFo.out k hk))
                go_wp2_with fail
                rw [show (some ({ block := go, off := oo, spot := none } : Addr)) = po from Hpo.out.symm]
                go_roundg (gO - 1)
                case measure => have := Hj.out; omega
                case rel => exact ⟨j + 1, s', by have := Hj.out; omega, by omega, by go_num, HIe.out, HM6.out, HCq.out, HB6.out⟩
      · have t80 : decide ((j : Int) < 80) = false := dec_f (by omega)
        obtain ⟨mb, vd, DD, hA, hIn⟩ := HI.out
        have HA := Lib.hid hA
        have HIn := Lib.hid hIn
        have hBz := HWB.out.size
        clear hA hIn
        go_wp2_with fail
        refine (dirty_any HA.out).mono ?_
        rintro e w5 ⟨v5, rfl, hown5, hb5⟩
        have HR5 := Lib.hid (row_of_owns hown5).1
        have HB5 := Lib.hid (HWB.out.trans (hb5.mono hBz))
        have hz5 := hb5.size
        obtain ⟨F, hF⟩ : ∃ F : Nat → Prop, F = fun k => w.heap.size ≤ k ∧ v5.ownBlock ≠ some k := ⟨_, rfl⟩
        have hI5 : IntOk F w5 0 b j wide s := IntOk.below (HI.out.wide (fun k hk h => by rw [hF]; exact ⟨h.1, fun e => by have := (hown5.lt k e).1; omega⟩)) hb5
        have HFo : Hid (∀ k, F k → w.heap.size ≤ k) := Lib.hid (by intro k hk; rw [hF] at hk; exact hk.1)
        have HFl : Hid (∀ g, v5.ownBlock = some g → ¬ F g) := Lib.hid (by intro g hg hk; rw [hF] at hk; exact hk.2 hg)
        have HFn : Hid (∀ k, w5.heap.size ≤ k → F k) := Lib.hid (by
          intro k hk; rw [hF]
          exact ⟨by omega, fun e => by have := (hown5.lt k e).2; omega⟩)
        obtain ⟨mb', vd', DD', hA5, hIn5⟩ := hI5
        have HA5 := Lib.hid hA5
        have HIn5 := Lib.hid hIn5
        clear hb5 HA hown5 hF hA5 hIn5
        go_wp2_with fail
        refine (crash_any HA5.out HFn.out HIn5.out (Nat.zero_le _)).mono ?_
        rintro e w6 ⟨v6, rfl, hown6, ⟨mb6, vd6, DD6, hA6, hIn6⟩, hk6⟩
        have HR6 := Lib.hid (row_of_owns hown6).1
        have HR56 : Hid (Row w6 v5 ((Nt.L s.dirty).map iv)) := Lib.hid (Kept.row HR5.out hk6 (fun g o n c hv _ => HFl.out g (by rw [hv]; rfl)))
        have HA6 := Lib.hid hA6
        have HB6 := Lib.hid (HB5.out.trans (hk6.toBelow (Nat.le_trans hBz hz5) (fun k _ hk => HFo.out k hk)))
        clear hown6 hA6 hIn6 hk6 HR5
        go_wp2_with fail
        refine (ints_eq (Nt.L s.dirty) v6 v5 w6 HR6.out HR56.out).mono ?_
        rintro e w' ⟨rfl, nd, rfl⟩
        have HA7 := Lib.hid (HA6.out.drewN nd)
        have HR57 := Lib.hid (HR56.out.drewN nd)
        have HB7 := Lib.hid (bdrew HB6.out nd)
        clear HA6 HR56 HR6
        go_wp2_with fail
        refine (dirty_any HA7.out).mono ?_
        rintro e w8 ⟨v8, rfl, hown8, hb8⟩
        have HR8 := Lib.hid (row_of_owns hown8).1
        have HR58 := Lib.hid (HR57.out.below hb8)
        have HB8 := Lib.hid (HB7.out.trans (hb8.mono HB7.out.size))
        clear hown8 hb8
        go_wp2_with fail
        refine (ints_eq (Nt.L s.dirty) v8 v5 w8 HR8.out HR58.out).mono ?_
        rintro e w' ⟨rfl, nd2, rfl⟩
        go_wp2_with fail
        go_ret
        exact ⟨rfl, bdrew HB8.out nd2⟩
    · obtain ⟨mb, vd, DD, hA, hIn⟩ := HI.out
      have HA := Lib.hid hA
      have HIn := Lib.hid hIn
      have hBz := HWB.out.size
      clear hA hIn
      go_wp2_with fail
      refine (dirty_any HA.out).mono ?_
      rintro e w5 ⟨v5, rfl, hown5, hb5⟩
      have HR5 := Lib.hid (row_of_owns hown5).1
      have HB5 := Lib.hid (HWB.out.trans (hb5.mono hBz))
      have hz5 := hb5.size
      obtain ⟨F, hF⟩ : ∃ F : Nat → Prop, F = fun k => w.heap.size ≤ k ∧ v5.ownBlock ≠ some k := ⟨_, rfl⟩
      have hI5 : IntOk F w5 0 b j wide s := IntOk.below (HI.out.wide (fun k hk h => by rw [hF]; exact ⟨h.1, fun e => by have := (hown5.lt k e).1; omega⟩)) hb5
      have HFo : Hid (∀ k, F k → w.heap.size ≤ k) := Lib.hid (by intro k hk; rw [hF] at hk; exact hk.1)
      have HFl : Hid (∀ g, v5.ownBlock = some g → ¬ F g) := Lib.hid (by intro g hg hk; rw [hF] at hk; exact hk.2 hg)
      have HFn : Hid (∀ k, w5.heap.size ≤ k → F k) := Lib.hid (by
        intro k hk; rw [hF]
        exact ⟨by omega, fun e => by have := (hown5.lt k e).2; omega⟩)
      obtain ⟨mb', vd', DD', hA5, hIn5⟩ := hI5
      have HA5 := Lib.hid hA5
      have HIn5 := Lib.hid hIn5
      clear hb5 HA hown5 hF hA5 hIn5
      go_wp2_with fail
      refine (crash_any HA5.out HFn.out HIn5.out (Nat.zero_le _)).mono ?_
      rintro e w6 ⟨v6, rfl, hown6, ⟨mb6, vd6, DD6, hA6, hIn6⟩, hk6⟩
      have HR6 := Lib.hid (row_of_owns hown6).1
      have HR56 : Hid (Row w6 v5 ((Nt.L s.dirty).map iv)) := Lib.hid (Kept.row HR5.out hk6 (fun g o n c hv _ => HFl.out g (by rw [hv]; rfl)))
      have HA6 := Lib.hid hA6
      have HB6 := Lib.hid (HB5.out.trans (hk6.toBelow (Nat.le_trans hBz hz5) (fun k _ hk => HFo.out k hk)))
      clear hown6 hA6 hIn6 hk6 HR5
      go_wp2_with fail
      refine (ints_eq (Nt.L s.dirty) v6 v5 w6 HR6.out HR56.out).mono ?_
      rintro e w' ⟨rfl, nd, rfl⟩
      have HA7 := Lib.hid (HA6.out.drewN nd)
      have HR57 := Lib.hid (HR56.out.drewN nd)
      have HB7 := Lib.hid (bdrew HB6.out nd)
      clear HA6 HR56 HR6
      go_wp2_with fail
      refine (dirty_any HA7.out).mono ?_
      rintro e w8 ⟨v8, rfl, hown8, hb8⟩
      have HR8 := Lib.hid (row_of_owns hown8).1
      have HR58 := Lib.hid (HR57.out.below hb8)
      have HB8 := Lib.hid (HB7.out.trans (hb8.mono HB7.out.size))
      clear hown8 hb8
      go_wp2_with fail
      refine (ints_eq (Nt.L s.dirty) v8 v5 w8 HR8.out HR58.out).mono ?_
      rintro e w' ⟨rfl, nd2, rfl⟩
      go_wp2_with fail
      go_ret
      exact ⟨rfl, bdrew HB8.out nd2⟩
set_option maxRecDepth 100000 in
set_option maxHeartbeats 2000000 in
theorem intentCovers_no (x : Int) (v : Value) (h : x < 1 ∨ 1 ≤ x ∧ 40 < x) (w : World) :
    Calls Try.prog 6 #[iv x, v] w fun e w' => e = .returned (.bool true) ∧ Below w.heap.size w w' := by
  have Hn := Lib.hid h
  rcases h with h | ⟨h, h'⟩
  all_goals
    go_enter Try.func6, Try.ntmps6
    go_wp2_with fail
    refine (intNew_any 10 (by omega) (by omega) _).mono ?_
    rintro e w1 ⟨b1, rfl, ⟨mb1, v1, D1, hA1, hIn1⟩, hb1⟩
    have HA1 := Lib.hid hA1
    have HB1 := Lib.hid hb1
    have HIn1 := Lib.hid hIn1
    have hz1 := hb1.size
    clear hA1 hb1 hIn1
    go_wp2_with fail
    refine (begin_yes HA1.out (F := fun k => w.heap.size ≤ k) (fun k hk => by omega) HIn1.out (Nat.zero_le _) (by omega) 25 (by omega)).mono ?_
    rintro e w2 ⟨rfl, ⟨mb2, v2, D2, hA2, hIn2⟩, hk2⟩
    have HA2 := Lib.hid hA2
    have HB2 := Lib.hid (HB1.out.trans (hk2.toBelow hz1 (fun k _ hk => hk)))
    have HIn2 := Lib.hid hIn2
    have hz2' := HB2.out.size
    clear hA2 hk2 hIn2 HA1 HIn1
    go_wp2_with fail
    refine (crash_any HA2.out (F := fun k => w.heap.size ≤ k) (fun k hk => by omega) HIn2.out (Nat.zero_le _)).mono ?_
    rintro e w3 ⟨v3, rfl, hown3, _, hk3⟩
    have hL1 : Nt.L (Nt.beg Nt.zero 10 25).dirty = [2] := Nt.L_one
    rw [hL1] at hown3
    obtain ⟨g3, cap3, rfl, _, hg3, _, _, hc3, _⟩ := owns_pos hown3 (by decide)
    have c3 : w3.cell? ⟨g3, 0, none⟩ = some (iv 2) := hc3 0 (by decide)
    have HB3 := Lib.hid (HB2.out.trans (hk3.toBelow hz2' (fun k _ hk => hk)))
    clear hown3 hk3 hc3 hL1 HA2 HIn2
    have l1 : ([2] : List Int).length = 1 := rfl
    rw [l1]
    go_wp2_with fail
    go_wp2_with fail
    refine (intNew_no x Hn.out _).mono ?_
    rintro e w' ⟨rfl, rfl⟩
    go_wp2_with fail
    go_ret
    exact ⟨rfl, HB3.out⟩
theorem intentCovers_walk (x : Int) (v : Value) (hx : (Lit.int .i64 x).wf = true) (w : World) (hv : ∃ xss, Rows2 w v xss) :
    Calls Try.prog 6 #[iv x, v] w fun e w' => e = .returned (.bool true) ∧ Below w.heap.size w w' := by
  obtain ⟨xss, hr⟩ := hv
  by_cases h : 1 ≤ x ∧ x ≤ 40
  · obtain ⟨m, rfl⟩ : ∃ m : Nat, x = m := ⟨x.toNat, by omega⟩
    exact intentCovers_core m (by omega) (by omega) v xss w hr
  · exact intentCovers_no x v (by omega) w
end Go.Proofs.Ytangcjffiooapaa
