/- The walk of the law ReservePlays: it returns true. -/
import Derived.Test.YtoddoekmgkcomaaDoorRPre
import Derived.Test.YtoddoekmgkcomaaDoorSame
import Derived.Test.YtoddoekmgkcomaaDoorInts
import Derived.Deep.DeepCutAuto
import Derived.Deep.CutBlock
import Derived.Deep.RegionHeld3
namespace Go.Proofs.YtoddoekmgkcomaaDoor
open Go.ChangeShapes Go.WideShapes Go.ChangeAt Go.RowKit
set_option linter.unusedVariables false
theorem zero_int4 (w : World) : (zeroValue 86).run Tryd.prog w = .ok (.agg #[iv 0, iv 0, iv 0, iv 0]) w := by kernel_rfl
def Step4Rel (w0 : World) (gq : Nat) (j : Value) (wr : World) : Prop :=
  ∃ (q : Nat) (x y z t : Int), q + gq = 4 ∧ j = iv q ∧ wr = w0.alloc (.cells #[iv x, iv y, iv z, iv t] 86)
theorem ResAt.kept {w w' : World} {b : Nat} {s : Res.St} {T : Nat → Prop} (h : ResAt w b s) (hk : Kept T w w') (hn : ¬ T b) : ResAt w' b s := ⟨h.len, hk.heap h.blk hn⟩
theorem RResAt.kept {w w' : World} {b : Nat} {s : Res.St} {T : Nat → Prop} (h : RResAt w b s) (hk : Kept T w w') (hn : ¬ T b) : RResAt w' b s := ⟨h.len, hk.heap h.blk hn⟩
def RPlaysRel (w : World) (b c N gk : Nat) (i : Value) (wr : World) : Prop :=
  ∃ (j : Nat) (s : Res.St), j + gk = N ∧ j ≤ 80 ∧ i = iv j ∧ ResAt wr b s ∧ RResAt wr c s ∧ Res.Inv s ∧ Below w.heap.size w wr
def keyL (s : Res.St) (k : Nat) : List Value := ((s.1.drop 1).take k).map iv
theorem keyL_succ {s : Res.St} (h : s.1.length = 10) {i : Nat} (hi : i < 9) : keyL s i ++ [iv (s.1.getD (i + 1) 0)] = keyL s (i + 1) := by
  unfold keyL
  have hl : i < (s.1.drop 1).length := by rw [List.length_drop, h]; omega
  rw [List.take_succ_eq_append_getElem hl, List.map_append, List.getD_eq_getElem?_getD, List.getElem?_eq_getElem (by omega : i + 1 < s.1.length)]
  simp [Nat.add_comm]
theorem keyL_all {s : Res.St} (h : s.1.length = 10) : keyL s 9 = (s.1.drop 1).map iv := by
  unfold keyL
  rw [List.take_of_length_le (by rw [List.length_drop, h]; omega)]
def RKeysRel (s : Res.St) (wb : World) (gk : Nat) (v i : Value) (wr : World) : Prop :=
  ∃ k : Nat, k + gk = 9 ∧ i = iv ((k : Int) + 1) ∧ wr.ownsRow wb.heap.size 3 1 v k (keyL s k) ∧ Below wb.heap.size wb wr
theorem may_tot {w : World} {b : Nat} {s : Res.St} (hR : ResAt w b s) (h : Int) (wr hb : Bool) (hh : hb = Res.hostB h) :
    Calls Tryd.prog 47 #[.pointer (some ⟨b, 0, none⟩), iv h, .bool wr] w (MayPost (hb && Res.may s h wr) (if hb = true then 0 else 1) w) := by
  cases hb with
  | true => exact may_yes hR h wr hh.symm
  | false => exact may_no hR h wr hh.symm
set_option maxRecDepth 100000 in
set_option maxHeartbeats 8000000 in
theorem reservePlays_core (v : Value) (xss : List (List Int)) (w : World) (hx : Rows2 w v xss) (hg : Handle w) :
    Calls Tryd.prog 7 #[v] w fun e w' => e = .returned (.bool true) ∧ Below w.heap.size w w' := by
  have hz4 := zero_int4
  have Hg := Lib.hid hg
  obtain ⟨us, hus, hlen, hrows⟩ := hx
  obtain ⟨po, co, rfl, hc1, hc2, hcells⟩ := hus.shape
  rw [hlen] at *
  have Hrows := Lib.hid hrows
  have Hcells := Lib.hid hcells
  unfold maxLen at hc2
  have hNN : xss.length ≤ 9223372036854775807 := by omega
  generalize hN : xss.length = N at *
  have HN := Lib.hid hN
  clear hus hrows hcells hN hg
  go_enter Tryd.func7, Tryd.ntmps7
  go_wp2_with fail
  refine (resNew_any _).mono ?_
  rintro e w1 ⟨rfl, hR, hb⟩
  have hlt1 := hR.lt
  have HR := Lib.hid hR
  have Hb := Lib.hid hb
  clear hR hb
  go_wp2_with fail
  go_loopg [5] N (fun gk i wr => RPlaysRel w w.heap.size w1.heap.size N gk i wr)
  case atStart => exact ⟨0, Res.zero, by omega, by omega, rfl, HR.out.below ((Below.refl _ _).alloc (Nat.le_refl _) _), ⟨rfl, heap_alloc_new _ _⟩, Res.Inv.zero, Hb.out.alloc Hb.out.size _⟩
  case round =>
    obtain ⟨wO, hwO⟩ : ∃ x : World, x = wr := ⟨_, rfl⟩
    obtain ⟨gO, hgO⟩ : ∃ x : Nat, x = gk := ⟨_, rfl⟩
    subst hwO hgO
    obtain ⟨j, s, hj, hj80, rfl, hR, hM, hI, hB⟩ := hrel
    clear HR Hb
    have hltM := hM.lt
    have HI := Lib.hid hI
    have HR := Lib.hid hR
    have HM := Lib.hid hM
    have HWB := Lib.hid hB
    clear hI hR hB hM
    have Hj := Lib.hid hj
    by_cases hlt : j < N
    · by_cases hlt80 : j < 80
      · have b80 : decide ((j : Int) < 80) = true := dec_t (by omega)
        obtain ⟨go, oo, hpo, hco⟩ := Hcells.out (by omega)
        obtain ⟨xs, hxs⟩ : ∃ xs, xss[j]? = some xs := ⟨xss[j]'(by rw [HN.out]; exact hlt), List.getElem?_eq_getElem _⟩
        obtain ⟨u, hu, hru, hwf⟩ := Hrows.out j xs hxs
        have hcu := hco j hlt
        rw [hu] at hcu
        obtain ⟨pi, ci, hu2, hi1, hi2, hi3⟩ := hru.shape
        rw [List.length_map] at hu2 hi1 hi3
        rw [hu2] at hcu
        have hlow : go < w.heap.size := World.block_lt_of_cell? w _ hcu
        have fcu : ∀ x y z t : Int, (wO.alloc (.cells #[iv x, iv y, iv z, iv t] 86)).cell? ⟨go, oo + j, none⟩ = some (.slice pi xs.length ci) := by
          intro x y z t
          have h := ((HWB.out.alloc HWB.out.size (.cells #[iv x, iv y, iv z, iv t] 86)).cell (p := ⟨go, oo + j, none⟩) hlow)
          exact h.trans hcu
        have hi2' : xs.length ≤ 9223372036854775807 := by unfold maxLen at hi2; omega
        have Hi3 := Lib.hid hi3
        rw [hpo]
        have Hpo := Lib.hid hpo
        clear hj hco hxs hu hru hwf hcu hu2 hi3 hpo
        go_upto_block 2 with (fail)
        go_cut [7] (fun _ wq => ∃ x y z t : Int, wq = wO.alloc (.cells #[iv x, iv y, iv z, iv t] 86))
        case first => as_aux_lemma =>
          go_wp2_with fail
          go_loopg [7] 4 (fun gq q wq => Step4Rel wO gq q wq)
          case atStart => exact ⟨0, 0, 0, 0, 0, rfl, rfl, rfl⟩
          case round =>
            obtain ⟨q, x, y, z, t, hq, rfl, rfl⟩ := hrel
            have f1 := fcu x y z t
            by_cases hq0 : q < xs.length
            · obtain ⟨gi, oi, rfl, hci⟩ := Hi3.out (by omega)
              obtain ⟨u, hz⟩ : ∃ z, xs[q]? = some z := ⟨xs[q], List.getElem?_eq_getElem hq0⟩
              have hcz := hci q hq0
              rw [List.getElem?_map, hz] at hcz
              have hlz : gi < w.heap.size := World.block_lt_of_cell? w _ hcz
              have f2 : (wO.alloc (.cells #[iv x, iv y, iv z, iv t] 86)).cell? ⟨gi, oi + q, none⟩ = some (iv u) :=
                ((HWB.out.alloc HWB.out.size (.cells #[iv x, iv y, iv z, iv t] 86)).cell (p := ⟨gi, oi + q, none⟩) hlz).trans hcz
              clear hci hz hcz fcu
              have hq3 : q = 0 ∨ q = 1 ∨ q = 2 ∨ q = 3 ∨ q = 4 := by omega
              rcases hq3 with rfl | rfl | rfl | rfl | rfl
              · rw [Nat.add_zero] at f2
                go_wp2_with fail
                go_roundg 3
                case measure => omega
                case rel => exact ⟨1, u, y, z, t, rfl, rfl, rfl⟩
              · go_wp2_with fail
                go_roundg 2
                case measure => omega
                case rel => exact ⟨2, x, u, z, t, rfl, rfl, rfl⟩
              · go_wp2_with fail
                go_roundg 1
                case measure => omega
                case rel => exact ⟨3, x, y, u, t, rfl, rfl, rfl⟩
              · go_wp2_with fail
                go_roundg 0
                case measure => omega
                case rel => exact ⟨4, x, y, z, u, rfl, rfl, rfl⟩
              · go_wp2_with fail
                go_meet
                exact ⟨x, y, z, t, rfl⟩
            · clear fcu
              go_wp2_with fail
              go_meet
              exact ⟨x, y, z, t, rfl⟩
        case rest =>
          obtain ⟨x, y, z, t, rfl⟩ := hcut
          clear fcu
          have HRa := Lib.hid (HR.out.below ((Below.refl wO.heap.size wO).alloc (Nat.le_refl _) (.cells #[iv x, iv y, iv z, iv t] 86)))
          have HMa := Lib.hid (HM.out.below ((Below.refl wO.heap.size wO).alloc (Nat.le_refl _) (.cells #[iv x, iv y, iv z, iv t] 86)))
          have HBa := Lib.hid (HWB.out.alloc HWB.out.size (.cells #[iv x, iv y, iv z, iv t] 86))
          have hsz := HWB.out.size
          obtain ⟨D, hD⟩ : ∃ D : Nat, D = wO.heap.size := ⟨_, rfl⟩
          obtain ⟨wA, hwA⟩ : ∃ W : World, W = wO.alloc (.cells #[iv x, iv y, iv z, iv t] 86) := ⟨_, rfl⟩
          have c0 : wA.cell? ⟨D, 0, none⟩ = some (iv x) := by rw [hwA, hD]; simp
          have c1 : wA.cell? ⟨D, 1, none⟩ = some (iv y) := by rw [hwA, hD]; simp
          have c2 : wA.cell? ⟨D, 2, none⟩ = some (iv z) := by rw [hwA, hD]; simp
          have c3 : wA.cell? ⟨D, 3, none⟩ = some (iv t) := by rw [hwA, hD]; simp
          rw [← hwA] at HRa HMa HBa ⊢
          rw [← hD] at hltM hsz ⊢
          have hne : w.heap.size ≠ w1.heap.size := by omega
          clear hwA hD HR HM HWB
          go_upto_block 4 with (fail)
          go_cut [8] (fun told wq => told = .bool true ∧ ∃ wk s', wk = wq ∧ ResAt wk w.heap.size s' ∧ RResAt wk w1.heap.size s' ∧ Res.Inv s' ∧ Below w.heap.size w wk ∧ wk.cell? ⟨D, 1, none⟩ = some (iv y))
          case first => as_aux_lemma =>
            have hsw : x = 0 ∨ x = 1 ∨ x = 2 ∨ x = 3 ∨ x = 4 ∨ x = 5 ∨ (x ≠ 0 ∧ x ≠ 1 ∧ x ≠ 2 ∧ x ≠ 3 ∧ x ≠ 4 ∧ x ≠ 5) := by omega
            rcases hsw with h | h | h | h | h | h | ⟨h1, h2, h3, h4, h5, h6⟩
            · subst h
              go_wp2_with fail
              go_region_held3 (fun w' => w'.cell? ⟨D, 1, none⟩ = some (iv y) ∧ w'.cell? ⟨D, 2, none⟩ = some (iv z) ∧ w'.cell? ⟨D, 3, none⟩ = some (iv t))
                (first
                  | exact ⟨c1, c2, c3⟩
                  | exact ⟨c1p, c2p, c3p⟩
                  | exact ⟨c1q, c2q, c3q⟩
                  | exact ⟨c1e, c2e, c3e⟩
                  | go_keep)
                (first
                  | (go_at_call 36; refine (register_any (HRa.out.drewN _) y z).mono ?_; rintro e wP ⟨rfl, h1, hk⟩; have c1p := hk.cell (w := wA.drewN _) (v := iv y) (b := D) (o := 1) c1 (by omega); have c2p := hk.cell (w := wA.drewN _) (v := iv z) (b := D) (o := 2) c2 (by omega); have c3p := hk.cell (w := wA.drewN _) (v := iv t) (b := D) (o := 3) c3 (by omega); have HRp := Lib.hid h1; have HMp := Lib.hid ((HMa.out.drewN _).kept hk (by omega)); have HBp := Lib.hid ((bdrew HBa.out _).trans (hk.toBelow HBa.out.size (fun _ _ h => by omega))); clear h1 hk)
                  | (go_at_call 37; refine (rregister_any HMp.out y z).mono ?_; rintro e wQ ⟨rfl, h1, hk⟩; have c1q := hk.cell c1p (by omega); have c2q := hk.cell c2p (by omega); have c3q := hk.cell c3p (by omega); have HMq := Lib.hid h1; have HRq := Lib.hid (HRp.out.kept hk (by omega)); have HBq := Lib.hid (HBp.out.trans (hk.toBelow HBp.out.size (fun _ _ h => by omega))); have hgq := Lib.hid (Hg.out.below (Nat.le_refl _) HBq.out); have hDq := World.block_lt_of_cell? wQ _ c1q; clear h1 hk)
                  | (go_at_call 11; refine (same_eq _ _ hgq.out).mono ?_; rintro e wE ⟨rfl, hb⟩; have c1e := hb.cell (p := ⟨D, 1, none⟩) hDq |>.trans c1q; have c2e := hb.cell (p := ⟨D, 2, none⟩) hDq |>.trans c2q; have c3e := hb.cell (p := ⟨D, 3, none⟩) hDq |>.trans c3q; have HMe := Lib.hid (HMq.out.below hb); have HRe := Lib.hid (HRq.out.below hb); have HBe := Lib.hid (HBq.out.trans (hb.mono HBq.out.size)); clear hb))
              go_wp2_with fail
              go_meet
              exact ⟨rfl, _, _, rfl, HRe.out, HMe.out, HI.out.register y z, HBe.out, c1e⟩
            · subst h
              go_wp2_with fail
              go_region_held3 (fun w' => w'.cell? ⟨D, 1, none⟩ = some (iv y) ∧ w'.cell? ⟨D, 2, none⟩ = some (iv z) ∧ w'.cell? ⟨D, 3, none⟩ = some (iv t))
                (first
                  | exact ⟨c1, c2, c3⟩
                  | exact ⟨c1p, c2p, c3p⟩
                  | exact ⟨c1q, c2q, c3q⟩
                  | exact ⟨c1e, c2e, c3e⟩
                  | go_keep)
                (first
                  | (go_at_call 36; refine (register_any (HRa.out.drewN _) y z).mono ?_; rintro e wP ⟨rfl, h1, hk⟩; have c1p := hk.cell (w := wA.drewN _) (v := iv y) (b := D) (o := 1) c1 (by omega); have c2p := hk.cell (w := wA.drewN _) (v := iv z) (b := D) (o := 2) c2 (by omega); have c3p := hk.cell (w := wA.drewN _) (v := iv t) (b := D) (o := 3) c3 (by omega); have HRp := Lib.hid h1; have HMp := Lib.hid ((HMa.out.drewN _).kept hk (by omega)); have HBp := Lib.hid ((bdrew HBa.out _).trans (hk.toBelow HBa.out.size (fun _ _ h => by omega))); clear h1 hk)
                  | (go_at_call 37; refine (rregister_any HMp.out y z).mono ?_; rintro e wQ ⟨rfl, h1, hk⟩; have c1q := hk.cell c1p (by omega); have c2q := hk.cell c2p (by omega); have c3q := hk.cell c3p (by omega); have HMq := Lib.hid h1; have HRq := Lib.hid (HRp.out.kept hk (by omega)); have HBq := Lib.hid (HBp.out.trans (hk.toBelow HBp.out.size (fun _ _ h => by omega))); have hgq := Lib.hid (Hg.out.below (Nat.le_refl _) HBq.out); have hDq := World.block_lt_of_cell? wQ _ c1q; clear h1 hk)
                  | (go_at_call 11; refine (same_eq _ _ hgq.out).mono ?_; rintro e wE ⟨rfl, hb⟩; have c1e := hb.cell (p := ⟨D, 1, none⟩) hDq |>.trans c1q; have c2e := hb.cell (p := ⟨D, 2, none⟩) hDq |>.trans c2q; have c3e := hb.cell (p := ⟨D, 3, none⟩) hDq |>.trans c3q; have HMe := Lib.hid (HMq.out.below hb); have HRe := Lib.hid (HRq.out.below hb); have HBe := Lib.hid (HBq.out.trans (hb.mono HBq.out.size)); clear hb))
              go_wp2_with fail
              go_meet
              exact ⟨rfl, _, _, rfl, HRe.out, HMe.out, HI.out.register y z, HBe.out, c1e⟩
            · subst h
              go_wp2_with fail
              go_region_held3 (fun w' => w'.cell? ⟨D, 1, none⟩ = some (iv y) ∧ w'.cell? ⟨D, 2, none⟩ = some (iv z) ∧ w'.cell? ⟨D, 3, none⟩ = some (iv t))
                (first
                  | exact ⟨c1, c2, c3⟩
                  | exact ⟨c1p, c2p, c3p⟩
                  | exact ⟨c1q, c2q, c3q⟩
                  | exact ⟨c1e, c2e, c3e⟩
                  | go_keep)
                (first
                  | (go_at_call 38; refine (leave_any (HRa.out.drewN _) y).mono ?_; rintro e wP ⟨rfl, h1, hk⟩; have c1p := hk.cell (w := wA.drewN _) (v := iv y) (b := D) (o := 1) c1 (by omega); have c2p := hk.cell (w := wA.drewN _) (v := iv z) (b := D) (o := 2) c2 (by omega); have c3p := hk.cell (w := wA.drewN _) (v := iv t) (b := D) (o := 3) c3 (by omega); have HRp := Lib.hid h1; have HMp := Lib.hid ((HMa.out.drewN _).kept hk (by omega)); have HBp := Lib.hid ((bdrew HBa.out _).trans (hk.toBelow HBa.out.size (fun _ _ h => by omega))); clear h1 hk)
                  | (go_at_call 39; refine (rrleave_any HMp.out y).mono ?_; rintro e wQ ⟨rfl, h1, hk⟩; have c1q := hk.cell c1p (by omega); have c2q := hk.cell c2p (by omega); have c3q := hk.cell c3p (by omega); have HMq := Lib.hid h1; have HRq := Lib.hid (HRp.out.kept hk (by omega)); have HBq := Lib.hid (HBp.out.trans (hk.toBelow HBp.out.size (fun _ _ h => by omega))); have hgq := Lib.hid (Hg.out.below (Nat.le_refl _) HBq.out); have hDq := World.block_lt_of_cell? wQ _ c1q; clear h1 hk)
                  | (go_at_call 11; refine (same_eq _ _ hgq.out).mono ?_; rintro e wE ⟨rfl, hb⟩; have c1e := hb.cell (p := ⟨D, 1, none⟩) hDq |>.trans c1q; have c2e := hb.cell (p := ⟨D, 2, none⟩) hDq |>.trans c2q; have c3e := hb.cell (p := ⟨D, 3, none⟩) hDq |>.trans c3q; have HMe := Lib.hid (HMq.out.below hb); have HRe := Lib.hid (HRq.out.below hb); have HBe := Lib.hid (HBq.out.trans (hb.mono HBq.out.size)); clear hb))
              go_wp2_with fail
              go_meet
              exact ⟨rfl, _, _, rfl, HRe.out, HMe.out, HI.out.leave y, HBe.out, c1e⟩
            · subst h
              go_wp2_with fail
              go_region_held3 (fun w' => w'.cell? ⟨D, 1, none⟩ = some (iv y) ∧ w'.cell? ⟨D, 2, none⟩ = some (iv z) ∧ w'.cell? ⟨D, 3, none⟩ = some (iv t))
                (first
                  | exact ⟨c1, c2, c3⟩
                  | exact ⟨c1p, c2p, c3p⟩
                  | exact ⟨c1q, c2q, c3q⟩
                  | exact ⟨c1e, c2e, c3e⟩
                  | go_keep)
                (first
                  | (go_at_call 40; refine (hold_any (HRa.out.drewN _) y z t).mono ?_; rintro e wP ⟨rfl, h1, hk⟩; have c1p := hk.cell (w := wA.drewN _) (v := iv y) (b := D) (o := 1) c1 (by omega); have c2p := hk.cell (w := wA.drewN _) (v := iv z) (b := D) (o := 2) c2 (by omega); have c3p := hk.cell (w := wA.drewN _) (v := iv t) (b := D) (o := 3) c3 (by omega); have HRp := Lib.hid h1; have HMp := Lib.hid ((HMa.out.drewN _).kept hk (by omega)); have HBp := Lib.hid ((bdrew HBa.out _).trans (hk.toBelow HBa.out.size (fun _ _ h => by omega))); clear h1 hk)
                  | (go_at_call 41; refine (rhold_any HMp.out y z t).mono ?_; rintro e wQ ⟨rfl, h1, hk⟩; have c1q := hk.cell c1p (by omega); have c2q := hk.cell c2p (by omega); have c3q := hk.cell c3p (by omega); have HMq := Lib.hid h1; have HRq := Lib.hid (HRp.out.kept hk (by omega)); have HBq := Lib.hid (HBp.out.trans (hk.toBelow HBp.out.size (fun _ _ h => by omega))); have hgq := Lib.hid (Hg.out.below (Nat.le_refl _) HBq.out); have hDq := World.block_lt_of_cell? wQ _ c1q; clear h1 hk)
                  | (go_at_call 11; refine (same_eq _ _ hgq.out).mono ?_; rintro e wE ⟨rfl, hb⟩; have c1e := hb.cell (p := ⟨D, 1, none⟩) hDq |>.trans c1q; have c2e := hb.cell (p := ⟨D, 2, none⟩) hDq |>.trans c2q; have c3e := hb.cell (p := ⟨D, 3, none⟩) hDq |>.trans c3q; have HMe := Lib.hid (HMq.out.below hb); have HRe := Lib.hid (HRq.out.below hb); have HBe := Lib.hid (HBq.out.trans (hb.mono HBq.out.size)); clear hb))
              go_wp2_with fail
              go_meet
              exact ⟨rfl, _, _, rfl, HRe.out, HMe.out, HI.out.hold y z t, HBe.out, c1e⟩
            · subst h
              go_wp2_with fail
              go_region_held3 (fun w' => w'.cell? ⟨D, 1, none⟩ = some (iv y) ∧ w'.cell? ⟨D, 2, none⟩ = some (iv z) ∧ w'.cell? ⟨D, 3, none⟩ = some (iv t))
                (first
                  | exact ⟨c1, c2, c3⟩
                  | exact ⟨c1p, c2p, c3p⟩
                  | exact ⟨c1q, c2q, c3q⟩
                  | exact ⟨c1e, c2e, c3e⟩
                  | go_keep)
                (first
                  | (go_at_call 40; refine (hold_any (HRa.out.drewN _) y z t).mono ?_; rintro e wP ⟨rfl, h1, hk⟩; have c1p := hk.cell (w := wA.drewN _) (v := iv y) (b := D) (o := 1) c1 (by omega); have c2p := hk.cell (w := wA.drewN _) (v := iv z) (b := D) (o := 2) c2 (by omega); have c3p := hk.cell (w := wA.drewN _) (v := iv t) (b := D) (o := 3) c3 (by omega); have HRp := Lib.hid h1; have HMp := Lib.hid ((HMa.out.drewN _).kept hk (by omega)); have HBp := Lib.hid ((bdrew HBa.out _).trans (hk.toBelow HBa.out.size (fun _ _ h => by omega))); clear h1 hk)
                  | (go_at_call 41; refine (rhold_any HMp.out y z t).mono ?_; rintro e wQ ⟨rfl, h1, hk⟩; have c1q := hk.cell c1p (by omega); have c2q := hk.cell c2p (by omega); have c3q := hk.cell c3p (by omega); have HMq := Lib.hid h1; have HRq := Lib.hid (HRp.out.kept hk (by omega)); have HBq := Lib.hid (HBp.out.trans (hk.toBelow HBp.out.size (fun _ _ h => by omega))); have hgq := Lib.hid (Hg.out.below (Nat.le_refl _) HBq.out); have hDq := World.block_lt_of_cell? wQ _ c1q; clear h1 hk)
                  | (go_at_call 11; refine (same_eq _ _ hgq.out).mono ?_; rintro e wE ⟨rfl, hb⟩; have c1e := hb.cell (p := ⟨D, 1, none⟩) hDq |>.trans c1q; have c2e := hb.cell (p := ⟨D, 2, none⟩) hDq |>.trans c2q; have c3e := hb.cell (p := ⟨D, 3, none⟩) hDq |>.trans c3q; have HMe := Lib.hid (HMq.out.below hb); have HRe := Lib.hid (HRq.out.below hb); have HBe := Lib.hid (HBq.out.trans (hb.mono HBq.out.size)); clear hb))
              go_wp2_with fail
              go_meet
              exact ⟨rfl, _, _, rfl, HRe.out, HMe.out, HI.out.hold y z t, HBe.out, c1e⟩
            · subst h
              go_wp2_with fail
              go_region_held3 (fun w' => w'.cell? ⟨D, 1, none⟩ = some (iv y) ∧ w'.cell? ⟨D, 2, none⟩ = some (iv z) ∧ w'.cell? ⟨D, 3, none⟩ = some (iv t))
                (first
                  | exact ⟨c1, c2, c3⟩
                  | exact ⟨c1p, c2p, c3p⟩
                  | exact ⟨c1q, c2q, c3q⟩
                  | exact ⟨c1e, c2e, c3e⟩
                  | go_keep)
                (first
                  | (go_at_call 42; refine (rfree_any (HRa.out.drewN _) y z t).mono ?_; rintro e wP ⟨rfl, h1, hk⟩; have c1p := hk.cell (w := wA.drewN _) (v := iv y) (b := D) (o := 1) c1 (by omega); have c2p := hk.cell (w := wA.drewN _) (v := iv z) (b := D) (o := 2) c2 (by omega); have c3p := hk.cell (w := wA.drewN _) (v := iv t) (b := D) (o := 3) c3 (by omega); have HRp := Lib.hid h1; have HMp := Lib.hid ((HMa.out.drewN _).kept hk (by omega)); have HBp := Lib.hid ((bdrew HBa.out _).trans (hk.toBelow HBa.out.size (fun _ _ h => by omega))); clear h1 hk)
                  | (go_at_call 43; refine (rrfree_any HMp.out y z t).mono ?_; rintro e wQ ⟨rfl, h1, hk⟩; have c1q := hk.cell c1p (by omega); have c2q := hk.cell c2p (by omega); have c3q := hk.cell c3p (by omega); have HMq := Lib.hid h1; have HRq := Lib.hid (HRp.out.kept hk (by omega)); have HBq := Lib.hid (HBp.out.trans (hk.toBelow HBp.out.size (fun _ _ h => by omega))); have hgq := Lib.hid (Hg.out.below (Nat.le_refl _) HBq.out); have hDq := World.block_lt_of_cell? wQ _ c1q; clear h1 hk)
                  | (go_at_call 11; refine (same_eq _ _ hgq.out).mono ?_; rintro e wE ⟨rfl, hb⟩; have c1e := hb.cell (p := ⟨D, 1, none⟩) hDq |>.trans c1q; have c2e := hb.cell (p := ⟨D, 2, none⟩) hDq |>.trans c2q; have c3e := hb.cell (p := ⟨D, 3, none⟩) hDq |>.trans c3q; have HMe := Lib.hid (HMq.out.below hb); have HRe := Lib.hid (HRq.out.below hb); have HBe := Lib.hid (HBq.out.trans (hb.mono HBq.out.size)); clear hb))
              go_wp2_with fail
              go_meet
              exact ⟨rfl, _, _, rfl, HRe.out, HMe.out, HI.out.free y z t, HBe.out, c1e⟩
            · have t0 := beq_f h1
              have t1 := beq_f h2
              have t2 := beq_f h3
              have t3 := beq_f h4
              have t4 := beq_f h5
              have t5 := beq_f h6
              clear h1 h2 h3 h4 h5 h6
              go_wp2_with fail
              refine (rpreempt_any HMa.out HI.out y z t).mono ?_
              rintro e wP ⟨rfl, h1, hk⟩
              have c1p := hk.cell c1 (by omega)
              have c2p := hk.cell c2 (by omega)
              have c3p := hk.cell c3 (by omega)
              have HMp := Lib.hid h1
              have HRp := Lib.hid (HRa.out.kept hk (by omega))
              have HBp := Lib.hid (HBa.out.trans (hk.toBelow HBa.out.size (fun _ _ h => by omega)))
              clear h1 hk
              go_wp2_with fail
              refine (preempt_any HRp.out y z t).mono ?_
              rintro e wQ ⟨rfl, h1, hk⟩
              have c1q := hk.cell c1p (by omega)
              have HRq := Lib.hid h1
              have HMq := Lib.hid (HMp.out.kept hk (by omega))
              have HBq := Lib.hid (HBp.out.trans (hk.toBelow HBp.out.size (fun _ _ h => by omega)))
              have hgq := Lib.hid (Hg.out.below (Nat.le_refl _) HBq.out)
              have hDq := World.block_lt_of_cell? wQ _ c1q
              clear h1 hk
              go_wp2_with fail
              refine (same_eq _ _ hgq.out).mono ?_
              rintro e wE ⟨rfl, hb⟩
              have c1e := hb.cell (p := ⟨D, 1, none⟩) hDq |>.trans c1q
              have HMe := Lib.hid (HMq.out.below hb)
              have HRe := Lib.hid (HRq.out.below hb)
              have HBe := Lib.hid (HBq.out.trans (hb.mono HBq.out.size))
              clear hb
              have hnn : ((Res.preempt s y z t).1.1 == (Res.preempt s y z t).1.1) = true := beq_t rfl
              go_wp2_with fail
              go_meet
              exact ⟨rfl, _, _, rfl, HRe.out, HMe.out, HI.out.preempt y z t, HBe.out, c1e⟩
          case rest =>
            clear HRa HMa HBa HI c0 c1 c2 c3
            obtain ⟨rfl, wk, s', rfl, hR', hM', hI', hB', c1⟩ := hcut
            have HR := Lib.hid hR'
            have HM := Lib.hid hM'
            have HI := Lib.hid hI'
            have HB := Lib.hid hB'
            have hDk := World.block_lt_of_cell? wk _ c1
            clear hR' hM' hI' hB'
            obtain ⟨hb, hhb⟩ : ∃ b : Bool, b = Res.hostB y := ⟨_, rfl⟩
            have Hhb := Lib.hid hhb
            clear hhb
            go_upto_region 29 with (fail)
            go_cut [163] (fun s wq => s = .bool hb ∧ wk = wq)
            case first => as_aux_lemma =>
              have Hf := Lib.hid (show hb = (decide (1 ≤ y) && decide (y ≤ 9)) by rw [Hhb.out]; simp [Res.hostB])
              by_cases c : 1 ≤ y
              · have e1 := dec_t c
                have HF := Lib.hid (show hb = decide (y ≤ 9) by rw [Hf.out, e1]; rfl)
                go_wp2_with fail
                go_meet
                exact ⟨by rw [HF.out], rfl⟩
              · have e1 := dec_f c
                have HF := Lib.hid (show hb = false by rw [Hf.out, e1]; rfl)
                go_wp2_with fail
                go_meet
                exact ⟨by rw [HF.out], rfl⟩
            case rest =>
              obtain ⟨rfl, rfl⟩ := hcut
              go_upto_if 163 with (fail)
              go_cut [13, 14, 15] (fun e x1 x2 wq => e = iv (if hb then 0 else 1) ∧ x1 = .bool (hb && Res.may s' y false) ∧ x2 = .bool (hb && Res.may s' y true) ∧ wk = wq)
              case first => as_aux_lemma =>
                cases hb with
                | true =>
                  go_wp2_with fail
                  refine (rmay_any HM.out y false Hhb.out.symm).mono ?_
                  rintro e w' ⟨rfl, rfl⟩
                  go_wp2_with fail
                  refine (rmay_any HM.out y true Hhb.out.symm).mono ?_
                  rintro e w' ⟨rfl, rfl⟩
                  go_wp2_with fail
                  go_meet
                  have hv1 := ‹Ending.returned (Value.bool (Res.may s' y false)) = Ending.returned _›
                  have hv2 := ‹Ending.returned (Value.bool (Res.may s' y true)) = Ending.returned _›
                  injection hv1 with hv1
                  injection hv2 with hv2
                  exact ⟨rfl, hv1.symm, hv2.symm, rfl⟩
                | false =>
                  go_wp2_with fail
                  go_meet
                  exact ⟨rfl, rfl, rfl, rfl⟩
              case rest =>
                obtain ⟨rfl, rfl, rfl, rfl⟩ := hcut
                generalize hE : (if hb = true then (0 : Int) else 1) = E at *
                generalize hA1 : (hb && Res.may s' y false) = A1 at *
                generalize hA2 : (hb && Res.may s' y true) = A2 at *
                have Hm1 : Hid (∀ w' : World, ResAt w' w.heap.size s' → Calls Tryd.prog 47 #[.pointer (some ⟨w.heap.size, 0, none⟩), iv y, .bool false] w' (MayPost A1 E w')) := Lib.hid (fun w' h => by rw [← hA1, ← hE]; exact may_tot h y false hb Hhb.out)
                have Hm2 : Hid (∀ w' : World, ResAt w' w.heap.size s' → Calls Tryd.prog 47 #[.pointer (some ⟨w.heap.size, 0, none⟩), iv y, .bool true] w' (MayPost A2 E w')) := Lib.hid (fun w' h => by rw [← hA2, ← hE]; exact may_tot h y true hb Hhb.out)
                clear hE hA1 hA2 Hhb
                have t1 : (A1 == A1) = true := by cases A1 <;> rfl
                have t2 : (A2 == A2) = true := by cases A2 <;> rfl
                go_wp2_with fail
                refine (Hm1.out _ HR.out).mono ?_
                rintro e w' ⟨rfl, nd, rfl⟩
                have hgq := Lib.hid (Hg.out.below (Nat.le_refl _) (bdrew HB.out nd))
                go_wp2_with fail
                refine (same_eq _ _ hgq.out).mono ?_
                rintro e wE ⟨rfl, hb⟩
                have c1e := hb.cell (p := ⟨D, 1, none⟩) hDk |>.trans c1
                have hDe := World.block_lt_of_cell? wE _ c1e
                have HMe := Lib.hid ((HM.out.drewN nd).below hb)
                have HRe := Lib.hid ((HR.out.drewN nd).below hb)
                have HBe := Lib.hid ((bdrew HB.out nd).trans (hb.mono (bdrew HB.out nd).size))
                clear hb HR HM HB hgq c1
                go_wp2_with fail
                refine (Hm2.out _ HRe.out).mono ?_
                rintro e w' ⟨rfl, nd2, rfl⟩
                have hgq := Lib.hid (Hg.out.below (Nat.le_refl _) (bdrew HBe.out nd2))
                go_wp2_with fail
                refine (same_eq _ _ hgq.out).mono ?_
                rintro e wF ⟨rfl, hb⟩
                have HMf := Lib.hid ((HMe.out.drewN nd2).below hb)
                have HRf := Lib.hid ((HRe.out.drewN nd2).below hb)
                have HBf := Lib.hid ((bdrew HBe.out nd2).trans (hb.mono (bdrew HBe.out nd2).size))
                clear hb HRe HMe HBe hgq c1e
                go_wp2_with fail
                go_loopg [21, 22] 9 (fun gq v i wq => RKeysRel s' wF gq v i wq)
                case atStart => exact ⟨0, by omega, rfl, World.ownsRow_nil _ _ _ _, Below.refl _ _⟩
                case round =>
                  obtain ⟨wG, hwG⟩ : ∃ x : World, x = wr := ⟨_, rfl⟩
                  subst hwG
                  obtain ⟨i, hi, rfl, hown, hb⟩ := hrel
                  have hbz := hb.size
                  have Hi := Lib.hid hi
                  have Hown := Lib.hid hown
                  have Hb := Lib.hid hb
                  clear hi hown hb
                  by_cases hlt9 : i < 9
                  · as_aux_lemma =>
                    have ci := (HMf.out.below Hb.out).key (j := i + 1) (by omega)
                    have hsucc := keyL_succ HI.out.len hlt9
                    have Hsucc := Lib.hid hsucc
                    clear hsucc
                    generalize s'.1.getD (i + 1) 0 = z at *
                    go_wp2_with (at_builtin; refine app1 wF _ _ 3 40 rfl _ _ rfl wF.heap.size Tryd.underlying40 info_int rfl _ _ _ rfl _ rfl rfl Hown.out rfl ?c1 ?c2 hbz Hb.out ?_)
                    case c1 => omega
                    try case c2 => omega
                    intro v' w1' hown1 hb1 _ _
                    rw [Hsucc.out] at hown1
                    have Hown1 := Lib.hid hown1
                    have Hb1 := Lib.hid hb1
                    clear hown1 hb1
                    go_wp2_with fail
                    go_roundg (gk - 1)
                    case measure => have := Hi.out; omega
                    case rel => exact ⟨i + 1, by have := Hi.out; omega, by go_num, Hown1.out, Hb1.out⟩
                  · as_aux_lemma =>
                    have hi9 : i = 9 := by have := Hi.out; omega
                    subst hi9
                    have hrow := (row_of_owns Hown.out).1
                    have HlK := Lib.hid HI.out.len
                    rw [keyL_all HlK.out] at hrow
                    have rowB := Lib.hid hrow
                    have HMg := Lib.hid (HMf.out.below Hb.out)
                    have HRg := Lib.hid (HRf.out.below Hb.out)
                    have HBg := Lib.hid (HBf.out.trans (Hb.out.mono HBf.out.size))
                    have hMl := HMg.out.lt
                    clear hrow HMf HRf HBf Hown Hb hbz Hi t1 t2 Hm1 Hm2
                    go_upto_region 42 with (fail)
                    go_cut [240] (fun s wq => s = .bool false ∧ Below wG.heap.size wG wq)
                    case first => as_aux_lemma =>
                      have d10 := HMg.out.h
                      have d11 := HMg.out.k
                      have u1 : (s'.2.1 == s'.2.1) = true := beq_t rfl
                      have u2 : (s'.2.2 == s'.2.2) = true := beq_t rfl
                      go_region_held3 (fun w' => w'.cell? ⟨w1.heap.size, 10, none⟩ = some (iv s'.2.1) ∧ w'.cell? ⟨w1.heap.size, 11, none⟩ = some (iv s'.2.2))
                        (first
                          | exact ⟨d10, d11⟩
                          | exact ⟨d10k, d11k⟩
                          | exact ⟨d10h, d11h⟩
                          | go_keep)
                        (first
                          | (go_at_call 48; refine (keys_any (HRg.out.drewN _)).mono ?_; rintro e wK ⟨v2, rfl, hown2, hb2⟩; have HRk := Lib.hid ((HRg.out.drewN _).below hb2); have HBk := Lib.hid ((bdrew (Below.refl wG.heap.size wG) _).trans hb2); have rowA := Lib.hid (row_of_owns hown2).1; have rowBk := Lib.hid (rowB.out.below HBk.out); have d10k := HBk.out.cell (p := ⟨w1.heap.size, 10, none⟩) hMl |>.trans d10; have d11k := HBk.out.cell (p := ⟨w1.heap.size, 11, none⟩) hMl |>.trans d11; clear hown2 hb2)
                          | (go_at_call 21; with_reducible refine (ints_eq (s'.1.drop 1) _ _ _ rowA.out rowBk.out).mono ?_; rintro e wI ⟨rfl, nd, rfl⟩)
                          | (go_at_call 49; refine (holder_any (HRk.out.drewN nd)).mono ?_; rintro e wH ⟨rfl, hb3⟩; have HBh := Lib.hid ((bdrew HBk.out nd).trans (hb3.mono (bdrew HBk.out nd).size)); have d10h := HBh.out.cell (p := ⟨w1.heap.size, 10, none⟩) hMl |>.trans d10; have d11h := HBh.out.cell (p := ⟨w1.heap.size, 11, none⟩) hMl |>.trans d11; clear hb3))
                      go_wp2_with fail
                      go_meet
                      exact ⟨rfl, HBh.out⟩
                    case rest =>
                      obtain ⟨rfl, hb⟩ := hcut
                      have HM3 := Lib.hid (HMg.out.below hb)
                      have HR3 := Lib.hid (HRg.out.below hb)
                      have HB3 := Lib.hid (HBg.out.trans (hb.mono HBg.out.size))
                      clear hb HMg HRg HBg
                      go_wp2_with fail
                      rw [show (some ({ block := go, off := oo, spot := none } : Addr)) = po from Hpo.out.symm]
                      go_roundg (gO - 1)
                      case measure => have := Hj.out; omega
                      case rel => exact ⟨j + 1, s', by have := Hj.out; omega, by omega, by go_num, HR3.out, HM3.out, HI.out, HB3.out⟩
      · go_wp2_with fail
        go_ret
        exact ⟨rfl, HWB.out⟩
    · go_wp2_with fail
      go_ret
      exact ⟨rfl, HWB.out⟩
theorem reservePlays_walk (v : Value) (w : World) (hg : Handle w) (hv : ∃ xss, Rows2 w v xss) :
    Calls Tryd.prog 7 #[v] w fun e w' => e = .returned (.bool true) ∧ Below w.heap.size w w' := by
  obtain ⟨xss, hx⟩ := hv
  exact reservePlays_core v xss w hx hg
end Go.Proofs.YtoddoekmgkcomaaDoor
