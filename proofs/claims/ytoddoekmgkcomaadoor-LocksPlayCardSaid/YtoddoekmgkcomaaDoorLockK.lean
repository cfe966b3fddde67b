/- The walk of (*Locks).Ask. -/
import Derived.Test.YtoddoekmgkcomaaDoorLockA
import Derived.Deep.RegionLaw
namespace Go.Proofs.YtoddoekmgkcomaaDoor
open Go.ChangeShapes Go.WideShapes Go.ChangeAt Go.RowKit
set_option linter.unusedVariables false
attribute [local go_sem ↓] Go.wp_at_zero Go.wp_at_succ
def AskPost (B b : Nat) (vh vw : Value) (r : (Bool × Int) × Lk.St) (w : World) (e : Ending) (w' : World) : Prop :=
  e = .returned (.tuple #[.bool r.1.1, errV r.1.2]) ∧ LkStep 106 w B b vh vw r.2 w'
theorem bad_why {l : Lk.L} (h : Lk.badL l = true) : l.who < 1 ∨ (1 ≤ l.who ∧ 1000 < l.who) ∨ (1 ≤ l.who ∧ l.who ≤ 1000 ∧ l.fr < 0) ∨ (1 ≤ l.who ∧ l.who ≤ 1000 ∧ 0 ≤ l.fr ∧ l.to ≤ l.fr) ∨ (1 ≤ l.who ∧ l.who ≤ 1000 ∧ 0 ≤ l.fr ∧ l.fr < l.to ∧ 40 < l.to) := by
  simp only [Lk.badL, Bool.or_eq_true, decide_eq_true_eq] at h; omega
theorem good_why {l : Lk.L} (h : Lk.badL l = false) : 1 ≤ l.who ∧ l.who ≤ 1000 ∧ 0 ≤ l.fr ∧ l.fr < l.to ∧ l.to ≤ 40 := by
  simp only [Lk.badL, Bool.or_eq_false_iff, decide_eq_false_iff_not] at h; omega
theorem ask_bad {w : World} {B b : Nat} {vh vw : Value} {s : Lk.St} (h : LkAt 106 w B b vh vw s) (l : Lk.L) (hb : Lk.badL l = true) :
    Calls Tryd.prog 23 #[.pointer (some ⟨b, 0, none⟩), lv l] w (AskPost B b vh vw ((false, 1), s) w) := by
  have H := Lib.hid h
  have hw := bad_why hb
  obtain ⟨lw, lf, lt, la⟩ := l
  simp only at hw
  clear h hb
  rcases hw with c | ⟨c1, c2⟩ | ⟨c1, c2, c3⟩ | ⟨c1, c2, c3, c4⟩ | ⟨c1, c2, c3, c4, c5⟩
  all_goals
    go_enter Tryd.func23, Tryd.ntmps23
    go_wp2
    go_ret2
    exact ⟨rfl, LkStep.same H.out ((Below.refl _ _).alloc (Nat.le_refl _) _)⟩
theorem firstI_has (ls : List Lk.L) (who : Int) (z : Bool) (h : Lk.has ls who = z) : decide (0 ≤ firstI ls fun x => x.who == who) = z := by rw [firstI_nonneg]; exact h
/-- the search as a number of which it is known whether it is below 0 -/
theorem find_tot (ls : List Lk.L) (who : Int) (z : Bool) (h : Lk.has ls who = z) : ∃ k : Int, decide (0 ≤ k) = z ∧ -1 ≤ k ∧ ∀ (v : Value) (w : World), RowL w v ls → Calls Tryd.prog 56 #[v, iv who] w fun e w' => e = .returned (iv k) ∧ Below w.heap.size w w' :=
  ⟨_, firstI_has ls who z h, by unfold firstI; split <;> omega, fun v w hv => find_any ls who v w hv⟩
theorem rowL_slice {w : World} {v : Value} {ls : List Lk.L} (h : RowL w v ls) : ∃ p c, v = .slice p ls.length c := by
  obtain ⟨p, c, hv, _⟩ := h; exact ⟨p, c, hv⟩
theorem drewB {w w1 : World} (h : Below w.drew.heap.size w.drew w1) : Below w.heap.size w w1 := (Below.refl _ _).drew.trans (h.mono (by simp))
theorem RowL.drew {w : World} {v : Value} {ls : List Lk.L} (h : RowL w v ls) : RowL w.drew v ls := h.below (Below.refl _ _).drew
theorem RowL.drewN {w : World} {v : Value} {ls : List Lk.L} (h : RowL w v ls) (n : Nat) : RowL (w.drewN n) v ls := h.below (bdrew (Below.refl _ _) n)
set_option maxRecDepth 100000 in
set_option maxHeartbeats 8000000 in
theorem ask_good {w : World} {B b : Nat} {vh vw : Value} {s : Lk.St} (h : LkAt 106 w B b vh vw s) (hm : s.1.length + s.2.length ≤ 30) (l : Lk.L) (hb : Lk.badL l = false) :
    Calls Tryd.prog 23 #[.pointer (some ⟨b, 0, none⟩), lv l] w (AskPost B b vh vw (Lk.ask s l) w) := by
  obtain ⟨h1, h2, h3, h4, h5⟩ := good_why hb
  have HB := Lib.hid hb
  have hlt := h.lt
  have hbp := World.new_ne w ⟨b, 0, none⟩ h.c0
  have HA := Lib.hid (rfl : Lk.ask s l = Lk.ask s l)
  obtain ⟨wA, hwA⟩ : ∃ W : World, W = w.alloc (.cells (lc l).toArray 52) := ⟨_, rfl⟩
  have hBA : Below w.heap.size w wA := by rw [hwA]; exact (Below.refl _ _).alloc (Nat.le_refl _) _
  have hA := h.below hBA
  have pb : wA.heap[w.heap.size]? = some (.cells (lc l).toArray 52 (0, 0)) := by rw [hwA]; exact heap_alloc_new _ _
  have p0 : wA.cell? ⟨w.heap.size, 0, none⟩ = some (iv l.who) := by rw [cell_of_row _ _ _ _ _ _ pb]; rfl
  have p1 : wA.cell? ⟨w.heap.size, 1, none⟩ = some (iv l.fr) := by rw [cell_of_row _ _ _ _ _ _ pb]; rfl
  have p2 : wA.cell? ⟨w.heap.size, 2, none⟩ = some (iv l.to) := by rw [cell_of_row _ _ _ _ _ _ pb]; rfl
  have p3 : wA.cell? ⟨w.heap.size, 3, none⟩ = some (.bool l.al) := by rw [cell_of_row _ _ _ _ _ _ pb]; rfl
  have a0 := hA.c0
  have a1 := hA.c1
  have hsA : w.heap.size < wA.heap.size := World.block_lt_of_cell? wA _ p0
  have hltA : b < wA.heap.size := by omega
  have H0 := Lib.hid h
  have HAA := Lib.hid hA
  have HBA := Lib.hid hBA
  have Hm := Lib.hid hm
  have HWA := Lib.hid hwA
  clear h hA hBA hb pb hwA
  cases q1 : Lk.has s.1 l.who with
  | true =>
    obtain ⟨k1, hk1, hk1', F1⟩ := find_tot s.1 l.who _ q1
    have HF1 := Lib.hid F1
    have HP : Hid (Lk.ask s l = ((false, 7), s)) := Lib.hid (by rw [Lk.ask, if_neg (by rw [HB.out]; decide), if_pos (by rw [q1, Bool.true_or])])
    clear F1 q1
    go_enter Tryd.func23, Tryd.ntmps23
    go_upto_region 3 with (fail)
    rw [show (w.alloc (.cells #[iv l.who, iv l.fr, iv l.to, .bool l.al] 52)) = wA from HWA.out.symm]
    go_cut [33] (fun z wq => z = .bool true ∧ Below wA.heap.size wA wq)
    case first => as_aux_lemma =>
      first
        | go_region_with (go_at_call 56; refine (HF1.out _ _ HAA.out.row1.drew).mono ?_; rintro e w1 ⟨rfl, hb1⟩; have HB1 := Lib.hid (drewB hb1); clear hb1)
        | fail
      all_goals
        go_wp2_with fail
        go_meet
        exact ⟨rfl, HB1.out⟩
    case rest =>
      obtain ⟨rfl, hb⟩ := hcut
      have Hb := Lib.hid (HBA.out.trans (hb.mono HBA.out.size))
      clear hb
      go_wp2_with fail
      go_ret2
      rw [AskPost, HP.out]
      exact ⟨rfl, LkStep.same H0.out Hb.out⟩
  | false =>
    obtain ⟨k1, hk1, hk1', F1⟩ := find_tot s.1 l.who _ q1
    have HF1 := Lib.hid F1
    clear F1
    cases q2 : Lk.has s.2 l.who with
    | true =>
      obtain ⟨k2, hk2, hk2', F2⟩ := find_tot s.2 l.who _ q2
      have HF2 := Lib.hid F2
      have HP : Hid (Lk.ask s l = ((false, 7), s)) := Lib.hid (by rw [Lk.ask, if_neg (by rw [HB.out]; decide), if_pos (by rw [q2, Bool.or_true])])
      clear F2 q2 q1
      go_enter Tryd.func23, Tryd.ntmps23
      go_upto_region 3 with (fail)
      rw [show (w.alloc (.cells #[iv l.who, iv l.fr, iv l.to, .bool l.al] 52)) = wA from HWA.out.symm]
      go_cut [33] (fun z wq => z = .bool true ∧ Below wA.heap.size wA wq)
      case first => as_aux_lemma =>
        go_region_held3 (fun w' => w'.cell? ⟨b, 0, none⟩ = some vh ∧ w'.cell? ⟨b, 1, none⟩ = some vw ∧ w'.cell? ⟨w.heap.size, 0, none⟩ = some (iv l.who))
          (first
            | exact ⟨a0, a1, p0⟩
            | exact ⟨b0, b1, pp0⟩
            | exact ⟨d0, d1, pd0⟩
            | go_keep)
          (first
            | (go_at_call 56; with_reducible refine (HF1.out _ _ HAA.out.row1.drew).mono ?_; rintro e w1 ⟨rfl, hb1⟩; have HB1 := Lib.hid (drewB hb1); have b0 := (HB1.out.cell (p := ⟨b, 0, none⟩) hltA).trans a0; have b1 := (HB1.out.cell (p := ⟨b, 1, none⟩) hltA).trans a1; have pp0 := (HB1.out.cell (p := ⟨w.heap.size, 0, none⟩) hsA).trans p0; clear hb1)
            | (go_at_call 56; with_reducible refine (HF2.out _ _ (HAA.out.below HB1.out).row2).mono ?_; rintro e w2 ⟨rfl, hb2⟩; have HB2 := Lib.hid (HB1.out.trans (hb2.mono HB1.out.size)); have d0 := (HB2.out.cell (p := ⟨b, 0, none⟩) hltA).trans a0; have d1 := (HB2.out.cell (p := ⟨b, 1, none⟩) hltA).trans a1; have pd0 := (HB2.out.cell (p := ⟨w.heap.size, 0, none⟩) hsA).trans p0; clear hb2))
        go_wp2_with fail
        go_meet
        exact ⟨rfl, HB2.out⟩
      case rest =>
        obtain ⟨rfl, hb⟩ := hcut
        have Hb := Lib.hid (HBA.out.trans (hb.mono HBA.out.size))
        clear hb
        go_wp2_with fail
        go_ret2
        rw [AskPost, HP.out]
        exact ⟨rfl, LkStep.same H0.out Hb.out⟩
    | false =>
      obtain ⟨k2, hk2, hk2', F2⟩ := find_tot s.2 l.who _ q2
      have HF2 := Lib.hid F2
      have HQ : Hid ((Lk.has s.1 l.who || Lk.has s.2 l.who) = false) := Lib.hid (by rw [q1, q2]; rfl)
      clear F2 q1 q2
      go_enter Tryd.func23, Tryd.ntmps23
      go_upto_region 3 with (fail)
      rw [show (w.alloc (.cells #[iv l.who, iv l.fr, iv l.to, .bool l.al] 52)) = wA from HWA.out.symm]
      go_cut [33] (fun z wq => z = .bool false ∧ Below wA.heap.size wA wq)
      case first => as_aux_lemma =>
        go_region_held3 (fun w' => w'.cell? ⟨b, 0, none⟩ = some vh ∧ w'.cell? ⟨b, 1, none⟩ = some vw ∧ w'.cell? ⟨w.heap.size, 0, none⟩ = some (iv l.who))
          (first
            | exact ⟨a0, a1, p0⟩
            | exact ⟨b0, b1, pp0⟩
            | exact ⟨d0, d1, pd0⟩
            | go_keep)
          (first
            | (go_at_call 56; with_reducible refine (HF1.out _ _ HAA.out.row1.drew).mono ?_; rintro e w1 ⟨rfl, hb1⟩; have HB1 := Lib.hid (drewB hb1); have b0 := (HB1.out.cell (p := ⟨b, 0, none⟩) hltA).trans a0; have b1 := (HB1.out.cell (p := ⟨b, 1, none⟩) hltA).trans a1; have pp0 := (HB1.out.cell (p := ⟨w.heap.size, 0, none⟩) hsA).trans p0; clear hb1)
            | (go_at_call 56; with_reducible refine (HF2.out _ _ (HAA.out.below HB1.out).row2).mono ?_; rintro e w2 ⟨rfl, hb2⟩; have HB2 := Lib.hid (HB1.out.trans (hb2.mono HB1.out.size)); have d0 := (HB2.out.cell (p := ⟨b, 0, none⟩) hltA).trans a0; have d1 := (HB2.out.cell (p := ⟨b, 1, none⟩) hltA).trans a1; have pd0 := (HB2.out.cell (p := ⟨w.heap.size, 0, none⟩) hsA).trans p0; clear hb2))
        go_wp2_with fail
        go_meet
        exact ⟨rfl, HB2.out⟩
      case rest =>
        obtain ⟨rfl, hbc⟩ := hcut
        have hA := HAA.out.below hbc
        have a0 := hA.c0
        have a1 := hA.c1
        have fA := hA.f
        have p0 := (hbc.cell (p := ⟨w.heap.size, 0, none⟩) hsA).trans p0
        have p1 := (hbc.cell (p := ⟨w.heap.size, 1, none⟩) hsA).trans p1
        have p2 := (hbc.cell (p := ⟨w.heap.size, 2, none⟩) hsA).trans p2
        have p3 := (hbc.cell (p := ⟨w.heap.size, 3, none⟩) hsA).trans p3
        have hsC : w.heap.size < wc.heap.size := by have := hbc.size; omega
        have hltC : b < wc.heap.size := by omega
        have HAC := Lib.hid hA
        have HBC := Lib.hid (HBA.out.trans (hbc.mono HBA.out.size))
        clear hA hbc HAA HBA HWA HF1 HF2 hk1 hk1' hk2 hk2'
        obtain ⟨p, c, hv1⟩ := rowL_slice HAC.out.row1
        obtain ⟨p', c', hv2⟩ := rowL_slice HAC.out.row2
        have hls : s.1.length ≤ 30 := by have := Hm.out; omega
        have hls2 : s.2.length ≤ 30 := by have := Hm.out; omega
        subst hv1 hv2
        obtain ⟨m, hmm⟩ : ∃ m : Nat, m = s.1.length + s.2.length := ⟨_, rfl⟩
        have hmI : ((s.1.length : Int) + (s.2.length : Int)) = (m : Int) := by omega
        have HMM := Lib.hid hmm
        have hm30 : m ≤ 30 := by have := Hm.out; omega
        clear hmm
        by_cases hfull : 30 ≤ m
        · have HP : Hid (Lk.ask s l = ((false, 4), s)) := Lib.hid (by rw [Lk.ask, if_neg (by rw [HB.out]; decide), if_neg (by rw [HQ.out]; decide), if_pos (by have := HMM.out; omega)])
          have hd : decide (30 ≤ (m : Int)) = true := dec_t (by omega)
          go_wp2_with fail
          go_quiet (fail)
          go_wp2_with fail
          go_ret2
          rw [AskPost, HP.out]
          exact ⟨rfl, LkStep.same H0.out (bdrew HBC.out _)⟩
        · have HF : Hid (¬ 30 ≤ s.1.length + s.2.length) := Lib.hid (by have := HMM.out; omega)
          have hd : decide (30 ≤ (m : Int)) = false := dec_f (by omega)
          clear HMM hfull hm30
          go_wp2_with fail
          go_quiet (fail)
          go_upto_region 7 with (fail)
          clear hmI hd
          have HAD := Lib.hid (HAC.out.below (bdrew (Below.refl _ _) nq))
          have HBD := Lib.hid (bdrew HBC.out nq)
          have e0 : (wc.drewN nq).cell? ⟨w.heap.size, 0, none⟩ = some (iv l.who) := p0
          have e1 : (wc.drewN nq).cell? ⟨w.heap.size, 1, none⟩ = some (iv l.fr) := p1
          have e2 : (wc.drewN nq).cell? ⟨w.heap.size, 2, none⟩ = some (iv l.to) := p2
          have e3 : (wc.drewN nq).cell? ⟨w.heap.size, 3, none⟩ = some (.bool l.al) := p3
          have hsD : w.heap.size < (wc.drewN nq).heap.size := hsC
          clear a0 a1 fA p0 p1 p2 p3 HAC HBC hsC hltC
          generalize wc.drewN nq = wd at *
          have a0 := HAD.out.c0
          have a1 := HAD.out.c1
          have hltD := HAD.out.lt
          cases q1 : Lk.free s.1 l with
          | false =>
            have HPA : Hid (Lk.ask s l = ((false, 0), (s.1, s.2 ++ [l]))) := Lib.hid (by rw [Lk.ask, if_neg (by rw [HB.out]; decide), if_neg (by rw [HQ.out]; decide), if_neg HF.out, q1]; rfl)
            have HF1 : Hid (∀ (v : Value) (w : World), RowL w v s.1 → Calls Tryd.prog 58 #[v, lv l] w fun e w' => e = .returned (.bool false) ∧ Below w.heap.size w w') := Lib.hid (fun v w h => by rw [← q1]; exact free_any s.1 l v w h)
            clear q1
            go_cut [80] (fun z wq => z = .bool false ∧ Below wd.heap.size wd wq)
            case first => as_aux_lemma =>
              first
                | go_region_with (go_at_call 58; refine (HF1.out _ _ HAD.out.row1.drew).mono ?_; rintro e w1 ⟨rfl, hb1⟩; have HB1 := Lib.hid (drewB hb1); clear hb1)
                | fail
              all_goals
                go_wp2_with fail
                go_meet
                exact ⟨rfl, HB1.out⟩
            case rest =>
              obtain ⟨rfl, hbe⟩ := hcut
              have hE := HAD.out.below hbe
              have a0 := hE.c0
              have a1 := hE.c1
              have e0 := (hbe.cell (p := ⟨w.heap.size, 0, none⟩) hsD).trans e0
              have e1 := (hbe.cell (p := ⟨w.heap.size, 1, none⟩) hsD).trans e1
              have e2 := (hbe.cell (p := ⟨w.heap.size, 2, none⟩) hsD).trans e2
              have e3 := (hbe.cell (p := ⟨w.heap.size, 3, none⟩) hsD).trans e3
              have hsE : w.heap.size < wc.heap.size := Nat.lt_of_lt_of_le hsD hbe.size
              have hbB : B ≤ wc.heap.size := by have := hE.hb; have := hE.lt; omega
              have hown := Lib.hid hE.own2
              have q0 : ∀ o, (wc.alloc o).cell? ⟨b, 1, none⟩ = some (.slice p' s.2.length c') := fun o => (((Below.refl wc.heap.size wc).alloc (Nat.le_refl _) o).cell (p := ⟨b, 1, none⟩) hE.lt).trans a1
              have HBE := Lib.hid (HBD.out.trans (hbe.mono HBD.out.size))
              have hbx : Below wc.heap.size wc ((wc.alloc (.cells (lc l).toArray 52)).drew) := ((Below.refl _ _).alloc (Nat.le_refl _) _).drew
              have HBX := Lib.hid (HBE.out.trans (hbx.mono HBE.out.size))
              have hzx : ((wc.alloc (.cells (lc l).toArray 52)).drew).heap.size ≤ wc.heap.size + 1 := by simp
              have HZX := Lib.hid hzx
              clear hE hbe HAD HBD HF1 hsD hltD hbx hzx
              obtain ⟨i0, hi0, hz0, hz1, hz2⟩ := info_parts info_lock
              go_upto_region 10 with (fail)
              go_region_law
                ((refine step_append_lies _ (by rfl) _ _ _ (by rfl) B 52 i0 _ 4 32 Tryd.underlying39 hi0 hz0 hz1 hz2 rfl (by omega) (.slice p' s.2.length c') s.2.length (lcs s.2) (by rfl) ((hown.out.alloc _).drew) ⟨wc.heap.size, 0, none⟩ 1 1 (lc l) (by rfl) (by rfl) (World.news_of_block (cs := (lc l).toArray) (t := 52) (fr := (0, 0)) (heap_alloc_new wc _)) (lc_one l) (by omega) (by unfold maxLen; omega) (by omega) (by simp; omega) (wc.heap.size + 1) (by simp) ?_; (intro gg cap w1 hown1 hgrow hat hlt; obtain ⟨N, M⟩ := LkSt.app2 H0.out HBX.out l hown1 hgrow hat HZX.out; have HN := Lib.hid N; have HM := Lib.hid M; have n0 := N.c1; have fn := N.f 1; clear N M hown1 hgrow hat)))
              all_goals
                go_wp2_with fail
                go_ret2
                rw [AskPost, HPA.out]
                exact ⟨rfl, _, _, HN.out.setY _, HM.out.set 1 _⟩
          | true =>
            have HF1 : Hid (∀ (v : Value) (w : World), RowL w v s.1 → Calls Tryd.prog 58 #[v, lv l] w fun e w' => e = .returned (.bool true) ∧ Below w.heap.size w w') := Lib.hid (fun v w h => by rw [← q1]; exact free_any s.1 l v w h)
            cases q2 : Lk.free s.2 l with
            | false =>
              have HPA : Hid (Lk.ask s l = ((false, 0), (s.1, s.2 ++ [l]))) := Lib.hid (by rw [Lk.ask, if_neg (by rw [HB.out]; decide), if_neg (by rw [HQ.out]; decide), if_neg HF.out, q1, q2]; rfl)
              have HF2 : Hid (∀ (v : Value) (w : World), RowL w v s.2 → Calls Tryd.prog 58 #[v, lv l] w fun e w' => e = .returned (.bool false) ∧ Below w.heap.size w w') := Lib.hid (fun v w h => by rw [← q2]; exact free_any s.2 l v w h)
              clear q1 q2
              go_cut [80] (fun z wq => z = .bool false ∧ Below wd.heap.size wd wq)
              case first => as_aux_lemma =>
                go_region_held3 (fun w' => w'.cell? ⟨b, 0, none⟩ = some (.slice p s.1.length c) ∧ w'.cell? ⟨b, 1, none⟩ = some (.slice p' s.2.length c') ∧ w'.cell? ⟨w.heap.size, 0, none⟩ = some (iv l.who) ∧ w'.cell? ⟨w.heap.size, 1, none⟩ = some (iv l.fr) ∧ w'.cell? ⟨w.heap.size, 2, none⟩ = some (iv l.to) ∧ w'.cell? ⟨w.heap.size, 3, none⟩ = some (.bool l.al))
                  (first
                    | exact ⟨a0, a1, e0, e1, e2, e3⟩
                    | exact K1
                    | exact K2
                    | go_keep)
                  (first
                    | (go_at_call 58; with_reducible refine (HF1.out _ _ HAD.out.row1.drew).mono ?_; rintro e w1 ⟨rfl, hb1⟩; have HB1 := Lib.hid (drewB hb1); have K1 := And.intro ((HB1.out.cell (p := ⟨b, 0, none⟩) hltD).trans a0) (And.intro ((HB1.out.cell (p := ⟨b, 1, none⟩) hltD).trans a1) (And.intro ((HB1.out.cell (p := ⟨w.heap.size, 0, none⟩) hsD).trans e0) (And.intro ((HB1.out.cell (p := ⟨w.heap.size, 1, none⟩) hsD).trans e1) (And.intro ((HB1.out.cell (p := ⟨w.heap.size, 2, none⟩) hsD).trans e2) ((HB1.out.cell (p := ⟨w.heap.size, 3, none⟩) hsD).trans e3))))); clear hb1)
                    | (go_at_call 58; with_reducible refine (HF2.out _ _ (HAD.out.below HB1.out).row2).mono ?_; rintro e w2 ⟨rfl, hb2⟩; have HB2 := Lib.hid (HB1.out.trans (hb2.mono HB1.out.size)); have K2 := And.intro ((HB2.out.cell (p := ⟨b, 0, none⟩) hltD).trans a0) (And.intro ((HB2.out.cell (p := ⟨b, 1, none⟩) hltD).trans a1) (And.intro ((HB2.out.cell (p := ⟨w.heap.size, 0, none⟩) hsD).trans e0) (And.intro ((HB2.out.cell (p := ⟨w.heap.size, 1, none⟩) hsD).trans e1) (And.intro ((HB2.out.cell (p := ⟨w.heap.size, 2, none⟩) hsD).trans e2) ((HB2.out.cell (p := ⟨w.heap.size, 3, none⟩) hsD).trans e3))))); clear hb2))
                go_wp2_with fail
                go_meet
                exact ⟨rfl, HB2.out⟩
              case rest =>
                obtain ⟨rfl, hbe⟩ := hcut
                have hE := HAD.out.below hbe
                have a0 := hE.c0
                have a1 := hE.c1
                have e0 := (hbe.cell (p := ⟨w.heap.size, 0, none⟩) hsD).trans e0
                have e1 := (hbe.cell (p := ⟨w.heap.size, 1, none⟩) hsD).trans e1
                have e2 := (hbe.cell (p := ⟨w.heap.size, 2, none⟩) hsD).trans e2
                have e3 := (hbe.cell (p := ⟨w.heap.size, 3, none⟩) hsD).trans e3
                have hsE : w.heap.size < wc.heap.size := Nat.lt_of_lt_of_le hsD hbe.size
                have hbB : B ≤ wc.heap.size := by have := hE.hb; have := hE.lt; omega
                have hown := Lib.hid hE.own2
                have q0 : ∀ o, (wc.alloc o).cell? ⟨b, 1, none⟩ = some (.slice p' s.2.length c') := fun o => (((Below.refl wc.heap.size wc).alloc (Nat.le_refl _) o).cell (p := ⟨b, 1, none⟩) hE.lt).trans a1
                have HBE := Lib.hid (HBD.out.trans (hbe.mono HBD.out.size))
                have hbx : Below wc.heap.size wc ((wc.alloc (.cells (lc l).toArray 52)).drew) := ((Below.refl _ _).alloc (Nat.le_refl _) _).drew
                have HBX := Lib.hid (HBE.out.trans (hbx.mono HBE.out.size))
                have hzx : ((wc.alloc (.cells (lc l).toArray 52)).drew).heap.size ≤ wc.heap.size + 1 := by simp
                have HZX := Lib.hid hzx
                clear hE hbe HAD HBD HF1 hsD hltD hbx hzx
                obtain ⟨i0, hi0, hz0, hz1, hz2⟩ := info_parts info_lock
                go_upto_region 10 with (fail)
                go_region_law
                  ((refine step_append_lies _ (by rfl) _ _ _ (by rfl) B 52 i0 _ 4 32 Tryd.underlying39 hi0 hz0 hz1 hz2 rfl (by omega) (.slice p' s.2.length c') s.2.length (lcs s.2) (by rfl) ((hown.out.alloc _).drew) ⟨wc.heap.size, 0, none⟩ 1 1 (lc l) (by rfl) (by rfl) (World.news_of_block (cs := (lc l).toArray) (t := 52) (fr := (0, 0)) (heap_alloc_new wc _)) (lc_one l) (by omega) (by unfold maxLen; omega) (by omega) (by simp; omega) (wc.heap.size + 1) (by simp) ?_; (intro gg cap w1 hown1 hgrow hat hlt; obtain ⟨N, M⟩ := LkSt.app2 H0.out HBX.out l hown1 hgrow hat HZX.out; have HN := Lib.hid N; have HM := Lib.hid M; have n0 := N.c1; have fn := N.f 1; clear N M hown1 hgrow hat)))
                all_goals
                  go_wp2_with fail
                  go_ret2
                  rw [AskPost, HPA.out]
                  exact ⟨rfl, _, _, HN.out.setY _, HM.out.set 1 _⟩
            | true =>
              have HPA : Hid (Lk.ask s l = ((true, 0), (s.1 ++ [l], s.2))) := Lib.hid (by rw [Lk.ask, if_neg (by rw [HB.out]; decide), if_neg (by rw [HQ.out]; decide), if_neg HF.out, q1, q2]; rfl)
              have HF2 : Hid (∀ (v : Value) (w : World), RowL w v s.2 → Calls Tryd.prog 58 #[v, lv l] w fun e w' => e = .returned (.bool true) ∧ Below w.heap.size w w') := Lib.hid (fun v w h => by rw [← q2]; exact free_any s.2 l v w h)
              clear q1 q2
              go_cut [80] (fun z wq => z = .bool true ∧ Below wd.heap.size wd wq)
              case first => as_aux_lemma =>
                go_region_held3 (fun w' => w'.cell? ⟨b, 0, none⟩ = some (.slice p s.1.length c) ∧ w'.cell? ⟨b, 1, none⟩ = some (.slice p' s.2.length c') ∧ w'.cell? ⟨w.heap.size, 0, none⟩ = some (iv l.who) ∧ w'.cell? ⟨w.heap.size, 1, none⟩ = some (iv l.fr) ∧ w'.cell? ⟨w.heap.size, 2, none⟩ = some (iv l.to) ∧ w'.cell? ⟨w.heap.size, 3, none⟩ = some (.bool l.al))
                  (first
                    | exact ⟨a0, a1, e0, e1, e2, e3⟩
                    | exact K1
                    | exact K2
                    | go_keep)
                  (first
                    | (go_at_call 58; with_reducible refine (HF1.out _ _ HAD.out.row1.drew).mono ?_; rintro e w1 ⟨rfl, hb1⟩; have HB1 := Lib.hid (drewB hb1); have K1 := And.intro ((HB1.out.cell (p := ⟨b, 0, none⟩) hltD).trans a0) (And.intro ((HB1.out.cell (p := ⟨b, 1, none⟩) hltD).trans a1) (And.intro ((HB1.out.cell (p := ⟨w.heap.size, 0, none⟩) hsD).trans e0) (And.intro ((HB1.out.cell (p := ⟨w.heap.size, 1, none⟩) hsD).trans e1) (And.intro ((HB1.out.cell (p := ⟨w.heap.size, 2, none⟩) hsD).trans e2) ((HB1.out.cell (p := ⟨w.heap.size, 3, none⟩) hsD).trans e3))))); clear hb1)
                    | (go_at_call 58; with_reducible refine (HF2.out _ _ (HAD.out.below HB1.out).row2).mono ?_; rintro e w2 ⟨rfl, hb2⟩; have HB2 := Lib.hid (HB1.out.trans (hb2.mono HB1.out.size)); have K2 := And.intro ((HB2.out.cell (p := ⟨b, 0, none⟩) hltD).trans a0) (And.intro ((HB2.out.cell (p := ⟨b, 1, none⟩) hltD).trans a1) (And.intro ((HB2.out.cell (p := ⟨w.heap.size, 0, none⟩) hsD).trans e0) (And.intro ((HB2.out.cell (p := ⟨w.heap.size, 1, none⟩) hsD).trans e1) (And.intro ((HB2.out.cell (p := ⟨w.heap.size, 2, none⟩) hsD).trans e2) ((HB2.out.cell (p := ⟨w.heap.size, 3, none⟩) hsD).trans e3))))); clear hb2))
                go_wp2_with fail
                go_meet
                exact ⟨rfl, HB2.out⟩
              case rest =>
                obtain ⟨rfl, hbe⟩ := hcut
                have hE := HAD.out.below hbe
                have a0 := hE.c0
                have a1 := hE.c1
                have e0 := (hbe.cell (p := ⟨w.heap.size, 0, none⟩) hsD).trans e0
                have e1 := (hbe.cell (p := ⟨w.heap.size, 1, none⟩) hsD).trans e1
                have e2 := (hbe.cell (p := ⟨w.heap.size, 2, none⟩) hsD).trans e2
                have e3 := (hbe.cell (p := ⟨w.heap.size, 3, none⟩) hsD).trans e3
                have hsE : w.heap.size < wc.heap.size := Nat.lt_of_lt_of_le hsD hbe.size
                have hbB : B ≤ wc.heap.size := by have := hE.hb; have := hE.lt; omega
                have hown := Lib.hid hE.own1
                have q0 : ∀ o, (wc.alloc o).cell? ⟨b, 0, none⟩ = some (.slice p s.1.length c) := fun o => (((Below.refl wc.heap.size wc).alloc (Nat.le_refl _) o).cell (p := ⟨b, 0, none⟩) hE.lt).trans a0
                have HBE := Lib.hid (HBD.out.trans (hbe.mono HBD.out.size))
                have hbx : Below wc.heap.size wc ((wc.alloc (.cells (lc l).toArray 52)).drew) := ((Below.refl _ _).alloc (Nat.le_refl _) _).drew
                have HBX := Lib.hid (HBE.out.trans (hbx.mono HBE.out.size))
                have hzx : ((wc.alloc (.cells (lc l).toArray 52)).drew).heap.size ≤ wc.heap.size + 1 := by simp
                have HZX := Lib.hid hzx
                clear hE hbe HAD HBD HF1 hsD hltD hbx hzx
                obtain ⟨i0, hi0, hz0, hz1, hz2⟩ := info_parts info_lock
                go_upto_region 8 with (fail)
                go_region_law
                  ((refine step_append_lies _ (by rfl) _ _ _ (by rfl) B 52 i0 _ 4 32 Tryd.underlying39 hi0 hz0 hz1 hz2 rfl (by omega) (.slice p s.1.length c) s.1.length (lcs s.1) (by rfl) ((hown.out.alloc _).drew) ⟨wc.heap.size, 0, none⟩ 1 1 (lc l) (by rfl) (by rfl) (World.news_of_block (cs := (lc l).toArray) (t := 52) (fr := (0, 0)) (heap_alloc_new wc _)) (lc_one l) (by omega) (by unfold maxLen; omega) (by omega) (by simp; omega) (wc.heap.size + 1) (by simp) ?_; (intro gg cap w1 hown1 hgrow hat hlt; obtain ⟨N, M⟩ := LkSt.app1 H0.out HBX.out l hown1 hgrow hat HZX.out; have HN := Lib.hid N; have HM := Lib.hid M; have n0 := N.c0; have fn := N.f 0; clear N M hown1 hgrow hat)))
                all_goals
                  go_wp2_with fail
                  go_ret2
                  rw [AskPost, HPA.out]
                  exact ⟨rfl, _, _, HN.out.setX _, HM.out.set 0 _⟩
theorem ask_any {w : World} {B b : Nat} {vh vw : Value} {s : Lk.St} (h : LkAt 106 w B b vh vw s) (hm : s.1.length + s.2.length ≤ 30) (l : Lk.L) :
    Calls Tryd.prog 23 #[.pointer (some ⟨b, 0, none⟩), lv l] w (AskPost B b vh vw (Lk.ask s l) w) := by
  cases hb : Lk.badL l with
  | true => rw [show Lk.ask s l = ((false, 1), s) by rw [Lk.ask, if_pos hb]]; exact ask_bad h l hb
  | false => exact ask_good h hm l hb
end Go.Proofs.YtoddoekmgkcomaaDoor
