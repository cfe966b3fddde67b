/- The walk of the law LocksPlay: it returns true. -/
import Derived.Test.YtoddoekmgkcomaaDoorLockH
import Derived.Test.YtoddoekmgkcomaaDoorLockU
import Derived.Test.YtoddoekmgkcomaaDoorLockV
import Derived.Test.YtoddoekmgkcomaaDoorLockY
import Derived.Test.YtoddoekmgkcomaaDoorOpenL
import Derived.Test.YtoddoekmgkcomaaDoorSame
namespace Go.Proofs.YtoddoekmgkcomaaDoor
open Go.ChangeShapes Go.WideShapes Go.ChangeAt Go.RowKit
set_option linter.unusedVariables false
section
variable {w : World} {B b c : Nat} {s t : Lk.St} {H K : Nat}
theorem duo_ask (h : Duo w B b c s t H K) (hm : s.1.length + s.2.length ≤ 30) (l : Lk.L) (z : Bool) (n : Int) (s' : Lk.St) (hr : Lk.ask s l = ((z, n), s')) :
    Calls Tryd.prog 23 #[.pointer (some ⟨b, 0, none⟩), lv l] w fun e w' => e = .returned (.tuple #[.bool z, errV n]) ∧ Duo w' B b c s' t w'.heap.size K ∧ Kept (fun k => B ≤ k ∧ k < H) w w' := by
  obtain ⟨vh, vw, uh, uw, h1, h2, h3, h4, h5⟩ := h
  refine (ask_any h1 hm l).mono ?_
  intro e w' ⟨he, hs⟩
  rw [hr] at he hs
  exact ⟨he, Duo.one h1 h2 h3 h4 h5 hs⟩
theorem duo_rask (h : Duo w B b c s t H K) (hm : t.1.length + t.2.length ≤ 30) (l : Lk.L) (z : Bool) (n : Int) (s' : Lk.St) (hr : Lk.ask t l = ((z, n), s')) :
    Calls Tryd.prog 22 #[.pointer (some ⟨c, 0, none⟩), lv l] w fun e w' => e = .returned (.tuple #[.bool z, iv n]) ∧ Duo w' B b c s s' H w'.heap.size ∧ Kept (fun k => B ≤ k ∧ k < K) w w' := by
  obtain ⟨vh, vw, uh, uw, h1, h2, h3, h4, h5⟩ := h
  refine (rask_any h2 hm l).mono ?_
  intro e w' ⟨he, hs⟩
  rw [hr] at he hs
  exact ⟨he, Duo.two h1 h2 h3 h4 h5 hs⟩
theorem duo_free (h : Duo w B b c s t H K) (hm : s.1.length + s.2.length ≤ 30) (who : Int) (out : List Int) (n : Int) (s' : Lk.St) (hr : Lk.freeL s who = ((out, n), s')) :
    Calls Tryd.prog 20 #[.pointer (some ⟨b, 0, none⟩), iv who] w fun e w' => ∃ v, e = .returned (.tuple #[v, errV n]) ∧ w'.ownsRow w.heap.size 3 1 v out.length (out.map iv) ∧ Duo w' B b c s' t w'.heap.size K ∧ Kept (fun k => B ≤ k ∧ k < H) w w' := by
  obtain ⟨vh, vw, uh, uw, h1, h2, h3, h4, h5⟩ := h
  refine (freeL_any h1 hm who).mono ?_
  intro e w' ⟨v, he, hv, hs, _⟩
  rw [hr] at he hv hs
  exact ⟨v, he, hv, Duo.one h1 h2 h3 h4 h5 hs⟩
theorem duo_rfree (h : Duo w B b c s t H K) (hm : t.1.length + t.2.length ≤ 30) (hI : Lk.Inv t) (who : Int) (out : List Int) (n : Int) (s' : Lk.St) (hr : Lk.freeL t who = ((out, n), s')) :
    Calls Tryd.prog 19 #[.pointer (some ⟨c, 0, none⟩), iv who] w fun e w' => ∃ v, e = .returned (.tuple #[v, iv n]) ∧ w'.ownsRow w.heap.size 3 1 v out.length (out.map iv) ∧ Duo w' B b c s s' H w'.heap.size ∧ Kept (fun k => B ≤ k ∧ k < K) w w' := by
  obtain ⟨vh, vw, uh, uw, h1, h2, h3, h4, h5⟩ := h
  rw [Lk.free_eq hI] at hr
  refine (rfree_any h2 hm who).mono ?_
  intro e w' ⟨v, he, hv, hs⟩
  rw [hr] at he hv hs
  exact ⟨v, he, hv, Duo.two h1 h2 h3 h4 h5 hs⟩
theorem duo_held (h : Duo w B b c s t H K) (hm : s.1.length + s.2.length ≤ 30) : Calls Tryd.prog 25 #[.pointer (some ⟨b, 0, none⟩)] w fun e w' => ∃ v, e = .returned v ∧ RowL w' v s.1 ∧ Below w.heap.size w w' := by
  obtain ⟨vh, vw, uh, uw, h1, _⟩ := h
  exact (lockHeld_any h1 hm).mono fun e w' ⟨v, he, ho, hb⟩ => ⟨v, he, rowL_of_owns ho, hb⟩
theorem duo_waits (h : Duo w B b c s t H K) (hm : s.1.length + s.2.length ≤ 30) : Calls Tryd.prog 26 #[.pointer (some ⟨b, 0, none⟩)] w fun e w' => ∃ v, e = .returned v ∧ RowL w' v s.2 ∧ Below w.heap.size w w' := by
  obtain ⟨vh, vw, uh, uw, h1, _⟩ := h
  exact (lockWaits_any h1 hm).mono fun e w' ⟨v, he, ho, hb⟩ => ⟨v, he, rowL_of_owns ho, hb⟩
/-- the reference's lists, as they lie -/
theorem Duo.rows (h : Duo w B b c s t H K) : ∃ x y, w.cell? ⟨c, 0, none⟩ = some x ∧ w.cell? ⟨c, 1, none⟩ = some y ∧ RowL w x t.1 ∧ RowL w y t.2 ∧ c < w.heap.size := by
  obtain ⟨vh, vw, uh, uw, h1, h2, _⟩ := h
  exact ⟨_, _, h2.c0, h2.c1, h2.row1, h2.row2, h2.lt⟩
end
theorem bool_same (b : Bool) : (b == b) = true := by cases b <;> rfl
def LPlayRel (w : World) (b c n N : Nat) (gk : Nat) (a i : Value) (wr : World) : Prop :=
  ∃ (j k : Nat) (s : Lk.St), j + gk = N ∧ j ≤ 80 ∧ i = iv j ∧ a = iv k ∧ k ≤ n ∧ Duo wr w.heap.size b c s s wr.heap.size wr.heap.size ∧ Lk.Inv s ∧ Below w.heap.size w wr
set_option maxRecDepth 100000 in
set_option maxHeartbeats 8000000 in
theorem locksPlay_core (va vs : Value) (ls : List Lk.L) (xs : List Int) (w : World) (ha : RowL w va ls) (hx : Row w vs (xs.map iv)) (hg : Handle w) :
    Calls Tryd.prog 4 #[va, vs] w fun e w' => e = .returned (.bool true) ∧ Below w.heap.size w w' := by
  have Hg := Lib.hid hg
  obtain ⟨pa, ca, rfl, hn1, hra⟩ := ha
  obtain ⟨ps, cs, rfl, hs1, hs2, hrx⟩ := hx.get
  rw [List.length_map] at *
  have Hra := Lib.hid hra
  have Hrx := Lib.hid hrx
  generalize hn : ls.length = n at *
  generalize hN : xs.length = N at *
  have Hn := Lib.hid hn
  have HN := Lib.hid hN
  clear hx hn hN hra hrx hg
  go_enter Tryd.func4, Tryd.ntmps4
  go_wp2_with fail
  refine (lockNew_any _).mono ?_
  rintro e w1 ⟨rfl, hR, hb⟩
  have HR := Lib.hid (Duo.make hR hb.size)
  have Hb := Lib.hid (hb.alloc hb.size (.cells #[.slice none 0 0, .slice none 0 0] 45))
  obtain ⟨b, hbb⟩ : ∃ x, x = w.heap.size := ⟨_, rfl⟩
  obtain ⟨c, hcc⟩ : ∃ x, x = w1.heap.size := ⟨_, rfl⟩
  clear hR hb
  go_wp2_with fail
  go_loopg [7, 8] N (fun gk a i wr => LPlayRel w w.heap.size w1.heap.size n N gk a i wr)
  case atStart => exact ⟨0, 0, _, by omega, by omega, rfl, rfl, Nat.zero_le _, HR.out.up, Lk.Inv.nil, Hb.out⟩
  case round =>
    obtain ⟨wO, hwO⟩ : ∃ x : World, x = wr := ⟨_, rfl⟩
    obtain ⟨gO, hgO⟩ : ∃ x : Nat, x = gk := ⟨_, rfl⟩
    subst hwO hgO
    obtain ⟨j, k, s, hj, hj80, rfl, rfl, hkn, hD, hI, hB⟩ := hrel
    have HI := Lib.hid hI
    have HD := Lib.hid hD
    have HB := Lib.hid hB
    have Hj := Lib.hid hj
    have Hm := Lib.hid hI.many
    have HE := Lib.hid (Lk.free_eq hI)
    clear HR Hb hI hD hB
    by_cases hlt : j < N
    · by_cases hlt80 : j < 80
      · have b80 : decide ((j : Int) < 80) = true := dec_t (by omega)
        obtain ⟨z, hz⟩ : ∃ z, xs[j]? = some z := ⟨xs[j]'(by rw [HN.out]; exact hlt), List.getElem?_eq_getElem _⟩
        obtain ⟨gx, ox, rfl, hcx, hgx⟩ := Hrx.out j hlt
        rw [List.getElem?_map, hz] at hcx
        have cx : wO.cell? ⟨gx, ox + j, none⟩ = some (iv z) := (HB.out.cell (p := ⟨gx, ox + j, none⟩) hgx).trans hcx
        clear hj hz hcx
        go_upto_if 36 with (fail)
        go_cut [9, 7] (fun told a wq => told = .bool true ∧ ∃ (wk : World) (k' : Nat) (s' : Lk.St), wk = wq ∧ a = iv k' ∧ k' ≤ n ∧ Duo wk w.heap.size w.heap.size w1.heap.size s' s' wk.heap.size wk.heap.size ∧ Lk.Inv s' ∧ Below w.heap.size w wk)
        case first => as_aux_lemma =>
          by_cases hz0 : 0 < z
          · have t0 : decide (0 < z) = true := dec_t hz0
            obtain ⟨out, en, s2, hr⟩ : ∃ out en s2, Lk.freeL s z = ((out, en), s2) := ⟨_, _, _, rfl⟩
            have HF := Lib.hid hr
            have HI2 := Lib.hid (show Lk.Inv s2 by have := HI.out.free z; rw [hr] at this; exact this)
            clear hr
            go_wp2_with fail
            refine (duo_rfree HD.out Hm.out HI.out z out en s2 HF.out).mono ?_
            rintro e w2 ⟨v2, rfl, ho, hD, hk⟩
            have HO2 := Lib.hid ho
            have HD2 := Lib.hid hD
            have cx2 := hk.cell cx (by omega)
            have HB2 := Lib.hid (HB.out.trans (hk.toBelow HB.out.size (fun _ _ h => h.1)))
            clear ho hD hk
            go_wp2_with fail
            refine (duo_free HD2.out Hm.out z out en s2 HF.out).mono ?_
            rintro e w3 ⟨v3, rfl, ho, hD, hk⟩
            have HA := Lib.hid (row_of_owns ho).1
            have HC := Lib.hid (row_kept HO2.out hk (fun k h1 h2 => by omega))
            have HD3 := Lib.hid hD
            have HB3 := Lib.hid (HB2.out.trans (hk.toBelow HB2.out.size (fun _ _ h => h.1)))
            have HG3 := Lib.hid (Hg.out.below (Nat.le_refl _) HB3.out)
            clear ho hD hk cx2 cx
            go_wp2_with fail
            refine (same_eq en _ HG3.out).mono ?_
            rintro e w4 ⟨rfl, hb⟩
            have HA4 := Lib.hid (HA.out.below hb)
            have HC4 := Lib.hid (HC.out.below hb)
            have HD4 := Lib.hid (HD3.out.below hb)
            have HB4 := Lib.hid (HB3.out.trans (hb.mono HB3.out.size))
            clear hb
            go_wp2_with fail
            refine (ints_eq out v3 v2 _ HA4.out HC4.out).mono ?_
            rintro e w5 ⟨rfl, nd, rfl⟩
            go_wp2_with fail
            go_meet
            exact ⟨rfl, _, k, s2, rfl, rfl, hkn, (HD4.out.below (bdrew (Below.refl _ _) nd)).up, HI2.out, bdrew HB4.out nd⟩
          · have t0 : decide (0 < z) = false := dec_f hz0
            have hz1 := zero_lock
            have hz2 : z ≤ 0 := by omega
            clear hz0
            go_upto_if 66 with (fail)
            go_cut [7] (fun a wq => ∃ (k' : Nat) (l : Lk.L), a = iv k' ∧ k' ≤ n ∧ wq = wO.alloc (.cells #[iv l.who, iv l.fr, iv l.to, .bool l.al] 52))
            case first => as_aux_lemma =>
              by_cases hk : k < n
              · obtain ⟨l, hl⟩ : ∃ l, ls[k]? = some l := ⟨ls[k]'(by rw [Hn.out]; exact hk), List.getElem?_eq_getElem _⟩
                obtain ⟨ga, oa, rfl, hga, a0, a1, a2, a3⟩ := Hra.out k l hl
                have hcell := fun o => ((HB.out.alloc HB.out.size (.cells #[iv 0, iv 0, iv 0, .bool false] 52)).cell (p := ⟨ga, o, none⟩) hga)
                have d0 := (hcell _).trans a0
                have d1 := (hcell _).trans a1
                have d2 := (hcell _).trans a2
                have d3 := (hcell _).trans a3
                clear hcell a0 a1 a2 a3 hl
                go_wp2_with fail
                go_meet
                exact ⟨k + 1, l, by go_num, by omega, rfl⟩
              · obtain rfl : k = n := by omega
                go_wp2_with fail
                go_meet
                exact ⟨k, ⟨0, 0, 0, false⟩, rfl, Nat.le_refl _, rfl⟩
            case rest =>
            obtain ⟨k', l, rfl, hkn', rfl⟩ := hcut
            have HDa := Lib.hid (HD.out.below ((Below.refl wO.heap.size wO).alloc (Nat.le_refl _) (.cells #[iv l.who, iv l.fr, iv l.to, .bool l.al] 52)))
            have HBa := Lib.hid (HB.out.alloc HB.out.size (.cells #[iv l.who, iv l.fr, iv l.to, .bool l.al] 52))
            obtain ⟨D, hDD⟩ : ∃ D : Nat, D = wO.heap.size := ⟨_, rfl⟩
            obtain ⟨wA, hwA⟩ : ∃ W : World, W = wO.alloc (.cells #[iv l.who, iv l.fr, iv l.to, .bool l.al] 52) := ⟨_, rfl⟩
            have c0 : wA.cell? ⟨D, 0, none⟩ = some (iv l.who) := by rw [hwA, hDD]; simp
            have c1 : wA.cell? ⟨D, 1, none⟩ = some (iv l.fr) := by rw [hwA, hDD]; simp
            have c2 : wA.cell? ⟨D, 2, none⟩ = some (iv l.to) := by rw [hwA, hDD]; simp
            have c3 : wA.cell? ⟨D, 3, none⟩ = some (.bool l.al) := by rw [hwA, hDD]; simp
            rw [← hwA] at HDa HBa ⊢
            rw [← hDD] at HDa ⊢
            obtain ⟨bz, en, s2, hr⟩ : ∃ bz en s2, Lk.ask s l = ((bz, en), s2) := ⟨_, _, _, rfl⟩
            have HF := Lib.hid hr
            have HI2 := Lib.hid (show Lk.Inv s2 by have := HI.out.ask l; rw [hr] at this; exact this)
            have hbz := bool_same bz
            clear hr hwA hDD cx
            go_wp2_with fail
            refine (duo_rask HDa.out Hm.out l bz en s2 HF.out).mono ?_
            rintro e w2 ⟨rfl, hD, hk⟩
            have d0 := hk.cell c0 (by omega)
            have d1 := hk.cell c1 (by omega)
            have d2 := hk.cell c2 (by omega)
            have d3 := hk.cell c3 (by omega)
            have HD2 := Lib.hid hD
            have HB2 := Lib.hid (HBa.out.trans (hk.toBelow HBa.out.size (fun _ _ h => h.1)))
            clear hD hk c0 c1 c2 c3
            go_wp2_with fail
            refine (duo_ask HD2.out Hm.out l bz en s2 HF.out).mono ?_
            rintro e w3 ⟨rfl, hD, hk⟩
            have HD3 := Lib.hid hD
            have HB3 := Lib.hid (HB2.out.trans (hk.toBelow HB2.out.size (fun _ _ h => h.1)))
            have HG3 := Lib.hid (Hg.out.below (Nat.le_refl _) HB3.out)
            clear hD hk d0 d1 d2 d3
            go_wp2_with fail
            refine (same_eq en _ HG3.out).mono ?_
            rintro e w4 ⟨rfl, hb⟩
            have HD4 := Lib.hid (HD3.out.below hb)
            have HB4 := Lib.hid (HB3.out.trans (hb.mono HB3.out.size))
            clear hb
            go_wp2_with fail
            go_meet
            exact ⟨rfl, _, k', s2, rfl, rfl, hkn', HD4.out.up, HI2.out, HB4.out⟩
        case rest =>
          obtain ⟨rfl, wk, k', s', rfl, rfl, hkn', hD', hI', hB'⟩ := hcut
          obtain ⟨x, y, c0, c1, rx, ry, hc⟩ := hD'.rows
          have HDk := Lib.hid hD'
          have HIk := Lib.hid hI'
          have HBk := Lib.hid hB'
          have Hmk := Lib.hid hI'.many
          have RX := Lib.hid rx
          have RY := Lib.hid ry
          clear hD' hI' hB' rx ry HD HI HB Hm HE cx
          go_upto_region 19 with (fail)
          go_region_held3 (fun w' => w'.cell? ⟨w1.heap.size, 0, none⟩ = some x ∧ w'.cell? ⟨w1.heap.size, 1, none⟩ = some y)
            (first
              | exact ⟨c0, c1⟩
              | exact ⟨c0s, c1s⟩
              | exact ⟨c0l, c1l⟩
              | go_keep)
            (first
              | (go_at_call 25; refine (duo_held (HDk.out.below (bdrew (Below.refl _ _) _)) Hmk.out).mono ?_; rintro e wS ⟨v, rfl, hrow, hb⟩; have HBs := Lib.hid ((bdrew (Below.refl wk.heap.size wk) _).trans hb); have HDs := Lib.hid (HDk.out.below HBs.out); have rowA := Lib.hid hrow; have c0s := (HBs.out.cell (p := ⟨w1.heap.size, 0, none⟩) hc).trans c0; have c1s := (HBs.out.cell (p := ⟨w1.heap.size, 1, none⟩) hc).trans c1; have RXs := Lib.hid (RX.out.below HBs.out); have RYs := Lib.hid (RY.out.below HBs.out); have hcs := Nat.lt_of_lt_of_le hc HBs.out.size; clear hrow hb)
              | (go_at_call 26; refine (duo_waits (HDs.out.below (bdrew (Below.refl _ _) _)) Hmk.out).mono ?_; rintro e wL ⟨v2, rfl, hrow2, hb2⟩; have HBl := Lib.hid ((bdrew (Below.refl wS.heap.size wS) _).trans hb2); have HDl := Lib.hid (HDs.out.below HBl.out); have rowB := Lib.hid hrow2; have c0l := (HBl.out.cell (p := ⟨w1.heap.size, 0, none⟩) hcs).trans c0s; have c1l := (HBl.out.cell (p := ⟨w1.heap.size, 1, none⟩) hcs).trans c1s; have RYl := Lib.hid (RYs.out.below HBl.out); clear hrow2 hb2)
              | (go_at_call 24; with_reducible refine (locks_eq s'.1 _ _ _ rowA.out RXs.out).mono ?_; rintro e wI ⟨rfl, nd, rfl⟩)
              | (go_at_call 24; with_reducible refine (locks_eq s'.2 _ _ _ rowB.out RYl.out).mono ?_; rintro e wI ⟨rfl, nd2, rfl⟩))
          go_wp2_with fail
          go_roundg (gO - 1)
          case measure => have := Hj.out; omega
          case rel => exact ⟨j + 1, k', s', by have := Hj.out; omega, by omega, by go_num, rfl, hkn', ((HDl.out.below (bdrew (Below.refl _ _) _))).up, HIk.out, bdrew (HBk.out.trans ((HBs.out.trans (HBl.out.mono HBs.out.size)).mono HBk.out.size)) _⟩
      · obtain rfl : j = 80 := by omega
        clear hj
        go_wp2_with fail
        go_ret
        exact ⟨rfl, HB.out⟩
    · obtain rfl : j = N := by omega
      clear hj
      go_wp2_with fail
      go_ret
      exact ⟨rfl, HB.out⟩
theorem locksPlay_walk (va vs : Value) (w : World) (hg : Handle w) (f0 : ∃ ls : List Lk.L, RowL w va ls) (f1 : ∃ xs : List Int, Row w vs (xs.map iv) ∧ ∀ n ∈ xs, (Lit.int .i64 n).wf = true) :
    Calls Tryd.prog 4 #[va, vs] w fun e w' => e = .returned (.bool true) ∧ Below w.heap.size w w' := by
  obtain ⟨ls, hl⟩ := f0
  obtain ⟨xs, hx, _⟩ := f1
  exact locksPlay_core va vs ls xs w hl hx hg
end Go.Proofs.YtoddoekmgkcomaaDoor
