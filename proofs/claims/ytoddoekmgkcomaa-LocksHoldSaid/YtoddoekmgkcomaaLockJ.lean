/- The walk of the law LocksHold: it returns true. -/
import Derived.Test.YtoddoekmgkcomaaLockH
import Derived.Test.YtoddoekmgkcomaaLockG
import Derived.Test.YtoddoekmgkcomaaOpenL
import Derived.Test.YtoddoekmgkcomaaInts
namespace Go.Proofs.Ytoddoekmgkcomaa
open Go.ChangeShapes Go.WideShapes Go.ChangeAt Go.RowKit
set_option linter.unusedVariables false
namespace Lk
instance : DecidableEq L := fun a b => decidable_of_iff (a.who = b.who ∧ a.fr = b.fr ∧ a.to = b.to ∧ a.al = b.al) ⟨fun h => by cases a; cases b; simp at h; simp [h], fun h => by rw [h]; exact ⟨rfl, rfl, rfl, rfl⟩⟩
theorem hold1 : ask ([], []) ⟨1, 0, 5, true⟩ = ((true, 0), ([⟨1, 0, 5, true⟩], [])) := by decide +kernel
theorem hold2 : ask ([⟨1, 0, 5, true⟩], []) ⟨2, 4, 6, false⟩ = ((false, 0), ([⟨1, 0, 5, true⟩], [⟨2, 4, 6, false⟩])) := by decide +kernel
theorem hold3 : freeL ([⟨1, 0, 5, true⟩], [⟨2, 4, 6, false⟩]) 1 = (([2], 0), ([⟨2, 4, 6, false⟩], [])) := by decide +kernel
theorem Inv.pair {s : St} (h : Inv s) (i j : Nat) (a b : L) (hi : s.1[i]? = some a) (hj : s.1[j]? = some b) (hji : j < i) : odds a b = false := by
  obtain ⟨h1, e1⟩ := List.getElem?_eq_some_iff.1 hi
  obtain ⟨h2, e2⟩ := List.getElem?_eq_some_iff.1 hj
  have := List.pairwise_iff_getElem.1 h.apart j i h2 h1 hji
  rw [e1, e2] at this
  rw [odds_comm]; exact this
theorem Inv.cause {s : St} (h : Inv s) (i : Nat) (x : L) (hi : s.2[i]? = some x) : (s.1.any (fun y => odds x y) || (s.2.take i).any fun y => odds x y) = true := by
  obtain ⟨h1, e1⟩ := List.getElem?_eq_some_iff.1 hi
  have hs : s.2 = s.2.take i ++ x :: s.2.drop (i + 1) := by
    rw [← e1, ← List.drop_eq_getElem_cons h1, List.take_append_drop]
  rcases h.why _ x _ hs with h2 | h2
  · unfold Lk.free at h2; rw [Bool.not_eq_false'] at h2; rw [h2]; rfl
  · unfold Lk.free at h2; rw [Bool.not_eq_false'] at h2; rw [h2, Bool.or_true]
end Lk
theorem held_is {w : World} {B b : Nat} {s : Lk.St} (h : LkObj 74 w B b s) (hm : s.1.length + s.2.length ≤ 30) (n : Nat) (hn : s.1.length = n) :
    Calls Try.prog 18 #[.pointer (some ⟨b, 0, none⟩)] w fun e w' => ∃ p cap, e = .returned (.slice p n cap) ∧ RowL w' (.slice p n cap) s.1 ∧ Below w.heap.size w w' := by
  subst hn
  obtain ⟨vh, vw, h⟩ := h
  refine (lockHeld_any h hm).mono ?_
  rintro e w' ⟨v, rfl, ho, hb⟩
  have hr := rowL_of_owns ho
  obtain ⟨p, cap, rfl, _⟩ := hr
  exact ⟨p, cap, rfl, rowL_of_owns ho, hb⟩
theorem waits_is {w : World} {B b : Nat} {s : Lk.St} (h : LkObj 74 w B b s) (hm : s.1.length + s.2.length ≤ 30) (n : Nat) (hn : s.2.length = n) :
    Calls Try.prog 19 #[.pointer (some ⟨b, 0, none⟩)] w fun e w' => ∃ p cap, e = .returned (.slice p n cap) ∧ RowL w' (.slice p n cap) s.2 ∧ Below w.heap.size w w' := by
  subst hn
  obtain ⟨vh, vw, h⟩ := h
  refine (lockWaits_any h hm).mono ?_
  rintro e w' ⟨v, rfl, ho, hb⟩
  have hr := rowL_of_owns ho
  obtain ⟨p, cap, rfl, _⟩ := hr
  exact ⟨p, cap, rfl, rowL_of_owns ho, hb⟩
def HoldRel (w : World) (b n N : Nat) (gk : Nat) (a i : Value) (wr : World) : Prop :=
  ∃ (j k : Nat) (s : Lk.St), j + gk = N ∧ j ≤ 80 ∧ i = iv j ∧ a = iv k ∧ k ≤ n ∧ LkObj 74 wr b b s ∧ Lk.Inv s ∧ Below w.heap.size w wr
def LessRel (w : World) (b : Nat) (gk : Nat) (i : Value) (wr : World) : Prop :=
  ∃ (j : Nat) (s : Lk.St), j + gk = 30 ∧ i = iv j ∧ s.1.length + s.2.length ≤ gk ∧ LkObj 74 wr b b s ∧ Lk.Inv s ∧ Below w.heap.size w wr
set_option maxRecDepth 100000 in
set_option maxHeartbeats 8000000 in
theorem locksHold_core (va vs : Value) (ls : List Lk.L) (xs : List Int) (w : World) (ha : RowL w va ls) (hx : Row w vs (xs.map iv)) :
    Calls Try.prog 6 #[va, vs] w fun e w' => e = .returned (.bool true) ∧ Below w.heap.size w w' := by
  obtain ⟨pa, ca, rfl, hn1, hra⟩ := ha
  obtain ⟨ps, cs, rfl, hs1, hs2, hrx⟩ := hx.get
  rw [List.length_map] at *
  have Hra := Lib.hid hra
  have Hrx := Lib.hid hrx
  generalize hn : ls.length = n at *
  generalize hN : xs.length = N at *
  have Hn := Lib.hid hn
  have HN := Lib.hid hN
  have T1 := Lib.hid Lk.hold1
  have T2 := Lib.hid Lk.hold2
  have T3 := Lib.hid Lk.hold3
  clear hx hn hN hra hrx
  go_enter Try.func6, Try.ntmps6
  go_wp2_with fail
  refine (lockNew_any _).mono ?_
  rintro e w1 ⟨rfl, hR, hb⟩
  have HR := Lib.hid (show LkObj 74 w1 w.heap.size w.heap.size ([], []) from ⟨_, _, hR⟩)
  have Hb := Lib.hid hb
  clear hR hb
  go_wp2_with fail
  refine (ask_ok HR.out (by decide) ⟨1, 0, 5, true⟩ true T1.out).mono ?_
  rintro e w2 ⟨rfl, h, hb⟩
  have H2 := Lib.hid h
  have Hb2 := Lib.hid (Hb.out.trans hb)
  clear h hb
  go_wp2_with fail
  refine (ask_ok H2.out (by decide) ⟨2, 4, 6, false⟩ false T2.out).mono ?_
  rintro e w3 ⟨rfl, h, hb⟩
  have H3 := Lib.hid h
  have Hb3 := Lib.hid (Hb2.out.trans hb)
  clear h hb
  go_wp2_with fail
  refine (free_is H3.out (by decide) 1 [2] 0 T3.out).mono ?_
  rintro e w4 ⟨v, rfl, hown, h, hb⟩
  obtain ⟨g9, c9, rfl, _⟩ := hown.form (by decide)
  have hc : w4.cell? ⟨g9, 0, none⟩ = some (iv 2) := hown.cellAt 0 (by decide)
  rw [errV_0]
  have Hb4 := Lib.hid (Hb3.out.trans hb)
  clear h hb hown
  go_wp2_with fail
  refine (lockNew_any _).mono ?_
  rintro e w5 ⟨rfl, hR, hb⟩
  have HR5 := Lib.hid (show LkObj 74 w5 w4.heap.size w4.heap.size ([], []) from ⟨_, _, hR⟩)
  have Hb5 := Lib.hid (Hb4.out.trans (hb.mono Hb4.out.size))
  have hz := Hb4.out.size
  clear hR hb HR H2 H3 Hb Hb2 Hb3 Hb4 hc
  go_wp2_with fail
  go_loopg [13, 14] N (fun gk a i wr => HoldRel w w4.heap.size n N gk a i wr)
  case atStart => exact ⟨0, 0, _, by omega, by omega, rfl, rfl, Nat.zero_le _, HR5.out, Lk.Inv.nil, Hb5.out⟩
  case round =>
    obtain ⟨wO, hwO⟩ : ∃ x : World, x = wr := ⟨_, rfl⟩
    obtain ⟨gO, hgO⟩ : ∃ x : Nat, x = gk := ⟨_, rfl⟩
    subst hwO hgO
    obtain ⟨j, k, s, hj, hj80, rfl, rfl, hkn, hD, hI, hB⟩ := hrel
    have HI := Lib.hid hI
    have HD := Lib.hid hD
    have HB := Lib.hid hB
    have Hj := Lib.hid hj
    have Hm := Lib.hid hI.many
    clear HR5 Hb5 hI hD hB
    by_cases hgo : j < N ∧ j < 80
    · obtain ⟨hlt, hlt80⟩ := hgo
      have b80 : decide ((j : Int) < 80) = true := dec_t (by omega)
      obtain ⟨z, hz⟩ : ∃ z, xs[j]? = some z := ⟨xs[j]'(by rw [HN.out]; exact hlt), List.getElem?_eq_getElem _⟩
      obtain ⟨gx, ox, rfl, hcx, hgx⟩ := Hrx.out j hlt
      rw [List.getElem?_map, hz] at hcx
      have cx : wO.cell? ⟨gx, ox + j, none⟩ = some (iv z) := (HB.out.cell (p := ⟨gx, ox + j, none⟩) hgx).trans hcx
      clear hj hz hcx
      go_upto_if 81 with (fail)
      go_cut [13] (fun a wq => ∃ (wk : World) (k' : Nat) (s' : Lk.St), wk = wq ∧ a = iv k' ∧ k' ≤ n ∧ LkObj 74 wk w4.heap.size w4.heap.size s' ∧ Lk.Inv s' ∧ Below w.heap.size w wk)
      case first => as_aux_lemma =>
        by_cases hz0 : 0 < z
        · obtain ⟨out, en, s2, hr⟩ : ∃ out en s2, Lk.freeL s z = ((out, en), s2) := ⟨_, _, _, rfl⟩
          have HF := Lib.hid hr
          have HI2 := Lib.hid (show Lk.Inv s2 by have := HI.out.free z; rw [hr] at this; exact this)
          clear hr
          go_wp2_with fail
          refine (free_is HD.out Hm.out z out en HF.out).mono ?_
          rintro e w6 ⟨v2, rfl, ho, hD, hb⟩
          have HD2 := Lib.hid hD
          have HB2 := Lib.hid (HB.out.trans (hb.mono (by omega)))
          clear ho hD hb
          go_wp2_with fail
          go_meet
          exact ⟨_, k, s2, rfl, rfl, hkn, HD2.out, HI2.out, HB2.out⟩
        · have hz2 : z ≤ 0 := by omega
          clear hz0
          by_cases hk : k < n
          · obtain ⟨l, hl⟩ : ∃ l, ls[k]? = some l := ⟨ls[k]'(by rw [Hn.out]; exact hk), List.getElem?_eq_getElem _⟩
            obtain ⟨ga, oa, rfl, hga, a0, a1, a2, a3⟩ := Hra.out k l hl
            have hcell := fun o => (HB.out.cell (p := ⟨ga, o, none⟩) hga)
            have d0 := (hcell _).trans a0
            have d1 := (hcell _).trans a1
            have d2 := (hcell _).trans a2
            have d3 := (hcell _).trans a3
            obtain ⟨bz, en, s2, hr⟩ : ∃ bz en s2, Lk.ask s l = ((bz, en), s2) := ⟨_, _, _, rfl⟩
            have HF := Lib.hid hr
            have HI2 := Lib.hid (show Lk.Inv s2 by have := HI.out.ask l; rw [hr] at this; exact this)
            clear hcell a0 a1 a2 a3 hl hr
            go_wp2_with fail
            refine (ask_is HD.out Hm.out l bz en HF.out).mono ?_
            rintro e w6 ⟨rfl, hD, hb⟩
            have HD2 := Lib.hid hD
            have HB2 := Lib.hid (HB.out.trans (hb.mono (by omega)))
            clear hD hb
            go_wp2_with fail
            go_meet
            exact ⟨_, k + 1, s2, rfl, by go_num, by omega, HD2.out, HI2.out, HB2.out⟩
          · go_wp2_with fail
            go_meet
            exact ⟨_, k, s, rfl, rfl, hkn, HD.out, HI.out, HB.out⟩
      case rest =>
        obtain ⟨wk, k', s', rfl, rfl, hkn', hD', hI', hB'⟩ := hcut
        have HDk := Lib.hid hD'
        have HIk := Lib.hid hI'
        have HBk := Lib.hid hB'
        clear hD' hI' hB' HD HI HB Hm cx
        go_wp2_with fail
        refine (held_is HDk.out HIk.out.many _ rfl).mono ?_
        rintro e w1 ⟨p1, q1, rfl, hr, hb⟩
        have HA1 := Lib.hid hr
        have HO1 := Lib.hid (HDk.out.below hb)
        have HB1 := Lib.hid (HBk.out.trans (hb.mono HBk.out.size))
        clear hr hb
        go_wp2_with fail
        refine (waits_is HO1.out HIk.out.many _ rfl).mono ?_
        rintro e w2 ⟨p2, q2, rfl, hr, hb⟩
        have HC2 := Lib.hid hr
        have HA2 := Lib.hid (HA1.out.below hb)
        have HO2 := Lib.hid (HO1.out.below hb)
        have HB2 := Lib.hid (HB1.out.trans (hb.mono HB1.out.size))
        clear hr hb
        go_wp2_with fail
        refine (fair_any s'.1 s'.2 _ _ _ HA2.out HC2.out HIk.out.pair HIk.out.cause).mono ?_
        rintro e w3 ⟨rfl, hb⟩
        have HO3 := Lib.hid (HO2.out.below hb)
        have HB3 := Lib.hid (HB2.out.trans (hb.mono HB2.out.size))
        clear hb HA1 HC2 HA2 HO1 HO2 HB1 HB2
        go_wp2_with fail
        go_roundg (gO - 1)
        case measure => have := Hj.out; omega
        case rel => exact ⟨j + 1, k', s', by have := Hj.out; omega, by omega, by go_num, rfl, hkn', HO3.out, HIk.out, HB3.out⟩
    · have hend : j = N ∨ (j < N ∧ j = 80) := by have := Hj.out; omega
      have HZ := Lib.hid hz
      clear hgo hj hj80 hkn hz
      rcases hend with rfl | ⟨hlt, rfl⟩
      all_goals
        go_upto_block 2 with (fail)
        go_cut [] (fun wq => ∃ (wk : World) (s' : Lk.St), wk = wq ∧ s'.1 = [] ∧ s'.2 = [] ∧ LkObj 74 wk w4.heap.size w4.heap.size s' ∧ Below w.heap.size w wk)
        case first => as_aux_lemma =>
          go_wp2_with fail
          go_loopg [16] 30 (fun gk i wr => LessRel w w4.heap.size gk i wr)
          case atStart => exact ⟨0, s, by omega, rfl, Hm.out, HD.out, HI.out, HB.out⟩
          case round =>
            clear HI HD HB Hm
            obtain ⟨j, s', hj, rfl, hm, hD, hI, hB⟩ := hrel
            have HI := Lib.hid hI
            have HD := Lib.hid hD
            have HB := Lib.hid hB
            have Hj := Lib.hid hj
            have Hm := Lib.hid hm
            clear hD hI hB hj hm
            by_cases hlt : j < 30
            · go_wp2_with fail
              obtain ⟨q, hq⟩ : ∃ q, s'.1.length = q := ⟨_, rfl⟩
              have HQ := Lib.hid hq
              clear hq
              refine (held_is HD.out HI.out.many q HQ.out).mono ?_
              rintro e w6 ⟨p1, q1, rfl, hr, hb⟩
              have HO1 := Lib.hid (HD.out.below hb)
              have HB1 := Lib.hid (HB.out.trans (hb.mono HB.out.size))
              have Hr := Lib.hid hr
              clear hr hb
              by_cases hq0 : q = 0
              · subst hq0
                have h1 : s'.1 = [] := List.eq_nil_of_length_eq_zero HQ.out
                have H1 := Lib.hid h1
                have H2 := Lib.hid (HI.out.none h1)
                clear h1
                go_wp2_with fail
                go_meet
                exact ⟨_, s', rfl, H1.out, H2.out, HO1.out, HB1.out⟩
              · obtain ⟨l, hl⟩ : ∃ l, s'.1[0]? = some l := ⟨s'.1[0]'(by rw [HQ.out]; omega), List.getElem?_eq_getElem _⟩
                have t0 : ((q : Int) == 0) = false := beq_f (by omega)
                have t1 : (0 : Int) < (q : Int) := by omega
                obtain ⟨ga, oa, ca, hva, _, hga, a0, a1, a2, a3⟩ := Hr.out.at (Below.refl _ _) hl
                simp only [Value.slice.injEq] at hva
                obtain ⟨hva, e1, e2⟩ := hva; clear e1 e2
                subst hva
                rw [Nat.zero_mul, Nat.add_zero] at a0
                have hhas : Lk.has s'.1 l.who = true := Lk.has_iff.2 ⟨l, List.mem_of_getElem? hl, rfl⟩
                obtain ⟨out, en, s2, hr⟩ : ∃ out en s2, Lk.freeL s' l.who = ((out, en), s2) := ⟨_, _, _, rfl⟩
                have hlen := Lk.free_len HI.out hhas
                rw [hr] at hlen
                obtain ⟨rfl, hless⟩ : en = 0 ∧ s2.1.length + s2.2.length + 1 = s'.1.length + s'.2.length := hlen
                have HF := Lib.hid hr
                have HL := Lib.hid hless
                have HI2 := Lib.hid (show Lk.Inv s2 by have := HI.out.free l.who; rw [hr] at this; exact this)
                clear hl a1 a2 a3 hhas hr hless hq0
                go_wp2_with fail
                refine (free_is HO1.out HI.out.many l.who out 0 HF.out).mono ?_
                rintro e w7 ⟨v2, rfl, ho, hD, hb⟩
                rw [errV_0]
                have HD2 := Lib.hid hD
                have HBB := Lib.hid (HB1.out.trans (hb.mono HZ.out))
                clear ho hD hb
                go_wp2_with fail
                refine (held_is HD2.out HI2.out.many _ rfl).mono ?_
                rintro e w1 ⟨p1, q1, rfl, hr, hb⟩
                have HA1 := Lib.hid hr
                have HO1 := Lib.hid (HD2.out.below hb)
                have HB1 := Lib.hid (HBB.out.trans (hb.mono HBB.out.size))
                clear hr hb
                go_wp2_with fail
                refine (waits_is HO1.out HI2.out.many _ rfl).mono ?_
                rintro e w2 ⟨p2, q2, rfl, hr, hb⟩
                have HC2 := Lib.hid hr
                have HA2 := Lib.hid (HA1.out.below hb)
                have HO2 := Lib.hid (HO1.out.below hb)
                have HB2 := Lib.hid (HB1.out.trans (hb.mono HB1.out.size))
                clear hr hb
                go_wp2_with fail
                refine (fair_any s2.1 s2.2 _ _ _ HA2.out HC2.out HI2.out.pair HI2.out.cause).mono ?_
                rintro e w3 ⟨rfl, hb⟩
                have HO3 := Lib.hid (HO2.out.below hb)
                have HB3 := Lib.hid (HB2.out.trans (hb.mono HB2.out.size))
                clear hb HA1 HC2 HA2 HO1 HO2 HB1 HB2
                go_wp2_with fail
                go_roundg (gk - 1)
                case measure => have := Hj.out; omega
                case rel => exact ⟨j + 1, s2, by have := Hj.out; omega, by go_num, by have := Hm.out; have := HL.out; omega, HO3.out, HI2.out, HB3.out⟩
            · have hj30 : gk = 0 := by have := Hj.out; omega
              have h1 : s'.1 = [] := List.eq_nil_of_length_eq_zero (by have := Hm.out; omega)
              have h2 : s'.2 = [] := List.eq_nil_of_length_eq_zero (by have := Hm.out; omega)
              have H1 := Lib.hid h1
              have H2 := Lib.hid h2
              clear h1 h2 hj30
              go_wp2_with fail
              go_meet
              exact ⟨_, s', rfl, H1.out, H2.out, HD.out, HB.out⟩
        case rest =>
          obtain ⟨wk, ⟨sa, sb⟩, rfl, h1, h2, hD', hB'⟩ := hcut
          obtain rfl : sa = [] := h1
          obtain rfl : sb = [] := h2
          have HDk := Lib.hid hD'
          have HBk := Lib.hid hB'
          clear hD' hB' HD HI HB Hm
          go_wp2_with fail
          refine (held_is HDk.out (by decide) 0 rfl).mono ?_
          rintro e w6 ⟨p1, q1, rfl, hr, hb⟩
          have HO1 := Lib.hid (HDk.out.below hb)
          have HB1 := Lib.hid (HBk.out.trans (hb.mono HBk.out.size))
          clear hr hb
          go_wp2_with fail
          refine (waits_is HO1.out (by decide) 0 rfl).mono ?_
          rintro e w7 ⟨p2, q2, rfl, hr, hb⟩
          have HB2 := Lib.hid (HB1.out.trans (hb.mono HB1.out.size))
          clear hr hb
          go_wp2_with fail
          go_ret
          exact ⟨rfl, HB2.out⟩
theorem locksHold_walk (va vs : Value) (w : World) (f0 : ∃ ls : List Lk.L, RowL w va ls) (f1 : ∃ xs : List Int, Row w vs (xs.map iv) ∧ ∀ n ∈ xs, (Lit.int .i64 n).wf = true) :
    Calls Try.prog 6 #[va, vs] w fun e w' => e = .returned (.bool true) ∧ Below w.heap.size w w' := by
  obtain ⟨ls, hl⟩ := f0
  obtain ⟨xs, hx, _⟩ := f1
  exact locksHold_core va vs ls xs w hl hx
end Go.Proofs.Ytoddoekmgkcomaa
