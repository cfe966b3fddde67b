/- The walk of intent's Clean. -/
import Derived.Test.YtangcjffiooapaaDoorIntY
namespace Go.Proofs.YtangcjffiooapaaDoor
open Go.ChangeShapes Go.WideShapes Go.ChangeAt Go.RowKit Go.Maps
set_option linter.unusedVariables false
theorem clean_no {w : World} {B b mb n wide : Nat} {v : Value} {D : DataW Unit} {s : Nt.S} (h : IntAt w B b mb v n wide D s) (x : Int) (hx : x < 0 ∨ 0 ≤ x ∧ ((39 / wide : Nat) : Int) < x) :
    Calls Tryd.prog 31 #[.pointer (some ⟨b, 0, none⟩), iv x] w fun e w' => e = .returned (.tuple #[.bool false, ev 1]) ∧ w = w' := by
  have c0 := h.c0
  have hw1 := h.w1
  have hw0 : ¬ wide = 0 := by omega
  have hq : (39 : Int) / (wide : Int) = ((39 / wide : Nat) : Int) := (Int.natCast_ediv 39 wide).symm
  have hq39 : 39 / wide ≤ 39 := Nat.div_le_self _ _
  generalize 39 / wide = q at *
  clear h
  rcases hx with h | ⟨h1, h2⟩
  all_goals
    go_enter Tryd.func31, Tryd.ntmps31
    go_wp2_with fail
    go_ret2
    exact ⟨rfl, rfl⟩
def CleanPost (F : Nat → Prop) (B b n wide : Nat) (s : Nt.S) (r : Nat) (w : World) (e : Ending) (w' : World) : Prop :=
  (Nt.busy s wide r ∧ e = .returned (.tuple #[.bool false, .nilIface]) ∧ IntOk F w' B b n wide s ∧ Kept F w w') ∨
  (¬ Nt.busy s wide r ∧ e = .returned (.tuple #[.bool (s.dirty r), .nilIface]) ∧ IntOk F w' B b n wide (Nt.cln s r) ∧ Kept F w w')
def CleanRel (w : World) (mb n wide r : Nat) (D : DataW Unit) (it : Nat) (gk : Nat) (wr : World) : Prop :=
  ∃ left, wr.ranges Tryd.prog 3 (plainElem Tryd.prog 3) mb it n D left gk ∧ (∀ k : Nat, k < 40 → Maps.has D (kl k) = true → left (kl k) = false → k / wide ≠ r) ∧ Below w.heap.size w wr
set_option maxRecDepth 100000 in
set_option maxHeartbeats 1000000 in
theorem clean_yes {w : World} {B b mb n wide : Nat} {v : Value} {D : DataW Unit} {s : Nt.S} (h : IntAt w B b mb v n wide D s) {F : Nat → Prop} (hF : ∀ k, w.heap.size ≤ k → F k) (hI : IntIn F b mb v) (r : Nat) (hr : r ≤ 39 / wide) :
    Calls Tryd.prog 31 #[.pointer (some ⟨b, 0, none⟩), iv r] w (CleanPost F B b n wide s r w) := by
  have HF := Lib.hid hF
  have HIn := Lib.hid hI
  clear hF hI
  have H := Lib.hid h
  have c0 := h.c0
  have c1 := h.c1
  have hw1 := h.w1
  have hw40 := h.w40
  have hlt := h.lt
  have hw0 : ¬ wide = 0 := by omega
  have hr40 : r < 40 := Nat.lt_of_le_of_lt hr (Nat.lt_of_le_of_lt (Nat.div_le_self _ _) (by omega))
  have hq : (39 : Int) / (wide : Int) = ((39 / wide : Nat) : Int) := (Int.natCast_ediv 39 wide).symm
  have hq39 : 39 / wide ≤ 39 := Nat.div_le_self _ _
  have Hr := Lib.hid hr40
  have hrq : (r : Int) ≤ ((39 / wide : Nat) : Int) := by omega
  generalize 39 / wide = q at *
  have tq : decide ((q : Int) < (r : Int)) = false := dec_f (by omega)
  have tq2 : decide (q < r) = false := dec_f (by omega)
  clear h hr hrq
  go_enter Tryd.func31, Tryd.ntmps31
  go_wp2_with (at_range; refine wpList_range_own _ rfl _ 99 rfl 3 3 intKeyed Tryd.underlying99 _ mb n D rfl H.out.many.own ?_)
  intro w0 hrg0 hg0 hs0
  have Hrg0 := Lib.hid hrg0
  have hB : Below w.heap.size w w0 := grown_below hg0
  have HB0 := Lib.hid hB
  clear hrg0 hg0 hB hs0 tq tq2 hq c1
  go_wp2_with fail
  go_loopg [] (Maps.size D) (fun gk wr => CleanRel w mb n wide r D w.heap.size gk wr)
  case atStart => exact ⟨_, Hrg0.out, (fun k _ h1 h2 => by rw [h1] at h2; cases h2), HB0.out⟩
  case round =>
    obtain ⟨left, hrg, hseen, hb⟩ := hrel
    have Hseen := Lib.hid hseen
    have HA := Lib.hid (H.out.below hb)
    have HB := Lib.hid hb
    have d0 := HA.out.c0
    clear hseen Hrg0 HB0 c0
    go_wp2_with (at_next; refine wpList_next_ranges_ii _ rfl _ rfl 3 3 .i64 .i64 intKeyed Tryd.underlying3 Tryd.underlying3 mb w.heap.size n _ _ _ rfl hrg ?_ ?_)
    · intro hc0 hl0
      have Hl0 := Lib.hid hl0
      clear hrg hc0 hl0 hb
      have hnb : ¬ Nt.busy s wide r := by
        rintro ⟨k, hk, hm, he⟩
        exact Hseen.out k hk (by rw [HA.out.many.has k hk]; simp [hm]) (Hl0.out _) he
      have Hnb := Lib.hid hnb
      clear hnb
      have d2 := HA.out.c2
      have df := HA.out.f
      obtain ⟨i, hi⟩ : ∃ i, i = (Nt.lo s.dirty r).length := ⟨_, rfl⟩
      obtain ⟨f0, hf0⟩ : ∃ f0, f0 = s.dirty r := ⟨_, rfl⟩
      have hs1 := Nt.count_lo s.dirty Hr.out
      have hs2 := Nt.L_mem (f := s.dirty) Hr.out
      rw [← hi] at hs1
      rw [← hf0] at hs2
      have Hs := Lib.hid (search_at (w := wr) (Nt.L s.dirty) HA.out.row.row (Nt.L_sorted _) (by have := Nt.L_len s.dirty; omega) (r : Int) i f0 hs1 hs2)
      have Hi := Lib.hid hi
      have Hf := Lib.hid hf0
      have hi40 : i ≤ 40 := by rw [hi]; exact Nat.le_trans (Nt.lo_le _ Hr.out) (Nt.L_len _)
      clear hs1 hs2 hi hf0
      have hlt2 := HA.out.lt
      have hB1 := HA.out.hb
      obtain ⟨pv, mv, cv, hv⟩ := HA.out.row.slice
      have Hv := Lib.hid hv
      clear hv
      go_wp2_with fail
      refine Hs.out.mono ?_
      rintro e w' ⟨rfl, nq, rfl⟩
      have H2 := Lib.hid (HA.out.drewN nq)
      have HB2 := Lib.hid (bdrew HB.out nq)
      clear Hs HA HB
      have hrow2 := H2.out.row
      cases f0 with
      | false =>
        go_wp2_with fail
        go_ret2
        refine .inr ⟨Hnb.out, by rw [← Hf.out]; rfl, ⟨mb, v, D, ?_, HIn.out⟩, Kept.new F HB2.out⟩
        have e : Nt.cln s r = s := by unfold Nt.cln; rw [Hf.out, Nt.upd_self]
        rw [e]; exact H2.out
      | true =>
        have hil : i < (Nt.L s.dirty).length := by rw [Hi.out]; exact Nt.lo_len _ Hr.out Hf.out.symm
        have HC := Lib.hid (delete_any (Nt.L s.dirty) hrow2 i hil)
        clear hrow2 hil
        go_wp2_with fail
        refine HC.out.mono ?_
        rintro e w3 ⟨v', rfl, hown, hturn⟩
        obtain ⟨pv', mv', cv', rfl⟩ := hown.slice
        have hbk := H2.out.other hturn
        have e2 : w3.cell? ⟨b, 2, none⟩ = some v := by rw [cell_of_row _ _ _ _ _ _ hbk]; rfl
        have ef : ∀ j, w3.frozen? ⟨b, j, none⟩ = false := fun j => frozen_of_row _ _ _ _ _ hbk
        have HO := Lib.hid hown
        have HT := Lib.hid hturn
        clear hown hturn hbk
        go_wp2_with fail
        go_ret2
        refine .inr ⟨Hnb.out, by rw [← Hf.out]; rfl, ⟨mb, _, D, H2.out.turn HT.out HO.out ?_, HIn.out.turn HT.out (fun k hk => HF.out k (Nat.le_trans HB2.out.size hk))⟩, ?_⟩
        · rw [Nt.L_del Hr.out Hf.out.symm, ← Hi.out]
        · exact ((Kept.new F HB2.out).also (HT.out.1.mono (fun k _ hk => HIn.out.v k hk.symm))).setCell (p := ⟨b, 2, none⟩) (fun _ => HIn.out.b) _
    · intro x c wn cnt1 hwx hwc hlx hat hrg1 hltc hg1 hs1 hen
      have hhas : Maps.has D (kl x) = true := has_true_of_atKey hat
      have hx40 := HA.out.many.only x hhas
      obtain ⟨k, rfl⟩ : ∃ k : Nat, x = k := ⟨x.toNat, by omega⟩
      have hk40 : k < 40 := by omega
      have hmk : s.many k ≠ 0 := by
        rw [HA.out.many.has k hk40] at hhas
        exact of_decide_eq_true hhas
      have Hhas := Lib.hid hhas
      have Hmk := Lib.hid hmk
      have Hrg1 := Lib.hid hrg1
      have hb1 : Below w.heap.size w wn := hb.trans ((Kept.grown hg1).toBelow hb.size (fun k _ e => by have := Option.some.inj e; omega))
      have HB1 := Lib.hid hb1
      have d0n := (H.out.below hb1).c0
      have hq1 := wrap_quo k wide _ (by omega) rfl
      have hq1' := wrap_quo' k wide _ (by omega) rfl
      obtain ⟨q1, hq1e⟩ : ∃ q1, q1 = k / wide := ⟨_, rfl⟩
      rw [← hq1e] at hq1 hq1'
      have Hq1 := Lib.hid hq1e
      have Hlt := Lib.hid hltc
      clear hq1e hwc hlx hat hrg hb hb1 hg1 hrg1 hs1 hhas hmk hwx hltc d0
      by_cases he : q1 = r
      · have te : ((q1 : Int) == (r : Int)) = true := beq_t (by omega)
        have hbusy : Nt.busy s wide r := ⟨k, hk40, Hmk.out, by rw [← Hq1.out]; exact he⟩
        have Hbusy := Lib.hid hbusy
        clear he hbusy
        go_wp2_with fail
        go_ret2
        exact .inl ⟨Hbusy.out, rfl, ⟨mb, v, D, H.out.below HB1.out, HIn.out⟩, Kept.new F HB1.out⟩
      · have te : ((q1 : Int) == (r : Int)) = false := beq_f (by omega)
        have He := Lib.hid he
        clear he
        go_wp2_with fail
        go_roundg cnt1
        case measure => exact Hlt.out
        case rel =>
          refine ⟨_, Hrg1.out, fun j hj hh hl => ?_, HB1.out⟩
          by_cases ej : j = k
          · subst ej; rw [← Hq1.out]; exact He.out
          · refine Hseen.out j hj hh ?_
            rw [sameKey_ne (fun e => ej (by have := kl_inj e; omega))] at hl
            simpa using hl
end Go.Proofs.YtangcjffiooapaaDoor
