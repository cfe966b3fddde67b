/- The walk of scrub.Row. -/
import Derived.Test.YtneebcniofolmaaGreatDoorScrC
import Derived.Deep.RegionHeld3
namespace Go.Proofs.YtneebcniofolmaaGreatDoor
open Go.ChangeShapes Go.WideShapes Go.ChangeAt Go.RowKit
set_option linter.unusedVariables false
variable {F : Nat → Prop} {K : Nat} {w : World} {b : Nat} {s : Ar.S}
set_option maxRecDepth 100000 in
set_option maxHeartbeats 2000000 in
theorem sRow (h : AryOk F K w b s) (hK : K < 1000000) (hFw : ∀ k, F k → k < w.heap.size) (n row : Int) :
    Calls Tryz.prog 132 #[.pointer (some ⟨b, 0, none⟩), iv n, iv row] w (RbPost F (K + 1) b (s.scrub n row) w) := by
  have HOK := Lib.hid (h.more (K' := K + 1) (by omega))
  have HFw := Lib.hid hFw
  clear hFw
  have ho := h.ok
  obtain ⟨res, hres⟩ : ∃ res, res = s.scrub n row := ⟨_, rfl⟩
  rw [← hres]
  unfold Ar.S.scrub at hres
  by_cases hn : n < 3 ∨ 10 < n
  · rw [if_pos hn] at hres
    subst hres
    have HC := Lib.hid (lcheck_no n hn w)
    clear h ho hn
    go_enter Tryz.func132, Tryz.ntmps132
    go_wp2_with fail
    refine HC.out.mono ?_
    rintro e w' ⟨rfl, rfl⟩
    go_wp2_with fail
    go_ret2
    exact ⟨rfl, HOK.out, Kept.refl F w⟩
  rw [if_neg hn] at hres
  have hn3 : 3 ≤ n := by omega
  have HC := Lib.hid (lcheck_yes n hn3 (by omega) w)
  have HRaw := Lib.hid (aRaw h row)
  by_cases hr : s.hasRow row
  · obtain ⟨q, rfl, hq⟩ := Ar.S.hasRow_nat hr
    rw [if_neg (fun hc => hc hr), Int.toNat_natCast] at hres
    have hrf : s.rawF (q : Int) = 0 ∧ s.rawP (q : Int) = s.parts q ∧ s.rawM (q : Int) = s.marks q := by
      unfold Ar.S.rawF Ar.S.rawP Ar.S.rawM
      rw [if_pos hr, if_pos hr, if_pos hr, Int.toNat_natCast]
      exact ⟨rfl, rfl, rfl⟩
    have Hrf := Lib.hid hrf
    have HA := Lib.hid h
    have Ho := Lib.hid ho
    have h3 := ho.n3
    have h10 := ho.n10
    have hr20 := ho.r20
    have HresA := Lib.hid hres
    clear h ho hr hn hrf hres
    go_enter Tryz.func132, Tryz.ntmps132
    go_wp2_with fail
    refine HC.out.mono ?_
    rintro e w' ⟨rfl, rfl⟩
    go_wp2_with fail
    refine HRaw.out.mono ?_
    rintro e w1 ⟨v1, v2, rfl, hP, hL, hB1⟩
    rw [Hrf.out.1, errV_0]
    rw [Hrf.out.2.1, s.parts_len] at hP
    rw [Hrf.out.2.2, s.marks_len] at hL
    obtain ⟨gp, cp, rfl, hp1, hp2, hp3, hp4, _, _⟩ := owns_pos hP (by omega)
    obtain ⟨gl, cl, rfl, hl1, hl2, hl3, hl4, hl5, hl6⟩ := owns_pos hL (by omega)
    have HP := Lib.hid hP
    have HL := Lib.hid hL
    have HB1 := Lib.hid hB1
    have HA1 := Lib.hid (HA.out.below hB1)
    have hz1 := hB1.size
    unfold maxLen at hp4 hl4
    have hrl : BoolR w1 (.slice (some ⟨gl, 0, none⟩) s.n cl) (s.marks q) := (row_of_owns hL).1
    have HCo := Lib.hid (containsB_any (s.marks q) _ w1 hrl)
    rw [any_marks Ho.out] at HCo
    clear hP hL hB1 HRaw hrl hl5
    have hres := HresA.out
    by_cases hnn : (s.n : Int) = n
    · rw [if_neg (fun hc => hc hnn)] at hres
      have hne : ((s.n : Int) != n) = false := bne_f hnn
      subst hnn
      unfold Ar.S.scrubAt at hres
      by_cases hm : 0 < s.many q
      · rw [if_pos hm] at hres
        subst hres
        rw [dec_t hm] at HCo
        clear hm
        go_wp2_with fail
        refine HCo.out.mono ?_
        rintro e w' ⟨rfl, rfl⟩
        go_wp2_with fail
        go_ret2
        exact ⟨rfl, HOK.out.below HB1.out, Kept.new F HB1.out⟩
      · rw [if_neg hm] at hres
        rw [dec_f hm] at HCo
        have hps := Ar.S.full_size Ho.out hq hm
        have hpf := Ar.S.parts_full Ho.out hm
        have hrp : Strs w1 (.slice (some ⟨gp, 0, none⟩) s.n cp) (s.parts q) := (row_of_owns HP.out).1
        have HLc := Lib.hid (locate_ok (s.parts q) s.size (by rw [s.parts_len]; omega) (by rw [s.parts_len]; omega) (by rw [hpf]; exact hps) Ho.out.z16 _ w1 hrp)
        unfold LocPost Gv.locate at HLc
        rw [s.parts_len] at HLc
        clear hrp
        by_cases hcl : Gv.cleanB (s.parts q) = true
        · rw [if_pos hcl] at hres
          rw [if_pos hcl] at HLc
          subst hres
          have HLc2 : Hid (Calls Tryz.prog 150 #[.slice (some ⟨gp, 0, none⟩) s.n cp] w1 fun e w' => e = .returned (.tuple #[iv (-1), .nilIface]) ∧ Below w1.heap.size w1 w') := Lib.hid HLc.out
          clear hm hps hpf hcl HLc
          go_wp2_with fail
          refine HCo.out.mono ?_
          rintro e w' ⟨rfl, rfl⟩
          go_wp2_with fail
          refine HLc2.out.mono ?_
          rintro e w2 ⟨rfl, hB2⟩
          have HB2 := Lib.hid (HB1.out.trans (hB2.mono hz1))
          clear hB2
          go_wp2_with fail
          go_ret2
          exact ⟨rfl, HOK.out.below HB2.out, Kept.new F HB2.out⟩
        · rw [if_neg hcl] at hres
          rw [if_neg hcl] at HLc
          cases hfi : Gv.findF (s.parts q) s.n 0 with
          | none =>
            rw [hfi] at hres HLc
            simp only at hres
            subst hres
            have HLc2 : Hid (Calls Tryz.prog 150 #[.slice (some ⟨gp, 0, none⟩) s.n cp] w1 fun e w' => e = .returned (.tuple #[iv 0, ev 8]) ∧ Below w1.heap.size w1 w') := Lib.hid HLc.out
            clear hm hps hpf hcl HLc hfi
            go_wp2_with fail
            refine HCo.out.mono ?_
            rintro e w' ⟨rfl, rfl⟩
            go_wp2_with fail
            refine HLc2.out.mono ?_
            rintro e w2 ⟨rfl, hB2⟩
            have HB2 := Lib.hid (HB1.out.trans (hB2.mono hz1))
            clear hB2
            go_wp2_with fail
            go_ret2
            exact ⟨rfl, HOK.out.below HB2.out, Kept.new F HB2.out⟩
          | some i =>
            rw [hfi] at hres HLc
            simp only at hres
            have hi : i < s.n := by have := (Gv.findF_lt _ _ _ hfi).2; omega
            have HLc2 : Hid (Calls Tryz.prog 150 #[.slice (some ⟨gp, 0, none⟩) s.n cp] w1 fun e w' => e = .returned (.tuple #[iv i, .nilIface]) ∧ Below w1.heap.size w1 w') := Lib.hid HLc.out
            have hmc := Ar.S.mend_size Ho.out hq hm hi
            have hdl : Ar.dk s.n q i < s.n := Ar.dk_lt (by omega)
            have hnl := Ar.S.none_lost hm hdl
            have hxz : ((Gv.heal (s.parts q) (Gv.marks2 s.n i i)).getD i ⟨#[]⟩).size = s.size := hmc.sz (by omega) _ (Gv.getD_mem (by rw [hmc.len]; omega))
            have hpk : s.poke (Ar.dk s.n q i : Int) (q : Int) ((Gv.heal (s.parts q) (Gv.marks2 s.n i i)).getD i ⟨#[]⟩) = (0, s.mended q i) := by
              unfold Ar.S.poke
              rw [if_pos ⟨⟨by omega, by omega⟩, ⟨by omega, by omega⟩⟩, if_pos hxz, Int.toNat_natCast, Int.toNat_natCast, hnl, if_neg (by decide)]
              rfl
            have hms := marks_set (i := i) (s := s) h3 hm
            have hhf : Gv.healF (s.parts q) (Gv.marks2 s.n i i) = 0 := by
              have hml : (Gv.marks2 s.n i i).length = s.n := by unfold Gv.marks2; simp
              rw [healF_gen (z := s.size) (by rw [s.parts_len]; omega) (by rw [s.parts_len]; omega) (by rw [hml, s.parts_len]) (fun j hj _ => by rw [hpf]; exact hps _ (Gv.getD_mem (by rw [s.full_len]; rw [s.parts_len] at hj; exact hj))) Ho.out.z16, s.parts_len, if_neg (by have := gone_one s.n i; omega)]
            have hlen : (Gv.heal (s.parts q) (Gv.marks2 s.n i i)).length = s.n := by rw [hmc.len]; omega
            have Hhf := Lib.hid hhf
            have Hpk := Lib.hid hpk
            have Hms := Lib.hid hms
            have Hlen := Lib.hid hlen
            have Hxz := Lib.hid hxz
            have Hres := Lib.hid hres
            have HOr := Lib.hid (fun w' => order_yes (s.n : Int) (q : Int) (by omega) (by omega) (by omega) (by omega) w')
            have hz16 := Ho.out.z16
            clear hm hps hpf hcl HLc hfi hmc hnl hxz hpk hms hhf hlen hres
            go_wp2_with fail
            refine HCo.out.mono ?_
            rintro e w' ⟨rfl, rfl⟩
            go_wp2_with fail
            refine HLc2.out.mono ?_
            rintro e w2 ⟨rfl, hB2⟩
            have HB2 := Lib.hid (HB1.out.trans (hB2.mono hz1))
            have HP2 := Lib.hid (owns_below HP.out hB2)
            have HL2 := Lib.hid (owns_below HL.out hB2)
            have hz2 := hB2.size
            clear hB2
            go_wp2_with fail
            refine (HOr.out w2).mono ?_
            rintro e w3 ⟨vo, rfl, hO3, hB3⟩
            rw [Int.toNat_natCast, ordN_eq (by omega)] at hO3
            obtain ⟨go, co, rfl, ho1, ho2, ho3, ho4, ho5, _⟩ := owns_pos hO3 (by omega)
            unfold maxLen at ho4
            have HB3 := Lib.hid (HB2.out.trans (hB3.mono HB2.out.size))
            have HP3 := Lib.hid (owns_below HP2.out hB3)
            have HL3 := Lib.hid (owns_below HL2.out hB3)
            have HO3 := Lib.hid hO3
            have hz3 := hB3.size
            have m3 : ∃ x, w3.cell? ⟨gl, i, none⟩ = some x := ⟨_, (HL3.out.cellAt i (by omega)).trans (List.getElem?_eq_getElem (by rw [List.length_map, s.marks_len]; exact hi))⟩
            obtain ⟨mx, m3⟩ := m3
            have f3 := HL3.out.frozenAt i
            clear hB3 hO3 ho5
            obtain ⟨w4, hw4⟩ : ∃ w4, w4 = w3.setCell ⟨gl, i, none⟩ (.bool true) := ⟨_, rfl⟩
            have hk4 : Kept (· = gl) w3 w4 := by rw [hw4]; exact (Kept.self gl w3).set1 _ _
            have hst := HL3.out.stored i (.bool true)
            rw [Hms.out, ← hw4] at hst
            have hL4 : BoolR w4 (.slice (some ⟨gl, 0, none⟩) s.n cl) (Gv.marks2 s.n i i) := (row_of_owns hst.1).1
            have hgp : gp ≠ gl := fun e => own_ne HP3.out HL3.out (by decide) gp rfl (by rw [e]; rfl)
            have hgo : go ≠ gl := fun e => own_ne HO3.out HL3.out (by decide) go rfl (by rw [e]; rfl)
            have hP4 : Strs w4 (.slice (some ⟨gp, 0, none⟩) s.n cp) (s.parts q) := (row_of_owns (Kept.owns HP3.out hk4 (fun g hg e => hgp (by cases hg; exact e)))).1
            have o4 : w4.cell? ⟨go, i, none⟩ = some (iv (Ar.dk s.n q i)) := hk4.cell ((HO3.out.cellAt i (by omega)).trans (ordN_get hi)) hgo
            have HB4 := Lib.hid (HB3.out.trans (hk4.toBelow (B := w.heap.size) HB3.out.size (fun p _ e => by have e2 : p = gl := e; omega)))
            have hgo4 : go < w4.heap.size := World.block_lt_of_cell? w4 _ o4
            have hml : (Gv.marks2 s.n i i).length = (s.parts q).length := by unfold Gv.marks2; rw [s.parts_len]; simp
            have HHe := Lib.hid (Heal_any (s.parts q) (Gv.marks2 s.n i i) hml (by rw [s.parts_len]; omega) (by rw [s.parts_len]; omega) _ _ w4 hP4 hL4)
            have Hw4 := Lib.hid hw4
            clear hw4 hk4 hst hL4 hP4 hml
            go_wp2_with fail
            rw [← Hw4.out]
            refine HHe.out.mono ?_
            rintro e w5 ⟨hy1, _, hB5⟩
            obtain ⟨vh, he, hOh⟩ := hy1 Hhf.out
            subst he
            obtain ⟨gh, oh, ch, rfl, hgh0, _, hh1, hh2, hh3, _⟩ := hOh.at0 (by rw [List.length_map, Hlen.out]; omega)
            have hB4z := HB4.out.size
            have hB2z := HB2.out.size
            rw [List.length_map, Hlen.out] at hh1 hh3 ⊢
            have o5 := (hB5.cell (p := ⟨go, i, none⟩) hgo4).trans o4
            have hb5 := HB4.out.trans (hB5.mono HB4.out.size)
            have HB5 := Lib.hid hb5
            have HA5 := Lib.hid (HA.out.below hb5)
            have e0 := hh3 i hi
            rw [List.getElem?_map, List.getElem?_eq_getElem (by rw [Hlen.out]; exact hi)] at e0
            have e1 : (Gv.heal (s.parts q) (Gv.marks2 s.n i i))[i]'(by rw [Hlen.out]; exact hi) = (Gv.heal (s.parts q) (Gv.marks2 s.n i i)).getD i ⟨#[]⟩ := by rw [List.getD_eq_getElem?_getD, List.getElem?_eq_getElem (by rw [Hlen.out]; exact hi)]; rfl
            rw [e1] at e0
            obtain ⟨x, hx9⟩ : ∃ x, x = (Gv.heal (s.parts q) (Gv.marks2 s.n i i)).getD i ⟨#[]⟩ := ⟨_, rfl⟩
            have e0' : w5.cell? ⟨gh, oh + i, none⟩ = some (.string x) := by rw [hx9]; exact e0
            have HPk : Hid (∀ w', Below w5.heap.size w5 w' → Calls Tryz.prog 84 #[.pointer (some ⟨b, 0, none⟩), iv (Ar.dk s.n q i), iv q, .string x] w' (AryPost F (K + 1) b .nilIface (s.mended q i) w')) := Lib.hid (fun w' hb => by
              have h := aPoke (HA5.out.below hb) hK (Ar.dk s.n q i : Int) (q : Int) x (by unfold maxLen; rw [hx9, Hxz.out]; omega)
              rw [hx9, Hpk.out, errV_0] at h
              rw [hx9]; exact h)
            unfold maxLen at hh2
            obtain ⟨d, hd⟩ : ∃ d, d = Ar.dk s.n q i := ⟨_, rfl⟩
            rw [← hd] at o5 HPk Hres
            clear hy1 hOh hh3 hB5 hb5 e0 e1 hx9 o4 m3 f3 hd
            go_wp2_with fail
            have hgF : ¬ F go := fun h => by have := HFw.out _ h; omega
            have hhF : ¬ F gh := fun h => by have := HFw.out _ h; omega
            go_region_held3 (fun w' => w'.cell? ⟨go, i, none⟩ = some (iv d) ∧ w'.cell? ⟨gh, oh + i, none⟩ = some (.string x))
              (first
                | exact ⟨o5, e0'⟩
                | exact ⟨o6, e6⟩
                | go_keep)
              (first
                | (go_at_call 84; refine (HPk.out _ (bdrew (Below.refl _ _) _)).mono ?_; rintro e w6 ⟨rfl, hA6, hK6⟩; have o6 : w6.cell? ⟨go, i, none⟩ = some (iv d) := hK6.cell o5 hgF; have e6 : w6.cell? ⟨gh, oh + i, none⟩ = some (.string x) := hK6.cell e0' hhF; have HA6 := Lib.hid hA6; have HK6 := Lib.hid (((Kept.new F HB5.out).drewN _).also hK6); clear hA6 hK6))
            go_wp2_with fail
            go_ret2
            rw [Hres.out]
            exact ⟨rfl, HA6.out, HK6.out⟩
    · rw [if_pos hnn] at hres
      subst hres
      have hne : ((s.n : Int) != n) = true := bne_t hnn
      clear hnn HCo
      go_wp2_with fail
      go_ret2
      exact ⟨rfl, HOK.out.below HB1.out, Kept.new F HB1.out⟩
  · rw [if_pos hr] at hres
    subst hres
    have hrf : s.rawF row = 1 ∧ s.rawP row = [] ∧ s.rawM row = [] := by
      unfold Ar.S.rawF Ar.S.rawP Ar.S.rawM
      rw [if_neg hr, if_neg hr, if_neg hr]
      exact ⟨rfl, rfl, rfl⟩
    have Hrf := Lib.hid hrf
    clear h ho hr hn hrf
    go_enter Tryz.func132, Tryz.ntmps132
    go_wp2_with fail
    refine HC.out.mono ?_
    rintro e w' ⟨rfl, rfl⟩
    go_wp2_with fail
    refine HRaw.out.mono ?_
    rintro e w1 ⟨v1, v2, rfl, hP, hL, hB1⟩
    have e1 : errV 1 = ev 1 := rfl
    rw [Hrf.out.1, e1]
    have HB1 := Lib.hid hB1
    clear hP hL hB1 HRaw e1
    go_wp2_with fail
    go_ret2
    exact ⟨rfl, HOK.out.below HB1.out, Kept.new F HB1.out⟩
end Go.Proofs.YtneebcniofolmaaGreatDoor
