/- The walk of scrub.Row. · The reference's array: Scrub. -/
import Derived.Test.YtneebcniofolmaaGreatDoorScrC
import Derived.Deep.RegionHeld3
import Derived.Test.YtneebcniofolmaaGreatDoorRArT
namespace Go.Proofs.YtneebcniofolmaaGreatDoor
open Go.ChangeShapes Go.WideShapes Go.ChangeAt Go.RowKit
set_option linter.unusedVariables false
variable {F : Nat → Prop} {K : Nat} {w : World} {b : Nat} {s : Ar.S}
set_option maxRecDepth 100000 in
set_option maxHeartbeats 2000000 in
theorem sRow (h : AryOk F K w b s) (hK : K < 1000000) (hFw : ∀ k, F k → k < w.heap.size) (n row : Int) :
    Calls Tryz.prog 132 #[.pointer (some ⟨b, 0, none⟩), iv n, iv row] w (RbPost F (K + 1) b (s.scrub n row) w) := by
  have HOK := Lib.hid (h.more (K' := K + 1) (by omega))
  have HFw := Lib.hid hFw
  clear hFw
  have ho := h.ok
  obtain ⟨res, hres⟩ : ∃ res, res = s.scrub n row := ⟨_, rfl⟩
  rw [← hres]
  unfold Ar.S.scrub at hres
  by_cases hn : n < 3 ∨ 10 < n
  · rw [if_pos hn] at hres
    subst hres
    have HC := Lib.hid (lcheck_no n hn w)
    clear h ho hn
    go_enter Tryz.func132, Tryz.ntmps132
    go_wp2_with fail
    refine HC.out.mono ?_
    rintro e w' ⟨rfl, rfl⟩
    go_wp2_with fail
    go_ret2
    exact ⟨rfl, HOK.out, Kept.refl F w⟩
  rw [if_neg hn] at hres
  have hn3 : 3 ≤ n := by omega
  have HC := Lib.hid (lcheck_yes n hn3 (by omega) w)
  have HRaw := Lib.hid (aRaw h row)
  by_cases hr : s.hasRow row
  · obtain ⟨q, rfl, hq⟩ := Ar.S.hasRow_nat hr
    rw [if_neg (fun hc => hc hr), Int.toNat_natCast] at hres
    have hrf : s.rawF (q : Int) = 0 ∧ s.rawP (q : Int) = s.parts q ∧ s.rawM (q : Int) = s.marks q := by
      unfold Ar.S.rawF Ar.S.rawP Ar.S.rawM
      rw [if_pos hr, if_pos hr, if_pos hr, Int.toNat_natCast]
      exact ⟨rfl, rfl, rfl⟩
    have Hrf := Lib.hid hrf
    have HA := Lib.hid h
    have Ho := Lib.hid ho
    have h3 := ho.n3
    have h10 := ho.n10
    have hr20 := ho.r20
    have HresA := Lib.hid hres
    clear h ho hr hn hrf hres
    go_enter Tryz.func132, Tryz.ntmps132
    go_wp2_with fail
    refine HC.out.mono ?_
    rintro e w' ⟨rfl, rfl⟩
    go_wp2_with fail
    refine HRaw.out.mono ?_
    rintro e w1 ⟨v1, v2, rfl, hP, hL, hB1⟩
    rw [Hrf.out.1, errV_0]
    rw [Hrf.out.2.1, s.parts_len] at hP
    rw [Hrf.out.2.2, s.marks_len] at hL
    obtain ⟨gp, cp, rfl, hp1, hp2, hp3, hp4, _, _⟩ := owns_pos hP (by omega)
    obtain ⟨gl, cl, rfl, hl1, hl2, hl3, hl4, hl5, hl6⟩ := owns_pos hL (by omega)
    have HP := Lib.hid hP
    have HL := Lib.hid hL
    have HB1 := Lib.hid hB1
    have HA1 := Lib.hid (HA.out.below hB1)
    have hz1 := hB1.size
    unfold maxLen at hp4 hl4
    have hrl : BoolR w1 (.slice (some ⟨gl, 0, none⟩) s.n cl) (s.marks q) := (row_of_owns hL).1
    have HCo := Lib.hid (containsB_any (s.marks q) _ w1 hrl)
    rw [any_marks Ho.out] at HCo
    clear hP hL hB1 HRaw hrl hl5
    have hres := HresA.out
    by_cases hnn : (s.n : Int) = n
    · rw [if_neg (fun hc => hc hnn)] at hres
      have hne : ((s.n : Int) != n) = false := bne_f hnn
      subst hnn
      unfold Ar.S.scrubAt at hres
      by_cases hm : 0 < s.many q
      · rw [if_pos hm] at hres
        subst hres
        rw [dec_t hm] at HCo
        clear hm
        go_wp2_with fail
        refine HCo.out.mono ?_
        rintro e w' ⟨rfl, rfl⟩
        go_wp2_with fail
        go_ret2
        exact ⟨rfl, HOK.out.below HB1.out, Kept.new F HB1.out⟩
      · rw [if_neg hm] at hres
        rw [dec_f hm] at HCo
        have hps := Ar.S.full_size Ho.out hq hm
        have hpf := Ar.S.parts_full Ho.out hm
        have hrp : Strs w1 (.slice (some ⟨gp, 0, none⟩) s.n cp) (s.parts q) := (row_of_owns HP.out).1
        have HLc := Lib.hid (locate_ok (s.parts q) s.size (by rw [s.parts_len]; omega) (by rw [s.parts_len]; omega) (by rw [hpf]; exact hps) Ho.out.z16 _ w1 hrp)
        unfold LocPost Gv.locate at HLc
        rw [s.parts_len] at HLc
        clear hrp
        by_cases hcl : Gv.cleanB (s.parts q) = true
        · rw [if_pos hcl] at hres
          rw [if_pos hcl] at HLc
          subst hres
          have HLc2 : Hid (Calls Tryz.prog 150 #[.slice (some ⟨gp, 0, none⟩) s.n cp] w1 fun e w' => e = .returned (.tuple #[iv (-1), .nilIface]) ∧ Below w1.heap.size w1 w') := Lib.hid HLc.out
          clear hm hps hpf hcl HLc
          go_wp2_with fail
          refine HCo.out.mono ?_
          rintro e w' ⟨rfl, rfl⟩
          go_wp2_with fail
          refine HLc2.out.mono ?_
          rintro e w2 ⟨rfl, hB2⟩
          have HB2 := Lib.hid (HB1.out.trans (hB2.mono hz1))
          clear hB2
          go_wp2_with fail
          go_ret2
          exact ⟨rfl, HOK.out.below HB2.out, Kept.new F HB2.out⟩
        · rw [if_neg hcl] at hres
          rw [if_neg hcl] at HLc
          cases hfi : Gv.findF (s.parts q) s.n 0 with
          | none =>
            rw [hfi] at hres HLc
            simp only at hres
            subst hres
            have HLc2 : Hid (Calls Tryz.prog 150 #[.slice (some ⟨gp, 0, none⟩) s.n cp] w1 fun e w' => e = .returned (.tuple #[iv 0, ev 8]) ∧ Below w1.heap.size w1 w') := Lib.hid HLc.out
            clear hm hps hpf hcl HLc hfi
            go_wp2_with fail
            refine HCo.out.mono ?_
            rintro e w' ⟨rfl, rfl⟩
            go_wp2_with fail
            refine HLc2.out.mono ?_
            rintro e w2 ⟨rfl, hB2⟩
            have HB2 := Lib.hid (HB1.out.trans (hB2.mono hz1))
            clear hB2
            go_wp2_with fail
            go_ret2
            exact ⟨rfl, HOK.out.below HB2.out, Kept.new F HB2.out⟩
          | some i =>
            rw [hfi] at hres HLc
            simp only at hres
            have hi : i < s.n := by have := (Gv.findF_lt _ _ _ hfi).2; omega
            have HLc2 : Hid (Calls Tryz.prog 150 #[.slice (some ⟨gp, 0, none⟩) s.n cp] w1 fun e w' => e = .returned (.tuple #[iv i, .nilIface]) ∧ Below w1.heap.size w1 w') := Lib.hid HLc.out
            have hmc := Ar.S.mend_size Ho.out hq hm hi
            have hdl : Ar.dk s.n q i < s.n := Ar.dk_lt (by omega)
            have hnl := Ar.S.none_lost hm hdl
            have hxz : ((Gv.heal (s.parts q) (Gv.marks2 s.n i i)).getD i ⟨#[]⟩).size = s.size := hmc.sz (by omega) _ (Gv.getD_mem (by rw [hmc.len]; omega))
            have hpk : s.poke (Ar.dk s.n q i : Int) (q : Int) ((Gv.heal (s.parts q) (Gv.marks2 s.n i i)).getD i ⟨#[]⟩) = (0, s.mended q i) := by
              unfold Ar.S.poke
              rw [if_pos ⟨⟨by omega, by omega⟩, ⟨by omega, by omega⟩⟩, if_pos hxz, Int.toNat_natCast, Int.toNat_natCast, hnl, if_neg (by decide)]
              rfl
            have hms := marks_set (i := i) (s := s) h3 hm
            have hhf : Gv.healF (s.parts q) (Gv.marks2 s.n i i) = 0 := by
              have hml : (Gv.marks2 s.n i i).length = s.n := by unfold Gv.marks2; simp
              rw [healF_gen (z := s.size) (by rw [s.parts_len]; omega) (by rw [s.parts_len]; omega) (by rw [hml, s.parts_len]) (fun j hj _ => by rw [hpf]; exact hps _ (Gv.getD_mem (by rw [s.full_len]; rw [s.parts_len] at hj; exact hj))) Ho.out.z16, s.parts_len, if_neg (by have := gone_one s.n i; omega)]
            have hlen : (Gv.heal (s.parts q) (Gv.marks2 s.n i i)).length = s.n := by rw [hmc.len]; omega
            have Hhf := Lib.hid hhf
            have Hpk := Lib.hid hpk
            have Hms := Lib.hid hms
            have Hlen := Lib.hid hlen
            have Hxz := Lib.hid hxz
            have Hres := Lib.hid hres
            have HOr := Lib.hid (fun w' => order_yes (s.n : Int) (q : Int) (by omega) (by omega) (by omega) (by omega) w')
            have hz16 := Ho.out.z16
            clear hm hps hpf hcl HLc hfi hmc hnl hxz hpk hms hhf hlen hres
            go_wp2_with fail
            refine HCo.out.mono ?_
            rintro e w' ⟨rfl, rfl⟩
            go_wp2_with fail
            refine HLc2.out.mono ?_
            rintro e w2 ⟨rfl, hB2⟩
            have HB2 := Lib.hid (HB1.out.trans (hB2.mono hz1))
            have HP2 := Lib.hid (owns_below HP.out hB2)
            have HL2 := Lib.hid (owns_below HL.out hB2)
            have hz2 := hB2.size
            clear hB2
            go_wp2_with fail
            refine (HOr.out w2).mono ?_
            rintro e w3 ⟨vo, rfl, hO3, hB3⟩
            rw [Int.toNat_natCast, ordN_eq (by omega)] at hO3
            obtain ⟨go, co, rfl, ho1, ho2, ho3, ho4, ho5, _⟩ := owns_pos hO3 (by omega)
            unfold maxLen at ho4
            have HB3 := Lib.hid (HB2.out.trans (hB3.mono HB2.out.size))
            have HP3 := Lib.hid (owns_below HP2.out hB3)
            have HL3 := Lib.hid (owns_below HL2.out hB3)
            have HO3 := Lib.hid hO3
            have hz3 := hB3.size
            have m3 : ∃ x, w3.cell? ⟨gl, i, none⟩ = some x := ⟨_, (HL3.out.cellAt i (by omega)).trans (List.getElem?_eq_getElem (by rw [List.length_map, s.marks_len]; exact hi))⟩
            obtain ⟨mx, m3⟩ := m3
            have f3 := HL3.out.frozenAt i
            clear hB3 hO3 ho5
            obtain ⟨w4, hw4⟩ : ∃ w4, w4 = w3.setCell ⟨gl, i, none⟩ (.bool true) := ⟨_, rfl⟩
            have hk4 : Kept (· = gl) w3 w4 := by rw [hw4]; exact (Kept.self gl w3).set1 _ _
            have hst := HL3.out.stored i (.bool true)
            rw [Hms.out, ← hw4] at hst
            have hL4 : BoolR w4 (.slice (some ⟨gl, 0, none⟩) s.n cl) (Gv.marks2 s.n i i) := (row_of_owns hst.1).1
            have hgp : gp ≠ gl := fun e => own_ne HP3.out HL3.out (by decide) gp rfl (by rw [e]; rfl)
            have hgo : go ≠ gl := fun e => own_ne HO3.out HL3.out (by decide) go rfl (by rw [e]; rfl)
            have hP4 : Strs w4 (.slice (some ⟨gp, 0, none⟩) s.n cp) (s.parts q) := (row_of_owns (Kept.owns HP3.out hk4 (fun g hg e => hgp (by cases hg; exact e)))).1
            have o4 : w4.cell? ⟨go, i, none⟩ = some (iv (Ar.dk s.n q i)) := hk4.cell ((HO3.out.cellAt i (by omega)).trans (ordN_get hi)) hgo
            have HB4 := Lib.hid (HB3.out.trans (hk4.toBelow (B := w.heap.size) HB3.out.size (fun p _ e => by have e2 : p = gl := e; omega)))
            have hgo4 : go < w4.heap.size := World.block_lt_of_cell? w4 _ o4
            have hml : (Gv.marks2 s.n i i).length = (s.parts q).length := by unfold Gv.marks2; rw [s.parts_len]; simp
            have HHe := Lib.hid (Heal_any (s.parts q) (Gv.marks2 s.n i i) hml (by rw [s.parts_len]; omega) (by rw [s.parts_len]; omega) _ _ w4 hP4 hL4)
            have Hw4 := Lib.hid hw4
            clear hw4 hk4 hst hL4 hP4 hml
            go_wp2_with fail
            rw [← Hw4.out]
            refine HHe.out.mono ?_
            rintro e w5 ⟨hy1, _, hB5⟩
            obtain ⟨vh, he, hOh⟩ := hy1 Hhf.out
            subst he
            obtain ⟨gh, oh, ch, rfl, hgh0, _, hh1, hh2, hh3, _⟩ := hOh.at0 (by rw [List.length_map, Hlen.out]; omega)
            have hB4z := HB4.out.size
            have hB2z := HB2.out.size
            rw [List.length_map, Hlen.out] at hh1 hh3 ⊢
            have o5 := (hB5.cell (p := ⟨go, i, none⟩) hgo4).trans o4
            have hb5 := HB4.out.trans (hB5.mono HB4.out.size)
            have HB5 := Lib.hid hb5
            have HA5 := Lib.hid (HA.out.below hb5)
            have e0 := hh3 i hi
            rw [List.getElem?_map, List.getElem?_eq_getElem (by rw [Hlen.out]; exact hi)] at e0
            have e1 : (Gv.heal (s.parts q) (Gv.marks2 s.n i i))[i]'(by rw [Hlen.out]; exact hi) = (Gv.heal (s.parts q) (Gv.marks2 s.n i i)).getD i ⟨#[]⟩ := by rw [List.getD_eq_getElem?_getD, List.getElem?_eq_getElem (by rw [Hlen.out]; exact hi)]; rfl
            rw [e1] at e0
            obtain ⟨x, hx9⟩ : ∃ x, x = (Gv.heal (s.parts q) (Gv.marks2 s.n i i)).getD i ⟨#[]⟩ := ⟨_, rfl⟩
            have e0' : w5.cell? ⟨gh, oh + i, none⟩ = some (.string x) := by rw [hx9]; exact e0
            have HPk : Hid (∀ w', Below w5.heap.size w5 w' → Calls Tryz.prog 84 #[.pointer (some ⟨b, 0, none⟩), iv (Ar.dk s.n q i), iv q, .string x] w' (AryPost F (K + 1) b .nilIface (s.mended q i) w')) := Lib.hid (fun w' hb => by
              have h := aPoke (HA5.out.below hb) hK (Ar.dk s.n q i : Int) (q : Int) x (by unfold maxLen; rw [hx9, Hxz.out]; omega)
              rw [hx9, Hpk.out, errV_0] at h
              rw [hx9]; exact h)
            unfold maxLen at hh2
            obtain ⟨d, hd⟩ : ∃ d, d = Ar.dk s.n q i := ⟨_, rfl⟩
            rw [← hd] at o5 HPk Hres
            clear hy1 hOh hh3 hB5 hb5 e0 e1 hx9 o4 m3 f3 hd
            go_wp2_with fail
            have hgF : ¬ F go := fun h => by have := HFw.out _ h; omega
            have hhF : ¬ F gh := fun h => by have := HFw.out _ h; omega
            go_region_held3 (fun w' => w'.cell? ⟨go, i, none⟩ = some (iv d) ∧ w'.cell? ⟨gh, oh + i, none⟩ = some (.string x))
              (first
                | exact ⟨o5, e0'⟩
                | exact ⟨o6, e6⟩
                | go_keep)
              (first
                | (go_at_call 84; refine (HPk.out _ (bdrew (Below.refl _ _) _)).mono ?_; rintro e w6 ⟨rfl, hA6, hK6⟩; have o6 : w6.cell? ⟨go, i, none⟩ = some (iv d) := hK6.cell o5 hgF; have e6 : w6.cell? ⟨gh, oh + i, none⟩ = some (.string x) := hK6.cell e0' hhF; have HA6 := Lib.hid hA6; have HK6 := Lib.hid (((Kept.new F HB5.out).drewN _).also hK6); clear hA6 hK6))
            go_wp2_with fail
            go_ret2
            rw [Hres.out]
            exact ⟨rfl, HA6.out, HK6.out⟩
    · rw [if_pos hnn] at hres
      subst hres
      have hne : ((s.n : Int) != n) = true := bne_t hnn
      clear hnn HCo
      go_wp2_with fail
      go_ret2
      exact ⟨rfl, HOK.out.below HB1.out, Kept.new F HB1.out⟩
  · rw [if_pos hr] at hres
    subst hres
    have hrf : s.rawF row = 1 ∧ s.rawP row = [] ∧ s.rawM row = [] := by
      unfold Ar.S.rawF Ar.S.rawP Ar.S.rawM
      rw [if_neg hr, if_neg hr, if_neg hr]
      exact ⟨rfl, rfl, rfl⟩
    have Hrf := Lib.hid hrf
    clear h ho hr hn hrf
    go_enter Tryz.func132, Tryz.ntmps132
    go_wp2_with fail
    refine HC.out.mono ?_
    rintro e w' ⟨rfl, rfl⟩
    go_wp2_with fail
    refine HRaw.out.mono ?_
    rintro e w1 ⟨v1, v2, rfl, hP, hL, hB1⟩
    have e1 : errV 1 = ev 1 := rfl
    rw [Hrf.out.1, e1]
    have HB1 := Lib.hid hB1
    clear hP hL hB1 HRaw e1
    go_wp2_with fail
    go_ret2
    exact ⟨rfl, HOK.out.below HB1.out, Kept.new F HB1.out⟩
end Go.Proofs.YtneebcniofolmaaGreatDoor
namespace Go.Proofs.YtneebcniofolmaaGreatDoor
open Go.ChangeShapes Go.WideShapes Go.ChangeAt Go.RowKit
set_option linter.unusedVariables false
variable {F : Nat → Prop} {w : World} {b : Nat} {s : Ar.S}
set_option maxRecDepth 100000 in
set_option maxHeartbeats 4000000 in
theorem rScrub (h : RAryOk F w b s) (q : Nat) (hq : q < s.rows) :
    Calls Tryz.prog 20 #[.pointer (some ⟨b, 0, none⟩), iv q] w (RRbPost F b (s.scrubAt q) w) := by
  have HOK := Lib.hid h
  have ho := h.1
  have Ho := Lib.hid ho
  have h3 := ho.n3
  have h10 := ho.n10
  have hr20 := ho.r20
  have hz16 := ho.z16
  have hA' := h.2
  obtain ⟨gc, gf, gb, cc, cf, cb, gr, cr, C, hA, hI, hS⟩ := hA'
  have hcaps := hA.caps
  obtain ⟨k1, k2, k3, k4, k5, k6⟩ := hcaps
  unfold maxLen at k2 k4 k6
  have HA := Lib.hid hA
  have HI := Lib.hid hI
  have HS := Lib.hid hS
  obtain ⟨res, hres⟩ : ∃ res, res = s.scrubAt q := ⟨_, rfl⟩
  rw [← hres]
  unfold Ar.S.scrubAt at hres
  have HRw := Lib.hid (rRaw h q hq)
  have HLo := Lib.hid (rLost h q hq)
  have HresA := Lib.hid hres
  clear h ho hA hI hS hres
  go_enter Tryz.func20, Tryz.ntmps20
  go_wp2_with fail
  refine HLo.out.mono ?_
  rintro e w' ⟨rfl, rfl⟩
  have hres := HresA.out
  by_cases hm : 0 < s.many q
  · rw [if_pos hm] at hres
    subst hres
    have t2 : decide (0 < s.many q) = true := dec_t hm
    clear hm
    go_wp2_with fail
    go_ret2
    exact ⟨rfl, HOK.out, Kept.refl F w⟩
  · rw [if_neg hm] at hres
    have t2 : decide (0 < s.many q) = false := dec_f hm
    have HM := Lib.hid hm
    have Hres := Lib.hid hres
    clear hm hres
    go_wp2_with fail
    refine HRw.out.mono ?_
    rintro e w1 ⟨v1, v2, rfl, hP, hL, hB1⟩
    obtain ⟨gp, cp, rfl, hp1, hp2, hp3, hp4, _, _⟩ := owns_pos hP (by omega)
    obtain ⟨gl, cl, rfl, hl1, hl2, hl3, hl4, hl5, hl6⟩ := owns_pos hL (by omega)
    have HP := Lib.hid hP
    have HL := Lib.hid hL
    have HB1 := Lib.hid hB1
    have hz1 := hB1.size
    unfold maxLen at hp4 hl4
    have hps := Ar.S.full_size Ho.out hq HM.out
    have hpf := Ar.S.parts_full Ho.out HM.out
    have hrp : Strs w1 (.slice (some ⟨gp, 0, none⟩) s.n cp) (s.parts q) := (row_of_owns HP.out).1
    have HLc := Lib.hid (rlocate_ok (s.parts q) s.size (by rw [s.parts_len]; omega) (by rw [s.parts_len]; omega) (by rw [hpf]; exact hps) Ho.out.z16 _ w1 hrp)
    unfold RLocPost Gv.locate at HLc
    rw [s.parts_len] at HLc
    clear hP hL hB1 HRw hrp hl5
    have hres := Hres.out
    by_cases hcl : Gv.cleanB (s.parts q) = true
    · rw [if_pos hcl] at hres
      rw [if_pos hcl] at HLc
      subst hres
      have HLc2 : Hid (Calls Tryz.prog 44 #[.slice (some ⟨gp, 0, none⟩) s.n cp] w1 fun e w' => e = .returned (.tuple #[iv (-1), .bool true]) ∧ Below w1.heap.size w1 w') := Lib.hid HLc.out
      clear hps hpf hcl HLc
      go_wp2_with fail
      refine HLc2.out.mono ?_
      rintro e w2 ⟨rfl, hB2⟩
      have HB2 := Lib.hid (HB1.out.trans (hB2.mono hz1))
      clear hB2
      go_wp2_with fail
      go_ret2
      exact ⟨rfl, HOK.out.below HB2.out, Kept.new F HB2.out⟩
    · rw [if_neg hcl] at hres
      rw [if_neg hcl] at HLc
      cases hfi : Gv.findF (s.parts q) s.n 0 with
      | none =>
        rw [hfi] at hres HLc
        simp only at hres
        subst hres
        have HLc2 : Hid (Calls Tryz.prog 44 #[.slice (some ⟨gp, 0, none⟩) s.n cp] w1 fun e w' => e = .returned (.tuple #[iv 0, .bool false]) ∧ Below w1.heap.size w1 w') := Lib.hid HLc.out
        clear hps hpf hcl HLc hfi
        go_wp2_with fail
        refine HLc2.out.mono ?_
        rintro e w2 ⟨rfl, hB2⟩
        have HB2 := Lib.hid (HB1.out.trans (hB2.mono hz1))
        clear hB2
        go_wp2_with fail
        go_ret2
        exact ⟨rfl, HOK.out.below HB2.out, Kept.new F HB2.out⟩
      | some i =>
        rw [hfi] at hres HLc
        simp only at hres
        have hi : i < s.n := by have := (Gv.findF_lt _ _ _ hfi).2; omega
        have HLc2 : Hid (Calls Tryz.prog 44 #[.slice (some ⟨gp, 0, none⟩) s.n cp] w1 fun e w' => e = .returned (.tuple #[iv i, .bool true]) ∧ Below w1.heap.size w1 w') := Lib.hid HLc.out
        have hmc := Ar.S.mend_size Ho.out hq HM.out hi
        have hdl : Ar.dk s.n q i < s.n := Ar.dk_lt (by omega)
        have hok := Ar.S.mended_ok Ho.out hq HM.out hi
        have hms := marks_set (i := i) (s := s) h3 HM.out
        have hlen : (Gv.heal (s.parts q) (Gv.marks2 s.n i i)).length = s.n := by rw [hmc.len]; omega
        have hml : (Gv.marks2 s.n i i).length = (s.parts q).length := by unfold Gv.marks2; rw [s.parts_len]; simp
        have hpz : ∀ j, j < (s.parts q).length → Gv.lo (Gv.marks2 s.n i i) j = false → ((s.parts q).getD j ⟨#[]⟩).size = s.size := fun j hj _ => by rw [hpf]; exact hps _ (Gv.getD_mem (by rw [s.full_len]; rw [s.parts_len] at hj; exact hj))
        have hgo1 : (Gv.goneL (Gv.marks2 s.n i i) s.n).length ≤ 2 := by have := gone_one s.n i; omega
        have hexl : ∃ j, j < s.n ∧ Gv.lo (Gv.marks2 s.n i i) j = false := by
          have hv := Gv.have_len (s.parts q) (Gv.marks2 s.n i i) s.n
          exact Gv.have_ex (ps := s.parts q) (ls := Gv.marks2 s.n i i) s.n (by omega)
        have Hpz := Lib.hid hpz
        have Hexl := Lib.hid hexl
        have Hml := Lib.hid hml
        have Hgo1 := Lib.hid hgo1
        have Hok := Lib.hid hok
        have Hms := Lib.hid hms
        have Hlen := Lib.hid hlen
        have Hres := Lib.hid hres
        clear hps hpf hcl HLc hfi hmc hms hlen hres hok hml hpz hgo1 hexl
        go_wp2_with fail
        refine HLc2.out.mono ?_
        rintro e w2 ⟨rfl, hB2⟩
        have HB2 := Lib.hid (HB1.out.trans (hB2.mono hz1))
        have HP2 := Lib.hid (owns_below HP.out hB2)
        have HL2 := Lib.hid (owns_below HL.out hB2)
        have hz2 := hB2.size
        have m3 : ∃ x, w2.cell? ⟨gl, i, none⟩ = some x := ⟨_, (HL2.out.cellAt i (by omega)).trans (List.getElem?_eq_getElem (by rw [List.length_map, s.marks_len]; exact hi))⟩
        obtain ⟨mx, m3⟩ := m3
        have f3 := HL2.out.frozenAt i
        obtain ⟨w4, hw4⟩ : ∃ w4, w4 = w2.setCell ⟨gl, i, none⟩ (.bool true) := ⟨_, rfl⟩
        have hk4 : Kept (· = gl) w2 w4 := by rw [hw4]; exact (Kept.self gl w2).set1 _ _
        have hst := HL2.out.stored i (.bool true)
        rw [Hms.out, ← hw4] at hst
        have hL4 : BoolR w4 (.slice (some ⟨gl, 0, none⟩) s.n cl) (Gv.marks2 s.n i i) := (row_of_owns hst.1).1
        have hgp : gp ≠ gl := fun e => own_ne HP2.out HL2.out (by decide) gp rfl (by rw [e]; rfl)
        have hP4 : Strs w4 (.slice (some ⟨gp, 0, none⟩) s.n cp) (s.parts q) := (row_of_owns (Kept.owns HP2.out hk4 (fun g hg e => hgp (by cases hg; exact e)))).1
        have HB4 := Lib.hid (HB2.out.trans (hk4.toBelow (B := w.heap.size) HB2.out.size (fun p _ e => by have e2 : p = gl := e; omega)))
        have HHe := Lib.hid (rheal_any (s.parts q) (Gv.marks2 s.n i i) s.size (by rw [s.parts_len]; omega) (by rw [s.parts_len]; omega) Hml.out Hpz.out (by omega) (by rw [s.parts_len]; exact Hexl.out) (by rw [s.parts_len]; exact Hgo1.out) _ _ w4 hP4 hL4)
        have Hw4 := Lib.hid hw4
        have hiI : (i : Int) < (s.n : Int) := by omega
        have hi0 : decide ((i : Int) < 0) = false := dec_f (by omega)
        clear hw4 hk4 hst hL4 hP4 hB2
        go_wp2_with fail
        rw [← Hw4.out]
        refine HHe.out.mono ?_
        rintro e w5 ⟨vh, rfl, hOh, hB5⟩
        obtain ⟨gh, oh, ch, rfl, hgh0, hgz, hh1, hh2, hh3, _⟩ := hOh.at0 (by rw [List.length_map, Hlen.out]; omega)
        have hB4z := HB4.out.size
        rw [List.length_map, Hlen.out] at hh1 hh3 ⊢
        have hb5 := HB4.out.trans (hB5.mono HB4.out.size)
        have HB5 := Lib.hid hb5
        have e0 := hh3 i hi
        rw [List.getElem?_map, List.getElem?_eq_getElem (by rw [Hlen.out]; exact hi)] at e0
        have e1 : (Gv.heal (s.parts q) (Gv.marks2 s.n i i))[i]'(by rw [Hlen.out]; exact hi) = (Gv.heal (s.parts q) (Gv.marks2 s.n i i)).getD i ⟨#[]⟩ := by rw [List.getD_eq_getElem?_getD, List.getElem?_eq_getElem (by rw [Hlen.out]; exact hi)]; rfl
        rw [e1] at e0
        obtain ⟨x, hx9⟩ : ∃ x, x = (Gv.heal (s.parts q) (Gv.marks2 s.n i i)).getD i ⟨#[]⟩ := ⟨_, rfl⟩
        have e0' : w5.cell? ⟨gh, oh + i, none⟩ = some (.string x) := by rw [hx9]; exact e0
        have HLay := Lib.hid (rlayout_any s.n (q : Int) h3 h10 (by omega) (by omega) w5)
        have Hx9 := Lib.hid hx9
        have c0 := (HOK.out.below hb5).n
        have hz5 := hb5.size
        unfold maxLen at hh2
        clear hOh hh3 hB5 hb5 e0 e1 hx9 m3 f3
        go_wp2_with fail
        refine HLay.out.mono ?_
        rintro e w6 ⟨vo, rfl, hO6, hB6⟩
        rw [Int.toNat_natCast, ordN_eq (by omega)] at hO6
        obtain ⟨go, co, rfl, ho1, ho2, ho3, ho4, ho5, _⟩ := owns_pos hO6 (by omega)
        have o5 := (ho5 i hi).trans (ordN_get hi)
        have e6 := (hB6.cell (p := ⟨gh, oh + i, none⟩) hgz).trans e0'
        have hb6 := HB5.out.trans (hB6.mono hz5)
        have HB6 := Lib.hid hb6
        have hA6 := HA.out.below hb6
        obtain ⟨d, hd⟩ : ∃ d, d = Ar.dk s.n q i := ⟨_, rfl⟩
        rw [← hd] at o5 hdl
        have Hd := Lib.hid hd
        have c7 := hA6.c3
        have c8 := hA6.lst.cell hdl
        have c9 := (hA6.row d hdl).cell hq
        have k7 := hA6.rcap d hdl
        have hdI : (d : Int) < (s.n : Int) := by omega
        have hqI : (q : Int) < (s.rows : Int) := by omega
        have HA6 := Lib.hid hA6
        unfold maxLen at k7 ho4
        clear hO6 hB6 hb6 hA6 ho5 hd e0' c0
        go_wp2_with fail
        go_still_tail 13, (by kernel_rfl)
        change wpList _ _ _ _ _ w6.drew
        obtain ⟨wE, hwE⟩ : ∃ wE, wE = w6.drew := ⟨_, rfl⟩
        have hbE : Below w6.heap.size w6 wE := by rw [hwE]; exact (Below.refl _ _).drew
        have hAE := HA6.out.below hbE
        have HKE := Lib.hid ((Kept.new F HB6.out).also (Kept.new F hbE))
        have e9 := (hAE.row d hdl).cell hq
        have y9 := (hAE.row d hdl).fz q
        have HN2 := Lib.hid (hAE.setC hdl hq x)
        rw [← hwE]
        clear hwE hbE c7 c8 c9 o5 e6 hAE
        go_wp2_with fail
        go_ret2
        rw [Hres.out]
        have hsee : ∀ e r, e < (s.mended q i).n → r < (s.mended q i).rows → (s.mended q i).lost e r = false → Ar.up C d (Ar.up (C d) q x) e r = (s.mended q i).c e r := by
          rw [Hd.out, Hx9.out]
          exact setC_see HS.out
        have he : (((Ar.dk s.n q i : Nat) : Int)) = (d : Int) := by rw [Hd.out]
        rw [he]
        exact ⟨rfl, ⟨Hok.out, gc, gf, gb, cc, cf, cb, gr, cr, _, HN2.out, HI.out, hsee⟩, HKE.out.setCell (p := ⟨gr d, q, none⟩) (fun _ => HI.out.2.2.2.2 d hdl) _⟩
end Go.Proofs.YtneebcniofolmaaGreatDoor
