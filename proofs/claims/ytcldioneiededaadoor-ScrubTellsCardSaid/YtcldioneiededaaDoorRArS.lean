/- The reference's array: Scrub. -/
import Derived.Test.YtcldioneiededaaDoorRArT
import Derived.Test.YtcldioneiededaaDoorScrR
namespace Go.Proofs.YtcldioneiededaaDoor
open Go.ChangeShapes Go.WideShapes Go.ChangeAt Go.RowKit
set_option linter.unusedVariables false
variable {F : Nat → Prop} {w : World} {b : Nat} {s : Ar.S}
set_option maxRecDepth 100000 in
set_option maxHeartbeats 4000000 in
theorem rScrub (h : RAryOk F w b s) (q : Nat) (hq : q < s.rows) :
    Calls Tryd.prog 38 #[.pointer (some ⟨b, 0, none⟩), iv q] w (RRbPost F b (s.scrubAt q) w) := by
  have HOK := Lib.hid h
  have ho := h.1
  have Ho := Lib.hid ho
  have h3 := ho.n3
  have h10 := ho.n10
  have hr20 := ho.r20
  have hz16 := ho.z16
  have hA' := h.2
  obtain ⟨gc, gf, gb, cc, cf, cb, gr, cr, C, hA, hI, hS⟩ := hA'
  have hcaps := hA.caps
  obtain ⟨k1, k2, k3, k4, k5, k6⟩ := hcaps
  unfold maxLen at k2 k4 k6
  have HA := Lib.hid hA
  have HI := Lib.hid hI
  have HS := Lib.hid hS
  obtain ⟨res, hres⟩ : ∃ res, res = s.scrubAt q := ⟨_, rfl⟩
  rw [← hres]
  unfold Ar.S.scrubAt at hres
  have HRw := Lib.hid (rRaw h q hq)
  have HLo := Lib.hid (rLost h q hq)
  have HresA := Lib.hid hres
  clear h ho hA hI hS hres
  go_enter Tryd.func38, Tryd.ntmps38
  go_wp2_with fail
  refine HLo.out.mono ?_
  rintro e w' ⟨rfl, rfl⟩
  have hres := HresA.out
  by_cases hm : 0 < s.many q
  · rw [if_pos hm] at hres
    subst hres
    have t2 : decide (0 < s.many q) = true := dec_t hm
    clear hm
    go_wp2_with fail
    go_ret2
    exact ⟨rfl, HOK.out, Kept.refl F w⟩
  · rw [if_neg hm] at hres
    have t2 : decide (0 < s.many q) = false := dec_f hm
    have HM := Lib.hid hm
    have Hres := Lib.hid hres
    clear hm hres
    go_wp2_with fail
    refine HRw.out.mono ?_
    rintro e w1 ⟨v1, v2, rfl, hP, hL, hB1⟩
    obtain ⟨gp, cp, rfl, hp1, hp2, hp3, hp4, _, _⟩ := owns_pos hP (by omega)
    obtain ⟨gl, cl, rfl, hl1, hl2, hl3, hl4, hl5, hl6⟩ := owns_pos hL (by omega)
    have HP := Lib.hid hP
    have HL := Lib.hid hL
    have HB1 := Lib.hid hB1
    have hz1 := hB1.size
    unfold maxLen at hp4 hl4
    have hps := Ar.S.full_size Ho.out hq HM.out
    have hpf := Ar.S.parts_full Ho.out HM.out
    have hrp : Strs w1 (.slice (some ⟨gp, 0, none⟩) s.n cp) (s.parts q) := (row_of_owns HP.out).1
    have HLc := Lib.hid (rlocate_ok (s.parts q) s.size (by rw [s.parts_len]; omega) (by rw [s.parts_len]; omega) (by rw [hpf]; exact hps) Ho.out.z16 _ w1 hrp)
    unfold RLocPost Gv.locate at HLc
    rw [s.parts_len] at HLc
    clear hP hL hB1 HRw hrp hl5
    have hres := Hres.out
    by_cases hcl : Gv.cleanB (s.parts q) = true
    · rw [if_pos hcl] at hres
      rw [if_pos hcl] at HLc
      subst hres
      have HLc2 : Hid (Calls Tryd.prog 66 #[.slice (some ⟨gp, 0, none⟩) s.n cp] w1 fun e w' => e = .returned (.tuple #[iv (-1), .bool true]) ∧ Below w1.heap.size w1 w') := Lib.hid HLc.out
      clear hps hpf hcl HLc
      go_wp2_with fail
      refine HLc2.out.mono ?_
      rintro e w2 ⟨rfl, hB2⟩
      have HB2 := Lib.hid (HB1.out.trans (hB2.mono hz1))
      clear hB2
      go_wp2_with fail
      go_ret2
      exact ⟨rfl, HOK.out.below HB2.out, Kept.new F HB2.out⟩
    · rw [if_neg hcl] at hres
      rw [if_neg hcl] at HLc
      cases hfi : Gv.findF (s.parts q) s.n 0 with
      | none =>
        rw [hfi] at hres HLc
        simp only at hres
        subst hres
        have HLc2 : Hid (Calls Tryd.prog 66 #[.slice (some ⟨gp, 0, none⟩) s.n cp] w1 fun e w' => e = .returned (.tuple #[iv 0, .bool false]) ∧ Below w1.heap.size w1 w') := Lib.hid HLc.out
        clear hps hpf hcl HLc hfi
        go_wp2_with fail
        refine HLc2.out.mono ?_
        rintro e w2 ⟨rfl, hB2⟩
        have HB2 := Lib.hid (HB1.out.trans (hB2.mono hz1))
        clear hB2
        go_wp2_with fail
        go_ret2
        exact ⟨rfl, HOK.out.below HB2.out, Kept.new F HB2.out⟩
      | some i =>
        rw [hfi] at hres HLc
        simp only at hres
        have hi : i < s.n := by have := (Gv.findF_lt _ _ _ hfi).2; omega
        have HLc2 : Hid (Calls Tryd.prog 66 #[.slice (some ⟨gp, 0, none⟩) s.n cp] w1 fun e w' => e = .returned (.tuple #[iv i, .bool true]) ∧ Below w1.heap.size w1 w') := Lib.hid HLc.out
        have hmc := Ar.S.mend_size Ho.out hq HM.out hi
        have hdl : Ar.dk s.n q i < s.n := Ar.dk_lt (by omega)
        have hok := Ar.S.mended_ok Ho.out hq HM.out hi
        have hms := marks_set (i := i) (s := s) h3 HM.out
        have hlen : (Gv.heal (s.parts q) (Gv.marks2 s.n i i)).length = s.n := by rw [hmc.len]; omega
        have hml : (Gv.marks2 s.n i i).length = (s.parts q).length := by unfold Gv.marks2; rw [s.parts_len]; simp
        have hpz : ∀ j, j < (s.parts q).length → Gv.lo (Gv.marks2 s.n i i) j = false → ((s.parts q).getD j ⟨#[]⟩).size = s.size := fun j hj _ => by rw [hpf]; exact hps _ (Gv.getD_mem (by rw [s.full_len]; rw [s.parts_len] at hj; exact hj))
        have hgo1 : (Gv.goneL (Gv.marks2 s.n i i) s.n).length ≤ 2 := by have := gone_one s.n i; omega
        have hexl : ∃ j, j < s.n ∧ Gv.lo (Gv.marks2 s.n i i) j = false := by
          have hv := Gv.have_len (s.parts q) (Gv.marks2 s.n i i) s.n
          exact Gv.have_ex (ps := s.parts q) (ls := Gv.marks2 s.n i i) s.n (by omega)
        have Hpz := Lib.hid hpz
        have Hexl := Lib.hid hexl
        have Hml := Lib.hid hml
        have Hgo1 := Lib.hid hgo1
        have Hok := Lib.hid hok
        have Hms := Lib.hid hms
        have Hlen := Lib.hid hlen
        have Hres := Lib.hid hres
        clear hps hpf hcl HLc hfi hmc hms hlen hres hok hml hpz hgo1 hexl
        go_wp2_with fail
        refine HLc2.out.mono ?_
        rintro e w2 ⟨rfl, hB2⟩
        have HB2 := Lib.hid (HB1.out.trans (hB2.mono hz1))
        have HP2 := Lib.hid (owns_below HP.out hB2)
        have HL2 := Lib.hid (owns_below HL.out hB2)
        have hz2 := hB2.size
        have m3 : ∃ x, w2.cell? ⟨gl, i, none⟩ = some x := ⟨_, (HL2.out.cellAt i (by omega)).trans (List.getElem?_eq_getElem (by rw [List.length_map, s.marks_len]; exact hi))⟩
        obtain ⟨mx, m3⟩ := m3
        have f3 := HL2.out.frozenAt i
        obtain ⟨w4, hw4⟩ : ∃ w4, w4 = w2.setCell ⟨gl, i, none⟩ (.bool true) := ⟨_, rfl⟩
        have hk4 : Kept (· = gl) w2 w4 := by rw [hw4]; exact (Kept.self gl w2).set1 _ _
        have hst := HL2.out.stored i (.bool true)
        rw [Hms.out, ← hw4] at hst
        have hL4 : BoolR w4 (.slice (some ⟨gl, 0, none⟩) s.n cl) (Gv.marks2 s.n i i) := (row_of_owns hst.1).1
        have hgp : gp ≠ gl := fun e => own_ne HP2.out HL2.out (by decide) gp rfl (by rw [e]; rfl)
        have hP4 : Strs w4 (.slice (some ⟨gp, 0, none⟩) s.n cp) (s.parts q) := (row_of_owns (Kept.owns HP2.out hk4 (fun g hg e => hgp (by cases hg; exact e)))).1
        have HB4 := Lib.hid (HB2.out.trans (hk4.toBelow (B := w.heap.size) HB2.out.size (fun p _ e => by have e2 : p = gl := e; omega)))
        have HHe := Lib.hid (rheal_any (s.parts q) (Gv.marks2 s.n i i) s.size (by rw [s.parts_len]; omega) (by rw [s.parts_len]; omega) Hml.out Hpz.out (by omega) (by rw [s.parts_len]; exact Hexl.out) (by rw [s.parts_len]; exact Hgo1.out) _ _ w4 hP4 hL4)
        have Hw4 := Lib.hid hw4
        have hiI : (i : Int) < (s.n : Int) := by omega
        have hi0 : decide ((i : Int) < 0) = false := dec_f (by omega)
        clear hw4 hk4 hst hL4 hP4 hB2
        go_wp2_with fail
        rw [← Hw4.out]
        refine HHe.out.mono ?_
        rintro e w5 ⟨vh, rfl, hOh, hB5⟩
        obtain ⟨gh, oh, ch, rfl, hgh0, hgz, hh1, hh2, hh3, _⟩ := hOh.at0 (by rw [List.length_map, Hlen.out]; omega)
        have hB4z := HB4.out.size
        rw [List.length_map, Hlen.out] at hh1 hh3 ⊢
        have hb5 := HB4.out.trans (hB5.mono HB4.out.size)
        have HB5 := Lib.hid hb5
        have e0 := hh3 i hi
        rw [List.getElem?_map, List.getElem?_eq_getElem (by rw [Hlen.out]; exact hi)] at e0
        have e1 : (Gv.heal (s.parts q) (Gv.marks2 s.n i i))[i]'(by rw [Hlen.out]; exact hi) = (Gv.heal (s.parts q) (Gv.marks2 s.n i i)).getD i ⟨#[]⟩ := by rw [List.getD_eq_getElem?_getD, List.getElem?_eq_getElem (by rw [Hlen.out]; exact hi)]; rfl
        rw [e1] at e0
        obtain ⟨x, hx9⟩ : ∃ x, x = (Gv.heal (s.parts q) (Gv.marks2 s.n i i)).getD i ⟨#[]⟩ := ⟨_, rfl⟩
        have e0' : w5.cell? ⟨gh, oh + i, none⟩ = some (.string x) := by rw [hx9]; exact e0
        have HLay := Lib.hid (rlayout_any s.n (q : Int) h3 h10 (by omega) (by omega) w5)
        have Hx9 := Lib.hid hx9
        have c0 := (HOK.out.below hb5).n
        have hz5 := hb5.size
        unfold maxLen at hh2
        clear hOh hh3 hB5 hb5 e0 e1 hx9 m3 f3
        go_wp2_with fail
        refine HLay.out.mono ?_
        rintro e w6 ⟨vo, rfl, hO6, hB6⟩
        rw [Int.toNat_natCast, ordN_eq (by omega)] at hO6
        obtain ⟨go, co, rfl, ho1, ho2, ho3, ho4, ho5, _⟩ := owns_pos hO6 (by omega)
        have o5 := (ho5 i hi).trans (ordN_get hi)
        have e6 := (hB6.cell (p := ⟨gh, oh + i, none⟩) hgz).trans e0'
        have hb6 := HB5.out.trans (hB6.mono hz5)
        have HB6 := Lib.hid hb6
        have hA6 := HA.out.below hb6
        obtain ⟨d, hd⟩ : ∃ d, d = Ar.dk s.n q i := ⟨_, rfl⟩
        rw [← hd] at o5 hdl
        have Hd := Lib.hid hd
        have c7 := hA6.c3
        have c8 := hA6.lst.cell hdl
        have c9 := (hA6.row d hdl).cell hq
        have k7 := hA6.rcap d hdl
        have hdI : (d : Int) < (s.n : Int) := by omega
        have hqI : (q : Int) < (s.rows : Int) := by omega
        have HA6 := Lib.hid hA6
        unfold maxLen at k7 ho4
        clear hO6 hB6 hb6 hA6 ho5 hd e0' c0
        go_wp2_with fail
        go_still_tail 13, (by kernel_rfl)
        change wpList _ _ _ _ _ w6.drew
        obtain ⟨wE, hwE⟩ : ∃ wE, wE = w6.drew := ⟨_, rfl⟩
        have hbE : Below w6.heap.size w6 wE := by rw [hwE]; exact (Below.refl _ _).drew
        have hAE := HA6.out.below hbE
        have HKE := Lib.hid ((Kept.new F HB6.out).also (Kept.new F hbE))
        have e9 := (hAE.row d hdl).cell hq
        have y9 := (hAE.row d hdl).fz q
        have HN2 := Lib.hid (hAE.setC hdl hq x)
        rw [← hwE]
        clear hwE hbE c7 c8 c9 o5 e6 hAE
        go_wp2_with fail
        go_ret2
        rw [Hres.out]
        have hsee : ∀ e r, e < (s.mended q i).n → r < (s.mended q i).rows → (s.mended q i).lost e r = false → Ar.up C d (Ar.up (C d) q x) e r = (s.mended q i).c e r := by
          rw [Hd.out, Hx9.out]
          exact setC_see HS.out
        have he : (((Ar.dk s.n q i : Nat) : Int)) = (d : Int) := by rw [Hd.out]
        rw [he]
        exact ⟨rfl, ⟨Hok.out, gc, gf, gb, cc, cf, cb, gr, cr, _, HN2.out, HI.out, hsee⟩, HKE.out.setCell (p := ⟨gr d, q, none⟩) (fun _ => HI.out.2.2.2.2 d hdl) _⟩
end Go.Proofs.YtcldioneiededaaDoor
