/- The reference's array: Rebuild. · The reference's array: Read. -/
import Derived.Test.YtneebcniofolmaaGreatDoorRArZ
import Derived.Test.YtneebcniofolmaaGreatDoorRPqY
import Derived.Test.YtneebcniofolmaaGreatDoorAryT
import Derived.BigQuiet
namespace Go.Proofs.YtneebcniofolmaaGreatDoor
open Go.ChangeShapes Go.WideShapes Go.ChangeAt Go.RowKit
set_option linter.unusedVariables false
variable {F : Nat → Prop} {w : World} {b : Nat} {s : Ar.S}
/-- the reference's Heal at the parts of a row -/
theorem rheal (ho : s.Ok) {row : Nat} (hr : row < s.rows) (h2 : ¬ 2 < s.many row) {v vl : Value} {w : World} (hv : Strs w v (s.parts row)) (hl : BoolR w vl (s.marks row)) :
    Calls Tryz.prog 45 #[v, vl] w fun e w' => ∃ v, e = .returned v ∧ OwnR w' w.heap.size 9 v ((s.heal row).map Value.string) ∧ Below w.heap.size w w' := by
  have h3 := ho.n3
  have h10 := ho.n10
  have hlen := Gv.have_len (s.parts row) (s.marks row) s.n
  rw [s.many_gone ho] at hlen
  have hex := Gv.have_ex (ps := s.parts row) (ls := s.marks row) s.n (by omega)
  refine (rheal_any (s.parts row) (s.marks row) s.size (by rw [s.parts_len]; omega) (by rw [s.parts_len]; omega) (by rw [s.parts_len, s.marks_len]) (fun i hi h0 => Ar.S.part_size ho hr (by rw [s.parts_len] at hi; exact hi) h0) (by have := ho.z16; omega) ?_ (by rw [s.parts_len, s.many_gone ho]; omega) v vl w hv hl).mono ?_
  · obtain ⟨i, hi, h0⟩ := hex
    exact ⟨i, by rw [s.parts_len]; exact hi, h0⟩
  · rintro e w' h
    exact h
def rbC (n r d : Nat) (x : ByteArray) (C : Nat → Nat → ByteArray) (i : Nat) : Nat → Nat → ByteArray := if Ar.ix n r d < i then Ar.up C d (Ar.up (C d) r x) else C
def RRbPost (F : Nat → Prop) (b : Nat) (r : (Int × Int) × Ar.S) (w : World) (e : Ending) (w' : World) : Prop := e = .returned (.tuple #[iv r.1.1, iv r.1.2]) ∧ RAryOk F w' b r.2 ∧ Kept F w w'
theorem built_see {C : Nat → Nat → ByteArray} {d : Nat} (hS : ∀ d r, d < s.n → r < s.rows → s.lost d r = false → C d r = s.c d r) (hf : s.fl d = false) : ∀ e r, e < (s.built d).n → r < (s.built d).rows → (s.built d).lost e r = false → Ar.up C d (Ar.up (C d) (s.bt d) ((s.heal (s.bt d)).getD (Ar.ix s.n (s.bt d) d) ⟨#[]⟩)) e r = (s.built d).c e r := by
  intro e r he hr hl
  show Ar.up C d (Ar.up (C d) (s.bt d) _) e r = (s.setC d (s.bt d) _).c e r
  rw [Ar.S.setC_c]
  by_cases e1 : e = d
  · subst e1
    rw [Ar.up_self]
    by_cases e2 : r = s.bt e
    · rw [e2, Ar.up_self, if_pos ⟨rfl, rfl⟩]
    · rw [Ar.up_ne _ _ e2, if_neg (fun h => e2 h.2)]
      refine hS e r he hr ?_
      have h2 : r < Ar.up s.bt e (s.bt e + 1) e := (Ar.S.lost_lt hl).2
      rw [Ar.up_self] at h2
      unfold Ar.S.lost
      rw [hf, decide_eq_false (by omega)]; rfl
  · rw [Ar.up_ne _ _ e1, if_neg (fun h => e1 h.1)]
    refine hS e r he hr ?_
    have h1 : (s.built d).lost e r = s.lost e r := by
      show (s.fl e || decide (Ar.up s.bt d (s.bt d + 1) e ≤ r)) = _
      rw [Ar.up_ne _ _ e1]; rfl
    rw [← h1]; exact hl
set_option maxRecDepth 100000 in
set_option maxHeartbeats 2000000 in
theorem rRebuild (h : RAryOk F w b s) (x : Int) :
    Calls Tryz.prog 29 #[.pointer (some ⟨b, 0, none⟩), iv x] w (RRbPost F b (s.rebuild x) w) := by
  have HOK := Lib.hid h
  obtain ⟨res, hres⟩ : ∃ res, res = s.rebuild x := ⟨_, rfl⟩
  rw [← hres]
  unfold Ar.S.rebuild at hres
  obtain ⟨ho, gc, gf, gb, cc, cf, cb, gr, cr, C, hA, hI, hS⟩ := h
  have hcaps := hA.caps
  obtain ⟨k1, k2, k3, k4, k5, k6⟩ := hcaps
  unfold maxLen at k2 k4 k6
  have c0 := hA.c0
  by_cases hd : s.has x
  · obtain ⟨d, rfl, hd5⟩ := Ar.S.has_nat hd
    rw [if_pos hd, Int.toNat_natCast] at hres
    have d1 : decide ((d : Int) < 0) = false := dec_f (by omega)
    have d2 : decide ((s.n : Int) ≤ (d : Int)) = false := dec_f (by omega)
    have hdI : (d : Int) < (s.n : Int) := by omega
    have c1 := hA.c1
    have c4 := hA.c4
    have c5 := hA.c5
    have f4 := hA.fls.cell hd5
    have f5 := hA.bts.cell hd5
    have hn := ho.n3
    have hn10 := ho.n10
    have hr20 := ho.r20
    have hbt := ho.bt d hd5
    have HA := Lib.hid hA
    have HI := Lib.hid hI
    have HS := Lib.hid hS
    have Ho := Lib.hid ho
    obtain ⟨f, hf⟩ : ∃ f, f = s.fl d := ⟨_, rfl⟩
    obtain ⟨r, hr⟩ : ∃ r, r = s.bt d := ⟨_, rfl⟩
    rw [← hf] at f4
    rw [← hr] at f5 hbt
    rw [← hf, ← hr] at hres
    have Hf := Lib.hid hf
    have Hr := Lib.hid hr
    have Hres := Lib.hid hres
    clear hA hI hS ho hd hres hf hr
    cases f with
    | true =>
      have hres : res = ((0, 6), s) := by rw [Hres.out, if_pos (.inl rfl)]
      subst hres
      go_enter Tryz.func29, Tryz.ntmps29
      go_wp2_with fail
      go_quiet (fail)
      go_wp2_with fail
      go_ret2
      exact ⟨rfl, HOK.out.below (bdrew (Below.refl _ _) _), Kept.new F (bdrew (Below.refl _ _) _)⟩
    | false =>
      by_cases hrr : r = s.rows
      · have hres : res = ((0, 6), s) := by rw [Hres.out, if_pos (.inr hrr)]
        subst hres
        have t1 : ((r : Int) == (s.rows : Int)) = true := beq_t (by omega)
        clear hrr
        go_enter Tryz.func29, Tryz.ntmps29
        go_wp2_with fail
        go_quiet (fail)
        go_wp2_with fail
        go_ret2
        exact ⟨rfl, HOK.out.below (bdrew (Below.refl _ _) _), Kept.new F (bdrew (Below.refl _ _) _)⟩
      · have hrow : r < s.rows := by omega
        have hres := Hres.out
        rw [if_neg (by rintro (h | h); · cases h
                       · exact hrr h)] at hres
        have Hres := Lib.hid hres
        have t1 : ((r : Int) == (s.rows : Int)) = false := beq_f (by omega)
        clear hres hrr
        go_enter Tryz.func29, Tryz.ntmps29
        go_wp2_with fail
        go_quiet (fail)
        obtain ⟨wA, hwA⟩ : ∃ wA, wA = w.drewN nq := ⟨_, rfl⟩
        have hBA : Below w.heap.size w wA := by rw [hwA]; exact bdrew (Below.refl _ _) nq
        have HBA := Lib.hid hBA
        have HAA := Lib.hid (HA.out.below hBA)
        have HOA := Lib.hid (HOK.out.below hBA)
        have g0 := HAA.out.c0
        have g1 := HAA.out.c1
        have g5 := HAA.out.c5
        have h5 : wA.cell? ⟨gb, d, none⟩ = some (iv r) := by have := HAA.out.bts.cell hd5; rw [← Hr.out] at this; exact this
        have hzA := hBA.size
        have HLo := Lib.hid (rLost HOA.out r hrow)
        rw [← hwA]
        clear hwA hBA c0 c1 c4 c5 f4 f5 HOK
        go_wp2_with fail
        refine HLo.out.mono ?_
        rintro e w' ⟨rfl, rfl⟩
        by_cases hm : 2 < s.many r
        · have hres : res = ((0, 8), s) := by rw [Hres.out, if_pos hm]
          subst hres
          have t2 : decide (2 < (s.many r : Int)) = true := dec_t (by omega)
          clear hm
          go_wp2_with fail
          go_ret2
          exact ⟨rfl, HOA.out, Kept.new F HBA.out⟩
        · have t2 : decide (2 < (s.many r : Int)) = false := dec_f (by omega)
          have hres : res = (((s.rows : Int) - (r + 1), 0), s.built d) := by rw [Hres.out, if_neg hm]
          have Hres := Lib.hid hres
          have Hm := Lib.hid hm
          have HRw := Lib.hid (rRaw HOA.out r hrow)
          clear hres hm
          go_wp2_with fail
          refine HRw.out.mono ?_
          rintro e w2 ⟨v1, v2, rfl, hP, hL, hB2⟩
          have HHe := Lib.hid (rheal Ho.out hrow Hm.out (v := v1) (vl := v2) (row_of_owns hP).1 (row_of_owns hL).1)
          have HB2 := Lib.hid (HBA.out.trans (hB2.mono hzA))
          have hz2 := HB2.out.size
          clear hP hL hB2 HRw
          go_wp2_with fail
          refine HHe.out.mono ?_
          rintro e w3 ⟨vh, rfl, hOh, hB3⟩
          have HB3 := Lib.hid (HB2.out.trans (hB3.mono hz2))
          have hz3 := HB3.out.size
          have HLay := Lib.hid (rlayout_any s.n (r : Int) hn hn10 (by omega) (by omega) w3)
          have j0 := (HA.out.below HB3.out).c0
          have HOh := Lib.hid hOh
          clear hOh hB3 HHe g0 g5 h5
          go_wp2_with fail
          refine HLay.out.mono ?_
          rintro e w4 ⟨vo, rfl, hO4, hB4⟩
          rw [Int.toNat_natCast, ordN_eq (by omega)] at hO4
          obtain ⟨go, co, rfl, ho1, ho2, ho3, ho4, ho5, _⟩ := owns_pos hO4 (by omega)
          have HB4 := Lib.hid (HB3.out.trans (hB4.mono hz3))
          have hOh4 := HOh.out.below hB4
          have hcw := Ar.S.heal_cw Ho.out hrow Hm.out
          have hlen : (s.heal r).length = s.n := by have := hcw.len; omega
          obtain ⟨gh, oh, ch, rfl, hh0, hhz, hh1, hh2, hh3, hh4⟩ := hOh4.at0 (by rw [List.length_map]; omega)
          rw [List.length_map, hlen] at hh1 hh3 ⊢
          have od4 : ∀ i, i < s.n → w4.cell? ⟨go, i, none⟩ = some (iv (Ar.dk s.n r i)) := fun i hi => (ho5 i hi).trans (ordN_get hi)
          have hl4 : ∀ i, i < s.n → w4.cell? ⟨gh, oh + i, none⟩ = some (.string ((s.heal r).getD i ⟨#[]⟩)) := fun i hi => by
            rw [hh3 i hi, List.getElem?_map, List.getElem?_eq_getElem (by omega), List.getD_eq_getElem?_getD, List.getElem?_eq_getElem (by omega)]; rfl
          have Hod4 := Lib.hid od4
          have Hl4 := Lib.hid hl4
          obtain ⟨y, hy9⟩ : ∃ y, y = (s.heal r).getD (Ar.ix s.n r d) ⟨#[]⟩ := ⟨_, rfl⟩
          have HA4 : Hid (RAryAt w4 b gc gf gb cc cf cb gr cr s.n s.rows s.size s.fl s.bt (rbC s.n r d y C 0)) := Lib.hid (by unfold rbC; rw [if_neg (by omega)]; exact HA.out.below HB4.out)
          have Hy9 := Lib.hid hy9
          have hz4 := HB4.out.size
          have hsee := built_see (s := s) HS.out Hf.out.symm
          rw [← Hr.out, ← hy9] at hsee
          have hok := Ar.S.built_ok Ho.out hd5 (by rw [← Hr.out]; exact hrow) (by rw [← Hr.out]; exact Hm.out) Hf.out.symm
          have Hsee := Lib.hid hsee
          have Hok := Lib.hid hok
          unfold maxLen at ho4 hh2
          clear hO4 hB4 hOh4 hcw hlen ho5 hh3 hh4 od4 hl4 hy9 hsee hok j0 HOh HLay
          go_wp2_with fail
          go_loopg [11] s.n (fun gk v11 wr => ∃ i : Nat, i + gk = s.n ∧ v11 = iv i ∧ RAryAt wr b gc gf gb cc cf cb gr cr s.n s.rows s.size s.fl s.bt (rbC s.n r d y C i) ∧ Kept (fun p => p < w.heap.size ∧ F p) w4 wr)
          case atStart => exact ⟨0, by omega, rfl, HA4.out, Kept.refl _ _⟩
          case round =>
            obtain ⟨i, hi, rfl, hAr, hKr⟩ := hrel
            have Hi := Lib.hid hi
            have HAr := Lib.hid hAr
            have HKr := Lib.hid hKr
            have hdw := (HA.out.row d hd5).lt
            clear HA4 hi hAr hKr
            by_cases hlt : i < s.n
            · have o5 := HKr.out.cell (Hod4.out i hlt) (fun h => by omega)
              have l5 := HKr.out.cell (Hl4.out i hlt) (fun h => by omega)
              have hix := Ar.ix_dk (n := s.n) (row := r) (j := i) (by omega) (by omega) hlt
              have hdi := Ar.dk_ix (n := s.n) (row := r) (d := d) (by omega) (by omega) hd5
              by_cases hq : Ar.dk s.n r i = d
              · have hii : Ar.ix s.n r d = i := by rw [← hq]; exact hix
                rw [hq] at o5
                have hgd : (s.heal r).getD i ⟨#[]⟩ = y := by rw [Hy9.out, hii]
                rw [hgd] at l5
                have h0 : rbC s.n r d y C i = C := by unfold rbC; rw [hii, if_neg (by omega)]
                have h1 : rbC s.n r d y C (i + 1) = Ar.up C d (Ar.up (C d) r y) := by unfold rbC; rw [hii, if_pos (by omega)]
                have hAr2 := HAr.out
                rw [h0] at hAr2
                have H1 := Lib.hid h1
                have c7 := hAr2.c3
                have c8 := hAr2.lst.cell hd5
                have c9 := (hAr2.row d hd5).cell hrow
                have z9 := (hAr2.row d hd5).fz r
                have HAr2 := Lib.hid hAr2
                have k7 := hAr2.rcap d hd5
                unfold maxLen at k7
                have hrI : (r : Int) < (s.rows : Int) := by omega
                clear hq hix hdi hii hgd h0 h1 hAr2
                go_wp2_with fail
                go_still_tail 13, (by kernel_rfl)
                change wpList _ _ _ _ _ wr.drew
                obtain ⟨wE, hwE⟩ : ∃ wE, wE = wr.drew := ⟨_, rfl⟩
                have hbE : Below wr.heap.size wr wE := by rw [hwE]; exact (Below.refl _ _).drew
                have hAE := HAr2.out.below hbE
                have HKE := Lib.hid (HKr.out.also (Kept.new _ hbE))
                have e9 := (hAE.row d hd5).cell hrow
                have y9 := (hAE.row d hd5).fz r
                have HN2 := Lib.hid (hAE.setC hd5 hrow y)
                rw [← hwE]
                clear hwE hbE c7 c8 c9 z9 o5 l5 hAE
                go_wp2_with fail
                go_roundg (gk - 1)
                case measure => have := Hi.out; omega
                case rel => exact ⟨i + 1, by have := Hi.out; omega, by go_num, by rw [H1.out]; exact HN2.out, HKE.out.setCell (p := ⟨gr d, r, none⟩) (fun _ => ⟨hdw, HI.out.2.2.2.2 d hd5⟩) _⟩
              · have hii : Ar.ix s.n r d ≠ i := fun e => hq (by rw [← e]; exact hdi)
                have h1 : rbC s.n r d y C (i + 1) = rbC s.n r d y C i := by
                  unfold rbC
                  by_cases h2 : Ar.ix s.n r d < i
                  · rw [if_pos h2, if_pos (by omega)]
                  · rw [if_neg h2, if_neg (by omega)]
                have HAr2 : Hid (RAryAt wr b gc gf gb cc cf cb gr cr s.n s.rows s.size s.fl s.bt (rbC s.n r d y C (i + 1))) := Lib.hid (by rw [h1]; exact HAr.out)
                have hne : ((Ar.dk s.n r i : Int) == (d : Int)) = false := beq_f (by omega)
                clear hii hix hdi hq h1
                generalize Ar.dk s.n r i = d2 at *
                go_wp2_with fail
                go_roundg (gk - 1)
                case measure => have := Hi.out; omega
                case rel => exact ⟨i + 1, by have := Hi.out; omega, by go_num, HAr2.out, HKr.out⟩
            · have hin : i = s.n := by have := Hi.out; omega
              have hAr2 := HAr.out
              have hlt2 : Ar.ix s.n r d < i := by rw [hin]; exact Ar.ix_lt (by omega)
              unfold rbC at hAr2
              rw [if_pos hlt2] at hAr2
              have c7 := hAr2.bts.cell hd5
              rw [← Hr.out] at c7
              have c8 := hAr2.c5
              have z8 := hAr2.bts.fz d
              have hAf := hAr2.setB hd5 (r + 1)
              have hkf : Kept F w (wr.setCell ⟨gb, d, none⟩ (iv ((r + 1 : Nat) : Int))) := (((Kept.new F HB4.out).also (HKr.out.mono (fun p _ h => h.2)))).setCell (p := ⟨gb, d, none⟩) (fun _ => HI.out.2.2.2.1) _
              have e1 : ((r + 1 : Nat) : Int) = (r : Int) + 1 := by omega
              rw [e1] at hAf hkf
              obtain ⟨wZ, hwZ⟩ : ∃ wZ, wZ = wr.setCell ⟨gb, d, none⟩ (iv ((r : Int) + 1)) := ⟨_, rfl⟩
              rw [← hwZ] at hAf hkf
              have HAf := Lib.hid hAf
              have Hkf := Lib.hid hkf
              have c9 := hAf.bts.cell hd5
              rw [Ar.up_self, e1] at c9
              have c10 := hAf.c1
              have c11 := hAf.c5
              have HwZ := Lib.hid hwZ
              clear hlt2 hAr2 hAf hkf e1 hwZ
              go_wp2_with fail
              rw [← HwZ.out]
              clear HwZ
              go_quiet (fail)
              go_wp2_with fail
              go_ret2
              have h9 := HAf.out.below (bdrew (Below.refl _ _) nq)
              rw [Hres.out]
              refine ⟨rfl, ⟨Hok.out, gc, gf, gb, cc, cf, cb, gr, cr, _, ?_, HI.out, Hsee.out⟩, Hkf.out.drewN nq⟩
              rw [Hr.out] at h9 ⊢
              exact h9
  · have hres2 : res = ((0, 1), s) := by rw [hres, if_neg hd]
    subst hres2
    rcases not_has s hd with h0 | ⟨h0, h1⟩
    · have d1 : decide (x < 0) = true := dec_t h0
      clear hA hI hS ho hd hres
      go_enter Tryz.func29, Tryz.ntmps29
      go_wp2_with fail
      go_ret2
      exact ⟨rfl, HOK.out, Kept.refl F w⟩
    · have d1 : decide (x < 0) = false := dec_f (by omega)
      have d2 : decide ((s.n : Int) ≤ x) = true := dec_t h1
      clear hA hI hS ho hd hres
      go_enter Tryz.func29, Tryz.ntmps29
      go_wp2_with fail
      go_ret2
      exact ⟨rfl, HOK.out, Kept.refl F w⟩
end Go.Proofs.YtneebcniofolmaaGreatDoor
namespace Go.Proofs.YtneebcniofolmaaGreatDoor
open Go.ChangeShapes Go.WideShapes Go.ChangeAt Go.RowKit
set_option linter.unusedVariables false
variable {F : Nat → Prop} {w : World} {b : Nat} {s : Ar.S}
theorem not_hasBlock (s : Ar.S) {x : Int} {m : Nat} (hm : m = s.rows * (s.n - 2)) (h : ¬ s.hasBlock x) : x < 0 ∨ (0 ≤ x ∧ (m : Int) ≤ x) := by
  unfold Ar.S.hasBlock at h
  rw [← hm] at h
  by_cases h0 : x < 0
  · exact .inl h0
  · exact .inr ⟨by omega, by apply Classical.byContradiction; intro h1; exact h ⟨by omega, by omega⟩⟩
theorem quo_row {n y r j : Nat} (hn : 3 ≤ n) (hr : r = y / (n - 2)) (hj : j = y % (n - 2)) (hr9 : r < 100) : (y : Int) / ((n : Int) - 2) = (r : Int) ∧ wrap64 ((y : Int) / ((n : Int) - 2)) = (r : Int) ∧ IntKind.i64.wrap ((y : Int) / ((n : Int) - 2)) = (r : Int) ∧ ¬ ((n : Int) - 2 = 0) ∧ (y : Int) % ((n : Int) - 2) = (j : Int) := by
  have e : (n : Int) - 2 = ((n - 2 : Nat) : Int) := by omega
  have q : (y : Int) / ((n : Int) - 2) = (r : Int) := by rw [e, hr]; exact (Int.natCast_ediv _ _).symm
  refine ⟨q, by rw [q]; exact IntWalk.wrap64_in _ (by omega), by rw [q]; exact IntWalk.i64_in _ (by omega), by omega, by rw [e, hj]; exact (Int.natCast_emod _ _).symm⟩
theorem rem_row {n y j : Nat} (hn : 3 ≤ n) (hj : (y : Int) % ((n : Int) - 2) = (j : Int)) (hj9 : j < 100) : (y : Int).tmod ((n : Int) - 2) = (j : Int) ∧ IntKind.i64.wrap (j : Int) = (j : Int) ∧ (((n : Int) - 2) == 0) = false := by
  refine ⟨by rw [Int.tmod_eq_emod_of_nonneg (by omega)]; exact hj, IntWalk.i64_in _ (by omega), beq_f (by omega)⟩
set_option maxRecDepth 100000 in
set_option maxHeartbeats 2000000 in
theorem rRead (h : RAryOk F w b s) (x : Int) (hx : x ≤ 9223372036854775807) (hx0 : -9223372036854775808 ≤ x) :
    Calls Tryz.prog 25 #[.pointer (some ⟨b, 0, none⟩), iv x] w fun e w' => e = .returned (.tuple #[.string (s.read x).1, iv (s.read x).2]) ∧ Below w.heap.size w w' := by
  have HOK := Lib.hid h
  have c0 := h.n
  have c1 := h.r
  have ho := h.1
  have Ho := Lib.hid ho
  obtain ⟨res, hres⟩ : ∃ res, res = s.read x := ⟨_, rfl⟩
  rw [← hres]
  unfold Ar.S.read at hres
  have hn := ho.n3
  have hn10 := ho.n10
  have hr20 := ho.r20
  have hm9 : s.rows * (s.n - 2) ≤ 20 * 8 := Nat.mul_le_mul hr20 (by omega)
  obtain ⟨m, hm⟩ : ∃ m, m = s.rows * (s.n - 2) := ⟨_, rfl⟩
  have hmI : (s.rows : Int) * ((s.n : Int) - 2) = (m : Int) := by rw [hm, Int.natCast_mul, show ((s.n - 2 : Nat) : Int) = (s.n : Int) - 2 by omega]
  rw [← hm] at hm9
  have hw1 : IntKind.i64.wrap ((s.n : Int) - 2) = (s.n : Int) - 2 := IntWalk.i64_in _ (by omega)
  have hw2 : IntKind.i64.wrap ((s.rows : Int) * ((s.n : Int) - 2)) = (m : Int) := by rw [hmI]; exact IntWalk.i64_in _ (by omega)
  have Hm := Lib.hid hm
  clear hm hmI
  by_cases hb : s.hasBlock x
  · obtain ⟨y, rfl, hy⟩ := Ar.S.hasBlock_nat hb
    rw [if_pos hb, Int.toNat_natCast] at hres
    rw [← Hm.out] at hy
    have d1 : decide ((y : Int) < 0) = false := dec_f (by omega)
    have d2 : decide ((m : Int) ≤ (y : Int)) = false := dec_f (by omega)
    have hrow := Ar.S.row_lt ho (by rw [← Hm.out]; exact hy)
    have hj : y % (s.n - 2) < s.n := by have := Nat.mod_lt y (show s.n - 2 > 0 by omega); omega
    unfold Ar.S.readAt at hres
    obtain ⟨r, hr⟩ : ∃ r, r = y / (s.n - 2) := ⟨_, rfl⟩
    obtain ⟨j, hj0⟩ : ∃ j, j = y % (s.n - 2) := ⟨_, rfl⟩
    rw [← hr, ← hj0] at hres
    rw [← hr] at hrow
    rw [← hj0] at hj
    have hq := quo_row (n := s.n) (y := y) hn hr hj0 (by omega)
    have Hq := Lib.hid hq
    have Hres := Lib.hid hres
    have HRw := Lib.hid (rRaw h r hrow)
    clear hr hj0 hb h ho hres hq
    obtain ⟨_, q2, q3, q0, q1⟩ := Hq.out
    go_enter Tryz.func25, Tryz.ntmps25
    go_wp2_with fail
    refine HRw.out.mono ?_
    rintro e w2 ⟨v1, v2, rfl, hP, hL, hB2⟩
    have HHe := Lib.hid (fun (hm : ¬ 2 < s.many r) (w' : World) (hb : Below w2.heap.size w2 w') => rheal Ho.out hrow hm (v := v1) (vl := v2) (Row.below (row_of_owns hP).1 hb) (Row.below (row_of_owns hL).1 hb))
    obtain ⟨gl, cl, rfl, hl1, hl2, hl3, hl4, hl5, _⟩ := owns_pos hL (by omega)
    obtain ⟨gp, cp, rfl, hp1, hp2, hp3, hp4, hp5, _⟩ := owns_pos hP (by omega)
    have mk : w2.cell? ⟨gl, j, none⟩ = some (.bool (s.lost (Ar.dk s.n r j) r)) := (hl5 j hj).trans (by
      unfold Ar.S.marks
      rw [List.getElem?_map, List.getElem?_map, List.getElem?_range hj]; rfl)
    have pk : w2.cell? ⟨gp, j, none⟩ = some (.string (s.part r j)) := (hp5 j hj).trans (by
      unfold Ar.S.parts
      rw [List.getElem?_map, List.getElem?_map, List.getElem?_range hj]; rfl)
    have HB2 := Lib.hid hB2
    have hz2 := hB2.size
    have HO2 := Lib.hid (HOK.out.below hB2)
    have hps : s.part r j = if s.lost (Ar.dk s.n r j) r then ⟨#[]⟩ else s.c (Ar.dk s.n r j) r := rfl
    unfold maxLen at hl4 hp4
    clear hP hL hB2 HRw hl5 hp5 c0 c1
    obtain ⟨f, hf⟩ : ∃ f, f = s.lost (Ar.dk s.n r j) r := ⟨_, rfl⟩
    have hres := Hres.out
    rw [← hf] at mk hps hres
    cases f with
    | false =>
      rw [if_neg (by decide)] at hps
      rw [if_pos rfl, ← hps] at hres
      obtain ⟨x, hx9⟩ : ∃ x, x = s.part r j := ⟨_, rfl⟩
      rw [← hx9] at hres pk
      subst hres
      clear hx9 hps hf
      go_wp2_with fail
      go_ret2
      exact ⟨rfl, HB2.out⟩
    | true =>
      rw [if_neg (by decide)] at hres
      have HLo := Lib.hid (rLost HO2.out r hrow)
      have Hres := Lib.hid hres
      clear hres hps hf
      go_wp2_with fail
      refine HLo.out.mono ?_
      rintro e w' ⟨rfl, rfl⟩
      by_cases hm : 2 < s.many r
      · have hres : res = (⟨#[]⟩, 8) := by rw [Hres.out, if_pos hm]
        subst hres
        have t2 : decide (2 < (s.many r : Int)) = true := dec_t (by omega)
        clear hm
        go_wp2_with fail
        go_ret2
        exact ⟨rfl, HB2.out⟩
      · have hres : res = ((s.heal r).getD j ⟨#[]⟩, 0) := by rw [Hres.out, if_neg hm]
        have t2 : decide (2 < (s.many r : Int)) = false := dec_f (by omega)
        have HH := Lib.hid (HHe.out hm)
        have hlen : (s.heal r).length = s.n := by have := (Ar.S.heal_cw Ho.out hrow hm).len; omega
        have Hlen := Lib.hid hlen
        obtain ⟨x, hx9⟩ : ∃ x, x = (s.heal r).getD j ⟨#[]⟩ := ⟨_, rfl⟩
        rw [← hx9] at hres
        subst hres
        have Hx9 := Lib.hid hx9
        clear hm hlen hx9
        obtain ⟨hw2', hw3, hw4⟩ := rem_row (n := s.n) (y := y) hn q1 (by omega)
        have hjI : (j : Int) < (s.n : Int) := by omega
        go_wp2_with fail
        go_region_with (go_at_call 45; refine (HH.out _ (bdrew (Below.refl _ _) 1)).mono ?_; rintro e w3 ⟨vh, rfl, hOh, hB3⟩; obtain ⟨gh, oh, ch, rfl, hh0, hhz, hh1, hh2, hh3, hh4⟩ := hOh.at0 (by rw [List.length_map, Hlen.out]; omega); rw [List.length_map, Hlen.out] at hh1 hh3; rw [List.length_map, Hlen.out]; have e0 : w3.cell? ⟨gh, oh + j, none⟩ = some (.string x) := (by {rw [hh3 j hj, List.getElem?_map, List.getElem?_eq_getElem (by rw [Hlen.out]; omega), Hx9.out, List.getD_eq_getElem?_getD, List.getElem?_eq_getElem (by rw [Hlen.out]; omega)]; rfl}); unfold maxLen at hh2; have HB3 := Lib.hid (HB2.out.trans ((bdrew (Below.refl _ _) 1).trans (hB3.mono (Nat.le_refl _)) |>.mono hz2)); clear hOh hh3 hh4 hB3)
        all_goals
          go_wp2_with fail
          go_ret2
          exact ⟨rfl, HB3.out⟩
  · rw [if_neg hb] at hres
    subst hres
    rcases not_hasBlock s Hm.out hb with h0 | ⟨h0, h1⟩
    · have d1 : decide (x < 0) = true := dec_t h0
      clear h hb ho
      go_enter Tryz.func25, Tryz.ntmps25
      go_wp2_with fail
      go_ret2
      exact ⟨rfl, Below.refl _ _⟩
    · have d1 : decide (x < 0) = false := dec_f (by omega)
      have d2 : decide ((m : Int) ≤ x) = true := dec_t h1
      clear h hb ho
      go_enter Tryz.func25, Tryz.ntmps25
      go_wp2_with fail
      go_ret2
      exact ⟨rfl, Below.refl _ _⟩
end Go.Proofs.YtneebcniofolmaaGreatDoor
