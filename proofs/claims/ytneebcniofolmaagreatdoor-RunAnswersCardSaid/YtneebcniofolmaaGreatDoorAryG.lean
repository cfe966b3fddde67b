/- The array of disks: Rebuild. -/
import Derived.Test.YtneebcniofolmaaGreatDoorAryT
namespace Go.Proofs.YtneebcniofolmaaGreatDoor
open Go.ChangeShapes Go.WideShapes Go.ChangeAt Go.RowKit
set_option linter.unusedVariables false
variable {F : Nat → Prop} {K : Nat} {w : World} {b : Nat} {s : Ar.S}
def rbMs (s : Ar.S) (ms : Nat → Dk.D) (r d : Nat) (x : ByteArray) (i : Nat) : Nat → Dk.D := if Ar.ix s.n r d < i then Ar.up ms d ((ms d).write (r : Int) x).2 else ms
theorem rbMs_see {ms : Nat → Dk.D} {d : Nat} (h : ArySee K s ms) (ho : s.Ok) (hd : d < s.n) (hf : s.fl d = false) (hr : s.bt d < s.rows) (hm : ¬ 2 < s.many (s.bt d)) : ArySee (K + 1) (s.built d) (Ar.up ms d ((ms d).write (s.bt d : Int) ((s.heal (s.bt d)).getD (Ar.ix s.n (s.bt d) d) ⟨#[]⟩)).2) := by
  have h3 := ho.n3
  have hx := Ar.S.heal_size ho hr hm (Ar.ix_lt (n := s.n) (row := s.bt d) (d := d) (by omega))
  have hr20 := ho.r20
  rw [h.write_eq hd hf hr hx]
  generalize hg : (s.heal (s.bt d)).getD (Ar.ix s.n (s.bt d) d) ⟨#[]⟩ = x at *
  have hc : ∀ e r, (s.built d).c e r = if e = d ∧ r = s.bt d then x else s.c e r := fun e r => by
    show (s.setC d (s.bt d) _).c e r = _
    rw [Ar.S.setC_c, hg]
  refine h.turn rfl rfl rfl (by omega) (h.mn d hd) (h.sz d hd) ?_ (h.fl d hd) (by have := h.wr d hd; show (ms d).writes + 1 ≤ K + 1; omega) ?_ (fun e he => rfl) (fun e he => Ar.up_ne _ _ he) (fun e r he => by rw [hc, if_neg (fun h => he h.1)])
  · show ((ms d).rows.set _ x).length = 20
    rw [List.length_set]; exact h.ln d hd
  · intro r hr' hl
    have h1 : r < Ar.up s.bt d (s.bt d + 1) d := (Ar.S.lost_lt hl).2
    rw [Ar.up_self] at h1
    rw [hc]
    show ((ms d).rows.set (s.bt d) x).getD r ⟨#[]⟩ = _
    rw [Gv.set_getD (by rw [h.ln d hd]; omega)]
    by_cases e1 : r = s.bt d
    · rw [if_pos e1, if_pos ⟨rfl, e1⟩]
    · rw [if_neg e1, if_neg (fun h => e1 h.2)]
      refine h.cl d r hd hr' ?_
      unfold Ar.S.lost
      rw [hf, decide_eq_false (by omega)]; rfl
def RbRel (s : Ar.S) (ms : Nat → Dk.D) (b g c : Nat) (mb db : Nat → Nat) (r d : Nat) (x : ByteArray) (T : Nat → Prop) (w4 : World) (gk : Nat) (v72 : Value) (wr : World) : Prop :=
  ∃ i : Nat, i + gk = s.n ∧ v72 = iv i ∧ AryAt wr b g c mb db s.n s.rows s.size (rbMs s ms r d x i) s.bt ∧ Kept T w4 wr
def RbPost (F : Nat → Prop) (K b : Nat) (r : (Int × Int) × Ar.S) (w : World) (e : Ending) (w' : World) : Prop := e = .returned (.tuple #[iv r.1.1, errV r.1.2]) ∧ AryOk F K w' b r.2 ∧ Kept F w w'
set_option maxRecDepth 100000 in
set_option maxHeartbeats 2000000 in
theorem aRebuild (h : AryOk F K w b s) (hK : K < 1000000) (x : Int) :
    Calls Tryz.prog 85 #[.pointer (some ⟨b, 0, none⟩), iv x] w (RbPost F (K + 1) b (s.rebuild x) w) := by
  have HOK := Lib.hid (h.more (K' := K + 1) (by omega))
  obtain ⟨ho, g, c, mb, db, ms, hA, hI, hS⟩ := h
  have HH := Lib.hid (ahas_any hA x)
  rw [hasB_has] at HH
  obtain ⟨res, hres⟩ : ∃ res, res = s.rebuild x := ⟨_, rfl⟩
  rw [← hres]
  unfold Ar.S.rebuild at hres
  by_cases hd : s.has x
  · obtain ⟨d, rfl, hd5⟩ := Ar.S.has_nat hd
    rw [dec_t hd] at HH
    rw [if_pos hd, Int.toNat_natCast] at hres
    have c0 := hA.c0
    have c1 := hA.lst d hd5
    have c2 := hA.m0 hd5
    have c3 := hA.m1 hd5
    have c4 := hA.c1
    have hc1 := hA.cap.1
    have hc2 := hA.cap.2
    unfold maxLen at hc2
    have hn := ho.n3
    have hn10 := ho.n10
    have hr20 := ho.r20
    have hbt := ho.bt d hd5
    have HWk : Hid (∀ k, Calls Tryz.prog 109 #[.pointer (some ⟨db d, 0, none⟩)] (w.drewN k) fun e w' => e = .returned (.bool (!(ms d).failed)) ∧ w.drewN k = w') := Lib.hid (fun k => works_any ((hA.below (bdrew (Below.refl _ _) k)).dsk d hd5))
    have hfe := hS.fl d hd5
    rw [hfe] at HWk
    have HA := Lib.hid hA
    have HI := Lib.hid hI
    have HS := Lib.hid hS
    have Ho := Lib.hid ho
    obtain ⟨f, hf⟩ : ∃ f, f = s.fl d := ⟨_, rfl⟩
    obtain ⟨r, hr⟩ : ∃ r, r = s.bt d := ⟨_, rfl⟩
    rw [← hf] at HWk
    rw [← hr] at c3 hbt
    rw [← hf, ← hr] at hres
    have Hf := Lib.hid hf
    have Hr := Lib.hid hr
    have Hres := Lib.hid hres
    clear hA hI hS ho hd hres hf hr hfe
    cases f with
    | true =>
      have hres : res = ((0, 6), s) := by rw [Hres.out, if_pos (.inl rfl)]
      subst hres
      go_enter Tryz.func85, Tryz.ntmps85
      go_wp2_with fail
      refine HH.out.mono ?_
      rintro e w' ⟨rfl, rfl⟩
      go_wp2_with fail
      go_quiet ((go_at_call 109; exact quiet_left (HWk.out _)))
      go_wp2_with fail
      go_ret2
      exact ⟨rfl, HOK.out.below (bdrew (Below.refl _ _) _), Kept.new F (bdrew (Below.refl _ _) _)⟩
    | false =>
      by_cases hrr : r = s.rows
      · have hres : res = ((0, 6), s) := by rw [Hres.out, if_pos (.inr hrr)]
        subst hres
        have t1 : ((r : Int) == (s.rows : Int)) = true := beq_t (by omega)
        clear hrr
        go_enter Tryz.func85, Tryz.ntmps85
        go_wp2_with fail
        refine HH.out.mono ?_
        rintro e w' ⟨rfl, rfl⟩
        go_wp2_with fail
        go_quiet ((go_at_call 109; exact quiet_left (HWk.out _)))
        go_wp2_with fail
        go_ret2
        exact ⟨rfl, HOK.out.below (bdrew (Below.refl _ _) _), Kept.new F (bdrew (Below.refl _ _) _)⟩
      · have hrow : r < s.rows := by omega
        have hres := Hres.out
        rw [if_neg (by rintro (h | h); · cases h
                       · exact hrr h)] at hres
        have Hres := Lib.hid hres
        have t1 : ((r : Int) == (s.rows : Int)) = false := beq_f (by omega)
        clear hres hrr
        go_enter Tryz.func85, Tryz.ntmps85
        go_wp2_with fail
        refine HH.out.mono ?_
        rintro e w' ⟨rfl, rfl⟩
        go_wp2_with fail
        go_quiet ((go_at_call 109; exact quiet_left (HWk.out _)))
        obtain ⟨wA, hwA⟩ : ∃ wA, wA = w.drewN nq := ⟨_, rfl⟩
        have hBA : Below w.heap.size w wA := by rw [hwA]; exact bdrew (Below.refl _ _) nq
        have HBA := Lib.hid hBA
        have HAA := Lib.hid (HA.out.below hBA)
        have c3A : wA.cell? ⟨mb d, 1, none⟩ = some (iv r) := by have := HAA.out.m1 hd5; rw [← Hr.out] at this; exact this
        have hzA := hBA.size
        have HP := Lib.hid (aparts_s HAA.out Ho.out HS.out hrow)
        rw [← hwA]
        clear hwA hBA
        go_wp2_with fail
        refine HP.out.mono ?_
        rintro e w2 ⟨v1, v2, v3, rfl, hP, hL, hO, hB2⟩
        have HHe := Lib.hid (aheal Ho.out hrow (v := v1) (vl := v2) (row_of_owns hP).1 (row_of_owns hL).1)
        obtain ⟨go, co, rfl, ho1, ho2, ho3, ho4, ho5, _⟩ := owns_pos hO (by omega)
        have od : ∀ i, i < s.n → w2.cell? ⟨go, i, none⟩ = some (iv (Ar.dk s.n r i)) := fun i hi => (ho5 i hi).trans (ordN_get hi)
        have HB2 := Lib.hid (HBA.out.trans (hB2.mono hzA))
        have Hod := Lib.hid od
        have hz2 := HB2.out.size
        unfold maxLen at ho4
        clear hP hL hO hB2 HP ho5 od c3A
        go_wp2_with fail
        refine HHe.out.mono ?_
        rintro e w3 ⟨hy1, hn1, hB3⟩
        by_cases hm : 2 < s.many r
        · have HB3 := Lib.hid (HB2.out.trans (hB3.mono hz2))
          have he := hn1 hm
          subst he
          have hres : res = ((0, 8), s) := by rw [Hres.out, if_pos hm]
          subst hres
          clear hy1 hn1 hm hB3
          go_wp2_with fail
          go_ret2
          exact ⟨rfl, HOK.out.below HB3.out, Kept.new F HB3.out⟩
        · obtain ⟨vh, he, hOh⟩ := hy1 hm
          subst he
          have hres : res = (((s.rows : Int) - (r + 1), 0), s.built d) := by rw [Hres.out, if_neg hm]
          have hm2 := hm
          rw [Hr.out] at hm2
          have hsee := rbMs_see HS.out Ho.out hd5 Hf.out.symm (by rw [← Hr.out]; exact hrow) hm2
          have hok := Ar.S.built_ok Ho.out hd5 (by rw [← Hr.out]; exact hrow) hm2 Hf.out.symm
          rw [← Hr.out] at hsee
          have hcw := Ar.S.heal_cw Ho.out hrow hm
          have hlen : (s.heal r).length = s.n := by have := hcw.len; omega
          have hsz : ∀ y ∈ s.heal r, y.size = s.size := hcw.sz (by omega)
          obtain ⟨gh, oh, ch, rfl, hh0, hhz, hh1, hh2, hh3, hh4⟩ := hOh.at0 (by rw [List.length_map]; omega)
          rw [List.length_map, hlen] at hh1 hh3 ⊢
          have HB3 := Lib.hid (HB2.out.trans (hB3.mono hz2))
          have od3 : ∀ i, i < s.n → w3.cell? ⟨go, i, none⟩ = some (iv (Ar.dk s.n r i)) := fun i hi => (hB3.cell (p := ⟨go, i, none⟩) ho2).trans (Hod.out i hi)
          have hl3 : ∀ i, i < s.n → w3.cell? ⟨gh, oh + i, none⟩ = some (.string ((s.heal r).getD i ⟨#[]⟩)) := fun i hi => by
            rw [hh3 i hi, List.getElem?_map, List.getElem?_eq_getElem (by omega), List.getD_eq_getElem?_getD, List.getElem?_eq_getElem (by omega)]; rfl
          have hxs : ∀ i, i < s.n → ((s.heal r).getD i ⟨#[]⟩).size = s.size := fun i hi => hsz _ (Gv.getD_mem (by omega))
          have Hxs := Lib.hid hxs
          have Hod3 := Lib.hid od3
          have Hl3 := Lib.hid hl3
          have Hres := Lib.hid hres
          have Hsee := Lib.hid hsee
          have Hok := Lib.hid hok
          have HA3 : Hid (AryAt w3 b g c mb db s.n s.rows s.size (rbMs s ms r d ((s.heal r).getD (Ar.ix s.n r d) ⟨#[]⟩) 0) s.bt) := Lib.hid ((HA.out.below HB3.out).ext (fun e _ => (by unfold rbMs; rw [if_neg (by omega)])) (fun _ _ => rfl))
          have hz3 := HB3.out.size
          unfold maxLen at hh2
          have hww := HS.out.wr d hd5
          have hx16 := Ho.out.z16
          clear hy1 hn1 hm hm2 hB3 hOh hh3 hres hsee hok hcw hlen hsz hh4 HHe od3 hl3 Hod hxs
          go_wp2_with fail
          go_loopg [13, 14, 15, 72] s.n (fun gk v13 v14 v15 v72 wr => RbRel s ms b g c mb db r d ((s.heal r).getD (Ar.ix s.n r d) ⟨#[]⟩) (fun p => p < w.heap.size ∧ F p) w3 gk v72 wr)
          case atStart => exact ⟨0, by omega, rfl, HA3.out, Kept.refl _ _⟩
          case round =>
            obtain ⟨i, hi, rfl, hAr, hKr⟩ := hrel
            have Hi := Lib.hid hi
            have HAr := Lib.hid hAr
            have HKr := Lib.hid hKr
            have hdw := HA.out.ltd hd5
            clear HA3 hi hAr hKr
            by_cases hlt : i < s.n
            · have o5 := HKr.out.cell (Hod3.out i hlt) (fun h => by omega)
              have l5 := HKr.out.cell (Hl3.out i hlt) (fun h => by omega)
              have hix := Ar.ix_dk (n := s.n) (row := r) (j := i) (by omega) (by omega) hlt
              have hdi := Ar.dk_ix (n := s.n) (row := r) (d := d) (by omega) (by omega) hd5
              by_cases hq : Ar.dk s.n r i = d
              · have hii : Ar.ix s.n r d = i := by rw [← hq]; exact hix
                rw [hq] at o5
                have hxz := Hxs.out i hlt
                have hgd : (s.heal r).getD (Ar.ix s.n r d) ⟨#[]⟩ = (s.heal r).getD i ⟨#[]⟩ := by rw [hii]
                have h0 : rbMs s ms r d ((s.heal r).getD (Ar.ix s.n r d) ⟨#[]⟩) i = ms := by unfold rbMs; rw [hii, if_neg (by omega)]
                have h1 : rbMs s ms r d ((s.heal r).getD (Ar.ix s.n r d) ⟨#[]⟩) (i + 1) = Ar.up ms d ((ms d).write (r : Int) ((s.heal r).getD i ⟨#[]⟩)).2 := by unfold rbMs; rw [hii, if_pos (by omega)]
                have H1 := Lib.hid h1
                have hAr2 := HAr.out
                rw [h0] at hAr2
                have HAr2 := Lib.hid hAr2
                have HE : Hid (((ms d).write (r : Int) ((s.heal r).getD i ⟨#[]⟩)).1 = 0) := Lib.hid (by rw [HS.out.write_eq hd5 Hf.out.symm hrow hxz])
                have c7 := hAr2.m0 hd5
                clear hq hix hdi hii hgd h0 h1 hAr2
                obtain ⟨x, hx9⟩ : ∃ x, x = (s.heal r).getD i ⟨#[]⟩ := ⟨_, rfl⟩
                rw [← hx9] at l5 HE H1 hxz
                have Hxz := Lib.hid hxz
                clear hx9 hxz
                go_wp2_with fail
                go_still_tail 9, (by kernel_rfl)
                change wpList _ _ _ _ _ wr.drew
                obtain ⟨wE, hwE⟩ : ∃ wE, wE = wr.drew := ⟨_, rfl⟩
                have hbE : Below wr.heap.size wr wE := by rw [hwE]; exact (Below.refl _ _).drew
                have HAE := Lib.hid (HAr2.out.below hbE)
                have HKE := Lib.hid (HKr.out.also (Kept.new _ hbE))
                have HW := Lib.hid (write_any (HAE.out.dsk d hd5) (r : Int) x (by unfold maxLen; rw [Hxz.out]; omega) (by omega))
                rw [← hwE]
                clear hwE hbE c7 o5 l5
                go_wp2_with fail
                refine HW.out.mono ?_
                rintro e wG ⟨he, hD, hK1, _⟩
                rw [HE.out, errV_0] at he
                subst he
                have HN2 := Lib.hid (HAE.out.turnD hd5 hK1 hD)
                have HKG := Lib.hid (HKE.out.also (hK1.mono (fun p _ e => by rw [e]; exact ⟨hdw, (HI.out.2.2 d hd5).2⟩)))
                clear hD hK1
                go_wp2_with fail
                go_roundg (gk - 1)
                case measure => have := Hi.out; omega
                case rel => exact ⟨i + 1, by have := Hi.out; omega, by go_num, by rw [H1.out]; exact HN2.out, HKG.out⟩
              · have hii : Ar.ix s.n r d ≠ i := fun e => hq (by rw [← e]; exact hdi)
                have h1 : rbMs s ms r d ((s.heal r).getD (Ar.ix s.n r d) ⟨#[]⟩) (i + 1) = rbMs s ms r d ((s.heal r).getD (Ar.ix s.n r d) ⟨#[]⟩) i := by
                  unfold rbMs
                  by_cases h2 : Ar.ix s.n r d < i
                  · rw [if_pos h2, if_pos (by omega)]
                  · rw [if_neg h2, if_neg (by omega)]
                have HAr2 : Hid (AryAt wr b g c mb db s.n s.rows s.size (rbMs s ms r d ((s.heal r).getD (Ar.ix s.n r d) ⟨#[]⟩) (i + 1)) s.bt) := Lib.hid (by rw [h1]; exact HAr.out)
                have hne : ((Ar.dk s.n r i : Int) == (d : Int)) = false := beq_f (by omega)
                clear hii hix hdi hq h1
                generalize Ar.dk s.n r i = d2 at *
                go_wp2_with fail
                go_roundg (gk - 1)
                case measure => have := Hi.out; omega
                case rel => exact ⟨i + 1, by have := Hi.out; omega, by go_num, HAr2.out, HKr.out⟩
            · have hin : i = s.n := by have := Hi.out; omega
              have hAr2 := HAr.out
              have hlt2 : Ar.ix s.n r d < i := by rw [hin]; exact Ar.ix_lt (by omega)
              unfold rbMs at hAr2
              rw [if_pos hlt2] at hAr2
              have HAr2 := Lib.hid hAr2
              have c7 := hAr2.m1 hd5
              rw [← Hr.out] at c7
              have c8 := hAr2.mf hd5 1
              have HKz := HKr.out.size
              have hAf := hAr2.setB hd5 (r + 1)
              have hkf : Kept F w (wr.setCell ⟨mb d, 1, none⟩ (iv ((r + 1 : Nat) : Int))) := (((Kept.new F HB3.out).also (HKr.out.mono (fun p _ h => h.2)))).setCell (p := ⟨mb d, 1, none⟩) (fun _ => (HI.out.2.2 d hd5).1) _
              have e1 : ((r + 1 : Nat) : Int) = (r : Int) + 1 := by omega
              rw [e1] at hAf hkf
              obtain ⟨wZ, hwZ⟩ : ∃ wZ, wZ = wr.setCell ⟨mb d, 1, none⟩ (iv ((r : Int) + 1)) := ⟨_, rfl⟩
              rw [← hwZ] at hAf hkf
              have HAf := Lib.hid hAf
              have Hkf := Lib.hid hkf
              have c9 := hAf.m1 hd5
              rw [Ar.up_self, e1] at c9
              have c10 := hAf.c1
              have HwZ := Lib.hid hwZ
              clear hlt2 hAr2 hAf hkf e1 hwZ
              go_wp2_with fail
              rw [← HwZ.out]
              clear HwZ
              go_quiet (fail)
              go_wp2_with fail
              go_ret2
              have h9 := HAf.out.below (bdrew (Below.refl _ _) nq)
              rw [Hres.out]
              refine ⟨rfl, ⟨Hok.out, g, c, mb, db, _, ?_, HI.out, Hsee.out⟩, Hkf.out.drewN nq⟩
              rw [Hr.out] at h9 ⊢
              exact h9
  · have hres2 : res = ((0, 1), s) := by rw [hres, if_neg hd]
    subst hres2
    rw [dec_f hd] at HH
    clear hA hI hS ho hd hres
    go_enter Tryz.func85, Tryz.ntmps85
    go_wp2_with fail
    refine HH.out.mono ?_
    rintro e w' ⟨rfl, rfl⟩
    go_wp2_with fail
    go_ret2
    exact ⟨rfl, HOK.out, Kept.refl F w⟩
end Go.Proofs.YtneebcniofolmaaGreatDoor
