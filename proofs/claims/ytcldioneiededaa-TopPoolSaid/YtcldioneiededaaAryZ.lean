/- The methods of the array of disks: Fail, Replace, Raw, Lost, Poke. -/
import Derived.Test.YtcldioneiededaaAryV
import Derived.StillTailTactics
namespace Go.Proofs.Ytcldioneiededaa
open Go.ChangeShapes Go.WideShapes Go.ChangeAt Go.RowKit
set_option linter.unusedVariables false
variable {F : Nat → Prop} {K : Nat} {w : World} {b : Nat} {s : Ar.S}
set_option maxRecDepth 100000 in
theorem aFail (h : AryOk F K w b s) (d : Int) :
    Calls Try.prog 12 #[.pointer (some ⟨b, 0, none⟩), iv d] w (AryPost F K b (errV (s.fail d).1) (s.fail d).2 w) := by
  have HOK := Lib.hid h
  obtain ⟨ho, g, c, mb, db, ms, hA, hI, hS⟩ := h
  have HH := Lib.hid (ahas_any hA d)
  rw [hasB_has] at HH
  unfold Ar.S.fail
  by_cases hd : s.has d
  · obtain ⟨k, rfl, hk⟩ := Ar.S.has_nat hd
    rw [dec_t hd] at HH
    rw [if_pos hd, Int.toNat_natCast]
    obtain ⟨r, hr⟩ : ∃ r : Int × Ar.S, r = if s.fl k then (6, s) else (0, { s with fl := Ar.up s.fl k true }) := ⟨_, rfl⟩
    rw [← hr]
    have Hr := Lib.hid hr
    clear hr
    have HF := Lib.hid (fail_any (hA.dsk k hk))
    have c0 := hA.c0
    have c1 := hA.lst k hk
    have c2 := hA.m0 hk
    have hc1 := hA.cap.1
    have hc2 := hA.cap.2
    unfold maxLen at hc2
    have HA := Lib.hid hA
    have HI := Lib.hid hI
    have HS := Lib.hid hS
    have Hd := Lib.hid hd
    have Ho := Lib.hid ho
    have HFl := Lib.hid (hS.fl k hk)
    clear hA hI hS hd ho
    go_enter Try.func12, Try.ntmps12
    go_wp2_with fail
    refine HH.out.mono ?_
    rintro e w' ⟨rfl, rfl⟩
    go_wp2_with fail
    refine HF.out.mono ?_
    rintro e w1 ⟨rfl, hD, hK, _⟩
    have HD := Lib.hid hD
    have HK := Lib.hid hK
    clear hD hK
    go_wp2_with fail
    go_ret
    have HA2 := HA.out.turnD hk HK.out HD.out
    have HK2 := HK.out.mono (T' := F) (fun q _ e => by rw [e]; exact (HI.out.2.2 k hk).2)
    have hr := Hr.out
    cases hf : s.fl k with
    | true =>
      rw [hf, if_pos rfl] at hr
      subst hr
      have e : (ms k).fail = (6, ms k) := by unfold Dk.D.fail; rw [HFl.out, hf]; rfl
      rw [e] at HA2 ⊢
      exact ⟨rfl, ⟨Ho.out, g, c, mb, db, ms, HA2.ext (fun d _ => by by_cases e2 : d = k <;> simp [Ar.up, e2]) (fun _ _ => rfl), HI.out, HS.out⟩, HK2⟩
    | false =>
      have h1 := HS.out.failed hk hf
      have h2 := Ar.S.fail_ok Ho.out (k : Int)
      unfold Ar.S.fail at h2
      rw [if_pos Hd.out, Int.toNat_natCast, hf, if_neg (by decide)] at h2
      rw [hf, if_neg (by decide)] at hr
      subst hr
      rw [h1.2]
      exact ⟨rfl, ⟨h2, g, c, mb, db, _, HA2, HI.out, h1.1⟩, HK2⟩
  · rw [dec_f hd] at HH
    rw [if_neg hd]
    clear hA hI hS hd
    go_enter Try.func12, Try.ntmps12
    go_wp2_with fail
    refine HH.out.mono ?_
    rintro e w' ⟨rfl, rfl⟩
    go_wp2_with fail
    go_ret
    exact ⟨rfl, HOK.out, Kept.refl F w⟩
set_option maxRecDepth 100000 in
theorem aReplace (h : AryOk F K w b s) (d : Int) :
    Calls Try.prog 13 #[.pointer (some ⟨b, 0, none⟩), iv d] w (AryPost F K b (errV (s.replace d).1) (s.replace d).2 w) := by
  have HOK := Lib.hid h
  obtain ⟨ho, g, c, mb, db, ms, hA, hI, hS⟩ := h
  have HH := Lib.hid (ahas_any hA d)
  rw [hasB_has] at HH
  unfold Ar.S.replace
  by_cases hd : s.has d
  · obtain ⟨k, rfl, hk⟩ := Ar.S.has_nat hd
    rw [dec_t hd] at HH
    rw [if_pos hd, Int.toNat_natCast]
    have HF := Lib.hid (replace_any (hA.dsk k hk))
    have c0 := hA.c0
    have c1 := hA.lst k hk
    have c2 := hA.m0 hk
    have hc1 := hA.cap.1
    have hc2 := hA.cap.2
    unfold maxLen at hc2
    have HA := Lib.hid hA
    have HI := Lib.hid hI
    have HS := Lib.hid hS
    have Hd := Lib.hid hd
    have Ho := Lib.hid ho
    have HFl := Lib.hid (hS.fl k hk)
    cases hf : s.fl k with
    | false =>
      have e : (ms k).replace = (6, ms k) := by unfold Dk.D.replace; rw [HFl.out, hf]; rfl
      have He := Lib.hid e
      rw [e] at HF
      rw [if_neg (by decide)]
      have e6 : errV 6 = ev 6 := rfl
      rw [e6] at HF ⊢
      clear hA hI hS hd ho hf e
      go_enter Try.func13, Try.ntmps13
      go_wp2_with fail
      refine HH.out.mono ?_
      rintro e w' ⟨rfl, rfl⟩
      go_wp2_with fail
      refine HF.out.mono ?_
      rintro e w1 ⟨rfl, hD, hK⟩
      have HD := Lib.hid hD
      have HK := Lib.hid hK
      clear hD hK
      go_wp2_with fail
      go_ret
      have HA2 := HA.out.turnD hk HK.out HD.out
      have HK2 := HK.out.mono (T' := F) (fun q _ e => by rw [e]; exact (HI.out.2.2 k hk).2)
      exact ⟨rfl, ⟨Ho.out, g, c, mb, db, ms, HA2.ext (fun d _ => by by_cases e2 : d = k <;> simp [Ar.up, e2]) (fun _ _ => rfl), HI.out, HS.out⟩, HK2⟩
    | true =>
      have h1 := hS.replaced hk hf ho.r20
      have H1 := Lib.hid h1
      have h2 := Ar.S.replace_ok ho (k : Int)
      unfold Ar.S.replace at h2
      rw [if_pos hd, Int.toNat_natCast, hf, if_pos rfl] at h2
      have H2 := Lib.hid h2
      rw [h1.2, errV_0] at HF
      rw [if_pos rfl]
      clear hA hI hS hd ho hf h1 h2
      go_enter Try.func13, Try.ntmps13
      go_wp2_with fail
      refine HH.out.mono ?_
      rintro e w' ⟨rfl, rfl⟩
      go_wp2_with fail
      refine HF.out.mono ?_
      rintro e w1 ⟨rfl, hD, hK⟩
      have HA2 := Lib.hid (HA.out.turnD hk hK hD)
      have HK2 := Lib.hid (hK.mono (T' := F) (fun q _ e => by rw [e]; exact (HI.out.2.2 k hk).2))
      have d0 := HA2.out.c0
      have d1 := HA2.out.lst k hk
      have d2 := HA2.out.m1 hk
      have d3 := HA2.out.mf hk 1
      clear hD hK
      go_wp2_with fail
      go_ret
      refine ⟨rfl, ⟨H2.out, g, c, mb, db, _, HA2.out.setB hk 0, HI.out, H1.out.1⟩, HK2.out.setCell (p := ⟨mb k, 1, none⟩) (fun _ => (HI.out.2.2 k hk).1) _⟩
  · rw [dec_f hd] at HH
    rw [if_neg hd]
    clear hA hI hS hd
    go_enter Try.func13, Try.ntmps13
    go_wp2_with fail
    refine HH.out.mono ?_
    rintro e w' ⟨rfl, rfl⟩
    go_wp2_with fail
    go_ret
    exact ⟨rfl, HOK.out, Kept.refl F w⟩
end Go.Proofs.Ytcldioneiededaa
