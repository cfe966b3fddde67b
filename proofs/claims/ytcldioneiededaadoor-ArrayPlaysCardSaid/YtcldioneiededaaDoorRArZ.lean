/- The reference's array: Fail, Replace, Poke. · The reference's array: Poke. -/
import Derived.Test.YtcldioneiededaaDoorRArX
import Derived.Test.YtcldioneiededaaDoorAryU
namespace Go.Proofs.YtcldioneiededaaDoor
open Go.ChangeShapes Go.WideShapes Go.ChangeAt Go.RowKit
set_option linter.unusedVariables false
variable {F : Nat → Prop} {w : World} {b : Nat} {s : Ar.S}
theorem not_has (s : Ar.S) {d : Int} (h : ¬ s.has d) : d < 0 ∨ (0 ≤ d ∧ (s.n : Int) ≤ d) := by
  unfold Ar.S.has at h
  by_cases h0 : d < 0
  · exact .inl h0
  · exact .inr ⟨by omega, by apply Classical.byContradiction; intro h1; exact h ⟨by omega, by omega⟩⟩
theorem not_hasRow (s : Ar.S) {d : Int} (h : ¬ s.hasRow d) : d < 0 ∨ (0 ≤ d ∧ (s.rows : Int) ≤ d) := by
  unfold Ar.S.hasRow at h
  by_cases h0 : d < 0
  · exact .inl h0
  · exact .inr ⟨by omega, by apply Classical.byContradiction; intro h1; exact h ⟨by omega, by omega⟩⟩
set_option maxRecDepth 100000 in
theorem rFail (h : RAryOk F w b s) (d : Int) :
    Calls Tryd.prog 30 #[.pointer (some ⟨b, 0, none⟩), iv d] w (RPost F b (s.fail d).1 (s.fail d).2 w) := by
  have HOK := Lib.hid h
  have H2 := Lib.hid (Ar.S.fail_ok h.1 d)
  unfold Ar.S.fail at H2 ⊢
  obtain ⟨ho, gc, gf, gb, cc, cf, cb, gr, cr, C, hA, hI, hS⟩ := h
  have hcaps := hA.caps
  obtain ⟨k1, k2, k3, k4, k5, k6⟩ := hcaps
  unfold maxLen at k2 k4 k6
  have c0 := hA.c0
  by_cases hd : s.has d
  · obtain ⟨k, rfl, hk⟩ := Ar.S.has_nat hd
    rw [if_pos hd, Int.toNat_natCast] at H2 ⊢
    have d1 : decide ((k : Int) < 0) = false := dec_f (by omega)
    have d2 : decide ((s.n : Int) ≤ (k : Int)) = false := dec_f (by omega)
    have c4 := hA.c4
    have c1 := hA.fls.cell hk
    have z1 := hA.fls.fz k
    have hk3 : (k : Int) < (s.n : Int) := by omega
    have HA2 := Lib.hid (hA.setF hk true)
    have HI := Lib.hid hI
    have HS := Lib.hid hS
    have Hf := Lib.hid (show s.fl k = s.fl k from rfl)
    cases hf : s.fl k with
    | true =>
      rw [hf] at c1
      rw [if_pos rfl]
      clear hA hI hS hd ho hf
      go_enter Tryd.func30, Tryd.ntmps30
      go_wp2_with fail
      go_ret
      exact ⟨rfl, HOK.out, Kept.refl F w⟩
    | false =>
      rw [hf] at c1
      rw [hf, if_neg (by decide)] at H2
      rw [if_neg (by decide)]
      have Hf2 := Lib.hid hf
      clear hA hI hS hd ho hf
      go_enter Tryd.func30, Tryd.ntmps30
      go_wp2_with fail
      go_ret
      exact ⟨rfl, ⟨H2.out, gc, gf, gb, cc, cf, cb, gr, cr, C, HA2.out, HI.out, fun d r hd hr hl => HS.out d r hd hr (by
        unfold Ar.S.lost at hl ⊢
        by_cases e : d = k
        · subst e; rw [Hf2.out]; simp [Ar.up] at hl
        · simpa [Ar.up, e] using hl)⟩, (Kept.refl F w).setCell (p := ⟨gf, k, none⟩) (fun _ => HI.out.2.2.1) _⟩
  · rw [if_neg hd]
    rcases not_has s hd with h0 | ⟨h0, h1⟩
    · have d1 : decide (d < 0) = true := dec_t h0
      clear hA hI hS hd
      go_enter Tryd.func30, Tryd.ntmps30
      go_wp2_with fail
      go_ret
      exact ⟨rfl, HOK.out, Kept.refl F w⟩
    · have d1 : decide (d < 0) = false := dec_f (by omega)
      have d2 : decide ((s.n : Int) ≤ d) = true := dec_t h1
      clear hA hI hS hd
      go_enter Tryd.func30, Tryd.ntmps30
      go_wp2_with fail
      go_ret
      exact ⟨rfl, HOK.out, Kept.refl F w⟩
set_option maxRecDepth 100000 in
theorem rReplace (h : RAryOk F w b s) (d : Int) :
    Calls Tryd.prog 31 #[.pointer (some ⟨b, 0, none⟩), iv d] w (RPost F b (s.replace d).1 (s.replace d).2 w) := by
  have HOK := Lib.hid h
  have H2 := Lib.hid (Ar.S.replace_ok h.1 d)
  unfold Ar.S.replace at H2 ⊢
  obtain ⟨ho, gc, gf, gb, cc, cf, cb, gr, cr, C, hA, hI, hS⟩ := h
  have hcaps := hA.caps
  obtain ⟨k1, k2, k3, k4, k5, k6⟩ := hcaps
  unfold maxLen at k2 k4 k6
  have c0 := hA.c0
  by_cases hd : s.has d
  · obtain ⟨k, rfl, hk⟩ := Ar.S.has_nat hd
    rw [if_pos hd, Int.toNat_natCast] at H2 ⊢
    have d1 : decide ((k : Int) < 0) = false := dec_f (by omega)
    have d2 : decide ((s.n : Int) ≤ (k : Int)) = false := dec_f (by omega)
    have c4 := hA.c4
    have c1 := hA.fls.cell hk
    have z1 := hA.fls.fz k
    have c5 := hA.c5
    have c6 := hA.bts.cell hk
    have hk3 : (k : Int) < (s.n : Int) := by omega
    have HA2 := Lib.hid ((hA.setF hk false).setB hk 0)
    have HAF := Lib.hid (hA.setF hk false)
    have HI := Lib.hid hI
    have HS := Lib.hid hS
    cases hf : s.fl k with
    | false =>
      rw [hf] at c1
      rw [if_neg (by decide)]
      clear hA hI hS hd ho hf
      go_enter Tryd.func31, Tryd.ntmps31
      go_wp2_with fail
      go_ret
      exact ⟨rfl, HOK.out, Kept.refl F w⟩
    | true =>
      rw [hf] at c1
      rw [hf, if_pos rfl] at H2
      rw [if_pos rfl]
      have Hf2 := Lib.hid hf
      have f5 := HAF.out.c5
      have f6 := HAF.out.bts.cell hk
      have z2 := HAF.out.bts.fz k
      clear hA hI hS hd ho hf
      go_enter Tryd.func31, Tryd.ntmps31
      go_wp2_with fail
      go_ret
      exact ⟨rfl, ⟨H2.out, gc, gf, gb, cc, cf, cb, gr, cr, C, HA2.out, HI.out, fun d r hd hr hl => HS.out d r hd hr (by
        unfold Ar.S.lost at hl ⊢
        by_cases e : d = k
        · subst e; simp [Ar.up] at hl
        · simpa [Ar.up, e] using hl)⟩, ((Kept.refl F w).setCell (p := ⟨gf, k, none⟩) (fun _ => HI.out.2.2.1) _).setCell (p := ⟨gb, k, none⟩) (fun _ => HI.out.2.2.2.1) _⟩
  · rw [if_neg hd]
    rcases not_has s hd with h0 | ⟨h0, h1⟩
    · have d1 : decide (d < 0) = true := dec_t h0
      clear hA hI hS hd
      go_enter Tryd.func31, Tryd.ntmps31
      go_wp2_with fail
      go_ret
      exact ⟨rfl, HOK.out, Kept.refl F w⟩
    · have d1 : decide (d < 0) = false := dec_f (by omega)
      have d2 : decide ((s.n : Int) ≤ d) = true := dec_t h1
      clear hA hI hS hd
      go_enter Tryd.func31, Tryd.ntmps31
      go_wp2_with fail
      go_ret
      exact ⟨rfl, HOK.out, Kept.refl F w⟩
end Go.Proofs.YtcldioneiededaaDoor
namespace Go.Proofs.YtcldioneiededaaDoor
open Go.ChangeShapes Go.WideShapes Go.ChangeAt Go.RowKit
set_option linter.unusedVariables false
variable {F : Nat → Prop} {w : World} {b : Nat} {s : Ar.S}
/-- a cell set on both sides -/
theorem setC_see {C : Nat → Nat → ByteArray} {s : Ar.S} {k q : Nat} {x : ByteArray} (hS : ∀ d r, d < s.n → r < s.rows → s.lost d r = false → C d r = s.c d r) : ∀ d r, d < (s.setC k q x).n → r < (s.setC k q x).rows → (s.setC k q x).lost d r = false → Ar.up C k (Ar.up (C k) q x) d r = (s.setC k q x).c d r := by
  intro d r hd hr hl
  show Ar.up C k (Ar.up (C k) q x) d r = Ar.up s.c k (Ar.up (s.c k) q x) d r
  by_cases e : d = k
  · subst e
    rw [Ar.up_self, Ar.up_self]
    by_cases e2 : r = q
    · subst e2; rw [Ar.up_self, Ar.up_self]
    · rw [Ar.up_ne _ _ e2, Ar.up_ne _ _ e2]; exact hS d r hd hr hl
  · rw [Ar.up_ne _ _ e, Ar.up_ne _ _ e]; exact hS d r hd hr hl
set_option maxRecDepth 100000 in
theorem rPoke (h : RAryOk F w b s) (d row : Int) (x : ByteArray) (hx : x.size ≤ maxLen) :
    Calls Tryd.prog 33 #[.pointer (some ⟨b, 0, none⟩), iv d, iv row, .string x] w (RPost F b (s.poke d row x).1 (s.poke d row x).2 w) := by
  have HOK := Lib.hid h
  unfold maxLen at hx
  unfold Ar.S.poke
  obtain ⟨ho, gc, gf, gb, cc, cf, cb, gr, cr, C, hA, hI, hS⟩ := h
  have hcaps := hA.caps
  obtain ⟨k1, k2, k3, k4, k5, k6⟩ := hcaps
  unfold maxLen at k2 k4 k6
  have c0 := hA.c0
  have c1 := hA.c1
  by_cases hd : s.has d
  · have hd0 := hd.1
    have hd1 := hd.2
    have d1 : decide (d < 0) = false := dec_f (by omega)
    have d2 : decide ((s.n : Int) ≤ d) = false := dec_f (by omega)
    by_cases hr : s.hasRow row
    · rw [if_pos ⟨hd, hr⟩]
      obtain ⟨q, rfl, hq⟩ := Ar.S.hasRow_nat hr
      obtain ⟨k, rfl, hk⟩ := Ar.S.has_nat hd
      rw [Int.toNat_natCast, Int.toNat_natCast]
      have d3 : decide ((q : Int) < 0) = false := dec_f (by omega)
      have d4 : decide ((s.rows : Int) ≤ (q : Int)) = false := dec_f (by omega)
      have c2 := hA.c2
      by_cases hz : x.size = s.size
      · rw [if_pos hz]
        have hne : ((x.size : Int) != (s.size : Int)) = false := bne_f (by omega)
        have HG := Lib.hid (rGone HOK.out hk q (by have := ho.r20; omega))
        have hok := Ar.S.setC_ok ho k q hz
        have Hok := Lib.hid hok
        cases hf : s.lost k q with
        | true =>
          rw [hf] at HG
          rw [if_pos rfl]
          clear hA hI hS hd hr hf ho hok hz
          go_enter Tryd.func33, Tryd.ntmps33
          go_wp2_with fail
          refine HG.out.mono ?_
          rintro e w' ⟨rfl, rfl⟩
          go_wp2_with fail
          go_ret
          exact ⟨rfl, HOK.out, Kept.refl F w⟩
        | false =>
          rw [hf] at HG
          rw [if_neg (by decide)]
          have c3 := hA.c3
          have c4 := hA.lst.cell hk
          have c5 := (hA.row k hk).cell hq
          have z5 := (hA.row k hk).fz q
          have hr7 := hA.rcap k hk
          unfold maxLen at hr7
          have hkI : (k : Int) < (s.n : Int) := by omega
          have hqI : (q : Int) < (s.rows : Int) := by omega
          have HS := Lib.hid (setC_see (k := k) (q := q) (x := x) hS)
          have HA := Lib.hid (hA.setC hk hq x)
          have HI := Lib.hid hI
          have Hk := Lib.hid hk
          clear hA hI hS hd hr hf ho hok hz
          go_enter Tryd.func33, Tryd.ntmps33
          go_wp2_with fail
          refine HG.out.mono ?_
          rintro e w' ⟨rfl, rfl⟩
          go_wp2_with fail
          go_ret
          exact ⟨rfl, ⟨Hok.out, gc, gf, gb, cc, cf, cb, gr, cr, _, HA.out, HI.out, HS.out⟩, (Kept.refl F w).setCell (p := ⟨gr k, q, none⟩) (fun _ => HI.out.2.2.2.2 k Hk.out) _⟩
      · rw [if_neg hz]
        have hne : ((x.size : Int) != (s.size : Int)) = true := bne_t (by omega)
        clear hA hI hS hd hr
        go_enter Tryd.func33, Tryd.ntmps33
        go_wp2_with fail
        go_ret
        exact ⟨rfl, HOK.out, Kept.refl F w⟩
    · rw [if_neg (fun h => hr h.2)]
      rcases not_hasRow s hr with h0 | ⟨h0, h1⟩
      · have d3 : decide (row < 0) = true := dec_t h0
        clear hA hI hS hd hr
        go_enter Tryd.func33, Tryd.ntmps33
        go_wp2_with fail
        go_ret
        exact ⟨rfl, HOK.out, Kept.refl F w⟩
      · have d3 : decide (row < 0) = false := dec_f (by omega)
        have d4 : decide ((s.rows : Int) ≤ row) = true := dec_t h1
        clear hA hI hS hd hr
        go_enter Tryd.func33, Tryd.ntmps33
        go_wp2_with fail
        go_ret
        exact ⟨rfl, HOK.out, Kept.refl F w⟩
  · rw [if_neg (fun h => hd h.1)]
    have hr := hd
    rcases not_has s hd with h0 | ⟨h0, h1⟩
    · have d1 : decide (d < 0) = true := dec_t h0
      clear hA hI hS hd hr
      go_enter Tryd.func33, Tryd.ntmps33
      go_wp2_with fail
      go_ret
      exact ⟨rfl, HOK.out, Kept.refl F w⟩
    · have d1 : decide (d < 0) = false := dec_f (by omega)
      have d2 : decide ((s.n : Int) ≤ d) = true := dec_t h1
      clear hA hI hS hd hr
      go_enter Tryd.func33, Tryd.ntmps33
      go_wp2_with fail
      go_ret
      exact ⟨rfl, HOK.out, Kept.refl F w⟩
end Go.Proofs.YtcldioneiededaaDoor
