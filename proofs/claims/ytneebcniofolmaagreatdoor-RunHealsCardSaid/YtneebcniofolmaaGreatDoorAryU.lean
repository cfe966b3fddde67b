/- The methods of the array of disks: Poke, Write. -/
import Derived.Test.YtneebcniofolmaaGreatDoorAryR
import Derived.Test.YtneebcniofolmaaGreatDoorPqH
namespace Go.Proofs.YtneebcniofolmaaGreatDoor
open Go.ChangeShapes Go.WideShapes Go.ChangeAt Go.RowKit
set_option linter.unusedVariables false
variable {F : Nat → Prop} {K : Nat} {w : World} {b : Nat} {s : Ar.S}
set_option maxRecDepth 100000 in
theorem aPoke (h : AryOk F K w b s) (hK : K < 1000000) (d row : Int) (x : ByteArray) (hx : x.size ≤ maxLen) :
    Calls Tryz.prog 84 #[.pointer (some ⟨b, 0, none⟩), iv d, iv row, .string x] w (AryPost F (K + 1) b (errV (s.poke d row x).1) (s.poke d row x).2 w) := by
  have HOK := Lib.hid (h.more (K' := K + 1) (by omega))
  have hx9 := hx
  unfold maxLen at hx9
  obtain ⟨ho, g, c, mb, db, ms, hA, hI, hS⟩ := h
  have HH := Lib.hid (ahas_any hA d)
  have HR := Lib.hid (ahasRow_any hA row)
  rw [hasB_has] at HH
  rw [hasB_row] at HR
  unfold Ar.S.poke
  by_cases hd : s.has d
  · obtain ⟨k, rfl, hk⟩ := Ar.S.has_nat hd
    rw [dec_t hd] at HH
    by_cases hr : s.hasRow row
    · obtain ⟨q, rfl, hq⟩ := Ar.S.hasRow_nat hr
      rw [dec_t hr] at HR
      rw [if_pos ⟨hd, hr⟩, Int.toNat_natCast, Int.toNat_natCast]
      have c2 := hA.c2
      by_cases hz : x.size = s.size
      · rw [if_pos hz]
        have hne : ((x.size : Int) != (s.size : Int)) = false := bne_f (by omega)
        have HL := Lib.hid (alost_any hA hk q (by have := ho.bt k hk; have := ho.r20; omega) (by have := ho.r20; omega))
        rw [hS.lostB hk] at HL
        have c0 := hA.c0
        have c1 := hA.lst k hk
        have c3 := hA.m0 hk
        have hc1 := hA.cap.1
        have hc2 := hA.cap.2
        unfold maxLen at hc2
        cases hf : s.lost k q with
        | true =>
          rw [hf] at HL
          rw [if_pos rfl]
          clear hA hI hS hd hr hz hf
          go_enter Tryz.func84, Tryz.ntmps84
          go_wp2_with fail
          refine HH.out.mono ?_
          rintro e w' ⟨rfl, rfl⟩
          go_wp2_with fail
          refine HR.out.mono ?_
          rintro e w' ⟨rfl, rfl⟩
          go_wp2_with fail
          refine HL.out.mono ?_
          rintro e w' ⟨rfl, rfl⟩
          go_wp2_with fail
          go_ret
          exact ⟨rfl, HOK.out, Kept.refl F w⟩
        | false =>
          rw [hf] at HL
          rw [if_neg (by decide)]
          have hw := hS.wrote hk (Ar.S.lost_lt hf).1 hq ho.r20 hz
          have HW := Lib.hid (write_any (hA.dsk k hk) (q : Int) x hx (by have := hS.wr k hk; omega))
          have hok := Ar.S.setC_ok ho k q hz
          have HS1 := Lib.hid hw.1
          have HE := Lib.hid hw.2
          have Hok := Lib.hid hok
          have HA := Lib.hid hA
          have HI := Lib.hid hI
          clear hA hI hS hd hr hz hf hw hok
          go_enter Tryz.func84, Tryz.ntmps84
          go_wp2_with fail
          refine HH.out.mono ?_
          rintro e w' ⟨rfl, rfl⟩
          go_wp2_with fail
          refine HR.out.mono ?_
          rintro e w' ⟨rfl, rfl⟩
          go_wp2_with fail
          refine HL.out.mono ?_
          rintro e w' ⟨rfl, rfl⟩
          go_wp2_with fail
          refine HW.out.mono ?_
          rintro e w1 ⟨he, hD, hK1, _⟩
          rw [HE.out] at he
          subst he
          have HD := Lib.hid hD
          have HK1 := Lib.hid hK1
          clear hD hK1
          go_wp2_with fail
          go_ret
          exact ⟨rfl, ⟨Hok.out, g, c, mb, db, _, HA.out.turnD hk HK1.out HD.out, HI.out, HS1.out⟩, HK1.out.mono (fun p _ e => by rw [e]; exact (HI.out.2.2 k hk).2)⟩
      · rw [if_neg hz]
        have hne : ((x.size : Int) != (s.size : Int)) = true := bne_t (by omega)
        clear hA hI hS hd hr hz
        go_enter Tryz.func84, Tryz.ntmps84
        go_wp2_with fail
        refine HH.out.mono ?_
        rintro e w' ⟨rfl, rfl⟩
        go_wp2_with fail
        refine HR.out.mono ?_
        rintro e w' ⟨rfl, rfl⟩
        go_wp2_with fail
        go_ret
        exact ⟨rfl, HOK.out, Kept.refl F w⟩
    · rw [dec_f hr] at HR
      rw [if_neg (fun h => hr h.2)]
      clear hA hI hS hd hr
      go_enter Tryz.func84, Tryz.ntmps84
      go_wp2_with fail
      refine HH.out.mono ?_
      rintro e w' ⟨rfl, rfl⟩
      go_wp2_with fail
      refine HR.out.mono ?_
      rintro e w' ⟨rfl, rfl⟩
      go_wp2_with fail
      go_ret
      exact ⟨rfl, HOK.out, Kept.refl F w⟩
  · rw [dec_f hd] at HH
    rw [if_neg (fun h => hd h.1)]
    clear hA hI hS hd
    go_enter Tryz.func84, Tryz.ntmps84
    go_wp2_with fail
    refine HH.out.mono ?_
    rintro e w' ⟨rfl, rfl⟩
    go_wp2_with fail
    go_ret
    exact ⟨rfl, HOK.out, Kept.refl F w⟩
/-- the first i parts of a row are written -/
def putMs (s : Ar.S) (ms : Nat → Dk.D) (r : Nat) (l : List ByteArray) (i d : Nat) : Dk.D := if Ar.ix s.n r d < i ∧ s.lost d r = false then ((ms d).write (r : Int) (l.getD (Ar.ix s.n r d) ⟨#[]⟩)).2 else ms d
theorem putMs_lost {ms : Nat → Dk.D} {r : Nat} {l : List ByteArray} {i d : Nat} (ho : s.Ok) (hd : d < s.n) (hi : i < s.n) (hl : s.lost (Ar.dk s.n r i) r = true) : putMs s ms r l (i + 1) d = putMs s ms r l i d := by
  unfold putMs
  by_cases h1 : Ar.ix s.n r d < i ∧ s.lost d r = false
  · rw [if_pos h1, if_pos ⟨by omega, h1.2⟩]
  · rw [if_neg h1, if_neg]
    intro h2
    refine h1 ⟨?_, h2.2⟩
    have : Ar.ix s.n r d ≠ i := fun e => by
      have := Ar.dk_ix (row := r) ho.n3 ho.n10 hd
      rw [e] at this
      rw [this, h2.2] at hl; cases hl
    omega
theorem putMs_not {ms : Nat → Dk.D} {r : Nat} {l : List ByteArray} {i d : Nat} (ho : s.Ok) (hd : d < s.n) (hi : i < s.n) (hl : s.lost (Ar.dk s.n r i) r = false) : putMs s ms r l (i + 1) d = Ar.up (putMs s ms r l i) (Ar.dk s.n r i) ((ms (Ar.dk s.n r i)).write (r : Int) (l.getD i ⟨#[]⟩)).2 d := by
  by_cases e : d = Ar.dk s.n r i
  · subst e
    rw [Ar.up_self]
    unfold putMs
    rw [Ar.ix_dk ho.n3 ho.n10 hi, if_pos ⟨by omega, hl⟩]
  · rw [Ar.up_ne _ _ e]
    have : Ar.ix s.n r d ≠ i := fun e2 => e (by rw [← e2, Ar.dk_ix ho.n3 ho.n10 hd])
    unfold putMs
    by_cases h1 : Ar.ix s.n r d < i ∧ s.lost d r = false
    · rw [if_pos h1, if_pos ⟨by omega, h1.2⟩]
    · rw [if_neg h1, if_neg (fun h2 => h1 ⟨by omega, h2.2⟩)]
theorem putMs_see {ms : Nat → Dk.D} {r : Nat} {l : List ByteArray} (h : ArySee K s ms) (ho : s.Ok) (hr : r < s.rows) (hl : Gv.Cw s.size (s.n - 2) l) : ArySee (K + 1) (s.putRow r l) (putMs s ms r l s.n) := by
  have h3 := ho.n3
  have hsz : ∀ d, d < s.n → (l.getD (Ar.ix s.n r d) ⟨#[]⟩).size = s.size := fun d hd => by
    refine hl.sz (by omega) _ (Gv.getD_mem ?_)
    have := Ar.ix_lt (n := s.n) (row := r) (d := d) (by omega)
    rw [hl.len]; omega
  have e : ∀ d, d < s.n → putMs s ms r l s.n d = if s.lost d r = false then { ms d with rows := (ms d).rows.set r (l.getD (Ar.ix s.n r d) ⟨#[]⟩), writes := (ms d).writes + 1 } else ms d := fun d hd => by
    unfold putMs
    have := Ar.ix_lt (n := s.n) (row := r) (d := d) (by omega)
    by_cases hlo : s.lost d r = false
    · rw [if_pos ⟨this, hlo⟩, if_pos hlo, h.write_eq hd (Ar.S.lost_lt hlo).1 hr (hsz d hd)]
    · rw [if_neg (fun h => hlo h.2), if_neg hlo]
  refine ⟨fun d hd => ?_, fun d hd => ?_, fun d hd => ?_, fun d hd => ?_, fun d hd => ?_, fun d r' hd hr' hlo => ?_⟩
  · rw [e d hd]; split <;> exact h.mn d hd
  · rw [e d hd]; split <;> exact h.sz d hd
  · rw [e d hd]
    split
    · show ((ms d).rows.set r _).length = 20
      rw [List.length_set]; exact h.ln d hd
    · exact h.ln d hd
  · rw [e d hd]; split <;> exact h.fl d hd
  · rw [e d hd]
    have := h.wr d hd
    split
    · show (ms d).writes + 1 ≤ K + 1; omega
    · omega
  · have hlo2 : s.lost d r' = false := hlo
    replace hlo := hlo2
    replace hr' : r' < s.rows := hr'
    replace hd : d < s.n := hd
    have hr20 := ho.r20
    show (putMs s ms r l s.n d).rows.getD r' ⟨#[]⟩ = if r' = r then l.getD (Ar.ix s.n r d) ⟨#[]⟩ else s.c d r'
    rw [e d hd]
    by_cases e1 : r' = r
    · subst e1
      rw [if_pos rfl, if_pos hlo]
      show ((ms d).rows.set r' _).getD r' ⟨#[]⟩ = _
      rw [Gv.set_getD (by rw [h.ln d hd]; omega), if_pos rfl]
    · rw [if_neg e1]
      split
      · show ((ms d).rows.set r _).getD r' ⟨#[]⟩ = _
        rw [Gv.set_getD (by rw [h.ln d hd]; omega), if_neg e1]
        exact h.cl d r' hd hr' hlo
      · exact h.cl d r' hd hr' hlo
end Go.Proofs.YtneebcniofolmaaGreatDoor
