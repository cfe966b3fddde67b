/- The walks of poly.times, Mul. -/
import Derived.Test.YtbikmodfmckaeaaDoorPolW
import Derived.StillTailTactics
import Derived.Test.YtbikmodfmckaeaaDoorPqW
namespace Go.Proofs.YtbikmodfmckaeaaDoor
open Go.ChangeShapes Go.WideShapes Go.ChangeAt Go.RowKit
set_option linter.unusedVariables false
def TmRel (a b : List UInt8) (w : World) (n la gk : Nat) (i : Value) (wr : World) : Prop :=
  ∃ k : Nat, k + gk = la ∧ i = iv k ∧ OwnB wr w.heap.size (.slice (some ⟨w.heap.size, 0, none⟩) n n) (Gv.tab n (Pl.pt a b k)) ∧ Below w.heap.size w wr
def TmIn (a b : List UInt8) (w : World) (n lb i gk : Nat) (v : Value) (wr : World) : Prop :=
  ∃ k : Nat, k + gk = lb ∧ v = iv k ∧ OwnB wr w.heap.size (.slice (some ⟨w.heap.size, 0, none⟩) n n) (Gv.tab n (Pl.pk a b i k)) ∧ Below w.heap.size w wr
def TimesPost (l : List UInt8) (w : World) (e : Ending) (w' : World) : Prop := ∃ v, e = .returned v ∧ OwnB w' w.heap.size v l ∧ Below w.heap.size w w'
set_option maxRecDepth 100000 in
set_option maxHeartbeats 1000000 in
theorem ptimes_any (a b : List UInt8) (ha : a.length ≤ 1000) (hb : b.length ≤ 1000) (va vb : Value) (w : World) (hva : RowB w va a) (hvb : RowB w vb b) :
    Calls Tryd.prog 60 #[va, vb] w (TimesPost (Pl.conv a b) w) := by
  have HA := Lib.hid hva
  have HBb := Lib.hid hvb
  obtain ⟨pa, ca, rfl, a1, a2⟩ := hva.shape
  obtain ⟨pb, cb, rfl, b1, b2⟩ := hvb.shape
  obtain ⟨la, hla⟩ : ∃ n, n = a.length := ⟨_, rfl⟩
  obtain ⟨lb, hlb⟩ : ∃ n, n = b.length := ⟨_, rfl⟩
  rw [← hla] at a1 ha HA ⊢
  rw [← hlb] at b1 hb HBb ⊢
  have Hla := Lib.hid hla
  have Hlb := Lib.hid hlb
  unfold maxLen at a2 b2
  by_cases h0 : la = 0 ∨ lb = 0
  · have hc : Pl.conv a b = [] := Pl.conv_nil (by rw [← hla, ← hlb]; exact h0)
    have Hc := Lib.hid hc
    clear hva hvb hla hlb hc
    rcases h0 with h | h
    · have t0 : ((la : Int) == 0) = true := beq_t (by omega)
      clear h
      go_enter Tryd.func60, Tryd.ntmps60
      go_wp2_with fail
      go_ret
      exact ⟨_, rfl, by rw [Hc.out]; exact OwnR.nil _ _ _, Below.refl _ _⟩
    · by_cases ha0 : la = 0
      · have t0 : ((la : Int) == 0) = true := beq_t (by omega)
        clear h ha0
        go_enter Tryd.func60, Tryd.ntmps60
        go_wp2_with fail
        go_ret
        exact ⟨_, rfl, by rw [Hc.out]; exact OwnR.nil _ _ _, Below.refl _ _⟩
      · have t0 : ((la : Int) == 0) = false := beq_f (by omega)
        have t1 : ((lb : Int) == 0) = true := beq_t (by omega)
        clear h ha0
        go_enter Tryd.func60, Tryd.ntmps60
        go_wp2_with fail
        go_ret
        exact ⟨_, rfl, by rw [Hc.out]; exact OwnR.nil _ _ _, Below.refl _ _⟩
  · have ha0 : la ≠ 0 := fun h => h0 (.inl h)
    have hb0 : lb ≠ 0 := fun h => h0 (.inr h)
    have t0 : ((la : Int) == 0) = false := beq_f (by omega)
    have t1 : ((lb : Int) == 0) = false := beq_f (by omega)
    obtain ⟨n, hn⟩ : ∃ n, n = la + lb - 1 := ⟨_, rfl⟩
    have hw1 : IntKind.i64.wrap ((la : Int) + (lb : Int)) = (la : Int) + (lb : Int) := IntWalk.i64_in _ (by omega)
    have hw2 : IntKind.i64.wrap ((la : Int) + (lb : Int) - 1) = (n : Int) := (IntWalk.i64_in _ (by omega)).trans (by omega)
    have hn9 : n ≤ 1000000 := by omega
    have hres : Gv.tab n (Pl.pt a b la) = Pl.conv a b := by
      have h := Pl.pt_conv (a := a) (b := b) (by omega) (by omega)
      rw [← hla, ← hlb, ← hn] at h; exact h
    have Hres := Lib.hid hres
    have hnlt : ∀ i k, i < la → k < lb → i + k < n := fun i k h1 h2 => by omega
    have Hlt := Lib.hid hnlt
    have mk := make_bytesV n hn9 w
    have HO0 := Lib.hid (owns_made n hn9 w)
    clear hva hvb hla hlb h0 hres hnlt hn ha0 hb0
    go_enter Tryd.func60, Tryd.ntmps60
    go_wp2_with fail
    go_loopg [6, 7, 8, 9, 27] la (fun gk v6 v7 v8 v9 v27 wr => TmRel a b w n la gk v27 wr)
    case atStart => exact ⟨0, by omega, rfl, by rw [Pl.pt_zero]; exact HO0.out, (Below.refl _ _).alloc (Nat.le_refl _) _⟩
    case round =>
      obtain ⟨wO, hwO⟩ : ∃ x : World, x = wr := ⟨_, rfl⟩
      obtain ⟨gO, hgO⟩ : ∃ x : Nat, x = gk := ⟨_, rfl⟩
      subst hwO hgO
      obtain ⟨i, hi, rfl, hO, hB⟩ := hrel
      have Hi := Lib.hid hi
      have HO := Lib.hid hO
      have HB := Lib.hid hB
      clear hi hO hB HO0
      by_cases hia : i < la
      · obtain ⟨g, o, cc, hv2, hg, _, _, hc⟩ := HA.out.cellAt (j := i) (by rw [← Hla.out]; exact hia)
        injection hv2 with e1 e2 e3
        have He1 := Lib.hid e1
        have d0 : wO.cell? ⟨g, o + i, none⟩ = some (bv (Pl.cf a i)) := (HB.out.cell (p := ⟨g, o + i, none⟩) hg).trans hc
        obtain ⟨x, hx⟩ : ∃ x, x = Pl.cf a i := ⟨_, rfl⟩
        rw [← hx] at d0
        have Hx := Lib.hid hx
        rw [e1]
        clear e1 e2 e3 hc hx
        go_wp2_with fail
        go_loopg [8, 9, 34] lb (fun gk v8 v9 v34 wr => TmIn a b w n lb i gk v34 wr)
        case atStart => exact ⟨0, by omega, rfl, by rw [Pl.pk_zero]; exact HO.out, HB.out⟩
        case round =>
          clear d0 HO HB
          obtain ⟨k, hk, rfl, hO, hB⟩ := hrel
          have Hk := Lib.hid hk
          have HOk := Lib.hid hO
          have HBk := Lib.hid hB
          clear hk hO hB
          by_cases hkb : k < lb
          · obtain ⟨g2, o2, cc2, hv3, hg2, _, _, hc2⟩ := HBb.out.cellAt (j := k) (by rw [← Hlb.out]; exact hkb)
            injection hv3 with e1 e2 e3
            have He2 := Lib.hid e1
            have d1 : wr.cell? ⟨g2, o2 + k, none⟩ = some (bv (Pl.cf b k)) := (HBk.out.cell (p := ⟨g2, o2 + k, none⟩) hg2).trans hc2
            have hlt := Hlt.out i k hia hkb
            obtain ⟨go', oo, co, hvo, _, hgo, _, _, ho1, hof⟩ := HOk.out.cellAt (j := i + k) (by rw [Gv.tab_len]; exact hlt)
            injection hvo with q1 q8 q9
            injection q1 with q1
            injection q1 with q1 q2
            subst q1 q2
            clear q8 q9
            rw [show Gv.at' (Gv.tab n (Pl.pk a b i k)) (i + k) = Pl.pk a b i k (i + k) by unfold Gv.at'; rw [Gv.tab_at _ hlt], Nat.zero_add] at ho1
            obtain ⟨y, hy⟩ : ∃ y, y = Pl.cf b k := ⟨_, rfl⟩
            obtain ⟨z, hz⟩ : ∃ z, z = Pl.pk a b i k (i + k) := ⟨_, rfl⟩
            rw [← hy] at d1
            rw [← hz] at ho1
            have HO2 : Hid (OwnB (wr.drew.setCell ⟨w.heap.size, i + k, none⟩ (bv (z ^^^ Gf.mul x y))) w.heap.size (.slice (some ⟨w.heap.size, 0, none⟩) n n) (Gv.tab n (Pl.pk a b i (k + 1)))) := Lib.hid (by
              have h1 := OwnB.setAt (OwnR.below HOk.out (Below.refl _ _).drew) (k := i + k) (by rw [Gv.tab_len]; exact hlt) (z ^^^ Gf.mul x y)
              rw [hz, Hx.out, hy, Pl.pk_set, Nat.zero_add] at h1
              rw [hz, Hx.out, hy]
              exact h1)
            have HB3 : Hid (Below w.heap.size w (wr.drew.setCell ⟨w.heap.size, i + k, none⟩ (bv (z ^^^ Gf.mul x y)))) := Lib.hid ((HBk.out.drew).setCell (p := ⟨w.heap.size, i + k, none⟩) (Nat.le_refl _) _)
            have hwk : IntKind.i64.wrap ((i : Int) + (k : Int)) = ((i + k : Nat) : Int) := (IntWalk.i64_in _ (by omega)).trans (by omega)
            have hwk2 : IntKind.i64.wrap ((i : Int) + (k : Int)) = (i : Int) + (k : Int) := IntWalk.i64_in _ (by omega)
            have hIk : (i : Int) + (k : Int) < (n : Int) := by omega
            have hIk0 : (0 : Int) ≤ (i : Int) + (k : Int) := by omega
            have hnat : ((i : Int) + (k : Int)).toNat = i + k := by omega
            have fo := hof (i + k)
            rw [e1]
            clear e1 e2 e3 hc2 hy hz hwk hof
            go_wp2_with fail
            go_still_tail 11, (by kernel_rfl)
            still_call (mul_st x y _)
            repeat still_step
            refine wpStill_nil ?_
            clear d1
            go_wp2_with fail
            rw [← He2.out]
            go_roundg (gk - 1)
            case measure => have := Hk.out; omega
            case rel => exact ⟨k + 1, by have := Hk.out; omega, by go_num, by rw [bv_xor]; exact HO2.out, by rw [bv_xor]; exact HB3.out⟩
          · have hkl : k = lb := by have := Hk.out; omega
            have hO9 : OwnB wr w.heap.size (.slice (some ⟨w.heap.size, 0, none⟩) n n) (Gv.tab n (Pl.pt a b (i + 1))) := by
              have h := HOk.out
              rw [hkl, Hlb.out, Pl.pk_full] at h; exact h
            have HO9 := Lib.hid hO9
            clear hO9
            go_wp2_with fail
            rw [← He1.out]
            go_roundg (gO - 1)
            case measure => have := Hi.out; omega
            case rel => exact ⟨i + 1, by have := Hi.out; omega, by go_num, HO9.out, HBk.out⟩
      · have hil : i = la := by have := Hi.out; omega
        have hO9 : OwnB wO w.heap.size (.slice (some ⟨w.heap.size, 0, none⟩) n n) (Pl.conv a b) := by
          have h := HO.out
          rw [hil, Hres.out] at h; exact h
        have HO9 := Lib.hid hO9
        clear hO9
        go_wp2_with fail
        go_ret
        exact ⟨_, rfl, HO9.out, HB.out⟩
def MulPost (a b : List UInt8) (w : World) (e : Ending) (w' : World) : Prop := ∃ v, e = .returned (.tuple #[v, .nilIface]) ∧ OwnB w' w.heap.size v (Pl.trim (Pl.conv a b)) ∧ Below w.heap.size w w'
theorem row_slt2 (w : World) (pa pb : Option Addr) (la ca lb cb : Nat) (E : TypeId) : Row (w.alloc (.cells #[.slice pa la ca, .slice pb lb cb] E)) (.slice (some ⟨w.heap.size, 0, none⟩) 2 2) ([(⟨pa, la, ca⟩ : SlT), ⟨pb, lb, cb⟩].map SlT.enc) := by
  refine ⟨some ⟨w.heap.size, 0, none⟩, 2, rfl, Nat.le_refl _, by decide, (fun h => by cases h), fun _ => ⟨w.heap.size, 0, rfl, fun j hj => ?_⟩⟩
  rw [cell_of_row _ _ _ _ _ _ (heap_alloc_new w _), Nat.zero_add]
  have hj2 : j < 2 := hj
  have h2 : j = 0 ∨ j = 1 := by omega
  rcases h2 with rfl | rfl <;> rfl
set_option maxRecDepth 100000 in
theorem pmul_any (a b : List UInt8) (ha : a.length ≤ 40) (hb : b.length ≤ 40) (va vb : Value) (w : World) (hva : RowB w va a) (hvb : RowB w vb b) :
    Calls Tryd.prog 18 #[va, vb] w (MulPost a b w) := by
  have HA := Lib.hid hva
  have HBb := Lib.hid hvb
  obtain ⟨pa, ca, rfl, _, _⟩ := hva.shape
  obtain ⟨pb, cb, rfl, _, _⟩ := hvb.shape
  have hb0 : Below w.heap.size w (w.alloc (.cells #[.slice pa a.length ca, .slice pb b.length cb] 22)) := (Below.refl _ _).alloc (Nat.le_refl _) _
  have HF := Lib.hid (full_any _ _ _ (row_slt2 w pa pb a.length ca b.length cb 22))
  rw [show ([(⟨pa, a.length, ca⟩ : SlT), ⟨pb, b.length, cb⟩].any fun x => decide (40 < x.n)) = false by simp; omega] at HF
  have HB0 := Lib.hid hb0
  have hz0 := hb0.size
  have HT := Lib.hid (ptimes_any a b (by omega) (by omega) _ _ _ (RowB.below HA.out hb0) (RowB.below HBb.out hb0))
  have hcl : (Pl.conv a b).length ≤ 1000 := by unfold Pl.conv; split; simp; rw [Gv.tab_len]; omega
  clear hva hvb hb0
  generalize a.length = la at *
  generalize b.length = lb at *
  go_enter Tryd.func18, Tryd.ntmps18
  go_wp2_with fail
  refine HF.out.mono ?_
  rintro e w' ⟨rfl, rfl⟩
  go_wp2_with fail
  refine HT.out.mono ?_
  rintro e w2 ⟨v2, rfl, hO2, hb2⟩
  have HB2 := Lib.hid (HB0.out.trans (hb2.mono hz0))
  have hz2 := HB2.out.size
  have HTr := Lib.hid (trim_any (Pl.conv a b) (by omega) v2 w2 (OwnB.row hO2))
  clear hO2 hb2 HT HF HB0
  go_wp2_with fail
  refine HTr.out.mono ?_
  rintro e w3 ⟨v3, rfl, hO3, hb3⟩
  have HO3 := Lib.hid (OwnR.mono hO3 hz2)
  have HB3 := Lib.hid (HB2.out.trans (hb3.mono hz2))
  clear hO3 hb3 HTr HB2
  go_wp2_with fail
  go_ret2
  exact ⟨_, rfl, HO3.out, HB3.out⟩
end Go.Proofs.YtbikmodfmckaeaaDoor
