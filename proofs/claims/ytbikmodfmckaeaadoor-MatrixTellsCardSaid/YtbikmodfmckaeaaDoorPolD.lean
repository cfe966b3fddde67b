/- The walks of poly.Eval, DivMod. -/
import Derived.Test.YtbikmodfmckaeaaDoorPolA
import Derived.Test.YtbikmodfmckaeaaDoorPolQ
import Derived.StillTailTactics
namespace Go.Proofs.YtbikmodfmckaeaaDoor
open Go.ChangeShapes Go.WideShapes Go.ChangeAt Go.RowKit
set_option linter.unusedVariables false
theorem row_slt1 (w : World) (pa : Option Addr) (la ca : Nat) (E : TypeId) : Row (w.alloc (.cells #[.slice pa la ca] E)) (.slice (some ⟨w.heap.size, 0, none⟩) 1 1) ([(⟨pa, la, ca⟩ : SlT)].map SlT.enc) := by
  refine ⟨some ⟨w.heap.size, 0, none⟩, 1, rfl, Nat.le_refl _, by decide, (fun h => by cases h), fun _ => ⟨w.heap.size, 0, rfl, fun j hj => ?_⟩⟩
  rw [cell_of_row _ _ _ _ _ _ (heap_alloc_new w _), Nat.zero_add]
  have hj2 : j < 1 := hj
  obtain rfl : j = 0 := by omega
  rfl
set_option maxRecDepth 100000 in
theorem eval_any (l : List UInt8) (h40 : l.length ≤ 40) (x : UInt8) (v : Value) (w : World) (hv : RowB w v l) :
    Calls Tryd.prog 13 #[v, bv x] w fun e w' => e = .returned (.tuple #[bv (Pl.ev l x), .nilIface]) ∧ Below w.heap.size w w' := by
  have HV := Lib.hid hv
  obtain ⟨p, c, rfl, _, _⟩ := hv.shape
  have hb0 : Below w.heap.size w (w.alloc (.cells #[.slice p l.length c] 22)) := (Below.refl _ _).alloc (Nat.le_refl _) _
  have HF := Lib.hid (full_any _ _ _ (row_slt1 w p l.length c 22))
  rw [show ([(⟨p, l.length, c⟩ : SlT)].any fun x => decide (40 < x.n)) = false by simp; omega] at HF
  have HB0 := Lib.hid hb0
  have hz0 := hb0.size
  have HA := Lib.hid (at_any l (by omega) x _ _ (RowB.below HV.out hb0))
  clear hv hb0
  generalize l.length = n at *
  go_enter Tryd.func13, Tryd.ntmps13
  go_wp2_with fail
  refine HF.out.mono ?_
  rintro e w' ⟨rfl, rfl⟩
  go_wp2_with fail
  refine HA.out.mono ?_
  rintro e w2 ⟨rfl, hb2⟩
  have HB2 := Lib.hid (HB0.out.trans (hb2.mono hz0))
  clear hb2 HA HF HB0
  go_wp2_with fail
  go_ret2
  exact ⟨rfl, HB2.out⟩
def DvRel (a t : List UInt8) (n la lb ct B0 B1 B2 gt ot : Nat) (w : World) (vr vo : Value) (gk : Nat) (i : Value) (wr : World) : Prop :=
  i = .int .i64 ((gk : Int) - 1) ∧ gk ≤ n ∧ OwnB wr B0 (.slice (some ⟨gt, ot, none⟩) lb ct) t ∧ OwnB wr B1 vr (Gv.tab la (Pl.rs a t n (n - gk))) ∧ OwnB wr B2 vo (Gv.tab n (Pl.qs a t n (n - gk))) ∧ Below w.heap.size w wr
def DvIn (a t : List UInt8) (n s la lb ct B0 B1 B2 gt ot : Nat) (w : World) (vr vo : Value) (gk : Nat) (i : Value) (wr : World) : Prop :=
  ∃ k : Nat, k + gk = lb ∧ i = iv k ∧ OwnB wr B0 (.slice (some ⟨gt, ot, none⟩) lb ct) t ∧ OwnB wr B1 vr (Gv.tab la (Pl.rk a t n s k)) ∧ OwnB wr B2 vo (Gv.tab n (Pl.qs a t n (s + 1))) ∧ Below w.heap.size w wr
def DivPost (a t : List UInt8) (w : World) (e : Ending) (w' : World) : Prop :=
  ∃ v1 v2, e = .returned (.tuple #[v1, v2, .nilIface]) ∧ OwnB w' w.heap.size v1 (Pl.trim (Gv.tab (a.length + 1 - t.length) (Pl.qs a t (a.length + 1 - t.length) (a.length + 1 - t.length)))) ∧
    OwnB w' w.heap.size v2 (Pl.trim (Gv.tab a.length (Pl.rs a t (a.length + 1 - t.length) (a.length + 1 - t.length)))) ∧ Below w.heap.size w w'
set_option maxRecDepth 100000 in
set_option maxHeartbeats 2000000 in
theorem divmod_any (a b t : List UInt8) (ht : t = Pl.trim b) (h0 : t.length ≠ 0) (ha : a.length ≤ 40) (hb : b.length ≤ 40) (va vb : Value) (w : World) (hva : RowB w va a) (hvb : RowB w vb b) :
    Calls Tryd.prog 20 #[va, vb] w (DivPost a t w) := by
  have HA := Lib.hid hva
  have HBb := Lib.hid hvb
  obtain ⟨pa, ca, rfl, _, _⟩ := hva.shape
  obtain ⟨pb, cb, rfl, _, _⟩ := hvb.shape
  have hb0 : Below w.heap.size w (w.alloc (.cells #[.slice pa a.length ca, .slice pb b.length cb] 22)) := (Below.refl _ _).alloc (Nat.le_refl _) _
  have HF := Lib.hid (full_any _ _ _ (row_slt2 w pa pb a.length ca b.length cb 22))
  rw [show ([(⟨pa, a.length, ca⟩ : SlT), ⟨pb, b.length, cb⟩].any fun x => decide (40 < x.n)) = false by simp; omega] at HF
  have HB0 := Lib.hid hb0
  have hz0 := hb0.size
  have HT := Lib.hid (trim_any b (by omega) _ _ (RowB.below HBb.out hb0))
  unfold TrimPost at HT
  rw [← ht] at HT
  have htl : t.length ≤ 40 := by rw [ht, Pl.trim_len]; have := Pl.tn_le b b.length; omega
  obtain ⟨la, hla⟩ : ∃ n, n = a.length := ⟨_, rfl⟩
  obtain ⟨lb, hlb⟩ : ∃ n, n = t.length := ⟨_, rfl⟩
  obtain ⟨n, hn⟩ : ∃ n, n = la + 1 - lb := ⟨_, rfl⟩
  unfold DivPost
  rw [← hla] at HA HF HB0 hz0 HT ha ⊢
  rw [← hlb] at h0 htl ⊢
  rw [← hn]
  have Hla := Lib.hid hla
  have Hlb := Lib.hid hlb
  generalize b.length = lbb at *
  clear hva hvb hb0 ht hla hlb
  go_enter Tryd.func20, Tryd.ntmps20
  go_wp2_with fail
  refine HF.out.mono ?_
  rintro e w' ⟨rfl, rfl⟩
  go_wp2_with fail
  refine HT.out.mono ?_
  rintro e w1 ⟨vt, rfl, hO1, hb1⟩
  have HB1 := Lib.hid (HB0.out.trans (hb1.mono hz0))
  have hz1 := HB1.out.size
  have hO1' : OwnB w1 w.heap.size vt t := OwnR.mono hO1 hz0
  obtain ⟨gt, ot, ct, rfl, hgt, hgt1, _, _, _, _⟩ := OwnB.cellAt hO1' (j := 0) (by rw [← Hlb.out]; omega)
  have HO1 := Lib.hid hO1'
  rw [← Hlb.out] at HO1 ⊢
  have HA1 := Lib.hid (RowB.below HA.out HB1.out)
  have HCl := Lib.hid (clone_byte (a.map bv) (by intro u hu; obtain ⟨x, _, rfl⟩ := List.mem_map.1 hu; rfl) (by rw [List.length_map, ← Hla.out]; omega) _ w1 HA1.out)
  unfold ClonePostB at HCl
  have tlb : ((lb : Int) == 0) = false := beq_f (by omega)
  clear hO1 hb1 hO1' HT HF HB0
  go_wp2_with fail
  refine HCl.out.mono ?_
  rintro e w2 ⟨vr, rfl, hown2, hb2⟩
  have HB2 := Lib.hid (HB1.out.trans (hb2.mono hz1))
  have hz2 := HB2.out.size
  have HO2 := Lib.hid (OwnR.below HO1.out hb2)
  have hR2 : OwnB w2 w1.heap.size vr (Gv.tab la (Pl.rs a t n 0)) := by
    have e1 : Gv.tab la (Pl.rs a t n 0) = a := by
      show Gv.tab la (Pl.cf a) = a
      rw [Hla.out]; exact Gv.tab_self a
    rw [e1]; exact OwnR.of_owns hown2
  have HR2 := Lib.hid hR2
  obtain ⟨pr, lr, cr, rfl⟩ := OwnR.slice hR2
  have hlr : lr = la := by
    obtain ⟨p', c', h1, _⟩ := OwnR.shape hR2
    rw [List.length_map, Gv.tab_len] at h1
    injection h1
  subst hlr
  have hw1 : IntKind.i64.wrap ((lr : Int) - (lb : Int)) = (lr : Int) - (lb : Int) := IntWalk.i64_in _ (by omega)
  have hw2 : IntKind.i64.wrap ((lr : Int) - (lb : Int) + 1) = (lr : Int) - (lb : Int) + 1 := IntWalk.i64_in _ (by omega)
  have hmx : max (0 : Int) ((lr : Int) - (lb : Int) + 1) = (n : Int) := by omega
  have mk := make_bytesV n (by omega) w2
  have HO3 := Lib.hid (owns_made n (by omega) w2)
  have hn40 : n ≤ 1000 := by omega
  have hpr : 1 ≤ lr → ∃ g o, pr = some ⟨g, o, none⟩ ∧ w1.heap.size ≤ g ∧ g < w2.heap.size := by
    intro h
    obtain ⟨g, o, c, hv, h1, h2, _⟩ := OwnB.cellAt HR2.out (j := 0) (by rw [Gv.tab_len]; omega)
    injection hv with e1 e2 e3
    exact ⟨g, o, e1, h1, h2⟩
  have Hpr := Lib.hid hpr
  obtain ⟨_, _, _, hvt, _, _, _, _, hlast, _⟩ := OwnB.cellAt HO2.out (j := lb - 1) (by rw [← Hlb.out]; omega)
  injection hvt with q1 q8 q9
  injection q1 with q1
  injection q1 with q1 q2
  subst q1 q2
  clear q8 q9
  obtain ⟨x, hx⟩ : ∃ x, x = Pl.cf t (lb - 1) := ⟨_, rfl⟩
  rw [show Gv.at' t (lb - 1) = x from hx.symm] at hlast
  obtain ⟨f, hf⟩ : ∃ f, f = Gf.inv x := ⟨_, rfl⟩
  have Hx := Lib.hid hx
  have Hf := Lib.hid hf
  have HI := Lib.hid (fun W : World => inverse_any x _ rfl W)
  rw [← hf] at HI
  obtain ⟨ol, hol⟩ : ∃ ol, ol = lb - 1 := ⟨_, rfl⟩
  rw [← hol] at hlast
  have hw3 : IntKind.i64.wrap ((lb : Int) - 1) = (ol : Int) := (IntWalk.i64_in _ (by omega)).trans (by omega)
  have hw4 : IntKind.i64.wrap ((n : Int) - 1) = (n : Int) - 1 := IntWalk.i64_in _ (by omega)
  have hol1 : (ol : Int) < (lb : Int) := by omega
  have hol0 : ol < lb := by omega
  have Hol := Lib.hid hol
  have Hn := Lib.hid hn
  have hb3 : Below w.heap.size w (w2.alloc (.cells (madeCells #[.int .u8 0] n) 5)) := HB2.out.alloc (by have := HB2.out.size; omega) _
  have hlast3 : (w2.alloc (.cells (madeCells #[.int .u8 0] n) 5)).cell? ⟨gt, ot + ol, none⟩ = some (bv x) := Below.cell ((Below.refl w2.heap.size w2).alloc (Nat.le_refl _) _) (p := ⟨gt, ot + ol, none⟩) (by show gt < w2.heap.size; omega) |>.trans hlast
  have HT3 := Lib.hid (OwnR.below HO2.out ((Below.refl w2.heap.size w2).alloc (Nat.le_refl _) (.cells (madeCells #[.int .u8 0] n) 5)))
  have HR3 := Lib.hid (OwnR.below HR2.out ((Below.refl w2.heap.size w2).alloc (Nat.le_refl _) (.cells (madeCells #[.int .u8 0] n) 5)))
  have HB3 := Lib.hid hb3
  clear hown2 hb2 hR2 HCl HO1 HA1 hn hx hf hol hpr hb3 hlast
  go_wp2_with fail
  refine (HI.out _).mono ?_
  rintro e w4 ⟨rfl, rfl⟩
  clear HI hlast3 hw1 hw2 hmx hw3 mk
  go_wp2_with fail
  go_loopg [10, 11, 12, 63] n (fun gk v10 v11 v12 v63 wr => DvRel a t n lr lb ct w.heap.size w1.heap.size w2.heap.size gt ot w (.slice pr lr cr) (.slice (some ⟨w2.heap.size, 0, none⟩) n n) gk v10 wr)
  case atStart => exact ⟨rfl, Nat.le_refl _, HT3.out, by rw [Nat.sub_self]; exact HR3.out, by rw [Nat.sub_self, Pl.qs_zero]; exact HO3.out, HB3.out⟩
  case round =>
    clear HT3 HR3 HO3 HB3
    obtain ⟨wO, hwO⟩ : ∃ x : World, x = wr := ⟨_, rfl⟩
    subst hwO
    obtain ⟨rfl, hgk, hT, hR, hO, hB⟩ := hrel
    have HT := Lib.hid hT
    have HR := Lib.hid hR
    have HO := Lib.hid hO
    have HB := Lib.hid hB
    clear hT hR hO hB
    cases gk with
    | zero =>
      have e1 : ((0 : Nat) : Int) - 1 = -1 := by omega
      rw [e1]
      clear hgk
      have hlo := Pl.trim_len (Gv.tab n (Pl.qs a t n n))
      rw [Nat.sub_zero] at HR HO
      have HTo := Lib.hid (trim_any (Gv.tab n (Pl.qs a t n n)) (by rw [Gv.tab_len]; omega) _ _ (OwnB.row HO.out))
      unfold TrimPost at HTo
      have hB := HB.out.size
      clear hlo
      go_wp2_with fail
      refine HTo.out.mono ?_
      rintro e w5 ⟨v5, rfl, hO5, hb5⟩
      have HR5 := Lib.hid (OwnR.below HR.out hb5)
      have HTr := Lib.hid (trim_any (Gv.tab lr (Pl.rs a t n n)) (by rw [Gv.tab_len]; omega) _ _ (OwnB.row HR5.out))
      unfold TrimPost at HTr
      have HB5 := Lib.hid (HB.out.trans (hb5.mono hB))
      have HO5 := Lib.hid hO5
      have hB5 := HB5.out.size
      clear hO5 hb5 HTo
      go_wp2_with fail
      refine HTr.out.mono ?_
      rintro e w6 ⟨v6, rfl, hO6, hb6⟩
      have HB6 := Lib.hid (HB5.out.trans (hb6.mono hB5))
      have HO6 := Lib.hid (OwnR.mono hO6 hB5)
      have HO56 := Lib.hid (OwnR.mono (OwnR.below HO5.out hb6) hB)
      clear hO6 hb6 HTr
      go_wp2_with fail
      go_ret3
      exact ⟨_, _, rfl, HO56.out, HO6.out, HB6.out⟩
    | succ m =>
      have e1 : ((m + 1 : Nat) : Int) - 1 = (m : Int) := by omega
      rw [e1]
      obtain ⟨s, hs⟩ : ∃ s, s = n - (m + 1) := ⟨_, rfl⟩
      rw [← hs] at HR HO
      have Hs := Lib.hid hs
      have Hgk := Lib.hid hgk
      have hm1 : (m : Int) < (n : Int) := by omega
      have hm0 : (0 : Int) ≤ (m : Int) := by omega
      have hn := Hn.out
      have hmq : m + ol < lr := by have := Hol.out; omega
      obtain ⟨gr, or', hpe, hgr1, hgr2⟩ := Hpr.out (by omega)
      subst hpe
      obtain ⟨_, _, _, hvr, _, hgr3, _, _, hrl, hrf⟩ := OwnB.cellAt HR.out (j := m + ol) (by rw [Gv.tab_len]; exact hmq)
      injection hvr with q1 q8 q9
      injection q1 with q1
      injection q1 with q1 q2
      subst q1 q2
      clear q8 q9
      obtain ⟨_, _, _, hvo, _, hgo, _, _, hol_, hof⟩ := OwnB.cellAt HO.out (j := m) (by rw [Gv.tab_len]; omega)
      injection hvo with q1 q8 q9
      injection q1 with q1
      injection q1 with q1 q2
      subst q1 q2
      clear q8 q9
      obtain ⟨z, hz⟩ : ∃ z, z = Pl.rs a t n s (m + ol) := ⟨_, rfl⟩
      rw [show Gv.at' (Gv.tab lr (Pl.rs a t n s)) (m + ol) = z by unfold Gv.at'; rw [Gv.tab_at _ hmq]; exact hz.symm] at hrl
      have Hz := Lib.hid hz
      have hq : Gf.mul z f = Pl.oq a t n s := by
        have h1 := Hs.out; have h2 := Hol.out; have h3 := Hlb.out
        unfold Pl.oq
        rw [hz, Hf.out, Hx.out, ← h3, show n - 1 - s + lb - 1 = m + ol by omega]
      have Hq := Lib.hid hq
      have HO2 : Hid (OwnB (wO.setCell ⟨w2.heap.size, m, none⟩ (bv (Pl.oq a t n s))) w2.heap.size (.slice (some ⟨w2.heap.size, 0, none⟩) n n) (Gv.tab n (Pl.qs a t n (s + 1)))) := Lib.hid (by
        have h1 := OwnB.setAt HO.out (k := m) (by rw [Gv.tab_len]; omega) (Pl.oq a t n s)
        have h2 := Pl.qs_set a t (n := n) (s := s) (by omega)
        rw [show n - 1 - s = m by omega] at h2
        rw [h2, Nat.zero_add] at h1
        exact h1)
      have HR2 : Hid (OwnB (wO.setCell ⟨w2.heap.size, m, none⟩ (bv (Pl.oq a t n s))) w1.heap.size (.slice (some ⟨gr, or', none⟩) lr cr) (Gv.tab lr (Pl.rs a t n s))) := Lib.hid (OwnB.other HR.out (by show some gr ≠ some w2.heap.size; intro h; injection h; omega))
      have HT2 : Hid (OwnB (wO.setCell ⟨w2.heap.size, m, none⟩ (bv (Pl.oq a t n s))) w.heap.size (.slice (some ⟨gt, ot, none⟩) lb ct) t) := Lib.hid (OwnB.other HT.out (by show some gt ≠ some w2.heap.size; intro h; injection h; omega))
      have HB2' : Hid (Below w.heap.size w (wO.setCell ⟨w2.heap.size, m, none⟩ (bv (Pl.oq a t n s)))) := Lib.hid (HB.out.setCell (p := ⟨w2.heap.size, m, none⟩) (by show w.heap.size ≤ w2.heap.size; omega) _)
      have hwq1 : IntKind.i64.wrap ((m : Int) + (lb : Int)) = (m : Int) + (lb : Int) := IntWalk.i64_in _ (by omega)
      have hwq2 : IntKind.i64.wrap ((m : Int) + (lb : Int) - 1) = ((m + ol : Nat) : Int) := (IntWalk.i64_in _ (by omega)).trans (by have := Hol.out; omega)
      have hfz := hof m
      have HM := Lib.hid (mul_st z f)
      rw [hq] at HM
      have hgkn : m + 1 ≤ n := hgk
      clear hgk hs hn hz hq hrf hof Hpr
      rw [Nat.zero_add] at hol_
      have hmq' : ((m + ol : Nat) : Int) < (lr : Int) := by omega
      go_wp2_with fail
      refine (HM.out _).mono ?_
      rintro e w5 ⟨rfl, rfl⟩
      clear HM hwq1 hwq2 hrl
      go_wp2_with fail
      clear HT HR HO HB hfz hol_
      obtain ⟨wP, hwP⟩ : ∃ x : World, x = w5.setCell ⟨w2.heap.size, m, none⟩ (bv (Pl.oq a t n s)) := ⟨_, rfl⟩
      rw [← hwP] at HT2 HR2 HO2 HB2' ⊢
      clear hwP
      go_loopg [11, 12, 63] lb (fun gk v11 v12 v63 wr => DvIn a t n s lr lb ct w.heap.size w1.heap.size w2.heap.size gt ot w (.slice (some ⟨gr, or', none⟩) lr cr) (.slice (some ⟨w2.heap.size, 0, none⟩) n n) gk v63 wr)
      case atStart => exact ⟨0, by omega, rfl, HT2.out, by rw [Pl.rk_zero]; exact HR2.out, HO2.out, HB2'.out⟩
      case round =>
        clear HT2 HR2 HO2 HB2'
        obtain ⟨k, hk, rfl, hT, hR, hO, hB⟩ := hrel
        have Hk := Lib.hid hk
        have HTk := Lib.hid hT
        have HRk := Lib.hid hR
        have HOk := Lib.hid hO
        have HBk := Lib.hid hB
        clear hk hT hR hO hB
        by_cases hkb : k < lb
        · obtain ⟨_, _, _, hvt, _, hgt9, _, _, d1, _⟩ := OwnB.cellAt HTk.out (j := k) (by rw [← Hlb.out]; exact hkb)
          injection hvt with q1 q8 q9
          injection q1 with q1
          injection q1 with q1 q2
          subst q1 q2
          clear q8 q9
          have hmk : m + k < lr := by have := Hn.out; omega
          obtain ⟨_, _, _, hvr, _, hgr9, _, _, d2, hrf⟩ := OwnB.cellAt HRk.out (j := m + k) (by rw [Gv.tab_len]; exact hmk)
          injection hvr with q1 q8 q9
          injection q1 with q1
          injection q1 with q1 q2
          subst q1 q2
          clear q8 q9
          obtain ⟨_, _, _, hvo, _, hgo9, _, _, d3, _⟩ := OwnB.cellAt HOk.out (j := m) (by rw [Gv.tab_len]; omega)
          injection hvo with q1 q8 q9
          injection q1 with q1
          injection q1 with q1 q2
          subst q1 q2
          clear q8 q9
          obtain ⟨y, hy⟩ : ∃ y, y = Pl.cf t k := ⟨_, rfl⟩
          obtain ⟨z', hz'⟩ : ∃ z', z' = Pl.rk a t n s k (m + k) := ⟨_, rfl⟩
          obtain ⟨o', ho'⟩ : ∃ o', o' = Pl.oq a t n s := ⟨_, rfl⟩
          have hnm : n - 1 - s = m := by have := Hs.out; omega
          rw [show Gv.at' t k = y from hy.symm] at d1
          rw [show Gv.at' (Gv.tab lr (Pl.rk a t n s k)) (m + k) = z' by unfold Gv.at'; rw [Gv.tab_at _ hmk]; exact hz'.symm] at d2
          rw [show Gv.at' (Gv.tab n (Pl.qs a t n (s + 1))) m = o' by
            unfold Gv.at'; rw [Gv.tab_at _ (by omega)]; unfold Pl.qs; rw [if_pos (by omega), show n - 1 - m = s by have := Hs.out; omega]; exact ho'.symm, Nat.zero_add] at d3
          have hbl : Below w.heap.size w wr.drew := HBk.out.drew
          have HR3 : Hid (OwnB (wr.drew.setCell ⟨gr, or' + (m + k), none⟩ (bv (z' ^^^ Gf.mul o' y))) w1.heap.size (.slice (some ⟨gr, or', none⟩) lr cr) (Gv.tab lr (Pl.rk a t n s (k + 1)))) := Lib.hid (by
            have h1 := OwnB.setAt (OwnR.below HRk.out (Below.refl _ _).drew) (k := m + k) (by rw [Gv.tab_len]; exact hmk) (z' ^^^ Gf.mul o' y)
            have h2 := Pl.rk_set (m := lr) a t n s k
            rw [hnm] at h2
            rw [hz', ho', hy, h2] at h1
            rw [hz', ho', hy]
            exact h1)
          have HT3 : Hid (OwnB (wr.drew.setCell ⟨gr, or' + (m + k), none⟩ (bv (z' ^^^ Gf.mul o' y))) w.heap.size (.slice (some ⟨gt, ot, none⟩) lb ct) t) := Lib.hid (OwnB.other (OwnR.below HTk.out (Below.refl _ _).drew) (by show some gt ≠ some gr; intro h; injection h; omega))
          have HO3 : Hid (OwnB (wr.drew.setCell ⟨gr, or' + (m + k), none⟩ (bv (z' ^^^ Gf.mul o' y))) w2.heap.size (.slice (some ⟨w2.heap.size, 0, none⟩) n n) (Gv.tab n (Pl.qs a t n (s + 1)))) := Lib.hid (OwnB.other (OwnR.below HOk.out (Below.refl _ _).drew) (by show some w2.heap.size ≠ some gr; intro h; injection h; omega))
          have HB3 : Hid (Below w.heap.size w (wr.drew.setCell ⟨gr, or' + (m + k), none⟩ (bv (z' ^^^ Gf.mul o' y)))) := Lib.hid (hbl.setCell (p := ⟨gr, or' + (m + k), none⟩) (by show w.heap.size ≤ gr; omega) _)
          have hwk2 : IntKind.i64.wrap ((m : Int) + (k : Int)) = (m : Int) + (k : Int) := IntWalk.i64_in _ (by omega)
          have hIk : (m : Int) + (k : Int) < (lr : Int) := by omega
          have hIk0 : (0 : Int) ≤ (m : Int) + (k : Int) := by omega
          have hnat : ((m : Int) + (k : Int)).toNat = m + k := by omega
          have fo := hrf (or' + (m + k))
          clear hy hz' ho' hrf hbl hnm
          go_wp2_with fail
          go_still_tail 14, (by kernel_rfl)
          still_call (mul_st o' y _)
          repeat still_step
          refine wpStill_nil ?_
          clear d1 d3
          go_wp2_with fail
          go_roundg (gk - 1)
          case measure => have := Hk.out; omega
          case rel => exact ⟨k + 1, by have := Hk.out; omega, by go_num, by rw [bv_xor]; exact HT3.out, by rw [bv_xor]; exact HR3.out, by rw [bv_xor]; exact HO3.out, by rw [bv_xor]; exact HB3.out⟩
        · have hkl : k = lb := by have := Hk.out; omega
          have hR9 : OwnB wr w1.heap.size (.slice (some ⟨gr, or', none⟩) lr cr) (Gv.tab lr (Pl.rs a t n (s + 1))) := by
            have h := HRk.out
            rw [hkl, Hlb.out, Pl.rk_full] at h; exact h
          have HR9 := Lib.hid hR9
          have hw9 : IntKind.i64.wrap ((m : Int) - 1) = (m : Int) - 1 := IntWalk.i64_in _ (by omega)
          clear hR9
          go_wp2_with fail
          go_roundg m
          case measure => omega
          case rel =>
            have e9 : n - m = s + 1 := by have := Hs.out; omega
            exact ⟨rfl, by omega, HTk.out, by rw [e9]; exact HR9.out, by rw [e9]; exact HOk.out, HBk.out⟩
end Go.Proofs.YtbikmodfmckaeaaDoor
