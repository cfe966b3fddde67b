/- The reference's array: Write. -/
import Derived.Test.YtneebcniofolmaaGreatDoorRArU
import Derived.Test.YtneebcniofolmaaGreatDoorRPqV
namespace Go.Proofs.YtneebcniofolmaaGreatDoor
open Go.ChangeShapes Go.WideShapes Go.ChangeAt Go.RowKit
set_option linter.unusedVariables false
variable {F : Nat → Prop} {w : World} {b : Nat} {s : Ar.S}
theorem RAryAt.extC {w : World} {b gc gf gb cc cf cb : Nat} {gr cr : Nat → Nat} {n rows size : Nat} {fl : Nat → Bool} {bt : Nat → Nat} {C C' : Nat → Nat → ByteArray} (h : RAryAt w b gc gf gb cc cf cb gr cr n rows size fl bt C) (he : ∀ d r, d < n → r < rows → C' d r = C d r) : RAryAt w b gc gf gb cc cf cb gr cr n rows size fl bt C' :=
  ⟨h.blk, h.caps, h.lst, h.rcap, fun d hd => (h.row d hd).ext (fun r hr => by rw [he d r hd hr]), h.fls, h.bts, h.inj⟩
/-- the first i parts of a row are written -/
def rpC (s : Ar.S) (C : Nat → Nat → ByteArray) (r : Nat) (l : List ByteArray) (i d q : Nat) : ByteArray := if q = r ∧ Ar.ix s.n r d < i ∧ s.lost d r = false then l.getD (Ar.ix s.n r d) ⟨#[]⟩ else C d q
theorem rpC_0 {C : Nat → Nat → ByteArray} {r : Nat} {l : List ByteArray} : rpC s C r l 0 = C := by
  funext d q; unfold rpC; rw [if_neg (fun h => by omega)]
theorem rpC_lost {C : Nat → Nat → ByteArray} {r : Nat} {l : List ByteArray} {i d q : Nat} (ho : s.Ok) (hd : d < s.n) (hi : i < s.n) (hl : s.lost (Ar.dk s.n r i) r = true) : rpC s C r l (i + 1) d q = rpC s C r l i d q := by
  unfold rpC
  by_cases h1 : q = r ∧ Ar.ix s.n r d < i ∧ s.lost d r = false
  · rw [if_pos h1, if_pos ⟨h1.1, by omega, h1.2.2⟩]
  · rw [if_neg h1, if_neg]
    intro h2
    refine h1 ⟨h2.1, ?_, h2.2.2⟩
    have : Ar.ix s.n r d ≠ i := fun e => by
      have := Ar.dk_ix (row := r) ho.n3 ho.n10 hd
      rw [e] at this
      rw [this, h2.2.2] at hl; cases hl
    omega
theorem rpC_not {C : Nat → Nat → ByteArray} {r : Nat} {l : List ByteArray} {i d q : Nat} (ho : s.Ok) (hd : d < s.n) (hi : i < s.n) (hl : s.lost (Ar.dk s.n r i) r = false) : rpC s C r l (i + 1) d q = Ar.up (rpC s C r l i) (Ar.dk s.n r i) (Ar.up (rpC s C r l i (Ar.dk s.n r i)) r (l.getD i ⟨#[]⟩)) d q := by
  by_cases e : d = Ar.dk s.n r i
  · subst e
    rw [Ar.up_self]
    by_cases e2 : q = r
    · subst e2
      rw [Ar.up_self]
      unfold rpC
      rw [Ar.ix_dk ho.n3 ho.n10 hi, if_pos ⟨rfl, by omega, hl⟩]
    · rw [Ar.up_ne _ _ e2]
      unfold rpC
      rw [if_neg (fun h => e2 h.1), if_neg (fun h => e2 h.1)]
  · rw [Ar.up_ne _ _ e]
    have : Ar.ix s.n r d ≠ i := fun e2 => e (by rw [← e2, Ar.dk_ix ho.n3 ho.n10 hd])
    unfold rpC
    by_cases h1 : q = r ∧ Ar.ix s.n r d < i ∧ s.lost d r = false
    · rw [if_pos h1, if_pos ⟨h1.1, by omega, h1.2.2⟩]
    · rw [if_neg h1, if_neg (fun h2 => h1 ⟨h2.1, by omega, h2.2.2⟩)]
theorem rpC_see {C : Nat → Nat → ByteArray} {r : Nat} {l : List ByteArray} (hS : ∀ d r, d < s.n → r < s.rows → s.lost d r = false → C d r = s.c d r) : ∀ d q, d < (s.putRow r l).n → q < (s.putRow r l).rows → (s.putRow r l).lost d q = false → rpC s C r l s.n d q = (s.putRow r l).c d q := by
  intro d q hd hq hl
  have hd' : d < s.n := hd
  have hl' : s.lost d q = false := hl
  show rpC s C r l s.n d q = if q = r then l.getD (Ar.ix s.n r d) ⟨#[]⟩ else s.c d q
  have := Ar.ix_lt (n := s.n) (row := r) (d := d) (by omega)
  unfold rpC
  by_cases e : q = r
  · rw [if_pos e, if_pos ⟨e, this, by rw [← e]; exact hl'⟩]
  · rw [if_neg e, if_neg (fun h => e h.1)]
    exact hS d q hd hq hl'
/-- what is read, while cells turn -/
structure RWrSee (s : Ar.S) (r : Nat) (l : List ByteArray) (gh oh go gl : Nat) (w : World) : Prop where
  hl : ∀ i, i < s.n → w.cell? ⟨gh, oh + i, none⟩ = some (.string (l.getD i ⟨#[]⟩))
  od : ∀ i, i < s.n → w.cell? ⟨go, i, none⟩ = some (iv (Ar.dk s.n r i))
  mr : ∀ i, i < s.n → w.cell? ⟨gl, i, none⟩ = some (.bool (s.lost (Ar.dk s.n r i) r))
theorem RWrSee.kept {T : Nat → Prop} {r : Nat} {l : List ByteArray} {gh oh go gl : Nat} {w w1 : World} (h : RWrSee s r l gh oh go gl w) (hk : Kept T w w1) (h2 : ¬ T gh) (h3 : ¬ T go) (h4 : ¬ T gl) : RWrSee s r l gh oh go gl w1 :=
  ⟨fun i hi => hk.cell (h.hl i hi) h2, fun i hi => hk.cell (h.od i hi) h3, fun i hi => hk.cell (h.mr i hi) h4⟩
set_option maxRecDepth 100000 in
set_option maxHeartbeats 4000000 in
theorem rWrite (h : RAryOk F w b s) (x : Int) (hx : x ≤ 9223372036854775807) (hx0 : -9223372036854775808 ≤ x) (q : ByteArray) (hq : q.size ≤ maxLen) :
    Calls Tryz.prog 26 #[.pointer (some ⟨b, 0, none⟩), iv x, .string q] w (RPost F b (s.write x q).1 (s.write x q).2 w) := by
  have HOK := Lib.hid h
  have hq9 := hq
  unfold maxLen at hq9
  have c0 := h.n
  have c1 := h.r
  have c2 := h.z
  have ho := h.1
  have Ho := Lib.hid ho
  obtain ⟨res, hres⟩ : ∃ res, res = s.write x q := ⟨_, rfl⟩
  rw [← hres]
  unfold Ar.S.write at hres
  have hn := ho.n3
  have hn10 := ho.n10
  have hr20 := ho.r20
  have hm9 : s.rows * (s.n - 2) ≤ 20 * 8 := Nat.mul_le_mul hr20 (by omega)
  obtain ⟨m, hm⟩ : ∃ m, m = s.rows * (s.n - 2) := ⟨_, rfl⟩
  have hmI : (s.rows : Int) * ((s.n : Int) - 2) = (m : Int) := by rw [hm, Int.natCast_mul, show ((s.n - 2 : Nat) : Int) = (s.n : Int) - 2 by omega]
  rw [← hm] at hm9
  have hw1 : IntKind.i64.wrap ((s.n : Int) - 2) = (s.n : Int) - 2 := IntWalk.i64_in _ (by omega)
  have hw2 : IntKind.i64.wrap ((s.rows : Int) * ((s.n : Int) - 2)) = (m : Int) := by rw [hmI]; exact IntWalk.i64_in _ (by omega)
  have Hm := Lib.hid hm
  clear hm hmI
  by_cases hb : s.hasBlock x
  · obtain ⟨y, rfl, hy⟩ := Ar.S.hasBlock_nat hb
    rw [if_pos hb, Int.toNat_natCast] at hres
    rw [← Hm.out] at hy
    have d1 : decide ((y : Int) < 0) = false := dec_f (by omega)
    have d2 : decide ((m : Int) ≤ (y : Int)) = false := dec_f (by omega)
    have hrow := Ar.S.row_lt ho (by rw [← Hm.out]; exact hy)
    have hj : y % (s.n - 2) < s.n - 2 := Nat.mod_lt y (by omega)
    by_cases hz : q.size = s.size
    · have hne : ((q.size : Int) != (s.size : Int)) = false := bne_f (by omega)
      rw [if_pos hz] at hres
      have Hz := Lib.hid hz
      obtain ⟨r, hr⟩ : ∃ r, r = y / (s.n - 2) := ⟨_, rfl⟩
      obtain ⟨j, hj0⟩ : ∃ j, j = y % (s.n - 2) := ⟨_, rfl⟩
      rw [← hr, ← hj0] at hres
      rw [← hr] at hrow
      rw [← hj0] at hj
      have hqq := quo_row (n := s.n) (y := y) hn hr hj0 (by omega)
      have Hq := Lib.hid hqq
      have Hres := Lib.hid hres
      have HRw := Lib.hid (rRaw h r hrow)
      have HLo := Lib.hid (rLost h r hrow)
      have hA' := h.2
      obtain ⟨gc, gf, gb, cc, cf, cb, gr, cr, C, hA, hI, hS⟩ := hA'
      have hcaps := hA.caps
      obtain ⟨k1, k2, k3, k4, k5, k6⟩ := hcaps
      unfold maxLen at k2 k4 k6
      have HA := Lib.hid hA
      have HI := Lib.hid hI
      have HS := Lib.hid hS
      clear hr hj0 hb h ho hres hqq hz hA hI hS
      obtain ⟨_, q2, q3, q0, q1⟩ := Hq.out
      go_enter Tryz.func26, Tryz.ntmps26
      go_wp2_with fail
      refine HLo.out.mono ?_
      rintro e w' ⟨rfl, rfl⟩
      by_cases hm : 2 < s.many r
      · have hres : res = (8, s) := by rw [Hres.out, if_pos hm]
        subst hres
        have t2 : decide (2 < (s.many r : Int)) = true := dec_t (by omega)
        clear hm
        go_wp2_with fail
        go_ret
        exact ⟨rfl, HOK.out, Kept.refl F w⟩
      · have t2 : decide (2 < (s.many r : Int)) = false := dec_f (by omega)
        have hres : res = (0, s.putRow r (s.turned r j q)) := by rw [Hres.out, if_neg hm]
        have Hres := Lib.hid hres
        have HM := Lib.hid hm
        clear hm hres
        go_wp2_with fail
        refine HRw.out.mono ?_
        rintro e w2 ⟨v1, v2, rfl, hP, hL, hB2⟩
        have HHe := Lib.hid (rheal Ho.out hrow HM.out (v := v1) (vl := v2) (row_of_owns hP).1 (row_of_owns hL).1)
        obtain ⟨gl, cl, rfl, hl1, hl2, hl3, hl4, hl5, _⟩ := owns_pos hL (by omega)
        have mk : ∀ i, i < s.n → w2.cell? ⟨gl, i, none⟩ = some (.bool (s.lost (Ar.dk s.n r i) r)) := fun i hi => (hl5 i hi).trans (by
          unfold Ar.S.marks
          rw [List.getElem?_map, List.getElem?_map, List.getElem?_range hi]; rfl)
        have HB2 := Lib.hid hB2
        have Hmk := Lib.hid mk
        have hz2 := HB2.out.size
        unfold maxLen at hl4
        clear hP hL hB2 HRw hl5 mk c0 c1 c2
        go_wp2_with fail
        refine HHe.out.mono ?_
        rintro e w3 ⟨vh, rfl, hOh, hB3⟩
        have hcw := Ar.S.heal_cw Ho.out hrow HM.out
        have hlen : (s.heal r).length = s.n := by have := hcw.len; omega
        have htc := Ar.S.turned_cw Ho.out (j := j) hrow HM.out Hz.out
        have hput2 := Ar.S.putRow_ok Ho.out (row := r) htc
        have hsz : ∀ y ∈ s.heal r, y.size = s.size := hcw.sz (by omega)
        have htu : s.turned r j q = ((s.heal r).take (s.n - 2)).set j q ++ [Gv.P (((s.heal r).take (s.n - 2)).set j q), Gv.Q (((s.heal r).take (s.n - 2)).set j q)] := rfl
        obtain ⟨gh, oh, ch, rfl, hh0, hhz, hh1, hh2, hh3, hh4⟩ := hOh.at0 (by rw [List.length_map]; omega)
        rw [List.length_map, hlen] at hh1 hh3
        rw [List.length_map, hlen] at hOh ⊢
        have HB3 := Lib.hid (HB2.out.trans (hB3.mono hz2))
        have mk3 : ∀ i, i < s.n → w3.cell? ⟨gl, i, none⟩ = some (.bool (s.lost (Ar.dk s.n r i) r)) := fun i hi => (hB3.cell (p := ⟨gl, i, none⟩) hl2).trans (Hmk.out i hi)
        have Hput2 := Lib.hid hput2
        have Htc := Lib.hid htc
        have Htu := Lib.hid htu
        have e0 := hh3 j (by omega)
        rw [List.getElem?_map, List.getElem?_eq_getElem (by omega)] at e0
        obtain ⟨xj, hxj⟩ : ∃ xj, xj = (s.heal r)[j]'(by omega) := ⟨_, rfl⟩
        have e0' : w3.cell? ⟨gh, oh + j, none⟩ = some (.string xj) := by rw [hxj]; exact e0
        have f0 := hh4 (oh + j)
        have hjI : (j : Int) < (s.n : Int) := by omega
        have Hmk3 := Lib.hid mk3
        have Hlen := Lib.hid hlen
        unfold maxLen at hh2
        obtain ⟨k, hk⟩ : ∃ k, k = s.n - 2 := ⟨_, rfl⟩
        obtain ⟨ds, hds⟩ : ∃ ds, ds = ((s.heal r).take (s.n - 2)).set j q := ⟨_, rfl⟩
        obtain ⟨wX, hwX⟩ : ∃ wX, wX = w3.setCell ⟨gh, oh + j, none⟩ (.string q) := ⟨_, rfl⟩
        have hO1 := hOh.setStr (k := j) (by omega) q
        rw [← hwX] at hO1
        have hrw := row_head (OwnR.row hO1) (k := s.n - 2) (by rw [List.length_map, List.length_set]; omega)
        rw [← List.map_take, List.take_set, ← hds, ← hk] at hrw
        have hdl : ds.length = s.n - 2 := by rw [hds, List.length_set, List.length_take]; omega
        have hdz : ∀ y ∈ ds, y.size = s.size := fun y hy => by
          rw [hds] at hy
          rcases List.mem_or_eq_of_mem_set hy with h4 | h4
          · exact hsz y (List.mem_of_mem_take h4)
          · rw [h4]; exact Hz.out
        have hz0 : size0 ds = s.size := Gv.size0_of hdz (by omega)
        have HOf := Lib.hid (rpq_any ds (fun y hy => by rw [hdz y hy, hz0]) (by have := Ho.out.z16; omega) (by omega) _ wX hrw)
        have HO1 := Lib.hid hO1
        have Hk := Lib.hid hk
        have Hds := Lib.hid hds
        have Hdl := Lib.hid hdl
        have hkX : Kept (· = gh) w3 wX := by rw [hwX]; exact (Kept.self gh w3).set1 _ _
        have HkX := Lib.hid hkX
        have HwX := Lib.hid hwX
        clear hB3 hOh hh3 hput2 htc htu hcw e0 mk3 Hmk hxj hlen hsz hh4 HHe hk hds hO1 hrw hdl hdz hz0 hwX hkX
        go_wp2_with fail
        rw [← HwX.out, ← Hk.out]
        refine HOf.out.mono ?_
        rintro e w4 ⟨rfl, hB4⟩
        have hzX := HkX.out.size
        have hzh4 : gh < w4.heap.size := by have := hB4.size; omega
        have hO4 := HO1.out.below hB4
        obtain ⟨g9, o9, c9, hv9, _, _, _, _, hc9, hf9⟩ := hO4.at0 (by rw [List.length_map, List.length_set, Hlen.out]; omega)
        injection hv9 with z1 z2 z3
        injection z1 with z1
        injection z1 with z4 z5
        subst z4 z5
        have hm9 : ∀ i, i < s.n → ∃ v, w4.cell? ⟨gh, oh + i, none⟩ = some v := fun i hi => ⟨_, (hc9 i (by rw [List.length_map, List.length_set, Hlen.out]; exact hi)).trans (List.getElem?_eq_getElem (by rw [List.length_map, List.length_set, Hlen.out]; exact hi))⟩
        obtain ⟨u1, t1⟩ := hm9 (s.n - 2) (by omega)
        obtain ⟨u2, t3⟩ := hm9 (s.n - 2 + 1) (by omega)
        have HO4 := Lib.hid hO4
        have HB4 := Lib.hid hB4
        obtain ⟨wB, hwB⟩ : ∃ wB, wB = (w4.setCell ⟨gh, oh + (s.n - 2), none⟩ (.string (Gv.P ds))).setCell ⟨gh, oh + (s.n - 2 + 1), none⟩ (.string (Gv.Q ds)) := ⟨_, rfl⟩
        have hkB : Kept (· = gh) w4 wB := by rw [hwB]; exact ((Kept.self gh w4).set1 _ _).set1 _ _
        have hOB : OwnR wB w2.heap.size 9 (.slice (some ⟨gh, oh, none⟩) s.n ch) ((s.turned r j q).map Value.string) := by
          have h1 := (hO4.setStr (k := s.n - 2) (by rw [List.length_set, Hlen.out]; omega) (Gv.P ds)).setStr (k := s.n - 2 + 1) (by rw [List.length_set, List.length_set, Hlen.out]; omega) (Gv.Q ds)
          rw [← hwB, ← set_take _ (s.n - 2) j q hj, ← Hds.out, ends_set (n := s.n) Hdl.out Hlen.out (by omega)] at h1
          rw [Htu.out, ← Hds.out]
          exact h1
        have htl : (s.turned r j q).length = s.n := by have := Htc.out.len; omega
        have hcB : ∀ i, i < s.n → wB.cell? ⟨gh, oh + i, none⟩ = some (.string ((s.turned r j q).getD i ⟨#[]⟩)) := fun i hi => by
          obtain ⟨g8, o8, c8, hv8, _, _, _, _, hc8, _⟩ := hOB.at0 (by rw [List.length_map, htl]; omega)
          injection hv8 with y1 y2 y3
          injection y1 with y1
          injection y1 with y4 y5
          subst y4 y5
          rw [hc8 i (by rw [List.length_map, htl]; exact hi), List.getElem?_map, List.getElem?_eq_getElem (by omega), List.getD_eq_getElem?_getD, List.getElem?_eq_getElem (by omega)]; rfl
        have hgl : gl ≠ gh := by omega
        have hw3z : w2.heap.size ≤ w3.heap.size := by omega
        have hmB : ∀ i, i < s.n → wB.cell? ⟨gl, i, none⟩ = some (.bool (s.lost (Ar.dk s.n r i) r)) := fun i hi =>
          hkB.cell ((hB4.cell (p := ⟨gl, i, none⟩) (by show gl < wX.heap.size; omega)).trans (HkX.out.cell (Hmk3.out i hi) hgl)) hgl
        have hwB9 : Below w.heap.size w wB := by
          refine Kept.toBelow (T := fun p => w.heap.size ≤ p) ?_ (Nat.le_refl _) (fun p _ h => h)
          refine ((((Kept.below HB3.out).also (HkX.out.mono (fun p _ e => ?_))).also (Kept.new _ hB4)).also (hkB.mono (fun p _ e => ?_)))
          · rw [e]; omega
          · rw [e]; omega
        have HwB9 := Lib.hid hwB9
        have hzB := hwB9.size
        have hzB2 := hkB.size
        have j0 := (HOK.out.below hwB9).n
        have jX : ((w4.setCell ⟨gh, oh + (s.n - 2), none⟩ (.string (Gv.P ds))).setCell ⟨gh, oh + (s.n - 2 + 1), none⟩ (.string (Gv.Q ds))).cell? ⟨b, 0, none⟩ = some (iv s.n) := by rw [← hwB]; exact j0
        have HLay := Lib.hid (rlayout_any s.n (r : Int) hn hn10 (by omega) (by omega) wB)
        have HcB := Lib.hid hcB
        have HmB := Lib.hid hmB
        have HwB := Lib.hid hwB
        have hg4 : gh < wB.heap.size := by omega
        have hg5 : gl < wB.heap.size := by omega
        clear hB4 hO4 z2 z3 hc9 hm9 hkB hOB htl hcB hmB hwB9 hwB Hmk3
        go_wp2_with fail
        rw [← HwB.out]
        clear t1 t3 HwB jX
        refine HLay.out.mono ?_
        rintro e w5 ⟨vo, rfl, hO5, hB5⟩
        rw [Int.toNat_natCast, ordN_eq (by omega)] at hO5
        obtain ⟨go, co, rfl, ho1, ho2, ho3, ho4, ho5, _⟩ := owns_pos hO5 (by omega)
        have hsee : RWrSee s r (s.turned r j q) gh oh go gl w5 := ⟨fun i hi => (hB5.cell (p := ⟨gh, oh + i, none⟩) hg4).trans (HcB.out i hi), fun i hi => (ho5 i hi).trans (ordN_get hi), fun i hi => (hB5.cell (p := ⟨gl, i, none⟩) hg5).trans (HmB.out i hi)⟩
        have HB5 := Lib.hid (HwB9.out.trans (hB5.mono hzB))
        have HSee := Lib.hid hsee
        obtain ⟨l, hl⟩ : ∃ l, l = s.turned r j q := ⟨_, rfl⟩
        rw [← hl] at HSee Htc
        have Hl := Lib.hid hl
        have HA5 : Hid (RAryAt w5 b gc gf gb cc cf cb gr cr s.n s.rows s.size s.fl s.bt (rpC s C r l 0)) := Lib.hid (by rw [rpC_0]; exact HA.out.below HB5.out)
        unfold maxLen at ho4
        clear hO5 hB5 hsee hl HcB HmB HLay ho5 j0
        go_wp2_with fail
        go_loopg [15] s.n (fun gk v15 wr => ∃ i : Nat, i + gk = s.n ∧ v15 = iv i ∧ RAryAt wr b gc gf gb cc cf cb gr cr s.n s.rows s.size s.fl s.bt (rpC s C r l i) ∧ Kept (fun p => p < w.heap.size ∧ F p) w5 wr)
        case atStart => exact ⟨0, by omega, rfl, HA5.out, Kept.refl _ _⟩
        case round =>
          obtain ⟨i, hi, rfl, hAr, hKr⟩ := hrel
          have Hi := Lib.hid hi
          have HAr := Lib.hid hAr
          have HKr := Lib.hid hKr
          have hsee := HSee.out.kept hKr (fun h => by omega) (fun h => by omega) (fun h => by omega)
          clear hi hAr hKr
          by_cases hlt : i < s.n
          · have o5 := hsee.od i hlt
            have m5 := hsee.mr i hlt
            have l5 := hsee.hl i hlt
            have hd5 : Ar.dk s.n r i < s.n := Ar.dk_lt (by omega)
            have Hpn := Lib.hid (fun (hlo : s.lost (Ar.dk s.n r i) r = true) => HAr.out.extC (C' := rpC s C r l (i + 1)) (fun d q hd hq => rpC_lost Ho.out hd hlt hlo))
            have Hpl := Lib.hid (fun (hlo : s.lost (Ar.dk s.n r i) r = false) => (HAr.out.setC hd5 hrow (l.getD i ⟨#[]⟩)))
            have Hpe := Lib.hid (fun (hlo : s.lost (Ar.dk s.n r i) r = false) (d q : Nat) (hd : d < s.n) (hq : q < s.rows) => rpC_not (C := C) (l := l) (q := q) Ho.out hd hlt hlo)
            clear hsee
            generalize Ar.dk s.n r i = d at *
            cases hf : s.lost d r with
            | true =>
              rw [hf] at m5
              have hN := Lib.hid (Hpn.out hf)
              clear hf
              go_wp2_with fail
              go_roundg (gk - 1)
              case measure => have := Hi.out; omega
              case rel => exact ⟨i + 1, by have := Hi.out; omega, by go_num, hN.out, HKr.out⟩
            | false =>
              rw [hf] at m5
              have hN := Lib.hid (Hpe.out hf)
              clear hf Hpn Hpl Hpe
              obtain ⟨x, hx9⟩ : ∃ x, x = l.getD i ⟨#[]⟩ := ⟨_, rfl⟩
              rw [← hx9] at hN l5
              have c7 := HAr.out.c3
              have c8 := HAr.out.lst.cell hd5
              have c9 := (HAr.out.row d hd5).cell hrow
              have z9 := (HAr.out.row d hd5).fz r
              have k7 := HAr.out.rcap d hd5
              have hdI : (d : Int) < (s.n : Int) := by omega
              have hrI : (r : Int) < (s.rows : Int) := by omega
              unfold maxLen at k7
              clear hx9
              go_wp2_with fail
              go_still_tail 16, (by kernel_rfl)
              change wpList _ _ _ _ _ wr.drew
              obtain ⟨wE, hwE⟩ : ∃ wE, wE = wr.drew := ⟨_, rfl⟩
              have hbE : Below wr.heap.size wr wE := by rw [hwE]; exact (Below.refl _ _).drew
              have hAE := HAr.out.below hbE
              have HKE := Lib.hid (HKr.out.also (Kept.new _ hbE))
              have e9 := (hAE.row d hd5).cell hrow
              have y9 := (hAE.row d hd5).fz r
              have HN2 := Lib.hid ((hAE.setC hd5 hrow x).extC hN.out)
              rw [← hwE]
              clear hwE hbE c7 c8 c9 z9 o5 l5 m5 hAE
              go_wp2_with fail
              go_roundg (gk - 1)
              case measure => have := Hi.out; omega
              case rel => exact ⟨i + 1, by have := Hi.out; omega, by go_num, HN2.out, HKE.out.setCell (p := ⟨gr d, r, none⟩) (fun _ => ⟨(HA.out.row d hd5).lt, HI.out.2.2.2.2 d hd5⟩) _⟩
          · have hin : i = s.n := by have := Hi.out; omega
            clear hsee
            go_wp2_with fail
            go_ret
            have h1 := HAr.out
            rw [hin, Hl.out] at h1
            rw [Hres.out]
            exact ⟨rfl, ⟨Hput2.out, gc, gf, gb, cc, cf, cb, gr, cr, _, h1, HI.out, rpC_see HS.out⟩, ((Kept.new F HB5.out).also (HKr.out.mono (fun p _ h => h.2)))⟩
    · have hne : ((q.size : Int) != (s.size : Int)) = true := bne_t (by omega)
      rw [if_neg hz] at hres
      subst hres
      clear h hb ho hz
      go_enter Tryz.func26, Tryz.ntmps26
      go_wp2_with fail
      go_ret
      exact ⟨rfl, HOK.out, Kept.refl F w⟩
  · rw [if_neg hb] at hres
    subst hres
    rcases not_hasBlock s Hm.out hb with h0 | ⟨h0, h1⟩
    · have d1 : decide (x < 0) = true := dec_t h0
      clear h hb ho
      go_enter Tryz.func26, Tryz.ntmps26
      go_wp2_with fail
      go_ret
      exact ⟨rfl, HOK.out, Kept.refl F w⟩
    · have d1 : decide (x < 0) = false := dec_f (by omega)
      have d2 : decide ((m : Int) ≤ x) = true := dec_t h1
      clear h hb ho
      go_enter Tryz.func26, Tryz.ntmps26
      go_wp2_with fail
      go_ret
      exact ⟨rfl, HOK.out, Kept.refl F w⟩
end Go.Proofs.YtneebcniofolmaaGreatDoor
