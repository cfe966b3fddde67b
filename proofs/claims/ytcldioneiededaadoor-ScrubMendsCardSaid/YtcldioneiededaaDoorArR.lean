/- The walk of the law ArrayRebuilds: it returns true. -/
import Derived.Test.YtcldioneiededaaDoorArP
import Derived.Test.YtcldioneiededaaDoorRowsT
import Derived.Test.YtcldioneiededaaDoorSame
namespace Go.Proofs.YtcldioneiededaaDoor
open Go.ChangeShapes Go.WideShapes Go.ChangeAt Go.RowKit
set_option linter.unusedVariables false
/-- between the law's parts: an array of which nothing is lost -/
def WMid (B n rows size K : Nat) (w wq : World) : Prop := ∃ s, Ar.Wh n rows size s ∧ AryOk (fun p => B ≤ p) K wq B s ∧ Below B w wq
def W1Rel (B n rows size N : Nat) (w : World) (gk : Nat) (v11 : Value) (wr : World) : Prop := ∃ y : Nat, y + gk = N ∧ v11 = iv y ∧ WMid B n rows size y w wr
/-- rows that are kept while they are read -/
def W2Rel (B E n rows K : Nat) (s : Ar.S) (w w1 : World) (gk : Nat) (v12 v13 : Value) (wr : World) : Prop :=
  ∃ vs : List Value, vs.length + gk = rows ∧ v13 = iv vs.length ∧ RowsT wr E v12 vs (fun i => s.full i) ∧ AryOk (fun p => B ≤ p ∧ p < E) K wr B s ∧ Below E w1 wr
def W3Rel (B E n rows d K : Nat) (s : Ar.S) (v12 : Value) (vs : List Value) (w : World) (gk : Nat) (v17 : Value) (wr : World) : Prop :=
  ∃ (r : Nat) (t : Ar.S), r + gk = rows ∧ v17 = iv r ∧ Ar.Rb n rows 2 d r s t ∧ AryOk (fun p => B ≤ p ∧ p < E) (K + r) wr B t ∧ RowsT wr E v12 vs (fun i => s.full i) ∧ Below B w wr
theorem rawF_in {s : Ar.S} {r : Nat} (h : r < s.rows) : s.rawF (r : Int) = 0 ∧ s.rawP (r : Int) = s.parts r ∧ s.rawM (r : Int) = s.marks r := by
  have hr : s.hasRow (r : Int) := ⟨by omega, by omega⟩
  unfold Ar.S.rawF Ar.S.rawP Ar.S.rawM
  rw [if_pos hr, if_pos hr, if_pos hr, Int.toNat_natCast]
  exact ⟨rfl, rfl, rfl⟩
set_option maxRecDepth 100000 in
set_option maxHeartbeats 4000000 in
theorem arrayRebuilds_yes (n rows d : Nat) (ls : List ByteArray) (h3 : 3 ≤ n) (h10 : n ≤ 10) (h1 : 1 ≤ rows) (h2 : rows ≤ 20) (hd : d < n) (hls : ∀ s ∈ ls, s.size ≤ maxLen) (v : Value) (w : World) (hv : Strs w v ls) (hg : Handle w) :
    Calls Tryd.prog 5 #[iv n, iv rows, iv d, v] w fun e w' => e = .returned (.bool true) ∧ Below w.heap.size w w' := by
  have Hg := Lib.hid hg
  have Hls := Lib.hid hls
  clear hg hls
  have HN := Lib.hid (aNew_yes n rows 2 h3 h10 h1 h2 (by omega) (by omega) w)
  have hm9 : rows * (n - 2) ≤ 20 * 8 := Nat.mul_le_mul h2 (by omega)
  have hmI : (rows : Int) * ((n : Int) - 2) = ((rows * (n - 2) : Nat) : Int) := by rw [Int.natCast_mul, show ((n - 2 : Nat) : Int) = (n : Int) - 2 by omega]
  have hw1 : IntKind.i64.wrap ((n : Int) - 2) = (n : Int) - 2 := IntWalk.i64_in _ (by omega)
  have hw2 : IntKind.i64.wrap ((rows : Int) * ((n : Int) - 2)) = ((rows * (n - 2) : Nat) : Int) := by rw [hmI]; exact IntWalk.i64_in _ (by omega)
  have hs0 := Ar.s0_wh h3 h10 h1 h2 (show 1 ≤ 2 by omega) (show 2 ≤ 16 by omega)
  obtain ⟨M, hM⟩ : ∃ M, M = rows * (n - 2) := ⟨_, rfl⟩
  rw [← hM] at hm9 hw2
  have HM := Lib.hid hM
  obtain ⟨p, cap, rfl, hl0, hc⟩ := hv.get
  obtain ⟨L, hL⟩ : ∃ L, L = ls.length := ⟨_, rfl⟩
  rw [← hL] at hl0 ⊢
  have hcs : ∀ y, y < L → ∃ g off s0, p = some ⟨g, off, none⟩ ∧ w.cell? ⟨g, off + y, none⟩ = some (.string s0) ∧ g < w.heap.size ∧ s0.size ≤ maxLen := fun y hy => by
    have e := List.getElem?_eq_getElem (l := ls) (i := y) (by omega)
    obtain ⟨g, off, q1, q2, q3⟩ := hc y _ e
    exact ⟨g, off, _, q1, q2, q3, Hls.out _ (List.getElem_mem _)⟩
  have Hc := Lib.hid hcs
  clear hcs
  have HL := Lib.hid hL
  have HS0 := Lib.hid hs0
  have td1 : decide ((d : Int) < 0) = false := dec_f (by omega)
  have td2 : decide (n ≤ d) = false := dec_f (by omega)
  obtain ⟨N, hN⟩ : ∃ N, N = min L M := ⟨_, rfl⟩
  clear hmI hM hc hL hv hs0
  go_enter Tryd.func5, Tryd.ntmps5
  go_wp2_with fail
  refine HN.out.mono ?_
  rintro e w1 ⟨rfl, hA, hB⟩
  have hz1 := hB.size
  have HA := Lib.hid hA
  have HB := Lib.hid hB
  clear hA hB HN
  go_upto_block 0 with (fail)
  go_cut [] (fun wq => ∃ wk K, wk = wq ∧ K ≤ 200 ∧ WMid w.heap.size n rows 2 K w wk)
  case first => as_aux_lemma =>
    go_wp2_with fail
    go_loopg [11] N (fun gk v11 wr => W1Rel w.heap.size n rows 2 N w gk v11 wr)
    case atStart => exact ⟨0, by omega, rfl, _, HS0.out, HA.out, HB.out⟩
    case round =>
      clear HA HB
      obtain ⟨y, hy, rfl, s, hW, hA, hB⟩ := hrel
      have Hy := Lib.hid hy
      have HW := Lib.hid hW
      have HA := Lib.hid hA
      have HB := Lib.hid hB
      have hzr := hB.size
      clear hy hW hA hB
      by_cases hyL : y < L
      · obtain ⟨g, off, s0, rfl, hcl, hgl, hsz⟩ := Hc.out y hyL
        by_cases hyM : y < M
        · have c0 := (HB.out.cell (p := ⟨g, off + y, none⟩) hgl).trans hcl
          have hs9 := hsz
          unfold maxLen at hs9
          by_cases h22 : s0.size = 2
          · have hw := Ar.wh_write HW.out (y := y) (x := s0) (by rw [← HM.out]; exact hyM) h22
            have HWr := Lib.hid (aWrite HA.out (by omega) (y : Int) (by omega) (by omega) s0 hsz)
            have HW2 := Lib.hid hw.2.1
            have t1 : ((s0.size : Int) == 2) = true := beq_t (by omega)
            rw [hw.1, errV_0] at HWr
            clear hw h22 hcl hsz
            go_wp2_with fail
            refine HWr.out.mono ?_
            rintro e w2 ⟨rfl, hA2, hK2⟩
            have HA2 := Lib.hid hA2
            have HB2 := Lib.hid (HB.out.trans (hK2.toBelow (B := w.heap.size) hzr (fun p _ h => h)))
            clear hA2 hK2
            go_wp2_with fail
            go_roundg (gk - 1)
            case measure => have := Hy.out; omega
            case rel => exact ⟨y + 1, by have := Hy.out; omega, by go_num, _, HW2.out, HA2.out, HB2.out⟩
          · have t1 : ((s0.size : Int) == 2) = false := beq_f (by omega)
            clear h22 hcl hsz
            go_wp2_with fail
            go_roundg (gk - 1)
            case measure => have := Hy.out; omega
            case rel => exact ⟨y + 1, by have := Hy.out; omega, by go_num, _, HW.out, HA.out.more (by omega), HB.out⟩
        · have hyn : y = N := by have := Hy.out; omega
          clear hcl hgl hsz
          go_wp2_with fail
          go_meet
          exact ⟨_, y, rfl, by omega, s, HW.out, HA.out, HB.out⟩
      · have hyn : y = N := by have := Hy.out; omega
        go_wp2_with fail
        go_meet
        exact ⟨_, y, rfl, by omega, s, HW.out, HA.out, HB.out⟩
  case rest =>
    obtain ⟨wO, K, hwO, hK, s, hW, hA, hB⟩ := hcut
    clear HA HB
    obtain ⟨E, hE⟩ : ∃ E, E = wO.heap.size := ⟨_, rfl⟩
    have hzO := hB.size
    have HAE : Hid (AryOk (fun p => w.heap.size ≤ p ∧ p < E) K wO w.heap.size s) := Lib.hid (hA.wide (fun k hk h => ⟨h, by rw [hE]; exact hk⟩))
    have HW := Lib.hid hW
    have HB := Lib.hid hB
    have HE := Lib.hid hE
    subst hwO
    have hi20 : ∀ i : Nat, i < rows → decide ((i : Int) < 20) = true := fun i hi => dec_t (by omega)
    have Hi20 := Lib.hid hi20
    clear hA hB hW hE hi20
    go_wp2_with fail
    go_loopg [12, 13, 14, 15, 16] rows (fun gk v12 v13 v14 v15 v16 wr => W2Rel w.heap.size E n rows K s w wO gk v12 v13 wr)
    case atStart => exact ⟨[], by simp, rfl, RowsT.nil _ _ _, HAE.out, Below.refl _ _⟩
    case round =>
      clear HAE
      obtain ⟨vs, hk, rfl, hR, hA, hB2⟩ := hrel
      obtain ⟨r, hr⟩ : ∃ r, r = vs.length := ⟨_, rfl⟩
      have HB2 := Lib.hid hB2
      have hzr := hB2.size
      rw [← hr] at hk ⊢
      have Hk := Lib.hid hk
      have HR := Lib.hid hR
      have HA := Lib.hid hA
      have Hr := Lib.hid hr
      clear hk hR hA hB2 hr
      by_cases hlt : r < rows
      · have t1 := Hi20.out r hlt
        have HRaw := Lib.hid (aRaw HA.out (r : Int))
        have hrf := rawF_in (s := s) (r := r) (by rw [HW.out.er]; exact hlt)
        have hpf := Ar.wh_parts HW.out hlt
        have Hrf := Lib.hid hrf
        have Hpf := Lib.hid hpf
        clear hrf hpf
        go_wp2_with fail
        refine HRaw.out.mono ?_
        rintro e w2 ⟨v1, v2, rfl, hP, hL, hB3⟩
        rw [Hrf.out.1, errV_0]
        rw [Hrf.out.2.1, Hpf.out] at hP
        have hP2 := OwnR.of_owns hP
        obtain ⟨p1, n1, c1, rfl⟩ := hP2.slice
        have HB3 := Lib.hid hB3
        have HR2 := Lib.hid (RowsT.below HR.out hB3)
        have HA2 := Lib.hid (HA.out.below hB3)
        have HP2 := Lib.hid (hP2.mono (show E ≤ wr.heap.size by rw [HE.out]; exact hzr))
        have Hub : Hid (∀ g, (Value.slice p1 n1 c1).ownBlock = some g → u12.ownBlock ≠ some g) := Lib.hid (fun g hg e => by
          have h1 := (hP2.lt hg).1
          have h2 := (HR.out.own.lt g e).2
          omega)
        have hz2 := hB3.size
        have HBO := Lib.hid (HB2.out.trans (hB3.mono (by rw [HE.out]; exact hzr)))
        have hEz : E ≤ w2.heap.size := by rw [HE.out]; omega
        have hvr : vs.length = r := Hr.out.symm
        clear hP hL hB3 hP2
        go_wp2_with (at_builtin; refine app1 w2 w2 (.slice p1 n1 c1) 40 42 rfl _ _ rfl E Tryd.underlying42 info_rowS rfl _ vs.length vs rfl _ rfl rfl HR2.out.own rfl ?k1 ?k2 hEz (Below.refl _ _) ?_)
        case k1 => omega
        case k2 => omega
        intro v9 w9 hown9 hB9 hg9 hat9
        have hR9 := RowsT.push HR2.out (u := .slice p1 n1 c1) (by rw [hvr]; exact HP2.out) Hub.out (by rw [hvr]; exact hown9) hg9 hat9
        have HR9 := Lib.hid hR9
        have HA9 := Lib.hid (HA2.out.kept (Kept.grown hg9) (fun k hk e => by have := (HR2.out.own.lt k e.symm).1; omega))
        have HB9 := Lib.hid (HBO.out.trans (hB9.mono (by rw [HE.out]; exact Nat.le_refl _)))
        have hl9 : (vs ++ [Value.slice p1 n1 c1]).length = r + 1 := by rw [List.length_append, hvr]; rfl
        have Hl9 := Lib.hid hl9
        clear hown9 hB9 hg9 hat9 hR9 hl9
        go_wp2_with fail
        go_roundg (gk - 1)
        case measure => have := Hk.out; omega
        case rel => exact ⟨vs ++ [.slice p1 n1 c1], by rw [Hl9.out]; have := Hk.out; omega, by rw [Hl9.out]; go_num, HR9.out, HA9.out, HB9.out⟩
      · have hrr : r = rows := by have := Hk.out; omega
        subst hrr
        obtain ⟨q1, q2, q3⟩ := Ar.rb_start HW.out hd
        have HF := Lib.hid (aFail HA.out (d : Int))
        rw [q1, errV_0] at HF
        have HQ2 := Lib.hid q2
        have HQ3 := Lib.hid q3
        have HBw := Lib.hid (HB.out.trans (HB2.out.mono (by rw [HE.out]; exact hzO)))
        have hEw : E ≤ wr.heap.size := by rw [HE.out]; exact hzr
        clear q1 q2 q3
        go_wp2_with fail
        refine HF.out.mono ?_
        rintro e w2 ⟨rfl, hA2, hK2⟩
        have HR2 := Lib.hid (HR.out.kept hK2 (fun p hp h => by omega))
        have HB3 := Lib.hid (HBw.out.trans (hK2.toBelow (B := w.heap.size) HBw.out.size (fun p _ h => h.1)))
        have HRp := Lib.hid (aReplace hA2 (d : Int))
        rw [HQ2.out, errV_0] at HRp
        clear hA2 hK2 HF
        go_wp2_with fail
        refine HRp.out.mono ?_
        rintro e w3 ⟨rfl, hA3, hK3⟩
        have HR3 := Lib.hid (HR2.out.kept hK3 (fun p hp h => by omega))
        have HB4 := Lib.hid (HB3.out.trans (hK3.toBelow (B := w.heap.size) HB3.out.size (fun p _ h => h.1)))
        have HA3 := Lib.hid hA3
        clear hA3 hK3 HRp HR2 HB3 HA HR
        have hvl : vs.length = r := Hr.out.symm
        obtain ⟨gv, cv, hv12, _, _, hcv1, hcv2, _, _⟩ := owns_pos HR3.out.own (by omega)
        rw [hvl] at hv12 hcv1
        subst hv12
        unfold maxLen at hcv2
        go_wp2_with fail
        go_loopg [17, 18, 19, 20, 21, 22] r (fun gk v17 v18 v19 v20 v21 v22 wr => W3Rel w.heap.size E n r d K s (.slice (some ⟨gv, 0, none⟩) r cv) vs w gk v17 wr)
        case atStart => exact ⟨0, _, by omega, rfl, HQ3.out, HA3.out, HR3.out, HB4.out⟩
        case round =>
          clear HQ3 HA3 HR3 HB4 HQ2 HBw HB2
          obtain ⟨q, t, hk, rfl, hRb, hA, hR, hB⟩ := hrel
          have Hk2 := Lib.hid hk
          have HRb := Lib.hid hRb
          have HA := Lib.hid hA
          have HR := Lib.hid hR
          have HBx := Lib.hid hB
          have hzx := hB.size
          clear hk hRb hA hR hB
          by_cases hlt : q < r
          · have t1 := Hi20.out q hlt
            have hst := Ar.rb_step HRb.out hd hlt
            have HRe := Lib.hid (aRebuild HA.out (by omega) (d : Int))
            unfold RbPost at HRe
            rw [hst.1] at HRe
            have HRb2 := Lib.hid hst.2
            obtain ⟨lf, hlf⟩ : ∃ lf : Int, lf = (r : Int) - ((q : Int) + 1) := ⟨_, rfl⟩
            have HRe2 : Hid (Calls Tryd.prog 21 #[.pointer (some ⟨w.heap.size, 0, none⟩), iv d] wr fun e w' => e = .returned (.tuple #[iv lf, .nilIface]) ∧ AryOk (fun p => w.heap.size ≤ p ∧ p < E) (K + (q + 1)) w' w.heap.size (t.rebuild d).2 ∧ Kept (fun p => w.heap.size ≤ p ∧ p < E) wr w') := Lib.hid (by rw [hlf]; exact HRe.out)
            have hlI : lf = (r : Int) - (q : Int) - 1 := by omega
            have tl : (lf != (r : Int) - (q : Int) - 1) = false := bne_f hlI
            have hlb : -100 ≤ lf ∧ lf ≤ 100 := by omega
            have hlb1 := hlb.1
            have hlb2 := hlb.2
            obtain ⟨u, hu⟩ : ∃ u, vs[q]? = some u := ⟨_, List.getElem?_eq_getElem (by omega)⟩
            obtain ⟨hur, _⟩ := HR.out.rows q u hu
            have HUr := Lib.hid hur
            obtain ⟨pu, nu, cu, rfl⟩ := hur.slice
            have hown := HR.out.own
            rw [hvl] at hown
            have huc : wr.cell? ⟨gv, q, none⟩ = some (.slice pu nu cu) := (hown.cellAt q (show q < r * 1 by omega)).trans hu
            clear hown
            have hgE : E ≤ gv := (HR.out.own.lt gv rfl).1
            clear hst HRe hlf hlI hlb hu hur
            go_wp2_with fail
            refine HRe2.out.mono ?_
            rintro e w2 ⟨rfl, hA2, hK2⟩
            have hzk := hK2.size
            have huc2 : w2.cell? ⟨gv, q, none⟩ = some (.slice pu nu cu) := hK2.cell huc (fun h => by omega)
            have hgl2 : gv < w2.heap.size := World.block_lt_of_cell? w2 _ huc2
            have HU2 := Lib.hid (OwnR.kept HUr.out hK2 (fun g hg h => by have h1 : E ≤ g := (HUr.out.lt hg).1; have h2 : g < E := h.2; omega))
            have HR2 := Lib.hid (HR.out.kept hK2 (fun p hp h => by omega))
            have HB2 := Lib.hid (HBx.out.trans (hK2.toBelow (B := w.heap.size) hzx (fun p _ h => h.1)))
            have HRaw := Lib.hid (aRaw hA2 (q : Int))
            have her := HRb2.out.er
            have hrf := rawF_in (s := (t.rebuild d).2) (r := q) (by rw [her]; exact hlt)
            clear her
            have hpf := Ar.rb_parts HRb2.out hlt
            have Hrf := Lib.hid hrf
            have Hpf := Lib.hid hpf
            have HA2 := Lib.hid hA2
            clear hA2 hK2 hrf hpf huc
            go_wp2_with fail
            refine HRaw.out.mono ?_
            rintro e w3 ⟨v1, v2, rfl, hP, hL, hB3⟩
            rw [Hrf.out.1, errV_0]
            rw [Hrf.out.2.1, Hpf.out] at hP
            have huc3 : w3.cell? ⟨gv, q, none⟩ = some (.slice pu nu cu) := (hB3.cell (p := ⟨gv, q, none⟩) hgl2).trans huc2
            have HU3 := HU2.out.below hB3
            have HTx := Lib.hid (texts_eq (((t.rebuild d).2.parts q)) v1 (.slice pu nu cu) w3 (by rw [Hpf.out]; exact (row_of_owns hP).1) (by rw [Hpf.out]; exact OwnR.row HU3))
            have HA3 := Lib.hid (HA2.out.below hB3)
            have HR3 := Lib.hid (HR2.out.below hB3)
            have HB3 := Lib.hid (HB2.out.trans (hB3.mono HB2.out.size))
            clear hP hL hB3 HU3 huc2
            go_wp2_with fail
            refine HTx.out.mono ?_
            rintro e w4 ⟨rfl, nd, hnd⟩
            have hb4 : Below w3.heap.size w3 w4 := by rw [← hnd]; exact bdrew (Below.refl _ _) nd
            have HA4 := Lib.hid (HA3.out.below hb4)
            have HR4 := Lib.hid (HR3.out.below hb4)
            have HB4 := Lib.hid (HB3.out.trans (hb4.mono HB3.out.size))
            clear hb4 hnd
            go_wp2_with fail
            go_roundg (gk - 1)
            case measure => have := Hk2.out; omega
            case rel => exact ⟨q + 1, _, by have := Hk2.out; omega, by go_num, HRb2.out, HA4.out, HR4.out, HB4.out⟩
          · have hqr : q = r := by have := Hk2.out; omega
            subst hqr
            have hen := Ar.rb_end HRb.out hd
            have HRe := Lib.hid (aRebuild HA.out (by omega) (d : Int))
            unfold RbPost at HRe
            rw [hen] at HRe
            have e6 : errV ((0 : Int), (6 : Int)).2 = ev 6 := rfl
            have HRe2 : Hid (Calls Tryd.prog 21 #[.pointer (some ⟨w.heap.size, 0, none⟩), iv d] wr fun e w' => e = .returned (.tuple #[iv 0, ev 6]) ∧ AryOk (fun p => w.heap.size ≤ p ∧ p < E) (K + q + 1) w' w.heap.size t ∧ Kept (fun p => w.heap.size ≤ p ∧ p < E) wr w') := Lib.hid HRe.out
            clear hen HRe e6
            go_wp2_with fail
            refine HRe2.out.mono ?_
            rintro e w2 ⟨rfl, _, hK2⟩
            have HB2 := Lib.hid (HBx.out.trans (hK2.toBelow (B := w.heap.size) hzx (fun p _ h => h.1)))
            have HSa := Lib.hid (same_ev 6 6 w2 (Hg.out.below (Nat.le_refl _) HB2.out))
            clear hK2
            go_wp2_with fail
            refine HSa.out.mono ?_
            rintro e w3 ⟨rfl, hB3⟩
            have HB3 := Lib.hid (HB2.out.trans (hB3.mono HB2.out.size))
            clear hB3
            go_wp2_with fail
            go_ret
            exact ⟨rfl, HB3.out⟩
set_option maxRecDepth 100000 in
set_option maxHeartbeats 2000000 in
theorem arrayRebuilds_no (n rows d : Int) (v : Value) (h : aNewF n rows 2 ≠ 0) (w : World) :
    Calls Tryd.prog 5 #[iv n, iv rows, iv d, v] w fun e w' => e = .returned (.bool true) ∧ Below w.heap.size w w' := by
  have HN := Lib.hid (aNew_no n rows 2 h w)
  have hc : n < 3 ∨ (3 ≤ n ∧ 10 < n) ∨ (3 ≤ n ∧ n ≤ 10 ∧ rows < 1) ∨ (3 ≤ n ∧ n ≤ 10 ∧ 1 ≤ rows ∧ 20 < rows) := by
    unfold aNewF at h
    by_cases hc : n < 3 ∨ 10 < n ∨ rows < 1 ∨ 20 < rows ∨ (2 : Int) < 1 ∨ 16 < (2 : Int)
    · omega
    · rw [if_neg hc] at h; exact absurd rfl h
  clear h
  rcases hc with h1 | ⟨h1, h2⟩ | ⟨h1, h2, h3⟩ | ⟨h1, h2, h3, h4⟩
  all_goals
    go_enter Tryd.func5, Tryd.ntmps5
    go_wp2_with fail
    refine HN.out.mono ?_
    rintro e w1 ⟨rfl, hB⟩
    have HB := Lib.hid hB
    clear hB
    go_wp2_with fail
    go_ret
    exact ⟨rfl, HB.out⟩
set_option maxRecDepth 100000 in
set_option maxHeartbeats 2000000 in
theorem arrayRebuilds_idx (n rows : Nat) (d : Int) (v : Value) (h3 : 3 ≤ n) (h10 : n ≤ 10) (h1 : 1 ≤ rows) (h2 : rows ≤ 20) (h : ¬ (0 ≤ d ∧ d < n)) (w : World) :
    Calls Tryd.prog 5 #[iv n, iv rows, iv d, v] w fun e w' => e = .returned (.bool true) ∧ Below w.heap.size w w' := by
  have HN := Lib.hid (aNew_yes n rows 2 h3 h10 h1 h2 (by omega) (by omega) w)
  have hc : d < 0 ∨ (0 ≤ d ∧ (n : Int) ≤ d) := by omega
  clear h
  rcases hc with h1 | ⟨h1, h2⟩
  all_goals
    go_enter Tryd.func5, Tryd.ntmps5
    go_wp2_with fail
    refine HN.out.mono ?_
    rintro e w1 ⟨rfl, _, hB⟩
    have HB := Lib.hid hB
    clear hB
    go_wp2_with fail
    go_ret
    exact ⟨rfl, HB.out⟩
theorem arrayRebuilds_walk (n rows d : Int) (v : Value) (hn : (Lit.int .i64 n).wf = true) (hr : (Lit.int .i64 rows).wf = true) (hd : (Lit.int .i64 d).wf = true) (w : World) (hg : Handle w) (hv : ∃ ss, Strs w v ss ∧ ∀ s ∈ ss, s.size ≤ maxLen) :
    Calls Tryd.prog 5 #[iv n, iv rows, iv d, v] w fun e w' => e = .returned (.bool true) ∧ Below w.heap.size w w' := by
  obtain ⟨ss, hs, hls⟩ := hv
  by_cases h : aNewF n rows 2 = 0
  · have hc : 3 ≤ n ∧ n ≤ 10 ∧ 1 ≤ rows ∧ rows ≤ 20 := by
      unfold aNewF at h
      by_cases hc : n < 3 ∨ 10 < n ∨ rows < 1 ∨ 20 < rows ∨ (2 : Int) < 1 ∨ 16 < (2 : Int)
      · rw [if_pos hc] at h; exact absurd h (by decide)
      · omega
    obtain ⟨m, rfl⟩ : ∃ m : Nat, n = m := ⟨n.toNat, by omega⟩
    obtain ⟨r, rfl⟩ : ∃ r : Nat, rows = r := ⟨rows.toNat, by omega⟩
    by_cases h2 : 0 ≤ d ∧ d < m
    · obtain ⟨k, rfl⟩ : ∃ k : Nat, d = k := ⟨d.toNat, by omega⟩
      exact arrayRebuilds_yes m r k ss (by omega) (by omega) (by omega) (by omega) (by omega) hls v w hs hg
    · exact arrayRebuilds_idx m r d v (by omega) (by omega) (by omega) (by omega) h2 w
  · exact arrayRebuilds_no n rows d v h w
end Go.Proofs.YtcldioneiededaaDoor
