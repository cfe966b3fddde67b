/- The walk of the references' Mat: the product of two matrices. -/
import Derived.Test.YtbikmodfmckaeaaDoorRMatB
import Derived.Test.YtbikmodfmckaeaaDoorRPqW
namespace Go.Proofs.YtbikmodfmckaeaaDoor
open Go.ChangeShapes Go.WideShapes Go.ChangeAt Go.RowKit
set_option linter.unusedVariables false
def wd (B : List (List UInt8)) : Nat := if B.length = 0 then 0 else len0 B
theorem rowR_wd (r : List UInt8) (B : List (List UInt8)) : rowR r B = Gv.tab (wd B) (Mx.rsum r (en B) B.length) := by
  unfold rowR wd
  by_cases h : B.length = 0
  · rw [if_pos h, if_pos h]; rfl
  · rw [if_neg h, if_neg h]
def RMtIn (r : List UInt8) (B : List (List UInt8)) (wO : World) (L gk : Nat) (v7 v8 : Value) (wr : World) : Prop :=
  ∃ k : Nat, k + gk = L ∧ v8 = iv k ∧ wr.ownsRow wO.heap.size 5 1 v7 k ((Gv.tab k (Mx.rsum r (en B) B.length)).map bv) ∧ Below wO.heap.size wO wr
def RMtJ (r : List UInt8) (B : List (List UInt8)) (k : Nat) (wK : World) (m gk : Nat) (v9 v10 : Value) (wr : World) : Prop :=
  ∃ j nd : Nat, j + gk = m ∧ v9 = bv (Mx.rsum r (en B) j k) ∧ v10 = iv j ∧ wr = wK.drewN nd
set_option maxRecDepth 100000 in
set_option maxHeartbeats 2000000 in
theorem rmat_any (A B : List (List UInt8)) (hF : mmF A B = 0) (va vb : Value) (w : World) (ha : RowsM w va A) (hb : RowsM w vb B) :
    Calls Tryd.prog 25 #[va, vb] w (CaPost (A.map (fun r => rowR r B)) w) := by
  have hF3 : chkF A = 0 ∧ chkF B = 0 ∧ ¬ (A.length ≠ 0 ∧ len0 A ≠ B.length) := by
    unfold mmF at hF
    by_cases h1 : chkF A = 0
    · rw [if_neg (by simp [h1])] at hF
      by_cases h2 : chkF B = 0
      · rw [if_neg (by simp [h2])] at hF
        refine ⟨h1, h2, fun h3 => ?_⟩
        rw [if_pos h3] at hF; cases hF
      · rw [if_pos h2] at hF; exact absurd hF h2
    · rw [if_pos h1] at hF; exact absurd hF h1
  obtain ⟨hA0, hB0, hAB⟩ := hF3
  have hA := chkF_0 hA0
  have hB := chkF_0 hB0
  have HA := Lib.hid ha
  have HB := Lib.hid hb
  have HA2 := Lib.hid hA.2.2
  have HB2 := Lib.hid hB.2.2
  have HAB := Lib.hid hAB
  have hL12 := hB.2.1
  have hn12 := hA.1
  have hm12 := hB.1
  obtain ⟨pa, ca, rfl, _, _, ha3⟩ := ha.shape
  obtain ⟨pb, cb, rfl, _, _, hb3⟩ := hb.shape
  obtain ⟨n, hn⟩ : ∃ n, n = A.length := ⟨_, rfl⟩
  obtain ⟨m, hm⟩ : ∃ m, m = B.length := ⟨_, rfl⟩
  obtain ⟨L, hL⟩ : ∃ L, L = len0 B := ⟨_, rfl⟩
  rw [← hn] at hn12 ⊢
  rw [← hm] at hm12 hb3 ⊢
  rw [← hL] at hL12 hb3
  have Hn := Lib.hid hn
  have Hm := Lib.hid hm
  have HL := Lib.hid hL
  have Hb3 := Lib.hid hb3
  clear ha hb hF hA0 hB0 hAB hA hB ha3 hb3 hn hm hL
  go_enter Tryd.func25, Tryd.ntmps25
  go_wp2_with fail
  go_loopg [5, 6, 7, 8, 9, 10] n (fun gk v5 v6 v7 v8 v9 v10 wr => RoUn (A.map (fun r => rowR r B)) w n gk v5 v6 wr)
  case atStart => exact ⟨[], by simp, rfl, RowsO.nil _ _ _, Below.refl _ _⟩
  case round =>
    obtain ⟨wO, hwO⟩ : ∃ x : World, x = wr := ⟨_, rfl⟩
    obtain ⟨gO, hgO⟩ : ∃ x : Nat, x = gk := ⟨_, rfl⟩
    subst hwO hgO
    obtain ⟨vs, hi, rfl, hR, hB'⟩ := hrel
    obtain ⟨i, hie⟩ : ∃ i, i = vs.length := ⟨_, rfl⟩
    rw [← hie] at hi ⊢
    have Hie := Lib.hid hie
    have Hi := Lib.hid hi
    have HR := Lib.hid hR
    have HB' := Lib.hid hB'
    have hz := hB'.size
    clear hi hR hB' hie
    by_cases hin : i < n
    · obtain ⟨r, hr⟩ : ∃ r, A[i]? = some r := ⟨A[i]'(by rw [← Hn.out]; exact hin), List.getElem?_eq_getElem _⟩
      have hcr : (A.map (fun r => rowR r B))[i]? = some (rowR r B) := by rw [List.getElem?_map, hr]; rfl
      have Hcr := Lib.hid hcr
      by_cases hm0 : m = 0
      · subst hm0
        have hrn : rowR r B = [] := by unfold rowR; rw [if_pos Hm.out.symm]
        rw [hrn] at Hcr
        clear hcr hrn hr
        go_wp2_with fail
        go_loopg [7, 8, 9, 10] 0 (fun gk v7 v8 v9 v10 wr' => gk = 0 ∧ v7 = .slice none 0 0 ∧ v8 = iv 0 ∧ wr' = wO)
        case atStart => exact ⟨rfl, rfl, rfl, rfl⟩
        case round =>
          obtain ⟨hgk, rfl, rfl, hwe⟩ := hrel
          subst hwe
          obtain ⟨wO, hwO⟩ : ∃ x : World, x = wr := ⟨_, rfl⟩
          subst hwO
          have HBi : Hid (Below wO.heap.size wO wO) := Lib.hid (Below.refl _ _)
          have HO9 : Hid (OwnB wO wO.heap.size (.slice none 0 0) []) := Lib.hid (OwnR.nil _ _ _)
          obtain ⟨wr, hwr⟩ : ∃ x : World, x = wO := ⟨_, rfl⟩
          subst hwr
          have HR2 := Lib.hid (HR.out.below HBi.out)
          have hub : ∀ g, (Value.slice none 0 0).ownBlock = some g → u5.ownBlock ≠ some g := fun g h1 h2 => by
            have k1 := (OwnR.lt HO9.out h1).1
            have k2 := (OwnR.lt (OwnR.of_owns HR.out.own) h2).2
            omega
          have Hub := Lib.hid hub
          have hlen : ∀ (j : Nat) u, vs[j]? = some u → ∃ r, (A.map (fun r => rowR r B))[j]? = some r := fun j u hu => by
            have h1 := (List.getElem?_eq_some_iff.1 hu).1
            rw [← Hie.out] at h1
            exact ⟨_, List.getElem?_eq_getElem (by rw [List.length_map, ← Hn.out]; omega)⟩
          have Hlen := Lib.hid hlen
          have hi9 : i + 1 ≤ 1000000 := by omega
          have hBr := HB'.out.trans (HBi.out.mono hz)
          have HBr := Lib.hid hBr
          have hzr := hBr.size
          have H9 := Lib.hid (OwnR.mono HO9.out hz)
          have hown : wr.ownsRow w.heap.size 22 1 u5 i vs := by have h := HR2.out.own; rw [← Hie.out] at h; exact h
          have Hown := Lib.hid hown
          obtain ⟨p5, n5, c5, rfl⟩ := (OwnR.of_owns hown).slice
          clear hub hlen hBr hown HO9 HBi
          go_wp2_with (at_builtin; refine app1 w wr (Value.slice none 0 0) 22 44 rfl _ _ rfl w.heap.size Tryd.underlying44 info_rowC rfl _ i _ rfl _ rfl rfl Hown.out rfl hi9 (by decide) hzr HBr.out ?_)
          intro v9 w9 hown9 hb9 hgr9 hat9
          rw [Hie.out] at hown9
          have hR9 := HR2.out.push Hlen.out (by rw [← Hie.out]; exact Hcr.out) H9.out Hub.out hown9 hgr9 hat9
          have HR9 := Lib.hid hR9
          have HB9 := Lib.hid hb9
          have hl9 : (vs ++ [(Value.slice none 0 0)]).length = i + 1 := by rw [List.length_append, ← Hie.out]; rfl
          have Hl9 := Lib.hid hl9
          clear hown9 hb9 hgr9 hat9 hR9 hl9 HR HR2 H9 Hub Hlen Hcr Hown HBr
          go_wp2_with fail
          (skip)
          go_roundg (gO - 1)
          case measure => have := Hi.out; omega
          case rel => exact ⟨_, by rw [Hl9.out]; have := Hi.out; omega, by rw [Hl9.out]; go_num, HR9.out, HB9.out⟩
      · obtain ⟨gb, ob, p0, c0, epb, hgb, cb0⟩ := Hb3.out (by omega)
        have Hepb := Lib.hid epb
        have hrl : r.length = m := by
          rw [HA2.out i r hr, Hm.out]
          exact Classical.byContradiction (fun hc => HAB.out ⟨by rw [← Hn.out]; omega, hc⟩)
        obtain ⟨ga, oa, caX, p2, c2, hva, hga, cra, hrb⟩ := HA.out.at hr
        injection hva with epa q8 q9
        clear q8 q9
        have Hepa := Lib.hid epa
        obtain ⟨gr, orr, crr, hvr, hgr, _, _, _⟩ := hrb.cellAt (j := 0) (by omega)
        injection hvr with epr q8 q9
        clear q8 q9
        subst epr
        have Hrb := Lib.hid hrb
        rw [hrl] at cra
        have Cra := Lib.hid cra
        have Cb0 := Lib.hid cb0
        have Hrl := Lib.hid hrl
        have hm0I : (0 : Int) < (m : Int) := by omega
        rw [epb, epa]
        clear epb epa hcr hr hrb cra cb0 hrl
        go_wp2_with fail
        go_loopg [7, 8, 9, 10] L (fun gk v7 v8 v9 v10 wr => RMtIn r B wO L gk v7 v8 wr)
        case atStart => exact ⟨0, by omega, rfl, World.ownsRow_nil _ _ _ _, Below.refl _ _⟩
        case round =>
          obtain ⟨wK, hwK⟩ : ∃ x : World, x = wr := ⟨_, rfl⟩
          obtain ⟨gK, hgK⟩ : ∃ x : Nat, x = gk := ⟨_, rfl⟩
          subst hwK hgK
          obtain ⟨k, hk, rfl, hO, hBk⟩ := hrel
          have Hk := Lib.hid hk
          have HO := Lib.hid hO
          have HBk := Lib.hid hBk
          have hzk := hBk.size
          have hBw := HB'.out.trans (hBk.mono hz)
          have HBw := Lib.hid hBw
          have dB : wK.cell? ⟨gb, ob, none⟩ = some (.slice p0 L c0) := (hBw.cell (p := ⟨gb, ob, none⟩) hgb).trans Cb0.out
          clear hk hO hBk hBw
          by_cases hkL : k < L
          · have tk : decide ((k : Int) < (L : Int)) = true := dec_t (by omega)
            have hk9 : k + 1 ≤ 1000000 := by omega
            go_wp2_with fail
            go_loopg [9, 10] m (fun gk v9 v10 wr => RMtJ r B k wK m gk v9 v10 wr)
            case atStart => exact ⟨0, 0, by omega, rfl, rfl, rfl⟩
            case round =>
              clear dB
              obtain ⟨j, nd, hj, rfl, rfl, hwr⟩ := hrel
              have Hj := Lib.hid hj
              have Hwr := Lib.hid hwr
              obtain ⟨a, ha⟩ : ∃ s, s = Mx.rsum r (en B) j k := ⟨_, rfl⟩
              rw [← ha]
              by_cases hjm : j < m
              · obtain ⟨l, hl⟩ : ∃ l, B[j]? = some l := ⟨B[j]'(by rw [← Hm.out]; exact hjm), List.getElem?_eq_getElem _⟩
                obtain ⟨gb2, ob2, cb2, p3, c3, hv3, hg3, cl3, hrb3⟩ := HB.out.at hl
                rw [Hepb.out] at hv3
                injection hv3 with e1 q8 q9
                clear q8 q9
                injection e1 with e1
                injection e1 with e2 e3
                subst e2 e3
                have hll : l.length = L := by rw [HL.out]; exact HB2.out j l hl
                obtain ⟨gl, ol, cl, hvl, hgl, _, _, hcl⟩ := hrb3.cellAt (j := k) (by omega)
                injection hvl with e1 q8 q9
                clear q8 q9
                subst e1
                obtain ⟨gr2, or2, cr2, hvr, hgr2, _, _, hcr2⟩ := Hrb.out.cellAt (j := j) (by rw [Hrl.out]; exact hjm)
                injection hvr with e1 q8 q9
                clear q8 q9
                injection e1 with e1
                injection e1 with e2 e3
                subst e2 e3
                rw [hll] at cl3
                have d1 : wr.cell? ⟨ga, oa + i, none⟩ = some (.slice (some ⟨gr, orr, none⟩) m c2) := by
                  have h := (HBw.out.cell (p := ⟨ga, oa + i, none⟩) hga).trans Cra.out
                  rw [hwr]; simpa using h
                have d2 : wr.cell? ⟨gr, orr + j, none⟩ = some (bv (Gv.at' r j)) := by
                  have h := (HBw.out.cell (p := ⟨gr, orr + j, none⟩) hgr2).trans hcr2
                  rw [hwr]; simpa using h
                have d3 : wr.cell? ⟨gb, ob + j, none⟩ = some (.slice (some ⟨gl, ol, none⟩) L c3) := by
                  have h := (HBw.out.cell (p := ⟨gb, ob + j, none⟩) hg3).trans cl3
                  rw [hwr]; simpa using h
                have d4 : wr.cell? ⟨gl, ol + k, none⟩ = some (bv (Gv.at' l k)) := by
                  have h := (HBw.out.cell (p := ⟨gl, ol + k, none⟩) hgl).trans hcl
                  rw [hwr]; simpa using h
                obtain ⟨y, hy⟩ : ∃ y, y = Gv.at' r j := ⟨_, rfl⟩
                obtain ⟨z, hz'⟩ : ∃ z, z = Gv.at' l k := ⟨_, rfl⟩
                rw [← hy] at d2
                rw [← hz'] at d4
                obtain ⟨mm, hmm⟩ : ∃ x, x = Gf.mul y z := ⟨_, rfl⟩
                obtain ⟨a2, ha2⟩ : ∃ x, x = Gf.add a mm := ⟨_, rfl⟩
                have hnx : a2 = Mx.rsum r (en B) (j + 1) k := by
                  unfold Mx.rsum at ha ⊢
                  rw [Gv.xsum_succ, ← ha, ha2, hmm, Gf.add_def, hy, hz']
                  unfold en
                  rw [List.getD_eq_getElem?_getD, hl]; rfl
                have Hnx := Lib.hid hnx
                have HMu : Hid (∀ W : World, Calls Tryd.prog 56 #[bv y, bv z] W fun e w' => e = .returned (bv mm) ∧ ∃ n, W.drewN n = w') := Lib.hid (fun W => by rw [hmm]; exact rmul_any y z _ _ rfl rfl W)
                have HPl : Hid (∀ W : World, Calls Tryd.prog 35 #[bv a, bv mm] W fun e w' => e = .returned (bv a2) ∧ ∃ n, W.drewN n = w') := Lib.hid (fun W => by rw [ha2]; exact rplus_any a mm _ _ rfl rfl W)
                have hjI : (j : Int) < (m : Int) := by omega
                have hkI : (k : Int) < (L : Int) := by omega
                have hiI : (i : Int) < (n : Int) := by omega
                clear hj ha hl hg3 cl3 hrb3 hll hgl hcl hgr2 hcr2 hy hz' hmm ha2 hnx hwr
                go_wp2_with fail
                go_quiet (first | (go_at_call 56; exact quiet_drew (HMu.out _)) | (go_at_call 35; exact quiet_drew (HPl.out _)))
                go_wp2_with fail
                go_roundg (gk - 1)
                case measure => have := Hj.out; omega
                case rel => exact ⟨j + 1, nd + nq, by have := Hj.out; omega, by rw [Hnx.out], by go_num, by rw [Hwr.out, World.drewN_drewN]⟩
              · have hjm' : j = m := by have := Hj.out; omega
                have hb5 : Below wK.heap.size wK wr := by rw [hwr]; exact bdrew (Below.refl _ _) nd
                have HO5 := Lib.hid (owns_below HO.out hb5)
                have HB5 := Lib.hid (HBk.out.trans (hb5.mono hzk))
                have hz5 := HB5.out.size
                have hap : (Gv.tab k (Mx.rsum r (en B) B.length)).map bv ++ [bv a] = (Gv.tab (k + 1) (Mx.rsum r (en B) B.length)).map bv := by rw [tab_succ, ha, hjm', Hm.out]
                have Hap := Lib.hid hap
                have hjI : ¬ (j : Int) < (m : Int) := by omega
                clear hj ha hwr hb5 hap hjm'
                go_wp2_with (at_builtin; refine app1 wO wr _ 5 22 rfl _ _ rfl wO.heap.size Tryd.underlying22 info_byteV rfl _ k _ rfl _ rfl rfl HO5.out rfl hk9 (by decide) hz5 HB5.out ?_)
                intro v8 w8 hown8 hb8 hgr8 hat8
                rw [Hap.out] at hown8
                have HO8 := Lib.hid hown8
                have HB8 := Lib.hid hb8
                clear hown8 hb8 hgr8 hat8 HO5 HB5
                go_wp2_with fail
                go_roundg (gK - 1)
                case measure => have := Hk.out; omega
                case rel => exact ⟨k + 1, by have := Hk.out; omega, by go_num, HO8.out, HB8.out⟩
          · have tk : decide ((k : Int) < (L : Int)) = false := dec_f (by omega)
            have tk' : ¬ (k : Int) < (L : Int) := by omega
            have hkL' : k = L := by have := Hk.out; omega
            have hO9 : OwnB wK wO.heap.size u7 (rowR r B) := by
              have h := OwnR.of_owns HO.out
              rw [rowR_wd]
              unfold wd
              rw [if_neg (by rw [← Hm.out]; exact hm0), ← HL.out, ← hkL']
              exact h
            have HBi := Lib.hid HBk.out
            have HO9 := Lib.hid hO9
            obtain ⟨p8, n8, c8, rfl⟩ := hO9.slice
            obtain ⟨wr, hwr⟩ : ∃ x : World, x = wK := ⟨_, rfl⟩
            subst hwr
            clear hO9 HO HBk hkL'
            have HR2 := Lib.hid (HR.out.below HBi.out)
            have hub : ∀ g, (Value.slice p8 n8 c8).ownBlock = some g → u5.ownBlock ≠ some g := fun g h1 h2 => by
              have k1 := (OwnR.lt HO9.out h1).1
              have k2 := (OwnR.lt (OwnR.of_owns HR.out.own) h2).2
              omega
            have Hub := Lib.hid hub
            have hlen : ∀ (j : Nat) u, vs[j]? = some u → ∃ r, (A.map (fun r => rowR r B))[j]? = some r := fun j u hu => by
              have h1 := (List.getElem?_eq_some_iff.1 hu).1
              rw [← Hie.out] at h1
              exact ⟨_, List.getElem?_eq_getElem (by rw [List.length_map, ← Hn.out]; omega)⟩
            have Hlen := Lib.hid hlen
            have hi9 : i + 1 ≤ 1000000 := by omega
            have hBr := HB'.out.trans (HBi.out.mono hz)
            have HBr := Lib.hid hBr
            have hzr := hBr.size
            have H9 := Lib.hid (OwnR.mono HO9.out hz)
            have hown : wr.ownsRow w.heap.size 22 1 u5 i vs := by have h := HR2.out.own; rw [← Hie.out] at h; exact h
            have Hown := Lib.hid hown
            obtain ⟨p5, n5, c5, rfl⟩ := (OwnR.of_owns hown).slice
            clear hub hlen hBr hown HO9 HBi
            go_wp2_with (at_builtin; refine app1 w wr (Value.slice p8 n8 c8) 22 44 rfl _ _ rfl w.heap.size Tryd.underlying44 info_rowC rfl _ i _ rfl _ rfl rfl Hown.out rfl hi9 (by decide) hzr HBr.out ?_)
            intro v9 w9 hown9 hb9 hgr9 hat9
            rw [Hie.out] at hown9
            have hR9 := HR2.out.push Hlen.out (by rw [← Hie.out]; exact Hcr.out) H9.out Hub.out hown9 hgr9 hat9
            have HR9 := Lib.hid hR9
            have HB9 := Lib.hid hb9
            have hl9 : (vs ++ [(Value.slice p8 n8 c8)]).length = i + 1 := by rw [List.length_append, ← Hie.out]; rfl
            have Hl9 := Lib.hid hl9
            clear hown9 hb9 hgr9 hat9 hR9 hl9 HR HR2 H9 Hub Hlen Hcr Hown HBr
            go_wp2_with fail
            (rw [← Hepa.out, ← Hepb.out])
            go_roundg (gO - 1)
            case measure => have := Hi.out; omega
            case rel => exact ⟨_, by rw [Hl9.out]; have := Hi.out; omega, by rw [Hl9.out]; go_num, HR9.out, HB9.out⟩
    · have hin' : i = n := by have := Hi.out; omega
      have HM : Hid (RowsM wO u5 (A.map (fun r => rowR r B))) := Lib.hid (HR.out.rowsM (by rw [← Hie.out, hin', List.length_map, Hn.out]))
      clear HR
      go_wp2_with fail
      go_ret
      exact ⟨_, rfl, HM.out, HB'.out⟩
end Go.Proofs.YtbikmodfmckaeaaDoor
