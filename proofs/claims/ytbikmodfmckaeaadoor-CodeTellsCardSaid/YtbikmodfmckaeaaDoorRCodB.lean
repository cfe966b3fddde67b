/- The walk of the references' Decode. -/
import Derived.Test.YtbikmodfmckaeaaDoorRCodA
import Derived.Test.YtbikmodfmckaeaaDoorCodP
namespace Go.Proofs.YtbikmodfmckaeaaDoor
open Go.ChangeShapes Go.WideShapes Go.ChangeAt Go.RowKit
set_option linter.unusedVariables false
theorem RowsO.kept {F : Nat → Prop} {w w1 : World} {B : Nat} {v : Value} {vs : List Value} {M : List (List UInt8)} (h : RowsO w B v vs M) (hk : Kept F w w1) (hv : ∀ g, v.ownBlock = some g → ¬ F g)
    (hu : ∀ (j : Nat) u g, vs[j]? = some u → u.ownBlock = some g → ¬ F g) : RowsO w1 B v vs M :=
  ⟨Kept.owns h.own hk hv, fun i u r h1 h2 => ⟨OwnR.kept (h.rows i u r h1 h2).1 hk (fun g hg => hu i u g h1 hg), (h.rows i u r h1 h2).2⟩⟩
theorem RowsO.more {w : World} {B : Nat} {v : Value} {vs : List Value} {M : List (List UInt8)} {l : List (List UInt8)} (h : RowsO w B v vs M) (hl : vs.length ≤ M.length) : RowsO w B v vs (M ++ l) :=
  ⟨h.own, fun i u r h1 h2 => by
    have hi := (List.getElem?_eq_some_iff.1 h1).1
    rw [List.getElem?_append_left (by omega)] at h2
    exact h.rows i u r h1 h2⟩
def RDcRel (k n : Nat) (ps : List ByteArray) (ls : List Bool) (w : World) (gk : Nat) (v10 v11 idx : Value) (wr : World) : Prop :=
  ∃ (i : Nat) (vs : List Value), i + gk = n ∧ idx = iv i ∧ wr.ownsRow w.heap.size 9 1 v10 (hx ls i).length ((hvS ps ls i).map Value.string) ∧ RowsO wr w.heap.size v11 vs (byM k ls i) ∧ vs.length = (hx ls i).length ∧
    (∀ g, v10.ownBlock = some g → v11.ownBlock ≠ some g ∧ ∀ (j : Nat) u, vs[j]? = some u → u.ownBlock ≠ some g) ∧ Below w.heap.size w wr
def RDecPost (k n : Nat) (ps : List ByteArray) (ls : List Bool) (w : World) (e : Ending) (w' : World) : Prop :=
  ∃ v, e = .returned (.tuple #[v, iv (decF k n ps ls)]) ∧ OwnR w' w.heap.size 9 v ((if decF k n ps ls = 0 then decR k n ps ls else []).map Value.string) ∧ Below w.heap.size w w'
set_option maxRecDepth 100000 in
set_option maxHeartbeats 4000000 in
theorem rdecode_any (k m : Nat) (h1 : 1 ≤ k) (h2 : k + m ≤ 12) (ps : List ByteArray) (hpz : ∀ s ∈ ps, s.size ≤ maxLen) (ls : List Bool) (hps : ps.length = k + m) (hls : ls.length = k + m) (vp vl : Value) (w : World) (hvp : Strs w vp ps) (hvl : Row w vl (ls.map Value.bool)) :
    Calls Tryd.prog 43 #[iv k, iv m, vp, vl] w (RDecPost k (k + m) ps ls w) := by
  have HP := Lib.hid hvp
  have HL := Lib.hid hvl
  have Hpz := Lib.hid hpz
  obtain ⟨gp, op, cp, rfl, hp1, hp2, _⟩ := hvp.pos (by rw [List.length_map]; omega)
  obtain ⟨gl, ol, cl, rfl, hl1, hl2, _⟩ := hvl.pos (by rw [List.length_map]; omega)
  rw [List.length_map] at *
  have Hps := Lib.hid hps
  have Hls := Lib.hid hls
  obtain ⟨n, hn⟩ : ∃ n, n = k + m := ⟨_, rfl⟩
  rw [← hn] at Hps Hls h2 ⊢
  have hnI : (k : Int) + (m : Int) = (n : Int) := by omega
  have hw : IntKind.i64.wrap ((k : Int) + (m : Int)) = (n : Int) := (IntWalk.i64_in _ (by omega)).trans hnI
  rw [hps, ← hn] at HP ⊢
  rw [hls, ← hn] at HL
  rw [show (ls.map Value.bool).length = n by rw [List.length_map, hls, hn]]
  have Hn := Lib.hid hn
  unfold maxLen at hp2 hl2
  unfold RDecPost
  obtain ⟨F, hF⟩ : ∃ F, F = decF k n ps ls := ⟨_, rfl⟩
  rw [← hF]
  have HF := Lib.hid (show F = if (hx ls n).length < k then 8 else if blkF (hvS ps ls n) ≠ 0 then blkF (hvS ps ls n) else if Mx.rk k k (dN k ls n) < k then 8 else 0 from hF)
  clear hvp hvl hps hls hn hF hpz
  go_enter Tryd.func43, Tryd.ntmps43
  go_wp2_with fail
  go_loopg [10, 11, 12, 13] n (fun gk v10 v11 v12 v13 wr => RDcRel k n ps ls w gk v10 v11 v12 wr)
  case atStart => exact ⟨0, [], by omega, rfl, World.ownsRow_nil _ _ _ _, RowsO.nil _ _ _, rfl, (fun g h => by cases h), Below.refl _ _⟩
  case round =>
    obtain ⟨i, vs, hi, rfl, hO1, hR, hvl9, hap, hB⟩ := hrel
    have Hi := Lib.hid hi
    have HO1 := Lib.hid hO1
    have HR := Lib.hid hR
    have HAp := Lib.hid hap
    have HB := Lib.hid hB
    have Hvl9 := Lib.hid hvl9
    have hz := hB.size
    clear hi hO1 hR hap hB hvl9
    by_cases hin : i < n
    · obtain ⟨gl', ol', cl', hv, hgl, hcl⟩ := row_bool HL.out (j := i) (by rw [Hls.out]; exact hin)
      injection hv with e1 e2 e3
      injection e1 with e1
      injection e1 with e1 e4
      subst e1 e4
      have d0 := (HB.out.cell (p := ⟨gl, ol + i, none⟩) hgl).trans hcl
      obtain ⟨b, hb⟩ : ∃ b, b = los ls i := ⟨_, rfl⟩
      rw [← hb] at d0
      have Hb := Lib.hid hb
      have hiI : (i : Int) < (n : Int) := by omega
      clear e2 e3 hcl hb
      cases b with
      | true =>
        have hnx := hx_no Hb.out.symm
        have hS : hvS ps ls (i + 1) = hvS ps ls i := by unfold hvS; rw [hnx]
        have hY : byM k ls (i + 1) = byM k ls i := by unfold byM; rw [hnx]
        have HS := Lib.hid hS
        have HY := Lib.hid hY
        have Hnx := Lib.hid hnx
        clear hnx hS hY
        go_wp2_with fail
        go_roundg (gk - 1)
        case measure => have := Hi.out; omega
        case rel => exact ⟨i + 1, vs, by have := Hi.out; omega, by go_num, by rw [Hnx.out, HS.out]; exact HO1.out, by rw [HY.out]; exact HR.out, by rw [Hnx.out]; exact Hvl9.out, HAp.out, HB.out⟩
      | false =>
        have hnx := hx_yes Hb.out.symm
        obtain ⟨s, hs⟩ : ∃ s, ps[i]? = some s := ⟨ps[i]'(by rw [Hps.out]; exact hin), List.getElem?_eq_getElem _⟩
        have hS : hvS ps ls (i + 1) = hvS ps ls i ++ [s] := by
          unfold hvS; rw [hnx, List.map_append, List.map_cons, List.getD_eq_getElem?_getD, hs]; rfl
        have hY : byM k ls (i + 1) = byM k ls i ++ [Gv.tab k (cG k i)] := by unfold byM; rw [hnx, List.map_append]; rfl
        obtain ⟨pq, cq, hvq, _, hcq⟩ := HP.out.get
        obtain ⟨gs, os, hps', hcs, hgs⟩ := hcq i s hs
        injection hvq with q1 q2 q3
        rw [hps'] at q1
        injection q1 with q1
        injection q1 with q1 q4
        subst q1 q4
        have d2 := (HB.out.cell (p := ⟨gp, op + i, none⟩) hgs).trans hcs
        obtain ⟨h, hh⟩ : ∃ h, h = (hx ls i).length := ⟨_, rfl⟩
        have hle := hx_le ls i
        rw [← hh] at HO1 hle Hvl9
        have hl1 : (hx ls (i + 1)).length = h + 1 := by rw [hnx, List.length_append, ← hh]; rfl
        have Hl1 := Lib.hid hl1
        have HS := Lib.hid hS
        have HY := Lib.hid hY
        have Hh := Lib.hid hh
        have h9 : h + 1 ≤ 1000000 := by omega
        have HLn := Lib.hid (rline_any k i h1 (by omega) (by omega) wr)
        unfold RwPost at HLn
        have hd2 : ⟨gp, op + i, none⟩ = (⟨gp, op + i, none⟩ : Addr) := rfl
        clear hnx hS hY hs hps' hcs q2 q3 hh hl1 hcq hle hd2
        go_wp2_with fail
        refine HLn.out.mono ?_
        rintro e w2 ⟨v2, rfl, hO2, hb2⟩
        have d3 : w2.cell? ⟨gp, op + i, none⟩ = some (.string s) := (hb2.cell (p := ⟨gp, op + i, none⟩) (World.block_lt_of_cell? wr _ d2)).trans d2
        have hz2 := hb2.size
        have HB2 := Lib.hid (HB.out.trans (hb2.mono hz))
        have hzw2 := HB2.out.size
        have HO1b := Lib.hid (owns_below HO1.out hb2)
        have HRb := Lib.hid (HR.out.below hb2)
        have hlt1 : ∀ g, u10.ownBlock = some g → g < wr.heap.size := fun g hg => (OwnR.lt (OwnR.of_owns HO1.out) hg).2
        have hlt2 : ∀ g, u11.ownBlock = some g → g < wr.heap.size := fun g hg => (OwnR.lt (OwnR.of_owns HR.out.own) hg).2
        have hbl : (byM k ls i).length = h := by rw [byM_len, Hh.out]
        have hlt3 : ∀ (j : Nat) u g, vs[j]? = some u → u.ownBlock = some g → g < wr.heap.size := fun j u g hj hg => by
          have hj9 := (List.getElem?_eq_some_iff.1 hj).1
          rw [Hvl9.out] at hj9
          exact (OwnR.lt (HR.out.rows j u _ hj (List.getElem?_eq_getElem (by rw [hbl]; exact hj9))).1 hg).2
        have hlt4 : ∀ g, v2.ownBlock = some g → wr.heap.size ≤ g ∧ g < w2.heap.size := fun g hg => OwnR.lt hO2 hg
        have Hlt1 := Lib.hid hlt1
        have Hlt2 := Lib.hid hlt2
        have Hlt3 := Lib.hid hlt3
        have Hlt4 := Lib.hid hlt4
        have Hbl := Lib.hid hbl
        have HO2 := Lib.hid hO2
        obtain ⟨pv1, nv1, cv1, rfl⟩ := (OwnR.of_owns HO1.out).slice
        obtain ⟨pv2, nv2, cv2, rfl⟩ := (OwnR.of_owns HR.out.own).slice
        obtain ⟨pr, nr, cr, rfl⟩ := hO2.slice
        clear hO2 hb2 HLn d2 d0 HO1 HR HB hlt1 hlt2 hlt3 hlt4 hbl
        go_wp2_with (at_builtin; refine app1 w w2 _ 9 65 rfl _ _ rfl w.heap.size Tryd.underlying65 info_strS rfl _ h _ rfl _ rfl rfl HO1b.out rfl h9 (by decide) hzw2 HB2.out ?_)
        intro v8 w8 hown8 hb8 hgr8 hat8
        have hk8 := Kept.grown hgr8
        have hR8 : RowsO w8 w.heap.size (.slice pv2 nv2 cv2) vs (byM k ls i) := HRb.out.kept hk8 (fun g hg e => (HAp.out g e.symm).1 hg) (fun j u g hj hg e => (HAp.out g e.symm).2 j u hj hg)
        have hO28 : OwnB w8 w.heap.size (.slice pr nr cr) (Gv.tab k (cG k i)) := OwnR.kept (OwnR.mono HO2.out hz) hk8 (fun g hg e => by
          have k1 := Hlt1.out g e.symm
          have k2 := (Hlt4.out g hg).1
          omega)
        have hap8 : ∀ g, v8.ownBlock = some g → (Value.slice pv2 nv2 cv2).ownBlock ≠ some g ∧ (∀ (j : Nat) u, vs[j]? = some u → u.ownBlock ≠ some g) ∧ (Value.slice pr nr cr).ownBlock ≠ some g := fun g hg => by
          rcases hat8 with hh | hh
          · rw [hh] at hg
            refine ⟨(HAp.out g hg).1, (HAp.out g hg).2, fun e => ?_⟩
            have k1 := Hlt1.out g hg
            have k2 := (Hlt4.out g e).1
            omega
          · rw [hh] at hg
            injection hg with hg
            refine ⟨fun e => ?_, fun j u hj e => ?_, fun e => ?_⟩
            · have := Hlt2.out g e; omega
            · have := Hlt3.out j u g hj e; omega
            · have := (Hlt4.out g e).2; omega
        have hown8' : w8.ownsRow w.heap.size 9 1 v8 (h + 1) ((hvS ps ls (i + 1)).map Value.string) := by
          rw [HS.out, List.map_append]; exact hown8
        have HO8 := Lib.hid hown8'
        have HR8 := Lib.hid hR8
        have HO28 := Lib.hid hO28
        have HAp8 := Lib.hid hap8
        have HB8 := Lib.hid hb8
        have hz8 := hb8.size
        have hgz := hgr8.size
        have hown : w8.ownsRow w.heap.size 22 1 (.slice pv2 nv2 cv2) h vs := by have h := hR8.own; rw [Hvl9.out] at h; exact h
        have Hown := Lib.hid hown
        obtain ⟨pv8, nv8, cv8, rfl⟩ := (OwnR.of_owns HO8.out).slice
        clear hown8 hown8' hb8 hgr8 hat8 hk8 hR8 hO28 hap8 HO1b HRb HB2 d3 hown
        go_wp2_with (at_builtin; refine app1 w w8 _ 22 44 rfl _ _ rfl w.heap.size Tryd.underlying44 info_rowC rfl _ h _ rfl _ rfl rfl Hown.out rfl h9 (by decide) hz8 HB8.out ?_)
        intro v9 w9 hown9 hb9 hgr9 hat9
        have hk9 := Kept.grown hgr9
        have hO1' : w9.ownsRow w.heap.size 9 1 (.slice pv8 nv8 cv8) (h + 1) ((hvS ps ls (i + 1)).map Value.string) := Kept.owns HO8.out hk9 (fun z hz' e => (HAp8.out z hz').1 e.symm)
        have hown9' := hown9
        rw [← Hvl9.out] at hown9'
        have hR9 : RowsO w9 w.heap.size v9 (vs ++ [.slice pr nr cr]) (byM k ls (i + 1)) := by
          have hm : RowsO w8 w.heap.size (.slice pv2 nv2 cv2) vs (byM k ls (i + 1)) := by rw [HY.out]; exact HR8.out.more (by rw [Hbl.out, Hvl9.out]; exact Nat.le_refl _)
          refine hm.push (fun j u hj => ?_) (r := Gv.tab k (cG k i)) ?_ HO28.out (fun g hg e => ?_) hown9' hgr9 hat9
          · have hj9 := (List.getElem?_eq_some_iff.1 hj).1
            rw [Hvl9.out] at hj9
            exact ⟨_, List.getElem?_eq_getElem (by rw [HY.out, List.length_append, Hbl.out]; omega)⟩
          · rw [HY.out, Hvl9.out, List.getElem?_append_right (by rw [Hbl.out]; exact Nat.le_refl _), Hbl.out, Nat.sub_self]; rfl
          · have := Hlt2.out g e
            have := (Hlt4.out g hg).1
            omega
        have hap9 : ∀ g, (Value.slice pv8 nv8 cv8).ownBlock = some g → v9.ownBlock ≠ some g ∧ ∀ (j : Nat) u, (vs ++ [Value.slice pr nr cr])[j]? = some u → u.ownBlock ≠ some g := fun g hg => by
          obtain ⟨k1, k2, k3⟩ := HAp8.out g hg
          refine ⟨fun e => ?_, fun j u hj => ?_⟩
          · rcases hat9 with hh | hh
            · exact k1 (hh ▸ e)
            · rw [hh] at e
              injection e with e
              have := (OwnR.lt (OwnR.of_owns HO8.out) hg).2
              omega
          · by_cases hjl : j < vs.length
            · rw [List.getElem?_append_left hjl] at hj; exact k2 j u hj
            · have hj9 := (List.getElem?_eq_some_iff.1 hj).1
              rw [List.length_append] at hj9
              obtain rfl : j = vs.length := by simp at hj9; omega
              rw [List.getElem?_append_right (by omega), Nat.sub_self] at hj
              rw [← Option.some.inj hj]; exact k3
        have hl9 : (vs ++ [Value.slice pr nr cr]).length = h + 1 := by rw [List.length_append, Hvl9.out]; rfl
        have HO1' := Lib.hid hO1'
        have HR9 := Lib.hid hR9
        have HAp9 := Lib.hid hap9
        have HB9 := Lib.hid hb9
        have Hl9 := Lib.hid hl9
        clear hown9 hown9' hb9 hgr9 hat9 hk9 hO1' hR9 hap9 HO8 HR8 HO28 HAp8 HB8 hl9 HAp Hown
        go_wp2_with fail
        go_roundg (gk - 1)
        case measure => have := Hi.out; omega
        case rel => exact ⟨i + 1, _, by have := Hi.out; omega, by go_num, by rw [Hl1.out]; exact HO1'.out, HR9.out, by rw [Hl9.out, Hl1.out], HAp9.out, HB9.out⟩
    · have hin' : i = n := by have := Hi.out; omega
      clear hin
      subst hin'
      obtain ⟨h, hh⟩ : ∃ h, h = (hx ls i).length := ⟨_, rfl⟩
      rw [← hh] at HO1 Hvl9
      obtain ⟨pv1, cv1, hv1, hvc1, hvm1⟩ := (OwnR.of_owns HO1.out).shape
      obtain ⟨pv2, cv2, hv2, hvc2, hvm2⟩ := (OwnR.of_owns HR.out.own).shape
      have hl1' : ((hvS ps ls i).map Value.string).length = h := by rw [List.length_map, hvS_len, hh]
      rw [hl1'] at hv1 hvc1
      rw [Hvl9.out] at hv2 hvc2
      subst hv1 hv2
      have hle := hx_le ls i
      rw [← hh] at hle
      have HST : Hid (Strs wr (.slice pv1 h cv1) (hvS ps ls i)) := Lib.hid (OwnR.row (OwnR.of_owns HO1.out))
      have HMB : Hid (RowsM wr (.slice pv2 h cv2) (byM k ls i)) := Lib.hid (HR.out.rowsM (by rw [byM_len, Hvl9.out, hh]))
      unfold maxLen at hvm1 hvm2
      have Hh := Lib.hid hh
      have hHz : ∀ s ∈ hvS ps ls i, s.size ≤ maxLen := fun s hs => by
        unfold hvS at hs
        obtain ⟨j, hj, rfl⟩ := List.mem_map.1 hs
        have hj2 := List.mem_range.1 (List.mem_filter.1 hj).1
        rw [List.getD_eq_getElem?_getD, List.getElem?_eq_getElem (by rw [Hps.out]; exact hj2)]
        exact Hpz.out _ (List.getElem_mem _)
      have HHz := Lib.hid hHz
      clear hh hl1' HO1 HR HAp hHz
      by_cases hhk : h < k
      · have hF8 : F = 8 := by rw [HF.out, ← Hh.out, if_pos hhk]
        have t3 : (h : Int) < (k : Int) := by omega
        clear HF hhk
        subst hF8
        go_wp2_with fail
        go_ret2
        exact ⟨_, rfl, OwnR.nil _ _ _, HB.out⟩
      · have t3 : ¬ (h : Int) < (k : Int) := by omega
        have HBl := Lib.hid (rblocks_any _ HHz.out _ wr HST.out)
        have hF2 : F = if blkF (hvS ps ls i) ≠ 0 then blkF (hvS ps ls i) else 0 := by
          rw [HF.out, ← Hh.out, if_neg hhk, show Mx.rk k k (dN k ls i) = k from dN_full (by rw [← Hh.out]; omega) h2, if_neg (Nat.lt_irrefl k)]
        by_cases hb0 : blkF (hvS ps ls i) = 0
        · have hF3 : F = 0 := by rw [hF2, if_neg (by simp [hb0])]
          rw [hb0] at HBl
          have hz0 := blkF_zero hb0
          have HZ := Lib.hid hz0
          have hhd := HMB.out.head (k := k) (by rw [byM_len, ← Hh.out]; omega)
          rw [byM_take ls (by rw [← Hh.out]; omega)] at hhd
          have HHd := Lib.hid hhd
          have HSk := Lib.hid (HST.out.head (k := k) (by rw [hvS_len, ← Hh.out]; omega))
          have hkc : k ≤ cv2 := by omega
          have hkc1 : k ≤ cv1 := by omega
          have hkh : k ≤ h := by omega
          have HDf : Hid (Mx.rk k k (dN k ls i) = k) := Lib.hid (dN_full (by rw [← Hh.out]; omega) h2)
          clear HF hF2 hhd hb0 hz0 HMB
          subst hF3
          go_wp2_with fail
          refine HBl.out.mono ?_
          rintro e w' ⟨rfl, n1, rfl⟩
          obtain ⟨wB, hwB⟩ : ∃ x, x = wr.drewN n1 := ⟨_, rfl⟩
          have hbB : Below wr.heap.size wr wB := by rw [hwB]; exact bdrew (Below.refl _ _) n1
          rw [← hwB]
          have HTu := Lib.hid (rinverse_any (dN k ls i) k h1 (by omega) (.slice pv2 k cv2) wB (HHd.out.below hbB))
          have HSkB := Lib.hid (HSk.out.below hbB)
          have HBB := Lib.hid (HB.out.trans (hbB.mono hz))
          have hzB := HBB.out.size
          unfold RIvPost at HTu
          clear HBl hwB hbB HB HSk HHd HST hz
          go_wp2_with fail
          refine HTu.out.mono ?_
          rintro e w2 ⟨hb2, hor⟩
          have HB2 := Lib.hid (HBB.out.trans (hb2.mono hzB))
          rcases hor with ⟨hr, vb, rfl, hMF⟩ | ⟨hr, rfl⟩
          · have HM2 := Lib.hid hMF
            have HS2 := Lib.hid (HSkB.out.below hb2)
            have hz2 := HB2.out.size
            obtain ⟨pb, cb, rfl, _, _, hp0⟩ := hMF.shape
            rw [lt_len] at hp0 HM2 ⊢
            obtain ⟨gb, ob, _, _, rfl, _, _⟩ := hp0 (by omega)
            clear hb2 hMF hr HSkB HTu HBB hzB hp0
            go_wp2_with fail
            go_loopg [17, 18, 19] k (fun gk v17 v18 v19 wq => DcIn k i ps ls w2 gk v17 v18 wq)
            case atStart => exact ⟨0, by omega, rfl, World.ownsRow_nil _ _ _ _, Below.refl _ _⟩
            case round =>
              obtain ⟨q, hq, rfl, hO, hB⟩ := hrel
              have Hq := Lib.hid hq
              have HO := Lib.hid hO
              have HBq := Lib.hid hB
              have hzq := hB.size
              clear hq hO hB
              by_cases hqk : q < k
              · obtain ⟨g', o', c', p3, c3, hv3, hg3, hcl3, hrb3⟩ := HM2.out.at (lt_get k (Mx.iv' k (dN k ls i)) hqk)
                injection hv3 with e1 e2 e3
                injection e1 with e1
                injection e1 with e1 e4
                subst e1 e4
                rw [Gv.tab_len] at hcl3 hrb3
                have d3 := (HBq.out.cell (p := ⟨gb, ob + q, none⟩) hg3).trans hcl3
                have htl : ((hvS ps ls i).take k).length = k := by rw [List.length_take, hvS_len, ← Hh.out]; omega
                have hsz : ∀ s ∈ (hvS ps ls i).take k, s.size = size0 ((hvS ps ls i).take k) := fun s hs => by
                  have h5 := HZ.out.1 s (List.mem_of_mem_take hs)
                  have h6 : size0 ((hvS ps ls i).take k) = size0 (hvS ps ls i) := by
                    cases hh : hvS ps ls i with
                    | nil => rw [List.take_nil]
                    | cons a t =>
                      obtain ⟨k', rfl⟩ : ∃ k', k = k' + 1 := ⟨k - 1, by omega⟩
                      rfl
                  rw [h5, h6]
                have hsz2 : size0 ((hvS ps ls i).take k) ≤ 16 := by
                  have h5 := HZ.out.2
                  cases hh : (hvS ps ls i).take k with
                  | nil => simp [size0]
                  | cons a t =>
                    show a.size ≤ 16
                    rw [HZ.out.1 a (List.mem_of_mem_take (by rw [hh]; exact List.mem_cons_self ..))]
                    exact h5
                have HSu := Lib.hid (rmix_any _ (Gv.tab k (Mx.iv' k (dN k ls i) q)) hsz (by omega) (by rw [Gv.tab_len, htl]; exact Nat.le_refl _) (.slice pv1 k cv1) (.slice p3 k c3) wr.drew (HS2.out.below (HBq.out.trans (Below.refl _ _).drew)) (RowB.below hrb3 (HBq.out.trans (Below.refl _ _).drew)))
                unfold CSumPost at HSu
                have hse : Gv.sumS ((hvS ps ls i).take k) (Gv.at' (Gv.tab k (Mx.iv' k (dN k ls i) q))) = Gv.sumS ((hvS ps ls i).take k) (Mx.iv' k (dN k ls i) q) := sumS_ext (fun j hj => by
                  rw [htl] at hj
                  show List.getD _ _ _ = _
                  rw [Gv.tab_at _ hj])
                rw [hse] at HSu
                obtain ⟨pt, hpb⟩ : ∃ b, b = Gv.sumS ((hvS ps ls i).take k) (Mx.iv' k (dN k ls i) q) := ⟨_, rfl⟩
                rw [← hpb] at HSu
                have Hpb := Lib.hid hpb
                have hq9 : q + 1 ≤ 1000000 := by omega
                have hqI : (q : Int) < (k : Int) := by omega
                have hkcI : (k : Int) ≤ (cv1 : Int) := by omega
                have hkhI : (k : Int) ≤ (h : Int) := by omega
                clear e2 e3 hrb3 hse hpb hcl3 htl hsz hsz2
                go_wp2_with fail
                go_still_tail 7, (by kernel_rfl)
                clear d3
                go_wp2_with fail
                refine HSu.out.mono ?_
                rintro e w5 ⟨rfl, hb5⟩
                have hb5' : Below wr.heap.size wr w5 := (Below.refl wr.heap.size wr).drew.trans hb5
                have HO5 := Lib.hid (owns_below HO.out hb5')
                have HB5 := Lib.hid (HBq.out.trans (hb5'.mono hzq))
                have hz5 := HB5.out.size
                clear hb5 hb5' HSu HO HBq
                go_wp2_with (at_builtin; refine app1 w2 w5 _ 9 65 rfl _ _ rfl w2.heap.size Tryd.underlying65 info_strS rfl _ q _ rfl _ rfl rfl HO5.out rfl hq9 (by decide) hz5 HB5.out ?_)
                intro v8 w8 hown8 hb8 _ _
                rw [Hpb.out, dcv_succ] at hown8
                have HO8 := Lib.hid hown8
                have HB8 := Lib.hid hb8
                clear hown8 hb8 HO5 HB5
                go_wp2_with fail
                go_roundg (gk - 1)
                case measure => have := Hq.out; omega
                case rel => exact ⟨q + 1, by have := Hq.out; omega, by go_num, HO8.out, HB8.out⟩
              · have hqk' : q = k := by have := Hq.out; omega
                subst hqk'
                have HO' : Hid (OwnR wr w.heap.size 9 u17 ((decR q i ps ls).map Value.string)) := Lib.hid (by
                  have h := OwnR.mono (OwnR.of_owns HO.out) hz2
                  rw [dcv_dec] at h; exact h)
                have HBz := Lib.hid (HB2.out.trans (HBq.out.mono hz2))
                clear HO hqk
                go_wp2_with fail
                go_ret2
                exact ⟨_, rfl, HO'.out, HBz.out⟩
          · exfalso
            have := HDf.out
            omega
        · have hF3 : F = blkF (hvS ps ls i) := by rw [hF2, if_pos hb0]
          rw [← hF3] at HBl hb0
          have t4 : (F == 0) = false := beq_f hb0
          have t5 : (F != 0) = true := bne_t hb0
          have Hb0 := Lib.hid hb0
          clear HF hF2 hF3 hb0 HMB
          go_wp2_with fail
          refine HBl.out.mono ?_
          rintro e w' ⟨rfl, n1, rfl⟩
          have hbB := Lib.hid (HB.out.trans ((bdrew (Below.refl _ _) n1).mono hz))
          clear HBl
          go_wp2_with fail
          go_ret2
          exact ⟨_, rfl, by first | exact OwnR.nil _ _ _ | (rw [if_neg Hb0.out]; exact OwnR.nil _ _ _), hbB.out⟩
end Go.Proofs.YtbikmodfmckaeaaDoor
