/- The walk of code.Decode, of a code and numbers that are right. -/
import Derived.Test.YtcldioneiededaaCodD
namespace Go.Proofs.Ytcldioneiededaa
open Go.ChangeShapes Go.WideShapes Go.ChangeAt Go.RowKit
set_option linter.unusedVariables false
theorem row_bool {w : World} {v : Value} {ls : List Bool} (h : Row w v (ls.map Value.bool)) {j : Nat} (hj : j < ls.length) : ∃ g o cap, v = .slice (some ⟨g, o, none⟩) ls.length cap ∧ g < w.heap.size ∧ w.cell? ⟨g, o + j, none⟩ = some (.bool (los ls j)) := by
  obtain ⟨g, o, cap, hv, _, _, h3⟩ := h.pos (by rw [List.length_map]; omega)
  rw [List.length_map] at hv
  have h4 := h3 j (by rw [List.length_map]; exact hj)
  rw [List.getElem?_map, List.getElem?_eq_getElem hj] at h4
  have e : los ls j = ls[j] := by unfold los; rw [List.getD_eq_getElem?_getD, List.getElem?_eq_getElem hj]; rfl
  rw [e]
  exact ⟨g, o, cap, hv, World.block_lt_of_cell? w _ h4, h4⟩
theorem RowsM.head {w : World} {p : Option Addr} {n c k : Nat} {M : List (List UInt8)} (h : RowsM w (.slice p n c) M) (hk : k ≤ M.length) : RowsM w (.slice p k c) (M.take k) := by
  obtain ⟨vs, h1, h2, h3⟩ := h
  refine ⟨vs.take k, row_headP h1 (by omega), by rw [List.length_take, List.length_take, h2], fun i l hl => ?_⟩
  rw [List.getElem?_take] at hl ⊢
  by_cases hi : i < k
  · rw [if_pos hi] at hl ⊢; exact h3 i l hl
  · rw [if_neg hi] at hl; cases hl
theorem Strs.head {w : World} {p : Option Addr} {n c k : Nat} {ls : List ByteArray} (h : Strs w (.slice p n c) ls) (hk : k ≤ ls.length) : Strs w (.slice p k c) (ls.take k) := by
  have h2 := row_headP h (k := k) (by rw [List.length_map]; exact hk)
  rw [← List.map_take] at h2; exact h2
theorem hvS_len (ps : List ByteArray) (ls : List Bool) (n : Nat) : (hvS ps ls n).length = (hx ls n).length := by unfold hvS; rw [List.length_map]
theorem byM_len (k : Nat) (ls : List Bool) (n : Nat) : (byM k ls n).length = (hx ls n).length := by unfold byM; rw [List.length_map]
def dcv (k n : Nat) (ps : List ByteArray) (ls : List Bool) (q : Nat) : List Value := (List.range q).map (fun i => .string (Gv.sumS ((hvS ps ls n).take k) (Mx.iv' k (dN k ls n) i)))
theorem dcv_succ (k n : Nat) (ps : List ByteArray) (ls : List Bool) (q : Nat) : dcv k n ps ls q ++ [.string (Gv.sumS ((hvS ps ls n).take k) (Mx.iv' k (dN k ls n) q))] = dcv k n ps ls (q + 1) := by unfold dcv; rw [List.range_succ, List.map_append]; rfl
theorem dcv_dec (k n : Nat) (ps : List ByteArray) (ls : List Bool) : dcv k n ps ls k = (decR k n ps ls).map Value.string := by unfold dcv decR; rw [List.map_map]; rfl
def DcIn (k n : Nat) (ps : List ByteArray) (ls : List Bool) (w1 : World) (gk : Nat) (v18 idx : Value) (wr : World) : Prop :=
  ∃ q : Nat, q + gk = k ∧ idx = iv q ∧ wr.ownsRow w1.heap.size 9 1 v18 q (dcv k n ps ls q) ∧ Below w1.heap.size w1 wr
set_option maxRecDepth 100000 in
set_option maxHeartbeats 4000000 in
theorem decode_any (k m : Nat) (h1 : 1 ≤ k) (h2 : k + m ≤ 12) (ps : List ByteArray) (ls : List Bool) (hps : ps.length = k + m) (hls : ls.length = k + m) (vp vl : Value) (w : World) (hvp : Strs w vp ps) (hvl : Row w vl (ls.map Value.bool)) :
    Calls Try.prog 20 #[iv k, iv m, vp, vl] w (DecPost k (k + m) ps ls w) := by
  have HP := Lib.hid hvp
  have HL := Lib.hid hvl
  obtain ⟨gp, op, cp, rfl, hp1, hp2, _⟩ := hvp.pos (by rw [List.length_map]; omega)
  obtain ⟨gl, ol, cl, rfl, hl1, hl2, _⟩ := hvl.pos (by rw [List.length_map]; omega)
  rw [List.length_map] at *
  have Hps := Lib.hid hps
  have Hls := Lib.hid hls
  obtain ⟨n, hn⟩ : ∃ n, n = k + m := ⟨_, rfl⟩
  have HC := Lib.hid (ccheck_any (k : Int) (m : Int) w)
  rw [show codF (k : Int) (m : Int) = 0 by unfold codF; rw [if_neg (by omega)], errV_0] at HC
  have HRo := Lib.hid (rows_any k m h1 h2 w)
  unfold CaPost at HRo
  rw [← hn] at Hps Hls h2 HRo ⊢
  have hnI : (k : Int) + (m : Int) = (n : Int) := by omega
  have hw : IntKind.i64.wrap ((k : Int) + (m : Int)) = (n : Int) := (IntWalk.i64_in _ (by omega)).trans hnI
  rw [hps, ← hn] at HP ⊢
  rw [hls, ← hn] at HL
  rw [show (ls.map Value.bool).length = n by rw [List.length_map, hls, hn]]
  have t1 : ((n : Int) != (n : Int)) = false := bne_f rfl
  have t2 : ((n : Int) == (n : Int)) = true := beq_t rfl
  have Hn := Lib.hid hn
  unfold maxLen at hp2 hl2
  unfold DecPost
  obtain ⟨F, hF⟩ : ∃ F, F = decF k n ps ls := ⟨_, rfl⟩
  rw [← hF]
  have HF := Lib.hid (show F = if (hx ls n).length < k then 8 else if blkF (hvS ps ls n) ≠ 0 then blkF (hvS ps ls n) else if Mx.rk k k (dN k ls n) < k then 8 else 0 from hF)
  clear hvp hvl hps hls hn hF
  go_enter Try.func20, Try.ntmps20
  go_wp2_with fail
  refine HC.out.mono ?_
  rintro e w' ⟨rfl, rfl⟩
  go_wp2_with fail
  refine HRo.out.mono ?_
  rintro e w1 ⟨v1, rfl, hM, hb1⟩
  have HM := Lib.hid hM
  have HB1 := Lib.hid hb1
  have hz1 := hb1.size
  obtain ⟨p1, c1, rfl, hc1, hc2, h0⟩ := hM.shape
  rw [lt_len] at hc1 HM h0 ⊢
  obtain ⟨g, o, p0, c0, rfl, _, _⟩ := h0 (by omega)
  unfold maxLen at hc2
  clear hM hb1 HRo HC h0
  go_wp2_with fail
  go_loopg [11, 12, 13, 14, 46] n (fun gk v11 v12 v13 v14 v46 wr => DcRel k n ps ls w1 gk v11 v12 v46 wr)
  case atStart => exact ⟨0, [], by omega, rfl, World.ownsRow_nil _ _ _ _, World.ownsRow_nil _ _ _ _, (fun j u l hu => by simp at hu), (fun g h => by cases h), Below.refl _ _⟩
  case round =>
    obtain ⟨i, vs, hi, rfl, hO1, hO2, hR, hap, hB⟩ := hrel
    have Hi := Lib.hid hi
    have HO1 := Lib.hid hO1
    have HO2 := Lib.hid hO2
    have HR := Lib.hid hR
    have HAp := Lib.hid hap
    have HB := Lib.hid hB
    have hz := hB.size
    have HBw := Lib.hid (HB1.out.trans (hB.mono hz1))
    clear hi hO1 hO2 hR hap hB
    by_cases hin : i < n
    · obtain ⟨gl', ol', cl', hv, hgl, hcl⟩ := row_bool HL.out (j := i) (by rw [Hls.out]; exact hin)
      injection hv with e1 e2 e3
      injection e1 with e1
      injection e1 with e1 e4
      subst e1 e4
      have d0 := (HBw.out.cell (p := ⟨gl, ol + i, none⟩) hgl).trans hcl
      obtain ⟨g', o', c', p2, c2, hv2, hg2, hcl2, hrb⟩ := HM.out.at (lt_get k (cG k) hin)
      injection hv2 with e1 e5 e6
      injection e1 with e1
      injection e1 with e1 e4
      subst e1 e4
      rw [Gv.tab_len] at hcl2 hrb
      have d1 := (HB.out.cell (p := ⟨g, o + i, none⟩) hg2).trans hcl2
      obtain ⟨b, hb⟩ : ∃ b, b = los ls i := ⟨_, rfl⟩
      rw [← hb] at d0
      have Hb := Lib.hid hb
      clear e2 e3 e5 e6 hcl hcl2 hb
      cases b with
      | true =>
        have hnx := hx_no Hb.out.symm
        have hS : hvS ps ls (i + 1) = hvS ps ls i := by unfold hvS; rw [hnx]
        have hY : byM k ls (i + 1) = byM k ls i := by unfold byM; rw [hnx]
        have HS := Lib.hid hS
        have HY := Lib.hid hY
        have Hnx := Lib.hid hnx
        clear hnx hS hY hrb
        go_wp2_with fail
        go_roundg (gk - 1)
        case measure => have := Hi.out; omega
        case rel => exact ⟨i + 1, vs, by have := Hi.out; omega, by go_num, by rw [Hnx.out, HS.out]; exact HO1.out, by rw [Hnx.out]; exact HO2.out, by rw [HY.out]; exact HR.out, HAp.out, HB.out⟩
      | false =>
        have hnx := hx_yes Hb.out.symm
        obtain ⟨s, hs⟩ : ∃ s, ps[i]? = some s := ⟨ps[i]'(by rw [Hps.out]; exact hin), List.getElem?_eq_getElem _⟩
        have hS : hvS ps ls (i + 1) = hvS ps ls i ++ [s] := by
          unfold hvS; rw [hnx, List.map_append, List.map_cons, List.getD_eq_getElem?_getD, hs]; rfl
        have hY : byM k ls (i + 1) = byM k ls i ++ [Gv.tab k (cG k i)] := by unfold byM; rw [hnx, List.map_append]; rfl
        obtain ⟨pq, cq, hvq, _, hcq⟩ := HP.out.get
        obtain ⟨gs, os, hps', hcs, hgs⟩ := hcq i s hs
        injection hvq with q1 q2 q3
        rw [hps'] at q1
        injection q1 with q1
        injection q1 with q1 q4
        subst q1 q4
        have d2 := (HBw.out.cell (p := ⟨gp, op + i, none⟩) hgs).trans hcs
        obtain ⟨h, hh⟩ : ∃ h, h = (hx ls i).length := ⟨_, rfl⟩
        have hle := hx_le ls i
        rw [← hh] at HO1 HO2 hle
        have hl1 : (hx ls (i + 1)).length = h + 1 := by rw [hnx, List.length_append, ← hh]; rfl
        have hvl9 : vs.length = h := by simpa using HO2.out.1
        have Hl1 := Lib.hid hl1
        have HS := Lib.hid hS
        have HY := Lib.hid hY
        have Hh := Lib.hid hh
        have Hvl9 := Lib.hid hvl9
        have Hrb := Lib.hid hrb
        have h9 : h + 1 ≤ 1000000 := by omega
        obtain ⟨pv1, nv1, cv1, rfl⟩ := (OwnR.of_owns HO1.out).slice
        obtain ⟨pv2, nv2, cv2, rfl⟩ := (OwnR.of_owns HO2.out).slice
        clear hnx hS hY hrb hs hps' hcs hgs q2 q3 hh hl1 hvl9 hcq hle
        go_wp2_with (at_builtin; refine app1 w1 wr _ 9 32 rfl _ _ rfl w1.heap.size Try.underlying32 info_strS rfl _ h _ rfl _ rfl rfl HO1.out rfl h9 (by decide) hz HB.out ?_)
        intro v8 w8 hown8 hb8 hgr8 hat8
        have hk8 := Kept.grown hgr8
        have hO2' : w8.ownsRow w1.heap.size 74 1 (.slice pv2 nv2 cv2) h vs := Kept.owns HO2.out hk8 (fun z hz' e => HAp.out z e.symm hz')
        have hap8 : ∀ z, v8.ownBlock = some z → (Value.slice pv2 nv2 cv2).ownBlock ≠ some z := fun z hz' e => by
          rcases hat8 with hh | hh
          · exact HAp.out z (hh ▸ hz') e
          · rw [hh] at hz'
            injection hz' with hz'
            have := (OwnR.lt (OwnR.of_owns HO2.out) e).2
            omega
        have hown8' : w8.ownsRow w1.heap.size 9 1 v8 (h + 1) ((hvS ps ls (i + 1)).map Value.string) := by
          rw [HS.out, List.map_append]; exact hown8
        have HO8 := Lib.hid hown8'
        have HO2' := Lib.hid hO2'
        have HAp8 := Lib.hid hap8
        have HB8 := Lib.hid hb8
        have hz8 := hb8.size
        obtain ⟨pv8, nv8, cv8, rfl⟩ := (OwnR.of_owns HO8.out).slice
        clear hown8 hown8' hb8 hgr8 hat8 hk8 hO2' hap8 HO1 HO2 HB d2 d1 d0
        go_wp2_with (at_builtin; refine app1 w1 w8 _ 74 85 rfl _ _ rfl w1.heap.size Try.underlying85 info_rowC rfl _ h _ rfl _ rfl rfl HO2'.out rfl h9 (by decide) hz8 HB8.out ?_)
        intro v9 w9 hown9 hb9 hgr9 hat9
        have hk9 := Kept.grown hgr9
        have hO1' : w9.ownsRow w1.heap.size 9 1 (.slice pv8 nv8 cv8) (h + 1) ((hvS ps ls (i + 1)).map Value.string) := Kept.owns HO8.out hk9 (fun z hz' e => HAp8.out z hz' e.symm)
        have hap9 : ∀ z, (Value.slice pv8 nv8 cv8).ownBlock = some z → v9.ownBlock ≠ some z := fun z hz' e => by
          rcases hat9 with hh | hh
          · exact HAp8.out z hz' (hh ▸ e)
          · rw [hh] at e
            injection e with e
            have := (OwnR.lt (OwnR.of_owns HO8.out) hz').2
            omega
        have hR9 : ∀ (j : Nat) u l, (vs ++ [Value.slice p2 k c2])[j]? = some u → (byM k ls (i + 1))[j]? = some l → RowB w1 u l := fun j u l hu hl => by
          rw [HY.out] at hl
          have hbl : (byM k ls i).length = h := by rw [byM_len, Hh.out]
          by_cases hj : j < h
          · rw [List.getElem?_append_left (by rw [Hvl9.out]; exact hj)] at hu
            rw [List.getElem?_append_left (by rw [hbl]; exact hj)] at hl
            exact HR.out j u l hu hl
          · have hj9 := (List.getElem?_eq_some_iff.1 hu).1
            rw [List.length_append, Hvl9.out] at hj9
            obtain rfl : j = h := by simp at hj9; omega
            rw [List.getElem?_append_right (by rw [Hvl9.out]; exact Nat.le_refl _), Hvl9.out, Nat.sub_self] at hu
            rw [List.getElem?_append_right (by rw [hbl]; exact Nat.le_refl _), hbl, Nat.sub_self] at hl
            obtain rfl : Value.slice p2 k c2 = u := Option.some.inj hu
            obtain rfl : Gv.tab k (cG k i) = l := Option.some.inj hl
            exact Hrb.out
        have HO1' := Lib.hid hO1'
        have HO9 := Lib.hid hown9
        have HAp9 := Lib.hid hap9
        have HR9 := Lib.hid hR9
        have HB9 := Lib.hid hb9
        clear hown9 hb9 hgr9 hat9 hk9 hO1' hap9 hR9 HO8 HO2' HAp8 HB8 HR
        go_wp2_with fail
        go_roundg (gk - 1)
        case measure => have := Hi.out; omega
        case rel => exact ⟨i + 1, _, by have := Hi.out; omega, by go_num, by rw [Hl1.out]; exact HO1'.out, by rw [Hl1.out]; exact HO9.out, HR9.out, HAp9.out, HB9.out⟩
    · have hin' : i = n := by have := Hi.out; omega
      clear hin
      subst hin'
      obtain ⟨h, hh⟩ : ∃ h, h = (hx ls i).length := ⟨_, rfl⟩
      rw [← hh] at HO1 HO2
      obtain ⟨pv1, cv1, hv1, hvc1, hvm1⟩ := (OwnR.of_owns HO1.out).shape
      obtain ⟨pv2, cv2, hv2, hvc2, hvm2⟩ := (OwnR.of_owns HO2.out).shape
      have hl1' : ((hvS ps ls i).map Value.string).length = h := by rw [List.length_map, hvS_len, hh]
      have hl2' : vs.length = h := by simpa using HO2.out.1
      rw [hl1'] at hv1 hvc1
      rw [hl2'] at hv2 hvc2
      subst hv1 hv2
      have hle := hx_le ls i
      rw [← hh] at hle
      have HST : Hid (Strs wr (.slice pv1 h cv1) (hvS ps ls i)) := Lib.hid (OwnR.row (OwnR.of_owns HO1.out))
      have HMB : Hid (RowsM wr (.slice pv2 h cv2) (byM k ls i)) := Lib.hid ⟨vs, OwnR.row (OwnR.of_owns HO2.out), by rw [byM_len, hl2', hh], fun j l hl => by
        have hj := (List.getElem?_eq_some_iff.1 hl).1
        rw [byM_len, ← hh] at hj
        obtain ⟨u, hu⟩ : ∃ u, vs[j]? = some u := ⟨vs[j]'(by omega), List.getElem?_eq_getElem _⟩
        exact ⟨u, hu, RowB.below (HR.out j u l hu hl) HB.out⟩⟩
      unfold maxLen at hvm1 hvm2
      have Hh := Lib.hid hh
      clear hh hl1' hl2' HO1 HO2 HR HAp HM hw hnI t1 t2
      by_cases hhk : h < k
      · have hF8 : F = 8 := by rw [HF.out, ← Hh.out, if_pos hhk]
        have t3 : (h : Int) < (k : Int) := by omega
        clear HF hhk
        subst hF8
        go_wp2_with fail
        go_ret2
        exact ⟨_, rfl, OwnR.nil _ _ _, HBw.out⟩
      · have t3 : ¬ (h : Int) < (k : Int) := by omega
        have HBl := Lib.hid (blocks_any _ _ wr HST.out)
        have hF2 : F = if blkF (hvS ps ls i) ≠ 0 then blkF (hvS ps ls i) else if Mx.rk k k (dN k ls i) < k then 8 else 0 := by rw [HF.out, ← Hh.out, if_neg hhk]
        by_cases hb0 : blkF (hvS ps ls i) = 0
        · have hF3 : F = if Mx.rk k k (dN k ls i) < k then 8 else 0 := by rw [hF2, if_neg (by simp [hb0])]
          rw [hb0, errV_0] at HBl
          have hz0 := blkF_zero hb0
          have HZ := Lib.hid hz0
          have HF3 := Lib.hid hF3
          have hhd := HMB.out.head (k := k) (by rw [byM_len, ← Hh.out]; omega)
          rw [byM_take ls (by rw [← Hh.out]; omega)] at hhd
          have HTu := Lib.hid (turned_any (dN k ls i) k h1 (by omega) (.slice pv2 k cv2) wr hhd)
          have HSk := Lib.hid (HST.out.head (k := k) (by rw [hvS_len, ← Hh.out]; omega))
          have hkc : k ≤ cv2 := by omega
          have hkc1 : k ≤ cv1 := by omega
          clear HF hF2 hF3 hhd hb0 hz0 HMB
          go_wp2_with fail
          refine HBl.out.mono ?_
          rintro e w' ⟨rfl, rfl⟩
          clear HBl
          go_wp2_with fail
          refine HTu.out.mono ?_
          rintro e w2 ⟨hb2, hor⟩
          have HB2 := Lib.hid (HBw.out.trans (hb2.mono (Nat.le_trans hz1 hz)))
          rcases hor with ⟨hr, g2, c2, bs, rfl, hMF⟩ | ⟨hr, rfl⟩
          · have hF0 : F = 0 := by rw [HF3.out, if_neg (by omega)]
            have HM2 := Lib.hid hMF.rowsM
            have HS2 := Lib.hid (HSk.out.below hb2)
            have hz2 := HB2.out.size
            clear hb2 hMF hr HF3 HSk HST HTu
            subst hF0
            go_wp2_with fail
            go_loopg [18, 20, 90] k (fun gk v18 v20 v90 wq => DcIn k i ps ls w2 gk v18 v90 wq)
            case atStart => exact ⟨0, by omega, rfl, World.ownsRow_nil _ _ _ _, Below.refl _ _⟩
            case round =>
              obtain ⟨q, hq, rfl, hO, hB⟩ := hrel
              have Hq := Lib.hid hq
              have HO := Lib.hid hO
              have HBq := Lib.hid hB
              have hzq := hB.size
              clear hq hO hB
              by_cases hqk : q < k
              · obtain ⟨g', o', c', p3, c3, hv3, hg3, hcl3, hrb3⟩ := HM2.out.at (lt_get k (Mx.iv' k (dN k ls i)) hqk)
                injection hv3 with e1 e2 e3
                injection e1 with e1
                injection e1 with e1 e4
                subst e1 e4
                rw [Gv.tab_len] at hcl3 hrb3
                have d3 := (HBq.out.cell (p := ⟨g2, 0 + q, none⟩) hg3).trans hcl3
                rw [Nat.zero_add] at d3
                have htl : ((hvS ps ls i).take k).length = k := by rw [List.length_take, hvS_len, ← Hh.out]; omega
                have hsz : ∀ s ∈ (hvS ps ls i).take k, s.size = size0 ((hvS ps ls i).take k) := fun s hs => by
                  have h5 := HZ.out.1 s (List.mem_of_mem_take hs)
                  have h6 : size0 ((hvS ps ls i).take k) = size0 (hvS ps ls i) := by
                    cases hh : hvS ps ls i with
                    | nil => rw [List.take_nil]
                    | cons a t =>
                      obtain ⟨k', rfl⟩ : ∃ k', k = k' + 1 := ⟨k - 1, by omega⟩
                      rfl
                  rw [h5, h6]
                have hsz2 : size0 ((hvS ps ls i).take k) ≤ 16 := by
                  have h5 := HZ.out.2
                  cases hh : (hvS ps ls i).take k with
                  | nil => simp [size0]
                  | cons a t =>
                    show a.size ≤ 16
                    rw [HZ.out.1 a (List.mem_of_mem_take (by rw [hh]; exact List.mem_cons_self ..))]
                    exact h5
                have HSu := Lib.hid (csum_any _ (Gv.tab k (Mx.iv' k (dN k ls i) q)) hsz (by omega) (by rw [Gv.tab_len, htl]; exact Nat.le_refl _) (.slice pv1 k cv1) (.slice p3 k c3) wr (HS2.out.below HBq.out) (RowB.below hrb3 HBq.out))
                unfold CSumPost at HSu
                have hse : Gv.sumS ((hvS ps ls i).take k) (Gv.at' (Gv.tab k (Mx.iv' k (dN k ls i) q))) = Gv.sumS ((hvS ps ls i).take k) (Mx.iv' k (dN k ls i) q) := sumS_ext (fun j hj => by
                  rw [htl] at hj
                  show List.getD _ _ _ = _
                  rw [Gv.tab_at _ hj])
                rw [hse] at HSu
                obtain ⟨pb, hpb⟩ : ∃ b, b = Gv.sumS ((hvS ps ls i).take k) (Mx.iv' k (dN k ls i) q) := ⟨_, rfl⟩
                rw [← hpb] at HSu
                have Hpb := Lib.hid hpb
                have hq9 : q + 1 ≤ 1000000 := by omega
                clear e2 e3 hrb3 hse hpb hcl3 htl hsz hsz2
                go_wp2_with fail
                refine HSu.out.mono ?_
                rintro e w5 ⟨rfl, hb5⟩
                have HO5 := Lib.hid (owns_below HO.out hb5)
                have HB5 := Lib.hid (HBq.out.trans (hb5.mono hzq))
                have hz5 := HB5.out.size
                clear hb5 HSu HO HBq d3
                go_wp2_with (at_builtin; refine app1 w2 w5 _ 9 32 rfl _ _ rfl w2.heap.size Try.underlying32 info_strS rfl _ q _ rfl _ rfl rfl HO5.out rfl hq9 (by decide) hz5 HB5.out ?_)
                intro v8 w8 hown8 hb8 _ _
                rw [Hpb.out, dcv_succ] at hown8
                have HO8 := Lib.hid hown8
                have HB8 := Lib.hid hb8
                clear hown8 hb8 HO5 HB5
                go_wp2_with fail
                go_roundg (gk - 1)
                case measure => have := Hq.out; omega
                case rel => exact ⟨q + 1, by have := Hq.out; omega, by go_num, HO8.out, HB8.out⟩
              · have hqk' : q = k := by have := Hq.out; omega
                subst hqk'
                have HO' : Hid (OwnR wr w.heap.size 9 u18 ((decR q i ps ls).map Value.string)) := Lib.hid (by
                  have h := OwnR.mono (OwnR.of_owns HO.out) hz2
                  rw [dcv_dec] at h; exact h)
                have HBz := Lib.hid (HB2.out.trans (HBq.out.mono hz2))
                clear HO hqk
                go_wp2_with fail
                go_ret2
                exact ⟨_, rfl, HO'.out, HBz.out⟩
          · have hF8 : F = 8 := by rw [HF3.out, if_pos hr]
            clear hb2 hr HF3
            subst hF8
            go_wp2_with fail
            go_ret2
            exact ⟨_, rfl, OwnR.nil _ _ _, HB2.out⟩
        · have hF3 : F = blkF (hvS ps ls i) := by rw [hF2, if_pos hb0]
          rw [← hF3] at HBl hb0
          rw [errV_ne hb0] at HBl
          have Hb0 := Lib.hid hb0
          clear HF hF2 hF3 hb0 HMB
          go_wp2_with fail
          refine HBl.out.mono ?_
          rintro e w' ⟨rfl, rfl⟩
          clear HBl
          go_wp2_with fail
          go_ret2
          refine ⟨.slice none 0 0, by rw [errV_ne Hb0.out]; rfl, ?_, HBw.out⟩
          first | (rw [if_neg Hb0.out]; exact OwnR.nil _ _ _) | exact OwnR.nil _ _ _
end Go.Proofs.Ytcldioneiededaa
