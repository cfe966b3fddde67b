/- The walk of the law GrowKeeps: it returns true. -/
import Derived.Test.YtoddoekmgkcomaaDoorGroD
import Derived.Test.YtoddoekmgkcomaaDoorSame
import Derived.Test.YtoddoekmgkcomaaDoorOpenX
import Derived.Deep.RegionHeld3
import Derived.StillTailTactics
import Derived.Deep.CutBlock
namespace Go.Proofs.YtoddoekmgkcomaaDoor
open Go.ChangeShapes Go.WideShapes Go.ChangeAt Go.RowKit
set_option linter.unusedVariables false
def abc : List ByteArray := [⟨#[97]⟩, ⟨#[98]⟩, ⟨#[99]⟩]
theorem abc_row (w : World) : Row (w.alloc (.cells #[.string ⟨#[97]⟩, .string ⟨#[98]⟩, .string ⟨#[99]⟩] 9)) (.slice (some ⟨w.heap.size, 0, none⟩) 3 3) (abc.map Value.string) := by
  refine ⟨some ⟨w.heap.size, 0, none⟩, 3, rfl, Nat.le_refl _, by unfold maxLen; omega, (fun h => by cases h), fun _ => ⟨w.heap.size, 0, rfl, fun j hj => ?_⟩⟩
  rw [cell_of_row _ _ _ _ _ _ (heap_alloc_new w _), Nat.zero_add]
  have hj3 : j < 3 := hj
  rcases (by omega : j = 0 ∨ j = 1 ∨ j = 2) with rfl | rfl | rfl <;> rfl
theorem abc_ok : cellsF abc = 0 := by decide +kernel
theorem abc_D : Gr.build (Gr.spot 1 2) abc 3 1 = [⟨#[98]⟩] := by decide +kernel
theorem abc_rd : rdV abc 2 = ⟨#[99]⟩ ∧ rdF abc 2 = 0 := by decide +kernel
theorem spot2_eq (n done i : Nat) : Gr.spot n done i = Gr.spot n done i := rfl
def GKRel (F : Nat → Prop) (gb N m : Nat) (p8 : Option Addr) (c8 : Nat) (w6 w8 : World) (gk : Nat) (v17 : Value) (wr : World) : Prop :=
  ∃ (k : Nat) (nw : List ByteArray), k + gk = m ∧ v17 = iv k ∧ nw.length = m ∧ OwnR wr 0 9 (.slice p8 m c8) (nw.map Value.string) ∧ GroOk F wr gb N k nw ∧ Below w6.heap.size w6 wr ∧ w8.heap.size ≤ wr.heap.size
def GKIn (m : Nat) (wB : World) (gk : Nat) (v20 : Value) (wr : World) : Prop := ∃ j : Nat, j + gk = m ∧ v20 = iv j ∧ Below wB.heap.size wB wr
def GKSum (N m : Nat) (wC : World) (gk : Nat) (v26 v27 : Value) (wr : World) : Prop := ∃ i nd : Nat, i + gk = N + 1 ∧ v27 = iv i ∧ v26 = iv (Gr.tot (Gr.spot N m) m i) ∧ wr = wC.drewN nd
set_option maxRecDepth 100000 in
set_option maxHeartbeats 8000000 in
theorem growKeeps_walk (vc : Value) (n : Int) (vw : Value) (hn : (Lit.int .i64 n).wf = true) (w : World) (hg : Handle w) (fc : ∃ ss, Strs w vc ss ∧ ∀ s ∈ ss, s.size ≤ maxLen) (fw : ∃ ls : List WrT, RowWr w vw ls ∧ ∀ l ∈ ls, l.b.size ≤ maxLen) :
    Calls Tryd.prog 5 #[vc, iv n, vw] w fun e w' => e = .returned (.bool true) ∧ Below w.heap.size w w' := by
  obtain ⟨cells, hc, hcs⟩ := fc
  obtain ⟨ws, hw, hws⟩ := fw
  have HC := Lib.hid hc
  have HW := Lib.hid hw
  have HWs := Lib.hid hws
  have Hg0 := Lib.hid hg
  have hnb := bounds_i64 hn
  obtain ⟨pc, cc, rfl, hcl, _⟩ := Strs.get hc
  obtain ⟨pw, cw, rfl, hwl, _⟩ := hw
  obtain ⟨m, hm⟩ : ∃ m, m = cells.length := ⟨_, rfl⟩
  obtain ⟨lw, hlw⟩ : ∃ m, m = ws.length := ⟨_, rfl⟩
  rw [← hm] at HC hcl ⊢
  rw [← hlw] at HW hwl ⊢
  have Hm := Lib.hid hm
  have Hlw := Lib.hid hlw
  clear hc hcs hws hn hg hm hlw
  obtain ⟨w1, hw1⟩ : ∃ w1, w1 = w.alloc (.cells #[.string ⟨#[97]⟩, .string ⟨#[98]⟩, .string ⟨#[99]⟩] 9) := ⟨_, rfl⟩
  have hb1 : Below w.heap.size w w1 := by rw [hw1]; exact (Below.refl _ _).alloc (Nat.le_refl _) _
  have hN := gnew_any abc 1 (by omega) (by omega) abc_ok _ w1 (by rw [hw1]; exact abc_row w)
  have HN := Lib.hid hN
  have HB1 := Lib.hid hb1
  have hz1 := hb1.size
  clear hN hb1
  go_enter Tryd.func5, Tryd.ntmps5
  go_wp2_with fail
  rw [← hw1]
  clear hw1
  refine HN.out.mono ?_
  rintro e w2 ⟨b, rfl, hG2, hb2⟩
  have HG2 := Lib.hid hG2
  have HB2 := Lib.hid hb2
  have hz2 := hb2.size
  have HS := Lib.hid (gstep_any hG2 (fun q hq => Nat.le_trans hz2 hq) (by decide) (by decide) (by omega) (by omega))
  clear hG2 hb2 HN
  go_wp2_with fail
  refine HS.out.mono ?_
  rintro e w3 ⟨rfl, hG3, hK3⟩
  have HB3 := Lib.hid (HB2.out.trans (hK3.toBelow hz2 (fun k _ hk => hk)))
  have hz3 := HB3.out.size
  have HS := Lib.hid (gstep_any hG3 (fun q hq => Nat.le_trans hz3 hq) (by decide) (by decide) (by omega) (by omega))
  clear hG3 hK3 HG2 HB2
  go_wp2_with fail
  refine HS.out.mono ?_
  rintro e w4 ⟨rfl, hG4, hK4⟩
  have HB4 := Lib.hid (HB3.out.trans (hK4.toBelow hz3 (fun k _ hk => hk)))
  have hz4 := HB4.out.size
  have HG4 := Lib.hid hG4
  have HR := Lib.hid (gread_any hG4 (by omega) (by omega) (by decide) (by omega) 2)
  rw [abc_rd.1, abc_rd.2, errV_0] at HR
  clear hG4 hK4 HB3 HS
  go_wp2_with fail
  refine HR.out.mono ?_
  rintro e w5 ⟨rfl, hb5⟩
  have HB5 := Lib.hid (HB4.out.trans (hb5.mono hz4))
  have hz5 := HB5.out.size
  obtain ⟨g, c, vs, hA, hI⟩ := HG4.out.below hb5
  have HD := Lib.hid (gdisks_any hA (by omega) (fun i _ => by have := build_bound 1 2 abc 3 i; exact Nat.le_trans this (by decide)))
  clear hA hI hb5 HR HG4 HB4
  go_wp2_with fail
  refine HD.out.mono ?_
  rintro e w6 ⟨v6, rfl, hM, hb6⟩
  have HB6 := Lib.hid (HB5.out.trans (hb6.mono hz5))
  have hz6 := HB6.out.size
  obtain ⟨p6, c6, rfl, _, _, hrow⟩ := hM.get
  obtain ⟨gd, od, x1, rfl, q1, _, hs1⟩ := hrow 1 (by omega)
  have hs1' : Strs w6 x1 [⟨#[98]⟩] := by
    have : Gr.build (Gr.spot 1 2) abc 3 1 = [⟨#[98]⟩] := abc_D
    rw [← this]; exact hs1
  obtain ⟨px, cx, rfl, _, hcx⟩ := Strs.get hs1'
  obtain ⟨gs, os, rfl, q2, _⟩ := hcx 0 ⟨#[98]⟩ rfl
  rw [Nat.add_zero] at q2
  have q1' : w6.cell? ⟨gd, od + 1, none⟩ = some (.slice (some ⟨gs, os, none⟩) 1 cx) := q1
  have tn1 : (((1 + 1 : Nat) : Int) != 2) = false := rfl
  clear hM hb6 hrow hs1 hs1' hcx q1 HD HB5
  go_upto_region 10 with (fail)
  have HBw := Lib.hid (HB1.out.trans (HB6.out.mono hz1))
  have hzw := HBw.out.size
  have HC6 := Lib.hid (HC.out.below HBw.out)
  have HW6 := Lib.hid (RowWr.below HW.out HBw.out)
  have Hg6 := Lib.hid (Hg0.out.below (Nat.le_refl _) HBw.out)
  clear q1' q2 tn1 HB6 HB1
  by_cases hF : gnF cells n = 0
  case neg =>
    have HN := Lib.hid (gnew_no cells n hF _ w6 HC6.out)
    rw [errV_ne hF] at HN
    generalize gnF cells n = z at *
    clear hF
    go_wp2_with fail
    refine HN.out.mono ?_
    rintro e w' ⟨rfl, rfl⟩
    go_wp2_with fail
    go_ret
    exact ⟨rfl, HBw.out⟩
  case pos =>
    have hcf : cellsF cells = 0 := by
      unfold gnF at hF
      by_cases h : cellsF cells = 0
      · exact h
      · rw [if_pos h] at hF; exact absurd hF h
    have hnr : 1 ≤ n ∧ n < 10 := by
      unfold gnF at hF
      rw [if_neg (by simpa using hcf)] at hF
      by_cases h : n < 1 ∨ 10 ≤ n
      · rw [if_pos h] at hF; cases hF
      · omega
    obtain ⟨N, rfl⟩ : ∃ N : Nat, n = N := ⟨n.toNat, by omega⟩
    have hN1 : 1 ≤ N := by omega
    have hN2 : N < 10 := by omega
    have hm9 := (cellsF_0 hcf).1
    rw [← Hm.out] at hm9
    have HN := Lib.hid (gnew_any cells N hN1 hN2 hcf _ w6 HC6.out)
    clear hF hcf hnr hnb
    go_wp2_with fail
    refine HN.out.mono ?_
    rintro e w7 ⟨gb, rfl, hG7, hb7⟩
    have HG7 := Lib.hid hG7
    have HB7 := Lib.hid hb7
    have hz7 := hb7.size
    have HC7 := Lib.hid (HC6.out.below hb7)
    clear hG7 hb7 HN
    go_wp2_with (at_builtin; refine copyS _ rfl _ _ rfl rfl cells _ HC7.out rfl (by rw [← Hm.out]; omega) ?_)
    intro v8 w8 hO8 hb8
    obtain ⟨p8, n8, c8, rfl⟩ := (OwnR.of_owns hO8).slice
    have hO8' := OwnR.mono (OwnR.of_owns hO8) (Nat.zero_le _)
    have hsh := hO8'.shape
    have hn8 : m = n8 := by
      obtain ⟨q, c', h1, _⟩ := hsh
      injection h1 with _ h2 _
      rw [h2, List.length_map, Hm.out]
    subst hn8
    obtain ⟨F, hF⟩ : ∃ F : Nat → Prop, F = fun k => w6.heap.size ≤ k ∧ (Value.slice p8 m c8).ownBlock ≠ some k := ⟨_, rfl⟩
    have HF6 : Hid (∀ k, F k → w6.heap.size ≤ k ∧ (Value.slice p8 m c8).ownBlock ≠ some k) := Lib.hid (fun k hk => by rw [hF] at hk; exact hk)
    have HF8 : Hid (∀ k, w8.heap.size ≤ k → F k) := Lib.hid (fun k hk => by
      rw [hF]
      refine ⟨Nat.le_trans hz7 (Nat.le_trans hb8.size hk), fun e => ?_⟩
      have := (hO8.lt k e).2; omega)
    have HG8 : Hid (GroOk F w8 gb N 0 cells) := Lib.hid ((HG7.out.wide (fun k hk hk2 => by
      rw [hF]
      refine ⟨hk2, fun e => ?_⟩
      have := (hO8.lt k e).1; omega)).below hb8)
    have HO8 := Lib.hid hO8'
    have HOl := Lib.hid (fun k (hk : (Value.slice p8 m c8).ownBlock = some k) => Nat.le_trans hz7 (hO8.lt k hk).1)
    have HB8 := Lib.hid (HB7.out.trans (hb8.mono hz7))
    have hz8 := HB8.out.size
    clear hO8 hb8 hO8' hsh hF HC7 HG7 HB7
    go_wp2_with fail
    go_loopg [17, 18, 19, 20, 21, 22] m (fun gk v17 v18 v19 v20 v21 v22 wr => GKRel F gb N m p8 c8 w6 w8 gk v17 wr)
    case atStart => exact ⟨0, cells, by omega, rfl, Hm.out.symm, HO8.out, HG8.out, HB8.out, Nat.le_refl _⟩
    case round =>
      clear HO8 HG8 HB8
      obtain ⟨gO, hgO⟩ : ∃ x : Nat, x = gk := ⟨_, rfl⟩
      obtain ⟨wO, hwO⟩ : ∃ x : World, x = wr := ⟨_, rfl⟩
      subst hgO hwO
      obtain ⟨k, nw, hk, rfl, hnl, hO, hG, hB, hzz⟩ := hrel
      have Hk := Lib.hid hk
      have Hnl := Lib.hid hnl
      have HO := Lib.hid hO
      have HG := Lib.hid hG
      have HB := Lib.hid hB
      have hzO := hB.size
      clear hk hnl hO hG hB
      by_cases hkm : k < m
      · have tk : decide ((k : Int) < (m : Int)) = true := dec_t (by omega)
        obtain ⟨x, hx⟩ : ∃ x, x = ws.getD k default := ⟨_, rfl⟩
        obtain ⟨nw', hnw⟩ : ∃ z, z = if k < lw then wrS nw x.pos x.b else nw := ⟨_, rfl⟩
        obtain ⟨bz, hbz⟩ : ∃ z : Bool, z = if k < lw then decide (wrF nw x.pos x.b = 0) else false := ⟨_, rfl⟩
        have Hx := Lib.hid hx
        have Hnw := Lib.hid hnw
        have Hbz := Lib.hid hbz
        have HW9 := Lib.hid (RowWr.below HW6.out HB.out)
        clear hx hnw hbz
        go_upto_region 18 with (fail)
        go_cut [121] (fun z wq => z = .bool bz ∧ ∃ wk, wk = wq ∧ GroOk F wk gb N k nw' ∧ Kept F wO wk)
        case first => as_aux_lemma =>
          by_cases hkl : k < lw
          · have h1 : nw' = wrS nw x.pos x.b := by rw [Hnw.out, if_pos hkl]
            have h2 : bz = decide (wrF nw x.pos x.b = 0) := by rw [Hbz.out, if_pos hkl]
            have hxk : ws[k]? = some x := by
              rw [Hx.out, List.getD_eq_getElem?_getD, List.getElem?_eq_getElem (by rw [← Hlw.out]; exact hkl)]; rfl
            obtain ⟨_, _, hp, _, hcc⟩ := HW9.out
            injection hp with e1 e2 e3
            subst e1 e3
            obtain ⟨gw, ow, rfl, hgw, c0, c1⟩ := hcc k x hxk
            have hxs := HWs.out x (List.mem_of_getElem? hxk)
            have HWr := Lib.hid (gwrite_any HG.out (fun q hq => HF8.out q (Nat.le_trans hzz hq)) (by omega) (by omega) (by rw [Hnl.out]; omega) (by omega) x.pos x.b hxs)
            have hklI : (k : Int) < (lw : Int) := by omega
            have H1 := Lib.hid h1
            have H2 := Lib.hid h2
            obtain ⟨xp, hxp⟩ : ∃ y, y = x.pos := ⟨_, rfl⟩
            obtain ⟨xb, hxb⟩ : ∃ y, y = x.b := ⟨_, rfl⟩
            rw [← hxp, ← hxb] at HWr H1 H2
            rw [← hxp] at c0
            rw [← hxb] at c1
            have hk0 : (0 : Int) ≤ (k : Int) := by omega
            have hxs' : xb.size ≤ maxLen := by rw [hxb]; exact hxs
            have Hxs := Lib.hid hxs'
            clear h1 h2 hxk e2 hcc hxs hxp hxb hxs'
            go_still_tail 16, (by kernel_rfl)
            change wpList _ _ _ _ _ wO.drew
            obtain ⟨wE, hwE⟩ : ∃ wE, wE = wO.drew := ⟨_, rfl⟩
            rw [← hwE]
            have hbE : Below wO.heap.size wO wE := by rw [hwE]; exact (Below.refl _ _).drew
            have HGE := Lib.hid (HG.out.below hbE)
            have hzE := hbE.size
            have HWrE : Hid (Calls Tryd.prog 31 #[.pointer (some ⟨gb, 0, none⟩), iv xp, .string xb] wE (GWrPost F gb N k nw xp xb wE)) := Lib.hid (gwrite_any HGE.out (fun q hq => HF8.out q (Nat.le_trans hzz (Nat.le_trans hzE hq))) (by omega) (by omega) (by rw [Hnl.out]; omega) (by omega) xp xb Hxs.out)
            have HKE := Lib.hid (Kept.new F hbE)
            clear hwE hbE HWr c0 c1
            go_wp2_with fail
            refine HWrE.out.mono ?_
            rintro e w2 ⟨rfl, hG2, hK2⟩
            have HG2 : Hid (GroOk F w2 gb N k nw') := Lib.hid (by rw [H1.out]; exact hG2)
            have HK2 := Lib.hid (HKE.out.also hK2)
            clear hG2 hK2 HWrE
            obtain ⟨z, hz⟩ : ∃ z, z = wrF nw xp xb := ⟨_, rfl⟩
            rw [← hz] at H2 ⊢
            clear hz
            by_cases h0 : z = 0
            · obtain rfl : bz = true := by rw [H2.out]; exact dec_t h0
              rw [h0, errV_0]
              go_wp2_with fail
              go_meet
              exact ⟨rfl, _, rfl, HG2.out, HK2.out⟩
            · obtain rfl : bz = false := by rw [H2.out]; exact dec_f h0
              rw [errV_ne h0]
              go_wp2_with fail
              go_meet
              exact ⟨rfl, _, rfl, HG2.out, HK2.out⟩
          · obtain rfl : bz = false := by rw [Hbz.out, if_neg hkl]
            have HG2 : Hid (GroOk F wO gb N k nw') := Lib.hid (by rw [Hnw.out, if_neg hkl]; exact HG.out)
            have tkl : decide ((k : Int) < (lw : Int)) = false := dec_f (by omega)
            go_quiet (fail)
            go_wp2_with fail
            go_meet
            exact ⟨rfl, _, rfl, HG2.out.below (bdrew (Below.refl _ _) nq), Kept.new F (bdrew (Below.refl _ _) nq)⟩
        case rest =>
          obtain ⟨rfl, w9, rfl, hG9, hK9⟩ := hcut
          have HG9 := Lib.hid hG9
          have HB9 := Lib.hid (HB.out.trans (hK9.toBelow hzO (fun q _ hq => (HF6.out q hq).1)))
          have HO9 := Lib.hid (OwnR.kept HO.out hK9 (fun q hq e => (HF6.out q e).2 hq))
          have hz9 := HB9.out.size
          have hzz9 := Nat.le_trans hzz hK9.size
          clear hG9 hK9 HG HO HB
          go_upto_if 121 with (fail)
          go_cut [] (fun wq => ∃ wk, wk = wq ∧ OwnR wk 0 9 (.slice p8 m c8) (nw'.map Value.string) ∧ GroOk F wk gb N k nw' ∧ Below w6.heap.size w6 wk ∧ w8.heap.size ≤ wk.heap.size)
          case first => as_aux_lemma =>
            cases bz with
            | false =>
              have h1 : nw' = nw := by
                rw [Hnw.out]
                by_cases hkl : k < lw
                · rw [if_pos hkl]
                  have h2 := Hbz.out
                  rw [if_pos hkl] at h2
                  have h3 := of_decide_eq_false h2.symm
                  unfold wrS
                  by_cases hc : x.pos < 0 ∨ (nw.length : Int) ≤ x.pos ∨ 16 < x.b.size
                  · rw [if_pos hc]
                  · unfold wrF at h3; rw [if_neg hc] at h3; exact absurd rfl h3
                · rw [if_neg hkl]
              have H1 := Lib.hid h1
              clear h1
              go_wp2_with fail
              go_meet
              exact ⟨_, rfl, by rw [H1.out]; exact HO9.out, HG9.out, HB9.out, hzz9⟩
            | true =>
              have hkl : k < lw := by
                by_cases hkl : k < lw
                · exact hkl
                · have h2 := Hbz.out; rw [if_neg hkl] at h2; cases h2
              have h3 : wrF nw x.pos x.b = 0 := by
                have h2 := Hbz.out
                rw [if_pos hkl] at h2
                exact of_decide_eq_true h2.symm
              have hcn : ¬ (x.pos < 0 ∨ (nw.length : Int) ≤ x.pos ∨ 16 < x.b.size) := by
                intro hc
                unfold wrF at h3
                rw [if_pos hc] at h3; cases h3
              rw [Hnl.out] at hcn
              obtain ⟨xp, hxp⟩ : ∃ y : Nat, x.pos = y := ⟨x.pos.toNat, by omega⟩
              obtain ⟨xb, hxb⟩ : ∃ y, y = x.b := ⟨_, rfl⟩
              have hxm : xp < m := by omega
              have h1 : nw' = nw.set xp xb := by
                rw [Hnw.out, if_pos hkl]
                unfold wrS
                rw [if_neg (by rw [Hnl.out]; exact hcn), hxp, ← hxb]; rfl
              have hxk : ws[k]? = some x := by
                rw [Hx.out, List.getD_eq_getElem?_getD, List.getElem?_eq_getElem (by rw [← Hlw.out]; exact hkl)]; rfl
              obtain ⟨_, _, hp, _, hcc⟩ := RowWr.below HW6.out HB9.out
              injection hp with e1 e2 e3
              subst e1 e3
              obtain ⟨gw, ow, rfl, hgw, c0, c1⟩ := hcc k x hxk
              rw [hxp] at c0
              rw [← hxb] at c1
              have hklI : (k : Int) < (lw : Int) := by omega
              have hk0 : (0 : Int) ≤ (k : Int) := by omega
              have hxmI : (xp : Int) < (m : Int) := by omega
              have hx0 : (0 : Int) ≤ (xp : Int) := by omega
              have H1 := Lib.hid h1
              obtain ⟨g9, o9, cap9, hv9, _, hg9, _, _, hc9, hf9⟩ := HO9.out.at0 (by rw [List.length_map, Hnl.out]; omega)
              injection hv9 with e4 e5 e6
              subst e4 e6
              have hst := hc9 xp (by rw [List.length_map, Hnl.out]; exact hxm)
              obtain ⟨y0, hy0⟩ : ∃ y, w9.cell? ⟨g9, o9 + xp, none⟩ = some y := ⟨_, hst.trans (List.getElem?_eq_getElem (by rw [List.length_map, Hnl.out]; exact hxm))⟩
              have hfx := hf9 (o9 + xp)
              have HO9' := Lib.hid HO9.out
              clear hxk e2 hcc hxp hxb h1 hcn h3 e5 hc9 hf9 hst HO9
              go_wp2_with fail
              go_still_tail 12, (by kernel_rfl)
              change wpList _ _ _ _ _ w9.drew
              obtain ⟨wE, hwE⟩ : ∃ wE, wE = w9.drew := ⟨_, rfl⟩
              rw [← hwE]
              have hbE : Below w9.heap.size w9 wE := by rw [hwE]; exact (Below.refl _ _).drew
              have e1 := (hbE.cell (p := ⟨g9, o9 + xp, none⟩) hg9).trans hy0
              have e2 := (hbE.frozen (p := ⟨g9, o9 + xp, none⟩) hg9).trans hfx
              have HOE := Lib.hid (OwnR.setStr (HO9'.out.below hbE) (k := xp) (by rw [Hnl.out]; exact hxm) xb)
              have hkE : Kept (· = g9) wE (wE.setCell ⟨g9, o9 + xp, none⟩ (.string xb)) := (Kept.self g9 wE).set1 _ _
              have HGE := Lib.hid ((HG9.out.below hbE).kept hkE (fun q hq e => (HF6.out q hq).2 (by rw [e]; rfl)))
              have HBE := Lib.hid ((HB9.out.trans (hbE.mono hz9)).setCell (p := ⟨g9, o9 + xp, none⟩) (HOl.out g9 rfl) (.string xb))
              have hzE : w8.heap.size ≤ (wE.setCell ⟨g9, o9 + xp, none⟩ (.string xb)).heap.size := Nat.le_trans hzz9 (by simpa [World.setCell] using hbE.size)
              clear hwE hbE hkE hy0 hfx c0 c1 HG9 HB9 HO9'
              go_wp2_with fail
              go_meet
              exact ⟨_, rfl, by rw [H1.out]; exact HOE.out, HGE.out, HBE.out, hzE⟩
          case rest =>
            obtain ⟨wA, rfl, hOA, hGA, hBA, hzA⟩ := hcut
            have HOA := Lib.hid hOA
            have HBA := Lib.hid hBA
            have hzAw := hBA.size
            have hnl' : nw'.length = m := by
              rw [Hnw.out]; split
              · rw [wrS_len, Hnl.out]
              · exact Hnl.out
            have Hnl' := Lib.hid hnl'
            have HS := Lib.hid (gstep_any hGA (fun q hq => HF8.out q (Nat.le_trans hzA hq)) (by rw [hnl']; exact hkm) (by rw [hnl']; omega) (by omega) (by omega))
            clear hOA hGA hBA hnl' HO9 HG9 HB9 Hnw Hbz
            go_wp2_with fail
            refine HS.out.mono ?_
            rintro e wB ⟨rfl, hGB, hKB⟩
            have HGB := Lib.hid hGB
            have HOB := Lib.hid (OwnR.kept HOA.out hKB (fun q hq e => (HF6.out q e).2 hq))
            have HBB := Lib.hid (HBA.out.trans (hKB.toBelow hzAw (fun q _ hq => (HF6.out q hq).1)))
            have hzB := HBB.out.size
            have hzzB := Nat.le_trans hzA hKB.size
            have HDn := Lib.hid (gdone_any hGB)
            obtain ⟨bm, hbm⟩ : ∃ z : Bool, z = decide (k + 1 < nw'.length) := ⟨_, rfl⟩
            rw [← hbm]
            rw [Hnl'.out] at hbm
            have Hbm := Lib.hid hbm
            clear hGB hKB HS HOA HBA hbm
            go_upto_region 23 with (fail)
            go_cut [172] (fun z wq => z = .bool false ∧ wB = wq)
            case first => as_aux_lemma =>
              by_cases hl : k + 1 < m
              · obtain rfl : bm = true := by rw [Hbm.out]; exact dec_t hl
                have tl : decide ((k : Int) < (m : Int) - 1) = true := dec_t (by omega)
                go_wp2_with fail
                refine HDn.out.mono ?_
                rintro e w' ⟨rfl, rfl⟩
                go_wp2_with fail
                go_meet
                exact ⟨rfl, rfl⟩
              · obtain rfl : bm = false := by rw [Hbm.out]; exact dec_f hl
                have tl : decide ((k : Int) < (m : Int) - 1) = false := dec_f (by omega)
                go_wp2_with fail
                refine HDn.out.mono ?_
                rintro e w' ⟨rfl, rfl⟩
                go_wp2_with fail
                go_meet
                exact ⟨rfl, rfl⟩
            case rest =>
              obtain ⟨rfl, rfl⟩ := hcut
              go_wp2_with fail
              go_loopg [20, 21, 22] m (fun gk v20 v21 v22 wr => GKIn m wB gk v20 wr)
              case atStart => exact ⟨0, by omega, rfl, Below.refl _ _⟩
              case round =>
                obtain ⟨j, hj, rfl, hBj⟩ := hrel
                have Hj := Lib.hid hj
                have HBj := Lib.hid hBj
                have hzj := hBj.size
                clear hj hBj
                by_cases hjm : j < m
                · obtain ⟨s, hs⟩ : ∃ s, nw'[j]? = some s := ⟨nw'[j]'(by rw [Hnl'.out]; exact hjm), List.getElem?_eq_getElem _⟩
                  have hrv : rdV nw' (j : Int) = s := by
                    unfold rdV; rw [if_neg (by rw [Hnl'.out]; omega), show ((j : Int)).toNat = j by omega, List.getD_eq_getElem?_getD, hs]; rfl
                  have hrf : rdF nw' (j : Int) = 0 := by unfold rdF; rw [if_neg (by rw [Hnl'.out]; omega)]
                  have HR := Lib.hid (gread_any (HGB.out.below HBj.out) (by omega) (by omega) (by rw [Hnl'.out]; omega) (by omega) (j : Int))
                  rw [hrv, hrf, errV_0] at HR
                  have HOj := OwnR.below HOB.out HBj.out
                  have hstr : Strs wr (.slice p8 m c8) nw' := OwnR.row HOj
                  obtain ⟨p9, c9, hv9, _, hc9⟩ := Strs.get hstr
                  injection hv9 with e4 e5 e6
                  subst e4 e6
                  obtain ⟨g9, o9, hp9, hcc9, hg9⟩ := hc9 j s hs
                  have Hp9 := Lib.hid hp9
                  have hd9 := Lib.hid hcc9
                  clear hs hrv hrf HOj hstr e5 hc9 hcc9 hp9
                  go_wp2_with fail
                  refine HR.out.mono ?_
                  rintro e wC ⟨rfl, hbC⟩
                  have HBC := Lib.hid (HBj.out.trans (hbC.mono hzj))
                  have d9 := (hbC.cell (p := ⟨g9, o9 + j, none⟩) hg9).trans hd9.out
                  rw [Hp9.out]
                  clear hbC HR
                  go_wp2_with fail
                  rw [← Hp9.out]
                  go_roundg (gk - 1)
                  case measure => have := Hj.out; omega
                  case rel => exact ⟨j + 1, by have := Hj.out; omega, by go_num, HBC.out⟩
                · have hjm' : j = m := by have := Hj.out; omega
                  have HO' := Lib.hid (OwnR.below HOB.out HBj.out)
                  have HG' := Lib.hid (HGB.out.below HBj.out)
                  have HB' := Lib.hid (HBB.out.trans (HBj.out.mono hzB))
                  have hz' := Nat.le_trans hzzB hzj
                  clear HOB HGB HBB HBj hjm'
                  go_wp2_with fail
                  go_roundg (gO - 1)
                  case measure => have := Hk.out; omega
                  case rel => exact ⟨k + 1, nw', by have := Hk.out; omega, by go_num, Hnl'.out, HO'.out, HG'.out, HB'.out, hz'⟩
      · have hkm' : k = m := by have := Hk.out; omega
        have HS := Lib.hid (gstep_no HG.out (by rw [Hnl.out]; exact hkm') (by rw [Hnl.out]; omega))
        have tk : ¬ (k : Int) < (m : Int) := by omega
        go_wp2_with fail
        refine HS.out.mono ?_
        rintro e wA ⟨rfl, hbA⟩
        have HBA := Lib.hid (HB.out.trans (hbA.mono hzO))
        have hzA := HBA.out.size
        obtain ⟨g, c, vs, hA, hI⟩ := HG.out.below hbA
        rw [Hnl.out, hkm'] at hA
        have HD := Lib.hid (gdisks_any hA (by omega) (fun i _ => by have := build_bound N m nw m i; omega))
        clear hA hI hbA HS HO HG HB
        go_wp2_with fail
        refine HD.out.mono ?_
        rintro e wB ⟨vB, rfl, hM, hbB⟩
        have HBB := Lib.hid (HBA.out.trans (hbB.mono hzA))
        have hzB := HBB.out.size
        obtain ⟨pB, cB, rfl, _, _, _⟩ := hM.get
        have HM := Lib.hid hM
        have HT := Lib.hid (same_any 6 6 wB (Hg6.out.below (Nat.le_refl _) HBB.out))
        rw [errV_ne (by decide)] at HT
        clear hM hbB HD HBA
        go_wp2_with fail
        refine HT.out.mono ?_
        rintro e wC ⟨rfl, hbC⟩
        have HBC := Lib.hid (HBB.out.trans (hbC.mono hzB))
        have HMC := Lib.hid (HM.out.below hbC)
        have tn : (((N + 1 : Nat) : Int) != (N : Int) + 1) = false := bne_f (by omega)
        clear hbC HT HBB HM
        have htot : Gr.tot (Gr.spot N m) m (N + 1) = m := by rw [Gr.tot_done, Gr.tot_all (N + 1) (by omega)]
        have HTot := Lib.hid htot
        have hnear : ∀ i, i < N + 1 → (Gr.build (Gr.spot N m) nw m i).length ≤ (Gr.build (Gr.spot N m) nw m 0).length ∧ (Gr.build (Gr.spot N m) nw m 0).length ≤ (Gr.build (Gr.spot N m) nw m i).length + 1 := fun i hi => by
          rw [Gr.build_len, Gr.build_len, Gr.last_done, Gr.last_done]
          exact Gr.last_near (N + 1) (by omega) i m hi
        have HNear := Lib.hid hnear
        have htb : ∀ i, i ≤ N + 1 → Gr.tot (Gr.spot N m) m i ≤ i * m := fun i => by
          induction i with
          | zero => intro _; exact Nat.zero_le _
          | succ i ih =>
            intro hi
            have h1 := ih (by omega)
            have h2 := last_bound (Gr.spot N m) (Gr.spot_row N m) i m
            rw [Gr.tot, Nat.add_mul]; omega
        have HTb := Lib.hid htb
        clear htot hnear htb hkm' Hnl Hk
        go_wp2_with fail
        go_loopg [26, 27] (N + 1) (fun gk v26 v27 wr => GKSum N m wC gk v26 v27 wr)
        case atStart => exact ⟨0, 0, by omega, rfl, rfl, rfl⟩
        case round =>
          obtain ⟨i, nd, hi, rfl, rfl, hwr⟩ := hrel
          have Hi := Lib.hid hi
          have Hwr := Lib.hid hwr
          obtain ⟨T, hT⟩ : ∃ T, T = Gr.tot (Gr.spot N m) m i := ⟨_, rfl⟩
          rw [← hT]
          have HT := Lib.hid hT
          clear hi
          by_cases hin : i < N + 1
          · obtain ⟨pB2, cB2, hvB, _, _, hrow⟩ := HMC.out.get
            injection hvB with e4 e5 e6
            subst e4 e6
            obtain ⟨gB, oB, xi, hp9, qi, _, hsi⟩ := hrow i hin
            obtain ⟨gB', oB', x0, hp9', q0, _, hs0⟩ := hrow 0 (by omega)
            rw [hp9] at hp9'
            injection hp9' with e7
            injection e7 with e8 e9
            subst e8 e9
            have Hp9 := Lib.hid hp9
            obtain ⟨pi, ci, rfl, _, _⟩ := Strs.get hsi
            obtain ⟨p0, c0, rfl, _, _⟩ := Strs.get hs0
            obtain ⟨Li, hLi⟩ : ∃ L, L = (Gr.build (Gr.spot N m) nw m i).length := ⟨_, rfl⟩
            obtain ⟨L0, hL0⟩ : ∃ L, L = (Gr.build (Gr.spot N m) nw m 0).length := ⟨_, rfl⟩
            have hne := HNear.out i hin
            rw [← hLi, ← hL0] at hne
            rw [← hLi] at qi
            rw [← hL0] at q0
            rw [Nat.add_zero] at q0
            have d0 : wr.cell? ⟨gB, oB + i, none⟩ = some (.slice pi Li ci) := by rw [hwr]; simpa using qi
            have d1 : wr.cell? ⟨gB, oB, none⟩ = some (.slice p0 L0 c0) := by rw [hwr]; simpa using q0
            have hL9 : Li ≤ 100 := by rw [hLi]; have := build_bound N m nw m i; omega
            have hT9 : T ≤ 11 * 40 := by
              have h1 := HTb.out i (by omega)
              rw [← hT] at h1
              exact Nat.le_trans h1 (Nat.mul_le_mul (by omega) (by omega))
            have hnx : T + Li = Gr.tot (Gr.spot N m) m (i + 1) := by rw [Gr.tot, hT, hLi, Gr.build_len]
            have Hnx := Lib.hid hnx
            have t1 : decide ((L0 : Int) < (Li : Int)) = false := dec_f (by omega)
            have t2 : decide ((Li : Int) + 1 < (L0 : Int)) = false := dec_f (by omega)
            have t3 : (i : Int) < (N : Int) + 1 := by omega
            have t4 : (0 : Int) < (N : Int) + 1 := by omega
            have t5 : (0 : Int) ≤ (i : Int) := by omega
            have w1' : IntKind.i64.wrap ((Li : Int) + 1) = (Li : Int) + 1 := IntWalk.i64_in _ (by omega)
            rw [hp9]
            clear hT hrow hp9 hLi hL0 qi q0 hsi hs0 hnx hwr e5
            go_wp2_with fail
            go_quiet (fail)
            go_wp2_with fail
            rw [← Hp9.out]
            go_roundg (gk - 1)
            case measure => have := Hi.out; omega
            case rel => exact ⟨i + 1, nd + nq, by have := Hi.out; omega, by go_num, by rw [← Hnx.out]; rfl, by rw [Hwr.out, World.drewN_drewN]⟩
          · have hin' : i = N + 1 := by have := Hi.out; omega
            have hTm : T = m := by rw [hT, hin', HTot.out]
            subst hTm
            have HB9 := Lib.hid (HBw.out.trans ((bdrew HBC.out nd).mono hzw))
            clear hT
            go_wp2_with fail
            go_ret
            exact ⟨rfl, HB9.out⟩
end Go.Proofs.YtoddoekmgkcomaaDoor
