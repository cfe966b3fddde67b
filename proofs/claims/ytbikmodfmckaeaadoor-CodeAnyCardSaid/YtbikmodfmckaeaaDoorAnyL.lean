/- The walk of the law CodeAny: it returns true. -/
import Derived.Test.YtbikmodfmckaeaaDoorAnyS
import Derived.Test.YtbikmodfmckaeaaDoorOwnS
import Derived.Test.YtbikmodfmckaeaaDoorSame
import Derived.Test.YtbikmodfmckaeaaDoorTexts
import Derived.Laws.AppendOwnNone
import Derived.Deep.DeepCutAuto
import Derived.Deep.CutBlock
import Derived.BigRegion
import Derived.RegionTactic
namespace Go.Proofs.YtbikmodfmckaeaaDoor
open Go.ChangeShapes Go.WideShapes Go.ChangeAt Go.RowKit
set_option linter.unusedVariables false
def five : ByteArray := ⟨#[5]⟩
theorem five_enc : encF 1 1 [five] = 0 ∧ encV 1 1 [five] = [five] := by
  constructor
  · decide +kernel
  · decide +kernel
theorem one_strsA (w : World) (b : ByteArray) : Strs (w.alloc (.cells #[.string b] 9)) (.slice (some ⟨w.heap.size, 0, none⟩) 1 1) [b] := by
  refine ⟨some ⟨w.heap.size, 0, none⟩, 1, rfl, Nat.le_refl _, by decide, (fun h => by cases h), fun _ => ⟨w.heap.size, 0, rfl, fun j hj => ?_⟩⟩
  rw [cell_of_row _ _ _ _ _ _ (heap_alloc_new w _), Nat.zero_add]
  have : j = 0 := by simp at hj; omega
  subst this; rfl
theorem encF_0 {k m : Int} {ls : List ByteArray} (h : encF k m ls = 0) : codF k m = 0 ∧ (ls.length : Int) = k ∧ blkF ls = 0 := by
  unfold encF at h
  by_cases h1 : codF k m = 0
  · rw [if_neg (by simp [h1])] at h
    by_cases h2 : (ls.length : Int) = k
    · rw [if_neg (by simp [h2])] at h; exact ⟨h1, h2, h⟩
    · rw [if_pos h2] at h; cases h
  · rw [if_pos h1] at h; exact absurd h h1
theorem strs_add {W : World} {g o n c : Nat} {l : List ByteArray} (h : Strs W (.slice (some ⟨g, o, none⟩) n c) l) : ∀ j u, (l.map Value.string)[j]? = some u → W.cell? ((⟨g, o, none⟩ : Addr).add j) = some u := by
  intro j u hj
  rw [List.getElem?_map] at hj
  cases hl : l[j]? with
  | none => rw [hl] at hj; cases hj
  | some s =>
    rw [hl] at hj
    obtain ⟨p, cq, hv, _, hc⟩ := h.get
    injection hv with e1 _ _
    obtain ⟨g', o', hp, hcell, _⟩ := hc j s hl
    rw [hp] at e1
    injection e1 with e1
    injection e1 with e1 e2
    subst e1 e2
    rw [Addr.add_lit, hcell]; exact hj
theorem strs_one (l : List ByteArray) : ∀ u ∈ l.map Value.string, u.oneCell' = true := fun u hu => by obtain ⟨x, _, rfl⟩ := List.mem_map.1 hu; rfl
theorem strs_addr {W : World} {p : Option Addr} {n c : Nat} {l : List ByteArray} (h : Strs W (.slice p n c) l) (h0 : 0 < l.length) : ∃ g o, p = some ⟨g, o, none⟩ := by
  obtain ⟨s, hs⟩ : ∃ s, l[0]? = some s := ⟨l[0]'h0, List.getElem?_eq_getElem _⟩
  obtain ⟨pq, cq, hvq, _, hcq⟩ := h.get
  injection hvq with e1 _ _
  obtain ⟨g, o, hp, _⟩ := hcq 0 s hs
  exact ⟨g, o, e1.trans hp⟩
def AyRel (N : Nat) (P : List ByteArray) (ls : List Bool) (junk : ByteArray) (gp op c : Nat) (w : World) (gk : Nat) (v25 v26 : Value) (wr : World) : Prop :=
  ∃ i : Nat, i + gk = N ∧ v25 = iv (hx ls i).length ∧ v26 = iv i ∧ OwnR wr w.heap.size 9 (.slice (some ⟨gp, op, none⟩) N c) ((junkP P ls junk i).map Value.string) ∧ Below w.heap.size w wr
set_option maxRecDepth 100000 in
set_option maxHeartbeats 4000000 in
theorem codeAny_walk (k m : Int) (vd vl : Value) (junk : ByteArray) (a t : Int) (hk : (Lit.int .i64 k).wf = true) (hm : (Lit.int .i64 m).wf = true) (hj : junk.size ≤ maxLen) (ha : (Lit.int .i64 a).wf = true) (ht : (Lit.int .u8 t).wf = true) (w : World) (hg : Handle w)
    (fd : ∃ ss, Strs w vd ss ∧ ∀ s ∈ ss, s.size ≤ maxLen) (fl : ∃ ls : List Bool, Row w vl (ls.map Value.bool)) :
    Calls Tryd.prog 7 #[iv k, iv m, vd, vl, .string junk, iv a, .int .u8 t] w fun e w' => e = .returned (.bool true) ∧ Below w.heap.size w w' := by
  obtain ⟨data, hd, _⟩ := fd
  obtain ⟨ls, hl⟩ := fl
  have hkb := bounds_i64 hk
  have hmb := bounds_i64 hm
  have hab := bounds_i64 ha
  obtain ⟨tb, rfl⟩ := byte_of ht
  have HD := Lib.hid hd
  have HL := Lib.hid hl
  have Hg := Lib.hid hg
  obtain ⟨i0, hi0, hi1, hi2, hi3⟩ := info_parts info_strS
  have HInf := Lib.hid hi0
  obtain ⟨pd, cd, rfl, hd1, hd2, _⟩ := hd.shape
  obtain ⟨pl, cl, rfl, hl1, hl2, _⟩ := hl.shape
  rw [List.length_map] at hd1
  unfold maxLen at hd2 hl2 hj
  obtain ⟨nd, hnd⟩ : ∃ n, n = data.length := ⟨_, rfl⟩
  obtain ⟨nl, hnl⟩ : ∃ n, n = ls.length := ⟨_, rfl⟩
  rw [List.length_map] at *
  rw [← hnd] at HD hd1 ⊢
  rw [show (ls.map Value.bool).length = nl by rw [List.length_map, hnl]]
  have hHL : Row w (.slice pl nl cl) (ls.map Value.bool) := by rw [hnl]; exact HL.out
  have HL := Lib.hid hHL
  have Hnd := Lib.hid hnd
  have Hnl := Lib.hid hnl
  have HB0 : Hid (Below w.heap.size w (w.alloc (.cells #[.string five] 9))) := Lib.hid ((Below.refl _ _).alloc (Nat.le_refl _) _)
  have HE0 := Lib.hid (encode_tot 1 1 [five] _ _ (one_strsA w five))
  unfold CencPost at HE0
  rw [five_enc.1, five_enc.2, errV_0] at HE0
  clear hd hl hk hm ha ht hg hi0 hnd hnl hHL
  unfold five at HB0 HE0
  go_enter Tryd.func7, Tryd.ntmps7
  go_wp2_with fail
  refine HE0.out.mono ?_
  rintro e w1 ⟨v1, rfl, hO1, hb1⟩
  have HB1 := Lib.hid (HB0.out.trans (hb1.mono (by simp)))
  have hz1 := HB1.out.size
  obtain ⟨g1, o1, c1, hv1, _, _, _, _, hc1, _⟩ := OwnR.at0 hO1 (by simp)
  have d1 : w1.cell? ⟨g1, o1, none⟩ = some (.string ⟨#[5]⟩) := by have h := hc1 0 (by simp); rw [Nat.add_zero] at h; exact h
  have hv1' : v1 = .slice (some ⟨g1, o1, none⟩) 1 c1 := hv1
  subst hv1'
  have HE1 := Lib.hid (encode_tot k m data _ w1 (HD.out.below HB1.out))
  unfold CencPost at HE1
  obtain ⟨F, hF⟩ : ∃ F, F = encF k m data := ⟨_, rfl⟩
  rw [← hF] at HE1
  clear hb1 hO1 hv1 hc1 HE0 HB0
  by_cases hF0 : F = 0
  · obtain ⟨q1, q2, q3⟩ := encF_0 (hF.symm.trans hF0)
    have hkm := codF_0 q1
    obtain ⟨kn, rfl⟩ : ∃ n : Nat, k = n := ⟨k.toNat, by omega⟩
    obtain ⟨mn, rfl⟩ : ∃ n : Nat, m = n := ⟨m.toNat, by omega⟩
    have hk1 : 1 ≤ kn := by omega
    have hk2 : kn + mn ≤ 12 := by omega
    have hdl : data.length = kn := by omega
    obtain ⟨hall, hn16⟩ := blkF_zero q3
    have hV : encV (kn : Int) (mn : Int) data = encR kn mn data := by unfold encV; rw [← hF, if_pos hF0]; rfl
    rw [hV] at HE1
    rw [hF0, errV_0] at HE1
    obtain rfl : nd = kn := by rw [Hnd.out, hdl]
    have Hdl := Lib.hid hdl
    have Hall := Lib.hid hall
    have t1 : ((nd : Int) != (nd : Int)) = false := bne_f rfl
    have t2 : ((nd : Int) == (nd : Int)) = true := beq_t rfl
    have t3 : ((mn : Int) != (mn : Int)) = false := bne_f rfl
    have t4 : ((mn : Int) == (mn : Int)) = true := beq_t rfl
    obtain ⟨gd, od, rfl⟩ : ∃ g o, pd = some ⟨g, o, none⟩ := by
      obtain ⟨s, hs⟩ : ∃ s, data[0]? = some s := ⟨data[0]'(by omega), List.getElem?_eq_getElem _⟩
      obtain ⟨pq, cq, hvq, _, hcq⟩ := HD.out.get
      injection hvq with e1 _ _
      obtain ⟨g, o, hp, _⟩ := hcq 0 s hs
      exact ⟨g, o, e1.trans hp⟩
    clear hF hF0 q1 q2 q3 hV hdl hall
    clear F
    go_wp2_with fail
    refine HE1.out.mono ?_
    rintro e w2 ⟨v2, rfl, hO2, hb2⟩
    have HB2 := Lib.hid (HB1.out.trans (hb2.mono hz1))
    have hz2 := HB2.out.size
    have HO2 := Lib.hid (OwnR.mono hO2 hz1)
    obtain ⟨p2, c2, hv2, _, hc2⟩ := OwnR.shape hO2
    rw [List.length_map, encR_len] at hv2
    subst hv2
    have hrowd := HD.out.below HB2.out
    have Hrowd := Lib.hid hrowd
    have hi0 := HInf.out
    clear hb2 hO2 hrowd HE1 HB1 d1
    go_wp2_with (at_builtin; refine wpList_append_own _ rfl _ _ 65 rfl w.heap.size 9 i0 (.string ⟨#[]⟩) 1 16 Tryd.underlying65 hi0 hi1 hi2 hi3 rfl (by decide) _ 0 _ rfl (World.ownsRow_nil _ _ _ _) ⟨gd, od, none⟩ nd cd (data.map Value.string) rfl ?x1 ?x2 ?x3 ?x4 ?x5 ?x6 ?_)
    case x1 => rw [List.length_map, Hdl.out, Nat.mul_one]
    case x2 => exact strs_add Hrowd.out
    case x3 => exact strs_one data
    case x4 => unfold maxLen; omega
    case x5 => omega
    case x6 => exact hz2
    intro v3 w3 hown3 hgr3 _
    have hk3 := Kept.grown hgr3
    have HB3 := Lib.hid (HB2.out.trans (hk3.toBelow hz2 (fun z _ e => by cases e)))
    have HO3 := Lib.hid hown3
    have HP3 := Lib.hid (OwnR.kept HO2.out hk3 (fun g _ e => by cases e))
    have hz3 := HB3.out.size
    clear hown3 hgr3 hk3 Hrowd HB2 HO2
    go_upto_region 11 with (fail)
    go_cut [19] (fun z wq => ∃ wk p c, wk = wq ∧ z = .slice p (nd + mn) c ∧ wk.ownsRow w.heap.size 9 1 z (nd + mn) ((allP nd mn data).map Value.string) ∧ Below w.heap.size w wk)
    case first => as_aux_lemma =>
      have hsum : (data.map Value.string) ++ ((encR nd mn data).map Value.string) = (allP nd mn data).map Value.string := by unfold allP; rw [List.map_append]
      have Hsum := Lib.hid hsum
      clear hsum
      cases p2 with
      | none =>
        have hm0 : mn = 0 ∧ c2 = 0 := by
          rcases HP3.out with ⟨h, _⟩ | ⟨_, _, _, _, h, _⟩
          · injection h with _ h1 h2; exact ⟨h1, h2⟩
          · injection h with h1; cases h1
        obtain ⟨rfl, rfl⟩ := hm0
        go_wp2_with (at_builtin; refine wpList_append_own_none rfl _ _ 65 rfl w.heap.size 9 i0 1 Tryd.underlying65 hi0 _ nd _ rfl HO3.out rfl ?_)
        obtain ⟨p9, n9, c9, hs9⟩ := (OwnR.of_owns HO3.out).slice
        obtain ⟨p8, c8, hs8, _⟩ := (OwnR.of_owns HO3.out).shape
        rw [List.length_map, Hdl.out] at hs8
        have hO9 : w3.ownsRow w.heap.size 9 1 v3 nd ((allP nd 0 data).map Value.string) := by
          rw [← Hsum.out]
          show w3.ownsRow w.heap.size 9 1 v3 nd (data.map Value.string ++ [])
          rw [List.append_nil]; exact HO3.out
        have HO9 := Lib.hid hO9
        have Hs8 := Lib.hid hs8
        clear hs9 hs8 hO9
        go_wp2_with fail
        go_meet
        exact ⟨_, _, _, rfl, Hs8.out, HO9.out, HB3.out⟩
      | some ad =>
        have hsrc : ∀ j u, ((encR nd mn data).map Value.string)[j]? = some u → w3.cell? (ad.add j) = some u := by
          rcases HP3.out with ⟨h, _⟩ | ⟨g, o, cap, cur, h, _⟩
          · injection h with h1; cases h1
          · injection h with h1 _ _
            injection h1 with h1
            subst h1
            have hst : Strs w3 (.slice (some ⟨g, o, none⟩) mn c2) (encR nd mn data) := OwnR.row HP3.out
            exact strs_add hst
        have Hsrc := Lib.hid hsrc
        clear hsrc
        go_wp2_with (at_builtin; refine wpList_append_own _ rfl _ _ 65 rfl w.heap.size 9 i0 (.string ⟨#[]⟩) 1 16 Tryd.underlying65 hi0 hi1 hi2 hi3 rfl (by decide) _ nd _ rfl HO3.out ad mn c2 ((encR nd mn data).map Value.string) rfl ?y1 ?y2 ?y3 ?y4 ?y5 ?y6 ?_)
        case y1 => rw [List.length_map, encR_len, Nat.mul_one]
        case y2 => exact Hsrc.out
        case y3 => exact strs_one _
        case y4 => unfold maxLen; omega
        case y5 => omega
        case y6 => exact hz3
        intro v4 w4 hown4 hgr4 _
        rw [Hsum.out] at hown4
        have HB4 := Lib.hid (HB3.out.trans ((Kept.grown hgr4).toBelow hz3 (fun z _ e => (OwnR.lt (OwnR.of_owns HO3.out) e.symm).1)))
        have HO4 := Lib.hid hown4
        obtain ⟨p8, c8, hs8, _⟩ := (OwnR.of_owns HO4.out).shape
        rw [List.length_map, allP_len Hdl.out] at hs8
        have Hs8 := Lib.hid hs8
        clear hown4 hgr4 hs8
        go_wp2_with fail
        go_meet
        exact ⟨_, _, _, rfl, Hs8.out, HO4.out, HB4.out⟩
    case rest =>
      obtain ⟨w4, p4, c4, hw4, rfl, hO4, hB4⟩ := hcut
      subst hw4
      have HO4 := Lib.hid hO4
      have HB4 := Lib.hid hB4
      have hz4 := hB4.size
      have HPS : Hid (Strs w4 (.slice p4 (nd + mn) c4) (allP nd mn data)) := Lib.hid (OwnR.row (OwnR.of_owns hO4))
      have hR := right_tot nd mn hkb hmb (allP nd mn data) _ w4 HPS.out
      unfold RightPost at hR
      obtain ⟨hr1, hr2⟩ := any_right (m := mn) hk1 hk2 Hdl.out Hall.out hn16
      rw [hr1, hr2, errV_0] at hR
      have HR := Lib.hid hR
      clear hO4 hB4 hR hr1 hr2 HB3 HO3 HP3 hz3
      go_wp2_with fail
      refine HR.out.mono ?_
      rintro e w5 ⟨rfl, hb5⟩
      have HB5 := Lib.hid (HB4.out.trans (hb5.mono hz4))
      have HO5 := Lib.hid (owns_below HO4.out hb5)
      have hz5 := HB5.out.size
      clear hb5 HR HB4 HO4 HPS
      obtain ⟨n0, hn0⟩ : ∃ n, n = size0 data := ⟨_, rfl⟩
      have Hn0 := Lib.hid hn0
      obtain ⟨s0, hs0⟩ : ∃ s, data[0]? = some s := ⟨data[0]'(by rw [Hdl.out]; omega), List.getElem?_eq_getElem _⟩
      have hs0n : s0.size = n0 := by rw [hn0]; exact Hall.out s0 (List.mem_of_getElem? hs0)
      have d0 : w5.cell? ⟨gd, od, none⟩ = some (.string s0) := by
        obtain ⟨pq, cq, hvq, _, hcq⟩ := HD.out.get
        injection hvq with e1 _ _
        obtain ⟨g, o, hp, hcell, hgl⟩ := hcq 0 s0 hs0
        rw [hp] at e1
        injection e1 with e1
        injection e1 with e1 e2
        subst e1 e2
        rw [Nat.add_zero] at hcell
        exact (HB5.out.cell (p := ⟨gd, od, none⟩) hgl).trans hcell
      obtain ⟨b100, hb100⟩ : ∃ b, b = (decide (0 < mn) && decide (0 ≤ a) && decide (0 < n0)) := ⟨_, rfl⟩
      have Hb100 := Lib.hid hb100
      have Hs0n := Lib.hid hs0n
      clear hb100 hn0 hs0 hs0n
      go_upto_region 15 with (fail)
      go_cut [100] (fun z wq => z = .bool b100 ∧ w5 = wq)
      case first => as_aux_lemma =>
        obtain ⟨z0, hz0⟩ : ∃ z, z = s0.size := ⟨_, rfl⟩
        have hzn : z0 = n0 := by rw [hz0]; exact Hs0n.out
        have Hz0 := Lib.hid hz0
        by_cases h1 : 0 < mn
        · by_cases h2 : 0 ≤ a
          · by_cases h3 : 0 < n0
            · have hb : b100 = true := by rw [Hb100.out, dec_t h1, dec_t h2, dec_t h3]; rfl
              have t5 : (0 : Int) < (s0.size : Int) := by rw [← hz0]; omega
              have t6 : decide (0 < s0.size) = true := dec_t (by rw [← hz0]; omega)
              clear hz0 hzn
              subst hb
              go_wp2_with fail
              go_meet
              exact ⟨rfl, rfl⟩
            · have hb : b100 = false := by rw [Hb100.out, dec_t h1, dec_t h2, dec_f h3]; rfl
              have t5 : ¬ (0 : Int) < (s0.size : Int) := by rw [← hz0]; omega
              have t6 : decide (0 < s0.size) = false := dec_f (by rw [← hz0]; omega)
              clear hz0 hzn
              subst hb
              go_wp2_with fail
              go_meet
              exact ⟨rfl, rfl⟩
          · have hb : b100 = false := by rw [Hb100.out, dec_t h1, dec_f h2]; rfl
            clear hz0 hzn
            subst hb
            go_wp2_with fail
            go_meet
            exact ⟨rfl, rfl⟩
        · have hb : b100 = false := by rw [Hb100.out, dec_f h1]; rfl
          have t5 : ¬ (0 : Int) < (mn : Int) := by omega
          clear hz0 hzn
          subst hb
          go_wp2_with fail
          go_meet
          exact ⟨rfl, rfl⟩
      case rest =>
        obtain ⟨rfl, rfl⟩ := hcut
        go_upto_if 100 with (fail)
        go_cut [] (fun wq => ∃ wk, wk = wq ∧ Below w5.heap.size w5 wk)
        case first => as_aux_lemma =>
          cases b100 with
          | false =>
            clear Hb100
            go_wp2_with fail
            go_meet
            exact ⟨_, rfl, Below.refl _ _⟩
          | true =>
            have h3 : 0 < mn ∧ 0 ≤ a ∧ 0 < n0 := by have h := Hb100.out.symm; simp only [Bool.and_eq_true, decide_eq_true_eq] at h; exact ⟨h.1.1, h.1.2, h.2⟩
            obtain ⟨hm0, ha0, hn0⟩ := h3
            clear Hb100
            obtain ⟨ap, rfl⟩ : ∃ n : Nat, a = n := ⟨a.toNat, by omega⟩
            obtain ⟨i, hi⟩ : ∃ i, i = ap % (nd + mn) := ⟨_, rfl⟩
            obtain ⟨j, hj'⟩ : ∃ j, j = ap % s0.size := ⟨_, rfl⟩
            have hs0n := Hs0n.out
            have hn16' : n0 ≤ 16 := by rw [Hn0.out]; exact hn16
            have hil : i < nd + mn := by rw [hi]; exact Nat.mod_lt _ (by omega)
            have hjl : j < n0 := by rw [hj', hs0n]; exact Nat.mod_lt _ hn0
            have hjl2 : j < s0.size := by omega
            have hw1 : IntKind.i64.wrap ((nd : Int) + (mn : Int)) = (nd : Int) + (mn : Int) := IntWalk.i64_in _ (by omega)
            have hw2 : (ap : Int).tmod ((nd : Int) + (mn : Int)) = (i : Int) := by rw [Int.tmod_eq_emod_of_nonneg (by omega), hi]; norm_cast
            have hw3 : IntKind.i64.wrap (i : Int) = i := IntWalk.i64_in _ (by omega)
            have hw4 : (((nd : Int) + (mn : Int)) == 0) = false := beq_f (by omega)
            have hw5 : ¬ (nd : Int) + (mn : Int) = 0 := by omega
            have hw6 : (ap : Int).tmod (s0.size : Int) = (j : Int) := by rw [Int.tmod_eq_emod_of_nonneg (by omega), hj']; norm_cast
            have hw7 : IntKind.i64.wrap (j : Int) = j := IntWalk.i64_in _ (by omega)
            have hw8 : ((s0.size : Int) == 0) = false := beq_f (by omega)
            have hw9 : ¬ (s0.size : Int) = 0 := by omega
            have hw10 : (i : Int) < (nd : Int) + (mn : Int) := by omega
            obtain ⟨gp, op, rfl⟩ := strs_addr (l := allP nd mn data) (W := w5) (OwnR.row (OwnR.of_owns HO5.out)) (by rw [allP_len Hdl.out]; omega)
            obtain ⟨X, hX⟩ : ∃ X, X = cPart nd data i := ⟨_, rfl⟩
            have hXs : X.size = n0 := by rw [hX, cPart_size, Hn0.out]
            have hP : (allP nd mn data)[i]? = some X := by rw [hX]; exact allP_get Hdl.out Hall.out hil
            have hgp := (OwnR.lt (OwnR.of_owns HO5.out) (g := gp) rfl).2
            have dP : w5.cell? ⟨gp, op + i, none⟩ = some (.string X) := by
              have h := strs_add (OwnR.row (OwnR.of_owns HO5.out)) i (.string X) (by rw [List.getElem?_map, hP]; rfl)
              rw [Addr.add_lit] at h; exact h
            have hidx := idx_strA (b := X) (i := j) (by omega)
            have hle : decide (X.size ≤ j) = false := dec_f (by omega)
            have hle2 : ¬ X.size ≤ j := by omega
            have hle3 : ¬ (X.size : Int) ≤ (j : Int) := by omega
            obtain ⟨xb, hxb⟩ : ∃ xb, xb = Gv.at' X.data.toList j := ⟨_, rfl⟩
            rw [← hxb] at hidx
            have HX := Lib.hid hX
            have HXb := Lib.hid hxb
            have HP := Lib.hid hP
            clear hi hj' hs0n hX hxb hP
            by_cases hne : xb = tb
            · have t5 : ((xb.toNat : Int) != (tb.toNat : Int)) = false := bne_f (by rw [hne])
              have t6 : (xb.toNat != tb.toNat) = false := by rw [hne]; simp
              clear hne
              go_wp2_with fail
              go_meet
              exact ⟨_, rfl, Below.refl _ _⟩
            · have hne1 : ¬ xb.toNat = tb.toNat := fun e => hne (UInt8.toNat_inj.1 e)
              have t5 : ((xb.toNat : Int) != (tb.toNat : Int)) = true := bne_t (by omega)
              have t6 : (xb.toNat != tb.toNat) = true := by simpa using hne1
              have Hne := Lib.hid hne
              clear hne hne1
              have HsrcP := Lib.hid (strs_add (OwnR.row (OwnR.of_owns HO5.out)))
              go_wp2_with (at_builtin; refine wpList_append_own _ rfl _ _ 65 rfl w5.heap.size 9 i0 (.string ⟨#[]⟩) 1 16 Tryd.underlying65 HInf.out hi1 hi2 hi3 rfl (by decide) _ 0 _ rfl (World.ownsRow_nil _ _ _ _) ⟨gp, op, none⟩ (nd + mn) c4 ((allP nd mn data).map Value.string) rfl ?z1 ?z2 ?z3 ?z4 ?z5 ?z6 ?_)
              case z1 => exact allP_len Hdl.out
              case z2 => exact fun j b hb => by have h := HsrcP.out j (.string b) (by rw [List.getElem?_map, hb]; rfl); rw [Addr.add_lit] at h; exact h
              case z3 => exact fun _ _ => rfl
              case z4 => unfold maxLen; omega
              case z5 => omega
              intro v6 w6 hown6 hgr6 _
              have HB6 := Lib.hid ((Kept.grown hgr6).toBelow (Nat.le_refl _) (fun z _ e => by cases e))
              have HO6 := Lib.hid (OwnR.of_owns hown6)
              have dP6 : w6.cell? ⟨gp, op + i, none⟩ = some (.string X) := (HB6.out.cell (p := ⟨gp, op + i, none⟩) hgp).trans dP
              obtain ⟨p8, c8, hs8, hc8, hc8'⟩ := OwnR.shape HO6.out
              obtain ⟨g8, o8, rfl⟩ : ∃ g o, p8 = some ⟨g, o, none⟩ := by
                rw [hs8] at hown6
                exact strs_addr (l := allP nd mn data) (W := w6) (OwnR.row (OwnR.of_owns hown6)) (by rw [allP_len Hdl.out]; omega)
              rw [List.length_map, allP_len Hdl.out] at hs8
              subst hs8
              have hz6 := HB6.out.size
              have hg8 := OwnR.lt HO6.out (g := g8) rfl
              have d8 : w6.cell? ⟨g8, o8 + i, none⟩ = some (.string X) := by
                have h := strs_add (OwnR.row HO6.out) i (.string X) (by rw [List.getElem?_map, HP.out]; rfl)
                rw [Addr.add_lit] at h; exact h
              have f8 := OwnR.fz HO6.out (g := g8) rfl (o8 + i)
              have HW6 := Lib.hid hown6
              clear hown6 hgr6 HsrcP hc8
              go_upto_region 23 with (fail)
              go_cut [] (fun wq => ∃ wk, wk = wq ∧ OwnR wk w5.heap.size 9 (.slice (some ⟨g8, o8, none⟩) (nd + mn) c8) (((allP nd mn data).set i (tornA X j tb)).map Value.string) ∧ Below w5.heap.size w5 wk)
              case first =>
                have hcv := convD w6 tb
                have hjn1 : j ≤ n0 := by omega
                have hjn2 : j + 1 ≤ n0 := by omega
                have hi1 : (j : Int) ≤ (X.size : Int) := by omega
                have hi2 : (j : Int) + 1 ≤ (X.size : Int) := by omega
                have hw11 : IntKind.i64.wrap ((j : Int) + 1) = (j : Int) + 1 := IntWalk.i64_in _ (by omega)
                have n1 : gp ≠ w6.heap.size := by omega
                have n2 : g8 ≠ w6.heap.size := by omega
                have hb7 : Below w6.heap.size w6 (w6.alloc (.cells #[.int .u8 tb.toNat] 5)).drew := ((Below.refl _ _).alloc (Nat.le_refl _) _).drew
                have HO7 := Lib.hid (OwnR.of_owns (owns_below HW6.out hb7))
                have dP7 := (hb7.cell (p := ⟨gp, op + i, none⟩) (Nat.lt_of_lt_of_le hgp hz6)).trans dP6
                have d87 : ((w6.alloc (.cells #[.int .u8 tb.toNat] 5)).drew).cell? ⟨g8, o8 + i, none⟩ = some (.string X) := by
                  have h := strs_add (OwnR.row HO7.out) i (.string X) (by rw [List.getElem?_map, HP.out]; rfl)
                  rw [Addr.add_lit] at h; exact h
                have f87 := OwnR.fz HO7.out (g := g8) rfl (o8 + i)
                have HB7 := Lib.hid (HB6.out.trans (hb7.mono hz6))
                clear hb7
                have htn : tornA X j tb = X.extract 0 j ++ ⟨#[tb]⟩ ++ X.extract (j + 1) n0 := by unfold tornA; rw [hXs]
                have HTn := Lib.hid htn
                clear htn
                go_region
                go_wp2_with fail
                go_meet
                rw [← HTn.out]
                refine ⟨_, rfl, ?_, ((HB6.out.setCell hg8.1 _).alloc (by simp; omega) _).drew⟩
                exact OwnR.kept (HO6.out.setStr (by rw [allP_len Hdl.out]; exact hil) (tornA X j tb)) (((Kept.refl (fun _ => False) _).alloc _).drew) (fun g _ e => e)
              case rest =>
                obtain ⟨w7, hw7, hO7, hB7⟩ := hcut
                subst hw7
                have hz7 := hB7.size
                have HR7 := right_tot nd mn hkb hmb ((allP nd mn data).set i (tornA X j tb)) _ w7 (OwnR.row hO7)
                unfold RightPost at HR7
                obtain ⟨hr1, hr2⟩ := any_wrong (j := j) (s' := tornA X j tb) hk1 hk2 hm0 Hdl.out Hall.out hn16 hil (by rw [← Hn0.out]; exact hjl) (by rw [tornA_size tb (by omega), hXs, Hn0.out]) (by rw [tornA_at tb (by omega), ← HX.out, ← HXb.out]; exact fun e => Hne.out e.symm)
                rw [hr1, hr2, errV_0] at HR7
                have HR7 := Lib.hid HR7
                have HB7 := Lib.hid hB7
                clear hO7 hB7 hr1 hr2
                go_wp2_with fail
                refine HR7.out.mono ?_
                rintro e w8 ⟨rfl, hb8⟩
                have HB8 := Lib.hid (HB7.out.trans (hb8.mono hz7))
                clear hb8 HR7
                go_wp2_with fail
                go_meet
                exact ⟨_, rfl, HB8.out⟩
        case rest =>
          obtain ⟨w6, hw6, hb6⟩ := hcut
          subst hw6
          have HB6 := Lib.hid (HB5.out.trans (hb6.mono hz5))
          have HO6 := Lib.hid (owns_below HO5.out hb6)
          have hz6 := HB6.out.size
          clear hb6 HB5 HO5 d0 Hb100 Hs0n
          by_cases hln : nl = nd + mn
          · have t5 : ((nl : Int) != (nd : Int) + (mn : Int)) = false := bne_f (by omega)
            have t6 : ((nl : Int) == (nd : Int) + (mn : Int)) = true := beq_t (by omega)
            obtain ⟨gp, op, rfl⟩ := strs_addr (l := allP nd mn data) (W := w6) (OwnR.row (OwnR.of_owns HO6.out)) (by rw [allP_len Hdl.out]; omega)
            subst hln
            obtain ⟨P, hP⟩ : ∃ P, P = allP nd mn data := ⟨_, rfl⟩
            have hPl : P.length = nd + mn := by rw [hP]; exact allP_len Hdl.out
            have hls : ls.length = nd + mn := Hnl.out.symm
            have HP := Lib.hid hP
            rw [← hP] at HO6
            have hc4 : nd + mn ≤ c4 ∧ c4 ≤ maxLen := by
              obtain ⟨p8, c8, hs8, h1, h2⟩ := OwnR.shape (OwnR.of_owns HO6.out)
              injection hs8 with _ _ e3
              rw [List.length_map, hPl] at h1
              subst e3
              exact ⟨h1, h2⟩
            unfold maxLen at hc4
            have HPl := Lib.hid hPl
            have Hls := Lib.hid hls
            have hA : ∀ a : Nat, a ≤ 12 → IntKind.i64.wrap ((a : Int) + 1) = ((a + 1 : Nat) : Int) := fun a ha => (IntWalk.i64_in _ (by omega)).trans (by omega)
            clear hP hPl hls
            go_wp2_with fail
            go_loopg [25, 26] (nd + mn) (fun gk v25 v26 wr => AyRel (nd + mn) P ls junk gp op c4 w gk v25 v26 wr)
            case atStart => exact ⟨0, by omega, rfl, rfl, by rw [junk_zero]; exact OwnR.of_owns HO6.out, HB6.out⟩
            case round =>
              obtain ⟨i, hi, rfl, rfl, hO, hB⟩ := hrel
              have Hi := Lib.hid hi
              have HO := Lib.hid hO
              have HB := Lib.hid hB
              have hz := hB.size
              clear hi hO hB
              by_cases hin : i < nd + mn
              · obtain ⟨gl, ol, cl', hv, hgl, hcl⟩ := row_bool HL.out (j := i) (by rw [Hls.out]; exact hin)
                injection hv with e1 e2 e3
                subst e1
                have d1 := (HB.out.cell (p := ⟨gl, ol + i, none⟩) hgl).trans hcl
                have hjg := junk_get (ps := P) (ls := ls) (junk := junk) (q := i) (i := i) (by rw [HPl.out]; exact hin)
                obtain ⟨Y, hY⟩ : ∃ Y, Y = (if i < i ∧ los ls i = true then junk else P.getD i ⟨#[]⟩) := ⟨_, rfl⟩
                rw [← hY] at hjg
                have d9 : wr.cell? ⟨gp, op + i, none⟩ = some (.string Y) := by
                  have h := strs_add (OwnR.row HO.out) i (.string Y) (by rw [List.getElem?_map, hjg]; rfl)
                  rw [Addr.add_lit] at h; exact h
                have f9 := OwnR.fz HO.out (g := gp) rfl (op + i)
                have hgb := OwnR.lt HO.out (g := gp) rfl
                obtain ⟨b, hb⟩ : ∃ b, b = los ls i := ⟨_, rfl⟩
                rw [← hb] at d1
                have Hb := Lib.hid hb
                obtain ⟨hh, hhe⟩ : ∃ hh, hh = (hx ls i).length := ⟨_, rfl⟩
                have hh12 : hh ≤ 12 := by have := hx_le ls i; omega
                rw [← hhe]
                have Hhe := Lib.hid hhe
                have hwi := hA i (by omega)
                have hwh := hA hh hh12
                clear e2 e3 hcl hjg hY hb hhe
                cases b with
                | true =>
                  go_wp2_with fail
                  go_roundg (gk - 1)
                  case measure => have := Hi.out; omega
                  case rel =>
                    refine ⟨i + 1, by have := Hi.out; omega, ?_, by go_num, ?_, HB.out.setCell hgb.1 _⟩
                    · rw [hx_no Hb.out.symm, Hhe.out]
                    · rw [← junk_yes Hb.out.symm]; exact HO.out.setStr (by rw [junk_len, HPl.out]; exact hin) junk
                | false =>
                  go_wp2_with fail
                  go_roundg (gk - 1)
                  case measure => have := Hi.out; omega
                  case rel =>
                    refine ⟨i + 1, by have := Hi.out; omega, ?_, by go_num, ?_, HB.out⟩
                    · rw [hx_yes Hb.out.symm, List.length_append, List.length_singleton, ← Hhe.out]; go_num
                    · rw [junk_no Hb.out.symm]; exact HO.out
              · obtain rfl : i = nd + mn := by have := Hi.out; omega
                have HD2 := decode_any nd mn hk1 hk2 (junkP P ls junk (nd + mn)) ls (by rw [junk_len]; exact HPl.out) Hls.out _ _ wr (OwnR.row HO.out) (HL.out.below HB.out)
                unfold DecPost at HD2
                obtain ⟨z1, z2⟩ := any_dec (ls := ls) (junk := junk) hk1 hk2 Hdl.out Hall.out hn16
                rw [← HP.out] at z1 z2
                obtain ⟨hh, hhe⟩ : ∃ hh, hh = (hx ls (nd + mn)).length := ⟨_, rfl⟩
                rw [← hhe] at z1 z2 ⊢
                obtain ⟨F, hF⟩ : ∃ F, F = decF nd (nd + mn) (junkP P ls junk (nd + mn)) ls := ⟨_, rfl⟩
                rw [← hF] at HD2 z1
                have HD9 := Lib.hid HD2
                have Z2 := Lib.hid z2
                clear hF z2 hhe HD2
                by_cases hlt : hh < nd
                · rw [if_pos hlt] at z1
                  subst z1
                  go_wp2_with fail
                  refine HD9.out.mono ?_
                  rintro e w8 ⟨v8, rfl, _, hb8⟩
                  have HB8 := Lib.hid (HB.out.trans (hb8.mono hz))
                  have HSa := Lib.hid (same_any 8 8 w8 (Hg.out.below (Nat.le_refl _) HB8.out))
                  clear hb8 HD9
                  go_wp2_with fail
                  refine HSa.out.mono ?_
                  rintro e w9 ⟨rfl, hb9⟩
                  have HB9 := Lib.hid (HB8.out.trans (hb9.mono HB8.out.size))
                  clear hb9
                  go_wp2_with fail
                  go_ret
                  exact ⟨rfl, HB9.out⟩
                · rw [if_neg hlt] at z1
                  subst z1
                  have hD3 : (if (0 : Int) = 0 then decR nd (nd + mn) (junkP P ls junk (nd + mn)) ls else []) = data := by rw [if_pos rfl]; exact Z2.out hlt
                  have hD4 := HD9.out
                  rw [hD3, errV_0] at hD4
                  have HD8 := Lib.hid hD4
                  clear hD3 hD4 HD9
                  go_wp2_with fail
                  refine HD8.out.mono ?_
                  rintro e w8 ⟨v8, rfl, hO8, hb8⟩
                  have HB8 := Lib.hid (HB.out.trans (hb8.mono hz))
                  have HTx := Lib.hid (texts_eq data v8 _ w8 (OwnR.row hO8) (HD.out.below HB8.out))
                  clear hb8 HD8 hO8
                  go_wp2_with fail
                  refine HTx.out.mono ?_
                  rintro e w9 ⟨rfl, nq, rfl⟩
                  go_wp2_with fail
                  go_ret
                  exact ⟨rfl, bdrew HB8.out _⟩
          · have t5 : ((nl : Int) != (nd : Int) + (mn : Int)) = true := bne_t (by omega)
            have t6 : ((nl : Int) == (nd : Int) + (mn : Int)) = false := beq_f (by omega)
            clear hln
            go_wp2_with fail
            go_ret
            exact ⟨rfl, HB6.out⟩
  · have hFe : errV F = ev F := errV_ne hF0
    rw [hFe] at HE1
    clear hF hF0 hFe
    go_wp2_with fail
    refine HE1.out.mono ?_
    rintro e w2 ⟨v2, rfl, _, hb2⟩
    have HB2 := Lib.hid (HB1.out.trans (hb2.mono hz1))
    clear hb2 HE1
    go_wp2_with fail
    go_ret
    exact ⟨rfl, HB2.out⟩
end Go.Proofs.YtbikmodfmckaeaaDoor
