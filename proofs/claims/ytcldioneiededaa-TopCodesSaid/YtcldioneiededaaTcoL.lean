/- The walk of the law TopCodes: it returns true. -/
import Derived.Test.YtcldioneiededaaTcoP
import Derived.Test.YtcldioneiededaaOne
import Derived.Test.YtcldioneiededaaCodT
import Derived.Test.YtcldioneiededaaWireK
import Derived.Test.YtcldioneiededaaWireU
import Derived.Test.YtcldioneiededaaWireQ
import Derived.Deep.AppendLies
namespace Go.Proofs.Ytcldioneiededaa
open Go.ChangeShapes Go.WideShapes Go.ChangeAt Go.RowKit
set_option linter.unusedVariables false
theorem pack_anyT (row : Int) (ss : List ByteArray) (v : Value) (w : World) (hv : Strs w v ss) : Calls Try.prog 19 #[iv row, v] w (PackPost row ss w) := by
  by_cases hF : rowF row ss = 0
  · obtain ⟨r, rfl⟩ : ∃ r : Nat, row = r := ⟨row.toNat, by have := (rowF_zero hF).1; omega⟩
    refine (pack_yes r ss v w hv hF).mono ?_
    rintro e w' ⟨rfl, hb⟩
    exact ⟨by rw [if_pos hF, hF]; rfl, hb⟩
  · exact pack_no row ss v w hv hF
theorem row_headT {w : World} {p : Option Addr} {n cap : Nat} {xs : List Value} (h : Row w (.slice p n cap) xs) {k : Nat} (hk : k ≤ xs.length) : Row w (.slice p k cap) (xs.take k) := by
  obtain ⟨p', cap', hv, h1, h2, h3, h4⟩ := h
  injection hv with e1 e2 e3
  subst e1 e3
  refine ⟨p, cap, by rw [List.length_take, Nat.min_eq_left hk], by rw [List.length_take]; omega, h2, h3, fun h0 => ?_⟩
  rw [List.length_take] at h0
  obtain ⟨g, o, hp, h5⟩ := h4 (by omega)
  refine ⟨g, o, hp, fun j hj => ?_⟩
  rw [List.length_take] at hj
  rw [List.getElem?_take, if_pos (by omega)]
  exact h5 j (by omega)
set_option maxRecDepth 100000 in
set_option maxHeartbeats 8000000 in
theorem topCodes_err (row i k : Int) (data : List ByteArray) (v : Value) (w : World) (hd : Strs w v data) (h : encF (data.length : Int) 2 data ≠ 0 ∨ Gv.pqF data ≠ 0) :
    Calls Try.prog 4 #[iv row, v, iv i, iv k] w fun e w' => e = .returned (.bool true) ∧ Below w.heap.size w w' := by
  have C0 := Lib.hid (one_any w)
  have HD := Lib.hid hd
  obtain ⟨p, cap, rfl, hd1, hd2, _⟩ := hd.shape
  rw [List.length_map] at hd1 HD ⊢
  unfold maxLen at hd2
  obtain ⟨N, hN⟩ : ∃ N, N = data.length := ⟨_, rfl⟩
  rw [← hN] at h hd1 HD ⊢
  obtain ⟨F, hF⟩ : ∃ F, F = encF (N : Int) 2 data := ⟨_, rfl⟩
  obtain ⟨G, hG⟩ : ∃ G, G = Gv.pqF data := ⟨_, rfl⟩
  rw [← hF, ← hG] at h
  have HF := Lib.hid hF
  have HG := Lib.hid hG
  clear hd hN hF hG
  go_enter Try.func4, Try.ntmps4
  by_cases h0 : F = 0
  · have h2 : G ≠ 0 := h.resolve_left (fun hc => hc h0)
    subst h0
    clear h
    go_wp2_with fail
    refine C0.out.mono ?_
    rintro e w1 ⟨rfl, hb1⟩
    have HB1 := Lib.hid hb1
    have HE1 := Lib.hid (encode_tot (N : Int) 2 data _ w1 (HD.out.below hb1))
    unfold CencPost at HE1
    rw [← HF.out] at HE1
    clear hb1 C0
    go_wp2_with fail
    refine HE1.out.mono ?_
    rintro e w2 ⟨v2, rfl, hO2, hb2⟩
    have HB2 := Lib.hid (HB1.out.trans (hb2.mono HB1.out.size))
    have HE2 := Lib.hid (encode_any data _ w2 (HD.out.below HB2.out))
    unfold EncPost at HE2
    have h2n : ¬ Gv.pqF data = 0 := by rw [← HG.out]; exact h2
    simp only [h2n, if_false] at HE2
    rw [← HG.out, errV_ne h2] at HE2
    rw [errV_0]
    have HE3 := Lib.hid HE2.out
    have HB2b := HB2.out.size
    clear hb2 hO2 HE1 HE2 h2 h2n
    go_wp2_with fail
    refine HE3.out.mono ?_
    rintro e w3 ⟨rfl, hb3⟩
    have HB3 := Lib.hid (HB2.out.trans (hb3.mono HB2b))
    clear hb3 HE3
    go_wp2_with fail
    go_ret
    exact ⟨rfl, HB3.out⟩
  · clear h
    go_wp2_with fail
    refine C0.out.mono ?_
    rintro e w1 ⟨rfl, hb1⟩
    have HB1 := Lib.hid hb1
    have HE1 := Lib.hid (encode_tot (N : Int) 2 data _ w1 (HD.out.below hb1))
    unfold CencPost at HE1
    rw [← HF.out] at HE1
    clear hb1 C0
    go_wp2_with fail
    refine HE1.out.mono ?_
    rintro e w2 ⟨v2, rfl, hO2, hb2⟩
    have HB2 := Lib.hid (HB1.out.trans (hb2.mono HB1.out.size))
    have HE2 := Lib.hid (encode_any data _ w2 (HD.out.below HB2.out))
    unfold EncPost at HE2
    rw [errV_ne h0]
    by_cases h2 : G = 0
    · have h2n : Gv.pqF data = 0 := by rw [← HG.out]; exact h2
      simp only [h2n, if_true] at HE2
      have HE3 := Lib.hid HE2.out
      have HB2b := HB2.out.size
      clear hb2 hO2 HE1 HE2 h2 h0 h2n
      go_wp2_with fail
      refine HE3.out.mono ?_
      rintro e w3 ⟨rfl, hb3⟩
      have HB3 := Lib.hid (HB2.out.trans (hb3.mono HB2b))
      clear hb3 HE3
      go_wp2_with fail
      go_ret
      exact ⟨rfl, HB3.out⟩
    · have h2n : ¬ Gv.pqF data = 0 := by rw [← HG.out]; exact h2
      simp only [h2n, if_false] at HE2
      rw [← HG.out, errV_ne h2] at HE2
      have HE3 := Lib.hid HE2.out
      have HB2b := HB2.out.size
      clear hb2 hO2 HE1 HE2 h2 h0 h2n
      go_wp2_with fail
      refine HE3.out.mono ?_
      rintro e w3 ⟨rfl, hb3⟩
      have HB3 := Lib.hid (HB2.out.trans (hb3.mono HB2b))
      clear hb3 HE3
      go_wp2_with fail
      go_ret
      exact ⟨rfl, HB3.out⟩
set_option maxRecDepth 100000 in
set_option maxHeartbeats 8000000 in
theorem topCodes_out (row i k : Int) (data : List ByteArray) (v : Value) (w : World) (hd : Strs w v data) (hF : encF (data.length : Int) 2 data = 0) (hG : Gv.pqF data = 0) (h1 : 1 ≤ data.length) (h10 : data.length ≤ 10) (hik : i < 0 ∨ (data.length : Int) + 2 ≤ i ∨ k < 0 ∨ (data.length : Int) + 2 ≤ k) :
    Calls Try.prog 4 #[iv row, v, iv i, iv k] w fun e w' => e = .returned (.bool true) ∧ Below w.heap.size w w' := by
  have HD := Lib.hid hd
  obtain ⟨gd, od, cd, rfl, a1, a2, a3⟩ := Row.pos hd (by rw [List.length_map]; omega)
  rw [List.length_map] at a1
  simp only [List.length_map] at HD ⊢
  have hca : ∀ q, q < data.length → w.cell? ⟨gd, od + q, none⟩ = some (.string (data.getD q ⟨#[]⟩)) := by
    intro q hq
    have := a3 q (by rw [List.length_map]; exact hq)
    rw [this, List.getElem?_map, List.getElem?_eq_getElem hq, List.getD_eq_getElem?_getD, List.getElem?_eq_getElem hq]; rfl
  have hga : gd < w.heap.size := World.block_lt_of_cell? w _ (hca 0 (by omega))
  obtain ⟨m, hm⟩ : ∃ m, m = data.length := ⟨_, rfl⟩
  rw [← hm] at h1 h10 hF a1 HD hca ⊢
  have hV : encV (m : Int) 2 data = encR m 2 data := by unfold encV; rw [if_pos hF]; rfl
  obtain ⟨P, hP⟩ : ∃ P, P = Gv.P data := ⟨_, rfl⟩
  obtain ⟨Q, hQ⟩ : ∃ Q, Q = Gv.Q data := ⟨_, rfl⟩
  have HF := Lib.hid (And.intro hF (And.intro hV hG))
  have HP := Lib.hid hP
  have HQ := Lib.hid hQ
  have Hm := Lib.hid hm
  have Hca := Lib.hid hca
  have C0 := Lib.hid (one_any w)
  unfold maxLen at a2
  clear hd a3 hca hm hF hG hV hP hQ
  go_enter Try.func4, Try.ntmps4
  rw [← Hm.out] at hik
  go_wp2_with fail
  refine C0.out.mono ?_
  rintro e w1 ⟨rfl, hb1⟩
  have HB1 := Lib.hid hb1
  have HE1 := Lib.hid (encode_tot (m : Int) 2 data _ w1 (HD.out.below hb1))
  unfold CencPost at HE1
  rw [HF.out.1, HF.out.2.1, errV_0] at HE1
  clear hb1 C0
  go_wp2_with fail
  refine HE1.out.mono ?_
  rintro e w2 ⟨v2, rfl, hO2, hb2⟩
  have HB2 := Lib.hid (HB1.out.trans (hb2.mono HB1.out.size))
  have HO2 := Lib.hid (OwnR.mono hO2 HB1.out.size)
  obtain ⟨p2, c2, hv2, _, hc2⟩ := OwnR.shape hO2
  rw [List.length_map, encR_len] at hv2
  subst hv2
  have HE2 := Lib.hid (encode_any data _ w2 (HD.out.below HB2.out))
  unfold EncPost at HE2
  simp only [HF.out.2.2, if_true] at HE2
  rw [← HP.out, ← HQ.out] at HE2
  clear hb2 hO2 HE1 HB1
  go_wp2_with fail
  refine HE2.out.mono ?_
  rintro e w3 ⟨rfl, hb3⟩
  have HB3 := Lib.hid (HB2.out.trans (hb3.mono HB2.out.size))
  have HO3 := Lib.hid (HO2.out.below hb3)
  have hz3 := HB3.out.size
  clear hb3 HE2 HB2 HO2
  have t1 : decide ((m : Int) < 1) = false := dec_f (by omega)
  have t2 : decide (10 < (m : Int)) = false := dec_f (by omega)
  have hw : IntKind.i64.wrap ((m : Int) + 2) = (m : Int) + 2 := IntWalk.i64_in _ (by omega)
  by_cases c1 : i < 0
  · have t3 := dec_t c1
    clear c1 hik
    go_wp2_with fail
    go_ret
    exact ⟨rfl, HB3.out⟩
  · by_cases c2 : (m : Int) + 2 ≤ i
    · have t3 := dec_f c1
      have t4 := dec_t c2
      clear c1 c2 hik
      go_wp2_with fail
      go_ret
      exact ⟨rfl, HB3.out⟩
    · by_cases c3 : k < 0
      · have t3 := dec_f c1
        have t4 := dec_f c2
        have t5 := dec_t c3
        clear c1 c2 c3 hik
        go_wp2_with fail
        go_ret
        exact ⟨rfl, HB3.out⟩
      · have c4 : (m : Int) + 2 ≤ k := by omega
        have t3 := dec_f c1
        have t4 := dec_f c2
        have t5 := dec_f c3
        have t6 := dec_t c4
        clear c1 c2 c3 c4 hik
        go_wp2_with fail
        go_ret
        exact ⟨rfl, HB3.out⟩
set_option maxRecDepth 100000 in
set_option maxHeartbeats 8000000 in
theorem topCodes_in (row : Int) (i j : Nat) (data : List ByteArray) (v : Value) (w : World) (hd : Strs w v data) (hF : encF (data.length : Int) 2 data = 0) (hG : Gv.pqF data = 0) (h1 : 1 ≤ data.length) (h10 : data.length ≤ 10) (hi : i < data.length + 2) (hj : j < data.length + 2) :
    Calls Try.prog 4 #[iv row, v, iv i, iv j] w fun e w' => e = .returned (.bool true) ∧ Below w.heap.size w w' := by
  have hzz := pqF_zero hG
  obtain ⟨n0, hn0⟩ : ∃ n, n = size0 data := ⟨_, rfl⟩
  rw [← hn0] at hzz
  have h16 := hzz.2.2.2
  have Hsz := Lib.hid hzz.2.2.1
  have Hn0 := Lib.hid hn0
  clear hzz hn0
  have HD := Lib.hid hd
  obtain ⟨gd, od, cd, rfl, a1, a2, a3⟩ := Row.pos hd (by rw [List.length_map]; omega)
  rw [List.length_map] at a1
  simp only [List.length_map] at HD ⊢
  have hca : ∀ q, q < data.length → w.cell? ⟨gd, od + q, none⟩ = some (.string (data.getD q ⟨#[]⟩)) := by
    intro q hq
    have := a3 q (by rw [List.length_map]; exact hq)
    rw [this, List.getElem?_map, List.getElem?_eq_getElem hq, List.getD_eq_getElem?_getD, List.getElem?_eq_getElem hq]; rfl
  have hga : gd < w.heap.size := World.block_lt_of_cell? w _ (hca 0 (by omega))
  obtain ⟨m, hm⟩ : ∃ m, m = data.length := ⟨_, rfl⟩
  rw [← hm] at h1 h10 hF a1 HD hca ⊢
  have hV : encV (m : Int) 2 data = encR m 2 data := by unfold encV; rw [if_pos hF]; rfl
  obtain ⟨P, hP⟩ : ∃ P, P = Gv.P data := ⟨_, rfl⟩
  obtain ⟨Q, hQ⟩ : ∃ Q, Q = Gv.Q data := ⟨_, rfl⟩
  have HF := Lib.hid (And.intro hF (And.intro hV hG))
  have HP := Lib.hid hP
  have HQ := Lib.hid hQ
  have Hm := Lib.hid hm
  have Hca := Lib.hid hca
  have C0 := Lib.hid (one_any w)
  unfold maxLen at a2
  clear hd a3 hca hm hF hG hV hP hQ
  go_enter Try.func4, Try.ntmps4
  rw [← Hm.out] at hi hj
  obtain ⟨N, hN⟩ : ∃ N, N = m + 2 := ⟨_, rfl⟩
  rw [← hN] at hi hj
  have HN := Lib.hid hN
  have hmN : m < N := by omega
  have hN3 : 3 ≤ N := by omega
  have hN12 : N ≤ 12 := by omega
  have hw : IntKind.i64.wrap ((m : Int) + 2) = (N : Int) := (IntWalk.i64_in _ (by omega)).trans (by omega)
  have t1 : decide ((m : Int) < 1) = false := dec_f (by omega)
  have t2 : decide (10 < (m : Int)) = false := dec_f (by omega)
  have t3 : decide ((i : Int) < 0) = false := dec_f (by omega)
  have t4 : decide ((N : Int) ≤ (i : Int)) = false := dec_f (by omega)
  have t5 : decide ((j : Int) < 0) = false := dec_f (by omega)
  have t6 : decide ((N : Int) ≤ (j : Int)) = false := dec_f (by omega)
  have tiI : (i : Int) < (N : Int) := by omega
  have tjI : (j : Int) < (N : Int) := by omega
  obtain ⟨cc, hcc⟩ : ∃ cc, cc = data ++ [P, Q] := ⟨_, rfl⟩
  obtain ⟨xx, hxx⟩ : ∃ xx, xx = allP m 2 data := ⟨_, rfl⟩
  have Hcw : Hid (Gv.Cw n0 m cc) := Lib.hid ⟨data, Hm.out.symm, Hsz.out, by rw [hcc, HP.out, HQ.out]⟩
  have Hcl : Hid (cc.length = N) := Lib.hid (by rw [Hcw.out.len, hN])
  have Hxl : Hid (xx.length = N) := Lib.hid (by rw [hxx, allP_len Hm.out.symm, hN])
  have Hcc := Lib.hid hcc
  have Hxx := Lib.hid hxx
  obtain ⟨i0, hinf, hi1, hi2, hi3⟩ := info_parts info_strG
  have HI := Lib.hid hinf
  clear hN hcc hxx hinf
  go_wp2_with fail
  refine C0.out.mono ?_
  rintro e w1 ⟨rfl, hb1⟩
  have HB1 := Lib.hid hb1
  have HE1 := Lib.hid (encode_tot (m : Int) 2 data _ w1 (HD.out.below hb1))
  unfold CencPost at HE1
  rw [HF.out.1, HF.out.2.1, errV_0] at HE1
  clear hb1 C0
  go_wp2_with fail
  refine HE1.out.mono ?_
  rintro e w2 ⟨v2, rfl, hO2, hb2⟩
  have HB2 := Lib.hid (HB1.out.trans (hb2.mono HB1.out.size))
  have HO2 := Lib.hid (OwnR.mono hO2 HB1.out.size)
  obtain ⟨p2, c2, hv2, _, hc2⟩ := OwnR.shape hO2
  rw [List.length_map, encR_len] at hv2
  subst hv2
  have HE2 := Lib.hid (encode_any data _ w2 (HD.out.below HB2.out))
  unfold EncPost at HE2
  simp only [HF.out.2.2, if_true] at HE2
  rw [← HP.out, ← HQ.out] at HE2
  clear hb2 hO2 HE1 HB1
  go_wp2_with fail
  refine HE2.out.mono ?_
  rintro e w3 ⟨rfl, hb3⟩
  have HB3 := Lib.hid (HB2.out.trans (hb3.mono HB2.out.size))
  have HO3 := Lib.hid (HO2.out.below hb3)
  have hz3 := HB3.out.size
  clear hb3 HE2 HB2 HO2
  obtain ⟨ge, oe, ce, hve, hgeb, hgez, hc21, hc22, hce, _⟩ := HO3.out.at0 (by rw [List.length_map, encR_len]; omega)
  injection hve with e1 e2 e3
  subst e1 e3
  rw [List.length_map, encR_len] at hc21
  have He3 : Hid (∀ q, q < 2 → w3.cell? ⟨ge, oe + q, none⟩ = ((encR m 2 data).map Value.string)[q]?) := Lib.hid (fun q hq => hce q (by rw [List.length_map, encR_len]; exact hq))
  unfold maxLen at hc22
  have hinf := HI.out
  clear e2 hce hc2
  go_wp2_with (at_builtin; refine wpList_append_lies _ rfl _ _ 32 rfl w.heap.size 9 i0 (.string ⟨#[]⟩) 1 16 Try.underlying32 hinf hi1 hi2 hi3 rfl (by decide) _ 0 [] rfl (World.ownsRow_nil _ _ _ _) ⟨gd, od, none⟩ m cd (data.map Value.string) rfl ?x1 ?x2 ?x3 ?x4 ?x5 ?x6 ?x7 _ rfl ?_)
  case x1 => rw [List.length_map, ← Hm.out, Nat.mul_one]
  case x2 =>
    intro q u hq
    have hqm := (List.getElem?_eq_some_iff.1 hq).1
    rw [List.length_map, ← Hm.out] at hqm
    have h := (HB3.out.cell (p := ⟨gd, od + q, none⟩) hga).trans (Hca.out q hqm)
    rw [Addr.add_lit, h, ← hq, List.getElem?_map, List.getElem?_eq_getElem (by rw [← Hm.out]; exact hqm), List.getD_eq_getElem?_getD, List.getElem?_eq_getElem (by rw [← Hm.out]; exact hqm)]; rfl
  case x3 => intro u hu; obtain ⟨x, _, rfl⟩ := List.mem_map.1 hu; rfl
  case x4 => omega
  case x5 => unfold maxLen; omega
  case x6 => omega
  case x7 => exact hz3
  intro g1 c1 w4 hown4 hgr4 hat4 hlt4
  try simp only [Nat.zero_add, List.nil_append] at hown4
  try simp only [Nat.zero_add]
  have HB4 := Lib.hid (HB3.out.grown hgr4 hz3 (fun g e => by cases e))
  have hz4 := HB4.out.size
  have HO4 := Lib.hid hown4
  have He4 : Hid (∀ q, q < 2 → w4.cell? ⟨ge, oe + q, none⟩ = ((encR m 2 data).map Value.string)[q]?) := Lib.hid (fun q hq => by
    have h := He3.out q hq
    have hql : q < ((encR m 2 data).map Value.string).length := by rw [List.length_map, encR_len]; exact hq
    rw [List.getElem?_eq_getElem hql] at h ⊢
    exact (Kept.grown hgr4).cell h (fun e => by cases e))
  have hgb1 := (hown4.lt g1 rfl).1
  clear hown4 hgr4 hat4 HB3 hz3 He3 HO3 hlt4
  go_wp2_with (at_builtin; refine wpList_append_lies _ rfl _ _ 32 rfl w.heap.size 9 i0 (.string ⟨#[]⟩) 1 16 Try.underlying32 hinf hi1 hi2 hi3 rfl (by decide) _ m _ rfl HO4.out ⟨ge, oe, none⟩ 2 c2 ((encR m 2 data).map Value.string) rfl ?y1 ?y2 ?y3 ?y4 ?y5 ?y6 ?y7 _ rfl ?_)
  case y1 => rw [List.length_map, encR_len]
  case y2 =>
    intro q u hq
    have hqm := (List.getElem?_eq_some_iff.1 hq).1
    rw [List.length_map, encR_len] at hqm
    rw [Addr.add_lit, He4.out q hqm]; exact hq
  case y3 => intro u hu; obtain ⟨x, _, rfl⟩ := List.mem_map.1 hu; rfl
  case y4 => decide
  case y5 => unfold maxLen; omega
  case y6 => omega
  case y7 => exact hz4
  intro g2 cx w5 hown5 hgr5 hat5 hlt5
  rw [← HN.out] at hown5 ⊢
  have hO5 : w5.ownsRow w.heap.size 9 1 (.slice (some ⟨g2, 0, none⟩) N cx) N (xx.map Value.string) := by
    rw [Hxx.out]; unfold allP; rw [List.map_append]; exact hown5
  have HB5 := Lib.hid (HB4.out.grown hgr5 hz4 (fun g e => by have : g1 = g := Option.some.inj e; omega))
  have hz5 := HB5.out.size
  have HO5 := Lib.hid hO5
  have hgb2 := (hO5.lt g2 rfl).1
  have hgz2 := (hO5.lt g2 rfl).2
  clear hown5 hgr5 hat5 HB4 hz4 hO5 He4 HO4 hgb1 hlt5
  go_wp2_with (at_builtin; refine wpList_append_lies _ rfl _ _ 32 rfl w.heap.size 9 i0 (.string ⟨#[]⟩) 1 16 Try.underlying32 hinf hi1 hi2 hi3 rfl (by decide) _ 0 [] rfl (World.ownsRow_nil _ _ _ _) ⟨gd, od, none⟩ m cd (data.map Value.string) rfl ?z1 ?z2 ?z3 ?z4 ?z5 ?z6 ?z7 _ rfl ?_)
  case z1 => rw [List.length_map, ← Hm.out, Nat.mul_one]
  case z2 =>
    intro q u hq
    have hqm := (List.getElem?_eq_some_iff.1 hq).1
    rw [List.length_map, ← Hm.out] at hqm
    have h := (HB5.out.cell (p := ⟨gd, od + q, none⟩) hga).trans (Hca.out q hqm)
    rw [Addr.add_lit, h, ← hq, List.getElem?_map, List.getElem?_eq_getElem (by rw [← Hm.out]; exact hqm), List.getD_eq_getElem?_getD, List.getElem?_eq_getElem (by rw [← Hm.out]; exact hqm)]; rfl
  case z3 => intro u hu; obtain ⟨x, _, rfl⟩ := List.mem_map.1 hu; rfl
  case z4 => omega
  case z5 => unfold maxLen; omega
  case z6 => omega
  case z7 => exact hz5
  intro g3 c3 w6 hown6 hgr6 hat6 hlt6
  try simp only [Nat.zero_add, List.nil_append] at hown6
  try simp only [Nat.zero_add]
  have Hg3 : Hid (g3 = w5.heap.size) := Lib.hid (by rcases hat6 with h | h; cases h; exact h)
  have hb6 : Below w5.heap.size w5 w6 := (Below.refl _ _).grown hgr6 (Nat.le_refl _) (fun g e => by cases e)
  have HB6 := Lib.hid (HB5.out.trans (hb6.mono hz5))
  have hz6 := HB6.out.size
  have hz65 := hb6.size
  have HX6 := Lib.hid (owns_below HO5.out hb6)
  have HO6 := Lib.hid hown6
  have HOa := Lib.hid (hown6.alloc (.cells #[.string P, .string Q] 9))
  clear hown6 hgr6 hat6 HB5 HO5 hb6 hlt6
  go_wp2_with (at_builtin; refine wpList_append_lies _ rfl _ _ 32 rfl w.heap.size 9 i0 (.string ⟨#[]⟩) 1 16 Try.underlying32 hinf hi1 hi2 hi3 rfl (by decide) _ m _ rfl HOa.out ⟨w6.heap.size, 0, none⟩ 2 2 [.string P, .string Q] rfl rfl ?u2 ?u3 ?u4 ?u5 ?u6 ?u7 _ rfl ?_)
  case u2 => exact cells_two _ _ _ _
  case u3 => intro u hu; simp at hu; rcases hu with rfl | rfl <;> rfl
  case u4 => decide
  case u5 => unfold maxLen; omega
  case u6 => omega
  case u7 => simp; omega
  intro g4 c4 w7 hown7 hgr7 hat7 hlt7
  rw [← HN.out] at hown7 ⊢
  have hO7 : w7.ownsRow w.heap.size 9 1 (.slice (some ⟨g4, 0, none⟩) N c4) N (cc.map Value.string) := by
    rw [Hcc.out, List.map_append]; exact hown7
  have hal7 : Below w6.heap.size w6 (w6.alloc (.cells #[.string P, .string Q] 9)) := (Below.refl _ _).alloc (Nat.le_refl _) _
  have hg34 : g2 < g4 := by
    rcases hat7 with h | h
    · have : g3 = g4 := Option.some.inj h
      have := Hg3.out
      omega
    · have := hal7.size
      omega
  have HB7 := Lib.hid ((HB6.out.trans (hal7.mono hz6)).grown hgr7 (by simp; omega) (fun g e => by have : g3 = g := Option.some.inj e; have := Hg3.out; omega))
  have hz7 := HB7.out.size
  have HX7 := Lib.hid (Kept.owns (owns_below HX6.out hal7) (Kept.grown hgr7) (fun g hg e => by have h1 : g2 = g := Option.some.inj hg; have h2 : g = g3 := Option.some.inj e; have := Hg3.out; omega))
  have HY7 := Lib.hid hO7
  have hgb4 := (hO7.lt g4 rfl).1
  have hgz4 := (hO7.lt g4 rfl).2
  have HPk := Lib.hid (pack_anyT row cc _ w7 (OwnR.row (OwnR.of_owns hO7)))
  unfold PackPost at HPk
  obtain ⟨E, hE⟩ : ∃ E, E = rowF row cc := ⟨_, rfl⟩
  obtain ⟨pb, hpb⟩ : ∃ b, b = (if rowF row cc = 0 then packB row.toNat cc else ⟨#[]⟩) := ⟨_, rfl⟩
  obtain ⟨ve, hve⟩ : ∃ ve, ve = errV E := ⟨_, rfl⟩
  rw [← hpb, ← hE, ← hve] at HPk
  have HE := Lib.hid hE
  have Hpb := Lib.hid hpb
  have Hve := Lib.hid hve
  clear hown7 hgr7 hat7 HB6 HX6 HO6 HOa hO7 hal7 Hg3 hz5 hz6 hz65 hlt7 hE hpb hve hinf
  go_wp2_with fail
  refine HPk.out.mono ?_
  rintro e w8 ⟨rfl, hb8⟩
  have HB8 := Lib.hid (HB7.out.trans (hb8.mono hz7))
  have hz8 := HB8.out.size
  have HX8 := Lib.hid (OwnR.of_owns (owns_below HX7.out hb8))
  have HY8 := Lib.hid (OwnR.of_owns (owns_below HY7.out hb8))
  have hgz4' : g4 < w8.heap.size := Nat.lt_of_lt_of_le hgz4 hb8.size
  have mk := make_bools N (by omega) w8
  clear hb8 HB7 HX7 HY7 HPk hz7 hgz2 hgz4
  go_upto_region 18 with (fail)
  obtain ⟨gL, hgL⟩ : ∃ gL, gL = w8.heap.size := ⟨_, rfl⟩
  obtain ⟨w9, hw9⟩ : ∃ w9, w9 = w8.alloc (.cells (madeCells #[.bool false] N) 4) := ⟨_, rfl⟩
  have hb9 : Below w8.heap.size w8 w9 := by rw [hw9]; exact (Below.refl _ _).alloc (Nat.le_refl _) _
  have HL9 : Hid (OwnR w9 w.heap.size 4 (.slice (some ⟨gL, 0, none⟩) N N) (List.replicate N (.bool false))) := Lib.hid (by rw [hw9, hgL]; exact (owns_bools N (by omega) w8).mono hz8)
  have HB9 := Lib.hid (HB8.out.trans (hb9.mono hz8))
  have HX9 := Lib.hid (HX8.out.below hb9)
  have HY9 := Lib.hid (HY8.out.below hb9)
  have hg4L : g4 < gL := by omega
  have hgbL : w.heap.size ≤ gL := by omega
  have ci9 : w9.cell? ⟨gL, i, none⟩ = some (.bool false) := by
    rw [hw9, hgL, cell_of_row _ _ _ _ _ _ (heap_alloc_new w8 _), ← Array.getElem?_toList, toList_madeCells_one, List.getElem?_replicate, if_pos hi]
  have fi9 : w9.frozen? ⟨gL, i, none⟩ = false := by
    rw [hw9, hgL]; exact frozen_of_row _ _ _ _ _ (heap_alloc_new w8 _)
  rw [← hw9, ← hgL]
  clear hb9 HB8 HX8 HY8 hw9 hgL mk hz8
  go_upto_region 19 with (fail)
  obtain ⟨wA, hwA⟩ : ∃ wA, wA = w9.setCell ⟨gL, i, none⟩ (.bool true) := ⟨_, rfl⟩
  have HLA : Hid (OwnR wA w.heap.size 4 (.slice (some ⟨gL, 0, none⟩) N N) ((List.replicate N (.bool false)).set i (.bool true))) := Lib.hid (by
    have h := HL9.out.setAt (k := i) (by rw [List.length_replicate]; exact hi) (.bool true)
    rw [Nat.zero_add] at h
    rw [hwA]; exact h)
  have cjA : ∃ b7, wA.cell? ⟨gL, j, none⟩ = some (.bool b7) := by
    obtain ⟨gx, ox, cx, hvx, _, _, _, _, hcx, _⟩ := HLA.out.at0 (by rw [List.length_set, List.length_replicate]; omega)
    injection hvx with e1 e2 e3
    injection e1 with e1
    injection e1 with e4 e5
    subst e4 e5
    have h := hcx j (by rw [List.length_set, List.length_replicate]; exact hj)
    rw [Nat.zero_add, List.getElem?_set, List.length_replicate, List.getElem?_replicate] at h
    by_cases e : i = j
    · rw [if_pos e, if_pos hi] at h; exact ⟨_, h⟩
    · rw [if_neg e, if_pos hj] at h; exact ⟨_, h⟩
  obtain ⟨bA, cjA⟩ := cjA
  have HXA : Hid (OwnR wA w.heap.size 9 (.slice (some ⟨g2, 0, none⟩) N cx) (xx.map Value.string)) := Lib.hid (by rw [hwA]; exact HX9.out.apart (fun g' e => by have : g2 = g' := Option.some.inj e; omega))
  have HYA : Hid (OwnR wA w.heap.size 9 (.slice (some ⟨g4, 0, none⟩) N c4) (cc.map Value.string)) := Lib.hid (by rw [hwA]; exact HY9.out.apart (fun g' e => by have : g4 = g' := Option.some.inj e; omega))
  have HBA : Hid (Below w.heap.size w wA) := Lib.hid (by rw [hwA]; exact HB9.out.setCell (p := ⟨gL, i, none⟩) hgbL _)
  have fjA : wA.frozen? ⟨gL, j, none⟩ = false := HLA.out.fz rfl _
  rw [← hwA]
  clear hwA HL9 HX9 HY9 HB9 ci9 fi9
  go_upto_region 20 with (fail)
  obtain ⟨wB, hwB⟩ : ∃ wB, wB = wA.setCell ⟨gL, j, none⟩ (.bool true) := ⟨_, rfl⟩
  have HLB : Hid (BoolR wB (.slice (some ⟨gL, 0, none⟩) N N) (Gv.marks2 N i j)) := Lib.hid (by
    have h := HLA.out.setAt (k := j) (by rw [List.length_set, List.length_replicate]; exact hj) (.bool true)
    rw [Nat.zero_add] at h
    have e : (Gv.marks2 N i j).map Value.bool = ((List.replicate N (Value.bool false)).set i (.bool true)).set j (.bool true) := by
      rw [← Gv.marks_set hi hj, List.map_set, List.map_set, List.map_replicate]
    show Row wB _ ((Gv.marks2 N i j).map Value.bool)
    rw [e, hwB]; exact h.row)
  have HXB : Hid (OwnR wB w.heap.size 9 (.slice (some ⟨g2, 0, none⟩) N cx) (xx.map Value.string)) := Lib.hid (by rw [hwB]; exact HXA.out.apart (fun g' e => by have : g2 = g' := Option.some.inj e; omega))
  have HYB : Hid (OwnR wB w.heap.size 9 (.slice (some ⟨g4, 0, none⟩) N c4) (cc.map Value.string)) := Lib.hid (by rw [hwB]; exact HYA.out.apart (fun g' e => by have : g4 = g' := Option.some.inj e; omega))
  have HBB : Hid (Below w.heap.size w wB) := Lib.hid (by rw [hwB]; exact HBA.out.setCell (p := ⟨gL, j, none⟩) hgbL _)
  rw [← hwB]
  clear hwB HLA HXA HYA HBA cjA fjA
  have cp := HXB.out.cellS (j := i) (by rw [Hxl.out]; exact hi)
  have fp : wB.frozen? ⟨g2, i, none⟩ = false := HXB.out.fz rfl _
  obtain ⟨ob, hob⟩ : ∃ b, b = (xx).getD i ⟨#[]⟩ := ⟨_, rfl⟩
  rw [← hob] at cp
  clear hob
  go_upto_region 21 with (fail)
  obtain ⟨wC, hwC⟩ : ∃ x, x = wB.setCell ⟨g2, i, none⟩ (.string ⟨#[]⟩) := ⟨_, rfl⟩
  have HLC : Hid (BoolR wC (.slice (some ⟨gL, 0, none⟩) N N) (Gv.marks2 N i j)) := Lib.hid (by
    rw [hwC]; exact Kept.row HLB.out ((Kept.self g2 wB).set1 i _) (fun g o n c e _ h => by
      injection e with e1 _ _
      injection e1 with e1
      injection e1 with e1 _
      omega))
  have HXC : Hid (OwnR wC w.heap.size 9 (.slice (some ⟨g2, 0, none⟩) N cx) (((xx).set i ⟨#[]⟩).map Value.string)) := Lib.hid (by rw [hwC]; exact HXB.out.storeS (by rw [Hxl.out]; exact hi) ⟨#[]⟩)
  have HYC : Hid (OwnR wC w.heap.size 9 (.slice (some ⟨g4, 0, none⟩) N c4) ((cc).map Value.string)) := Lib.hid (by rw [hwC]; exact HYB.out.apart (fun g' e => by have : g4 = g' := Option.some.inj e; omega))
  have HBC : Hid (Below w.heap.size w wC) := Lib.hid (by rw [hwC]; exact HBB.out.setCell (p := ⟨g2, i, none⟩) hgb2 _)
  rw [← hwC]
  clear hwC HLB HXB HYB HBB cp fp
  have cp := HXC.out.cellS (j := j) (by rw [List.length_set, Hxl.out]; exact hj)
  have fp : wC.frozen? ⟨g2, j, none⟩ = false := HXC.out.fz rfl _
  obtain ⟨ob, hob⟩ : ∃ b, b = ((xx.set i ⟨#[]⟩)).getD j ⟨#[]⟩ := ⟨_, rfl⟩
  rw [← hob] at cp
  clear hob
  go_upto_region 22 with (fail)
  obtain ⟨wD, hwD⟩ : ∃ x, x = wC.setCell ⟨g2, j, none⟩ (.string ⟨#[]⟩) := ⟨_, rfl⟩
  have HLD : Hid (BoolR wD (.slice (some ⟨gL, 0, none⟩) N N) (Gv.marks2 N i j)) := Lib.hid (by
    rw [hwD]; exact Kept.row HLC.out ((Kept.self g2 wC).set1 j _) (fun g o n c e _ h => by
      injection e with e1 _ _
      injection e1 with e1
      injection e1 with e1 _
      omega))
  have HXD : Hid (OwnR wD w.heap.size 9 (.slice (some ⟨g2, 0, none⟩) N cx) ((((xx.set i ⟨#[]⟩)).set j ⟨#[]⟩).map Value.string)) := Lib.hid (by rw [hwD]; exact HXC.out.storeS (by rw [List.length_set, Hxl.out]; exact hj) ⟨#[]⟩)
  have HYD : Hid (OwnR wD w.heap.size 9 (.slice (some ⟨g4, 0, none⟩) N c4) ((cc).map Value.string)) := Lib.hid (by rw [hwD]; exact HYC.out.apart (fun g' e => by have : g4 = g' := Option.some.inj e; omega))
  have HBD : Hid (Below w.heap.size w wD) := Lib.hid (by rw [hwD]; exact HBC.out.setCell (p := ⟨g2, j, none⟩) hgb2 _)
  rw [← hwD]
  clear hwD HLC HXC HYC HBC cp fp
  have cp := HYD.out.cellS (j := i) (by rw [Hcl.out]; exact hi)
  have fp : wD.frozen? ⟨g4, i, none⟩ = false := HYD.out.fz rfl _
  obtain ⟨ob, hob⟩ : ∃ b, b = (cc).getD i ⟨#[]⟩ := ⟨_, rfl⟩
  rw [← hob] at cp
  clear hob
  go_upto_region 23 with (fail)
  obtain ⟨wE', hwE'⟩ : ∃ x, x = wD.setCell ⟨g4, i, none⟩ (.string ⟨#[]⟩) := ⟨_, rfl⟩
  have HLE' : Hid (BoolR wE' (.slice (some ⟨gL, 0, none⟩) N N) (Gv.marks2 N i j)) := Lib.hid (by
    rw [hwE']; exact Kept.row HLD.out ((Kept.self g4 wD).set1 i _) (fun g o n c e _ h => by
      injection e with e1 _ _
      injection e1 with e1
      injection e1 with e1 _
      omega))
  have HYE' : Hid (OwnR wE' w.heap.size 9 (.slice (some ⟨g4, 0, none⟩) N c4) (((cc).set i ⟨#[]⟩).map Value.string)) := Lib.hid (by rw [hwE']; exact HYD.out.storeS (by rw [Hcl.out]; exact hi) ⟨#[]⟩)
  have HXE' : Hid (OwnR wE' w.heap.size 9 (.slice (some ⟨g2, 0, none⟩) N cx) ((((xx.set i ⟨#[]⟩).set j ⟨#[]⟩)).map Value.string)) := Lib.hid (by rw [hwE']; exact HXD.out.apart (fun g' e => by have : g2 = g' := Option.some.inj e; omega))
  have HBE' : Hid (Below w.heap.size w wE') := Lib.hid (by rw [hwE']; exact HBD.out.setCell (p := ⟨g4, i, none⟩) hgb4 _)
  rw [← hwE']
  clear hwE' HLD HYD HXD HBD cp fp
  have cp := HYE'.out.cellS (j := j) (by rw [List.length_set, Hcl.out]; exact hj)
  have fp : wE'.frozen? ⟨g4, j, none⟩ = false := HYE'.out.fz rfl _
  obtain ⟨ob, hob⟩ : ∃ b, b = ((cc.set i ⟨#[]⟩)).getD j ⟨#[]⟩ := ⟨_, rfl⟩
  rw [← hob] at cp
  clear hob
  go_upto_region 24 with (fail)
  obtain ⟨wF', hwF'⟩ : ∃ x, x = wE'.setCell ⟨g4, j, none⟩ (.string ⟨#[]⟩) := ⟨_, rfl⟩
  have HLF' : Hid (BoolR wF' (.slice (some ⟨gL, 0, none⟩) N N) (Gv.marks2 N i j)) := Lib.hid (by
    rw [hwF']; exact Kept.row HLE'.out ((Kept.self g4 wE').set1 j _) (fun g o n c e _ h => by
      injection e with e1 _ _
      injection e1 with e1
      injection e1 with e1 _
      omega))
  have HYF' : Hid (OwnR wF' w.heap.size 9 (.slice (some ⟨g4, 0, none⟩) N c4) ((((cc.set i ⟨#[]⟩)).set j ⟨#[]⟩).map Value.string)) := Lib.hid (by rw [hwF']; exact HYE'.out.storeS (by rw [List.length_set, Hcl.out]; exact hj) ⟨#[]⟩)
  have HXF' : Hid (OwnR wF' w.heap.size 9 (.slice (some ⟨g2, 0, none⟩) N cx) ((((xx.set i ⟨#[]⟩).set j ⟨#[]⟩)).map Value.string)) := Lib.hid (by rw [hwF']; exact HXE'.out.apart (fun g' e => by have : g2 = g' := Option.some.inj e; omega))
  have HBF' : Hid (Below w.heap.size w wF') := Lib.hid (by rw [hwF']; exact HBE'.out.setCell (p := ⟨g4, j, none⟩) hgb4 _)
  rw [← hwF']
  clear hwF' HLE' HYE' HXE' HBE' cp fp
  have hdt := two_dec (k := m) (x := i) (y := j) (data := data) (e := ⟨#[]⟩) h1 (by omega) Hm.out.symm (by rw [← Hn0.out]; exact Hsz.out) (by rw [← Hn0.out]; exact h16) (by have := HN.out; omega) (by have := HN.out; omega)
  rw [← HN.out, ← Hxx.out] at hdt
  have htn : ((cc.set i ⟨#[]⟩).set j ⟨#[]⟩).length = N := by rw [List.length_set, List.length_set, Hcl.out]
  have hth := Gv.torn_heal (ps := (cc.set i ⟨#[]⟩).set j ⟨#[]⟩) (x := i) (y := j) Hcw.out h1 h10 h16 (by rw [htn]; exact HN.out) (fun q hq h1 h2 => by
    rw [Gv.set_getD (by rw [List.length_set, Hcl.out]; exact hj), if_neg h2, Gv.set_getD (by rw [Hcl.out]; exact hi), if_neg h1])
  rw [← HN.out] at hth
  have hxn : ((xx.set i ⟨#[]⟩).set j ⟨#[]⟩).length = N := by rw [List.length_set, List.length_set, Hxl.out]
  obtain ⟨tt, htt⟩ : ∃ tt, tt = (cc.set i ⟨#[]⟩).set j ⟨#[]⟩ := ⟨_, rfl⟩
  obtain ⟨tx, htx⟩ : ∃ tx, tx = (xx.set i ⟨#[]⟩).set j ⟨#[]⟩ := ⟨_, rfl⟩
  rw [← htt] at hth htn HYF'
  rw [← htx] at hdt hxn HXF'
  have hmk : (Gv.marks2 N i j).length = N := by unfold Gv.marks2; simp
  have hcod : codF (m : Int) 2 = 0 := (encF_0T HF.out.1).1
  have hdf : dtF (m : Int) 2 tx (Gv.marks2 N i j) = 0 := by
    unfold dtF
    rw [if_neg (by rw [hcod]; simp), if_neg (by rw [hxn, hmk]; have := HN.out; omega), Int.toNat_natCast, show ((m : Int) + 2).toNat = N by have := HN.out; omega]
    exact hdt.1
  have hdr : dtR (m : Int) 2 tx (Gv.marks2 N i j) = data := by
    unfold dtR
    rw [if_pos hdf, Int.toNat_natCast, show ((m : Int) + 2).toNat = N by have := HN.out; omega]
    exact hdt.2
  have HDc := Lib.hid (decode_tot (m : Int) 2 tx (Gv.marks2 N i j) _ _ wF' (OwnR.row HXF'.out) HLF'.out)
  unfold DtPost at HDc
  rw [hdf, hdr, errV_0] at HDc
  have hzF := HBF'.out.size
  have Hth := Lib.hid hth
  have Htn := Lib.hid htn
  clear hdt hth htn hxn htt htx hmk hcod hdf hdr HXF'
  go_wp2_with fail
  refine HDc.out.mono ?_
  rintro e wG ⟨vG, rfl, hOG, hbG⟩
  have HBG := Lib.hid (HBF'.out.trans (hbG.mono hzF))
  have HUG := Lib.hid (OwnR.row hOG)
  have HYG := Lib.hid (HYF'.out.below hbG)
  have HH := Lib.hid (Heal_any tt (Gv.marks2 N i j) (by rw [Htn.out]; unfold Gv.marks2; simp) (by rw [Htn.out]; exact hN3) (by rw [Htn.out]; exact hN12) _ _ wG (OwnR.row HYG.out) (Row.below HLF'.out hbG))
  have hzG := HBG.out.size
  clear hOG hbG HDc HBF' HYF' HLF' hzF
  go_wp2_with fail
  refine HH.out.mono ?_
  rintro e wH ⟨hok, _, hbH⟩
  obtain ⟨vH, rfl, hOH⟩ := hok Hth.out.1
  rw [Hth.out.2] at hOH
  have HBH := Lib.hid (HBG.out.trans (hbH.mono hzG))
  have HUH := Lib.hid (Row.below HUG.out hbH)
  have hOHr := OwnR.row hOH
  obtain ⟨gH, oH, cH, hvH, _, _, hcH1, hcH2, _, _⟩ := hOH.at0 (by rw [List.length_map, Hcl.out]; omega)
  rw [List.length_map, Hcl.out] at hvH hcH1
  subst hvH
  unfold maxLen at hcH2
  have hhd := row_headT hOHr (k := m) (by rw [List.length_map, Hcl.out]; omega)
  rw [← List.map_take, show cc.take m = data by rw [Hcc.out, Hm.out, List.take_left]] at hhd
  have HRH := Lib.hid hOHr
  have HT1 := Lib.hid (texts_eq data vG (.slice (some ⟨gd, od, none⟩) m cd) wH HUH.out (HD.out.below HBH.out))
  have HT2 := Lib.hid (fun q => texts_eq data (.slice (some ⟨gH, oH, none⟩) m cH) (.slice (some ⟨gd, od, none⟩) m cd) (wH.drewN q) (Row.below hhd (bdrew (Below.refl _ _) q)) (HD.out.below (bdrew HBH.out q)))
  have tb1 : (m : Int) ≤ (cH : Int) := by omega
  have tb2 : m ≤ cH := by omega
  have hzH := HBH.out.size
  clear hok hbH hOH HH HBG HUG HYG hOHr hhd hzG Hth Htn HUH
  go_wp2_with fail
  refine HT1.out.mono ?_
  rintro e wI ⟨rfl, n1, rfl⟩
  go_wp2_with fail
  refine (HT2.out n1).mono ?_
  rintro e wJ ⟨rfl, n2, rfl⟩
  obtain ⟨wJ, hwJ⟩ : ∃ wJ, wJ = (wH.drewN n1).drewN n2 := ⟨_, rfl⟩
  have HBJ : Hid (Below w.heap.size w wJ) := Lib.hid (by rw [hwJ]; exact bdrew (bdrew HBH.out n1) n2)
  have HRJ : Hid (Strs wJ (.slice (some ⟨gH, oH, none⟩) N cH) cc) := Lib.hid (by rw [hwJ]; exact Row.below HRH.out (bdrew (bdrew (Below.refl _ _) n1) n2))
  rw [← hwJ]
  have hzJ := HBJ.out.size
  clear hwJ HT1 HT2 HRH HBH tb1 tb2 hzH
  have hblk : blkF cc = 0 := blkF_all (fun s hs => Hcw.out.sz h1 s hs) h16
  by_cases hE0 : E = 0
  · have hrow := rowF_zero (HE.out.symm.trans hE0)
    obtain ⟨r, rfl⟩ : ∃ r : Nat, row = r := ⟨row.toNat, by omega⟩
    have hF0 : rowF (r : Int) cc = 0 := HE.out.symm.trans hE0
    have hpbe : pb = packB r cc := by rw [Hpb.out, if_pos hF0]; rfl
    have hpk := pack_back hF0
    have hok := pack_ok hF0
    have hpsz : (packB r cc).size ≤ 9223372036854775807 := by
      rw [packB_size (fun s hs => by rw [Hcw.out.sz h1 s hs, Gv.size0_of (Hcw.out.sz h1) (by rw [Hcl.out]; omega)]), Hcl.out, Gv.size0_of (Hcw.out.sz h1) (by rw [Hcl.out]; omega)]
      have := Nat.mul_le_mul hN12 h16
      omega
    have HUn : Hid (Calls Try.prog 23 #[.string pb] wJ fun e w' => ∃ v, e = .returned (.tuple #[iv r, v, .nilIface]) ∧ Strs w' v cc ∧ Below wJ.heap.size wJ w') := Lib.hid (by
      rw [hpbe]
      refine (unpack_any (packB r cc) hpsz wJ).mono ?_
      rintro e w' (⟨_, v, rfl, hs, hb⟩ | ⟨hno, _⟩)
      · rw [hpk.1]
        rw [hpk.2.2.2] at hs
        exact ⟨v, rfl, hs, hb⟩
      · exact absurd hok hno)
    have hve0 : ve = .nilIface := by rw [Hve.out, hE0]; rfl
    subst hve0
    clear hrow hF0 hpbe hpk hok hpsz hE0 hblk
    go_wp2_with fail
    refine HUn.out.mono ?_
    rintro e wK ⟨vK, rfl, hsK, hbK⟩
    have HT3 := Lib.hid (texts_eq cc vK (.slice (some ⟨gH, oH, none⟩) N cH) wK hsK (HRJ.out.below hbK))
    have HBK := Lib.hid (HBJ.out.trans (hbK.mono hzJ))
    clear hsK hbK HUn
    go_wp2_with fail
    refine HT3.out.mono ?_
    rintro e wL ⟨rfl, n3, rfl⟩
    have HBL := Lib.hid (bdrew HBK.out n3)
    clear HT3 HBK
    go_wp2_with fail
    go_ret
    exact ⟨rfl, HBL.out⟩
  · have hrow : row < 0 ∨ 20 ≤ row := by
      apply Classical.byContradiction
      intro hc
      refine hE0 (HE.out.trans ?_)
      unfold rowF
      rw [if_neg hc, if_neg (by rw [Hcl.out]; omega)]
      exact hblk
    have hve1 : ve = ev E := by rw [Hve.out, errV_ne hE0]
    subst hve1
    by_cases hr0 : row < 0
    · have tr := dec_t hr0
      clear hrow hr0 hE0 hblk
      go_wp2_with fail
      go_ret
      exact ⟨rfl, HBJ.out⟩
    · have tr := dec_f hr0
      have tr2 : decide (19 < row) = true := dec_t (by omega)
      clear hrow hr0 hE0 hblk
      go_wp2_with fail
      go_ret
      exact ⟨rfl, HBJ.out⟩
theorem topCodes_walk (row : Int) (v : Value) (i k : Int) (hr : (Lit.int .i64 row).wf = true) (hi : (Lit.int .i64 i).wf = true) (hk : (Lit.int .i64 k).wf = true) (w : World) (fd : ∃ ss, Strs w v ss ∧ ∀ s ∈ ss, s.size ≤ maxLen) :
    Calls Try.prog 4 #[iv row, v, iv i, iv k] w fun e w' => e = .returned (.bool true) ∧ Below w.heap.size w w' := by
  obtain ⟨data, hd, _⟩ := fd
  by_cases h : encF (data.length : Int) 2 data ≠ 0 ∨ Gv.pqF data ≠ 0
  · exact topCodes_err row i k data v w hd h
  · have hF : encF (data.length : Int) 2 data = 0 := Classical.byContradiction (fun hc => h (.inl hc))
    have hG : Gv.pqF data = 0 := Classical.byContradiction (fun hc => h (.inr hc))
    have hz := pqF_zero hG
    by_cases hik : i < 0 ∨ (data.length : Int) + 2 ≤ i ∨ k < 0 ∨ (data.length : Int) + 2 ≤ k
    · exact topCodes_out row i k data v w hd hF hG hz.1 hz.2.1 hik
    · obtain ⟨a, rfl⟩ : ∃ a : Nat, i = a := ⟨i.toNat, by omega⟩
      obtain ⟨b, rfl⟩ : ∃ b : Nat, k = b := ⟨k.toNat, by omega⟩
      exact topCodes_in row a b data v w hd hF hG hz.1 hz.2.1 (by omega) (by omega)
end Go.Proofs.Ytcldioneiededaa
