/- The walks of the references' Code, Line, Parity. -/
import Derived.Test.YtbikmodfmckaeaaDoorCodR
import Derived.Test.YtbikmodfmckaeaaDoorRMatF
namespace Go.Proofs.YtbikmodfmckaeaaDoor
open Go.ChangeShapes Go.WideShapes Go.ChangeAt Go.RowKit
set_option linter.unusedVariables false
theorem rcode_any (k m : Int) (w : World) :
    Calls Tryd.prog 37 #[iv k, iv m] w fun e w' => e = .returned (iv (codF k m)) ∧ w = w' := by
  obtain ⟨F, hF⟩ : ∃ F, F = codF k m := ⟨_, rfl⟩
  rw [← hF]
  unfold codF at hF
  by_cases h1 : k < 1
  · rw [if_pos (.inl h1)] at hF
    subst hF
    have d1 : decide (k < 1) = true := dec_t h1
    go_enter Tryd.func37, Tryd.ntmps37
    go_wp2_with fail
    go_ret
    exact ⟨rfl, rfl⟩
  · have d1 : decide (k < 1) = false := dec_f h1
    by_cases h2 : m < 0
    · rw [if_pos (.inr (.inl h2))] at hF
      subst hF
      have d2 : decide (m < 0) = true := dec_t h2
      go_enter Tryd.func37, Tryd.ntmps37
      go_wp2_with fail
      go_ret
      exact ⟨rfl, rfl⟩
    · have d2 : decide (m < 0) = false := dec_f h2
      by_cases h3 : 12 < k
      · rw [if_pos (.inr (.inr (.inl h3)))] at hF
        subst hF
        have d3 : decide (12 < k) = true := dec_t h3
        go_enter Tryd.func37, Tryd.ntmps37
        go_wp2_with fail
        go_ret
        exact ⟨rfl, rfl⟩
      · have d3 : decide (12 < k) = false := dec_f h3
        by_cases h5 : 12 < m
        · rw [if_pos (.inr (.inr (.inr (by omega))))] at hF
          subst hF
          have d5 : decide (12 < m) = true := dec_t h5
          go_enter Tryd.func37, Tryd.ntmps37
          go_wp2_with fail
          go_ret
          exact ⟨rfl, rfl⟩
        · have d5 : decide (12 < m) = false := dec_f h5
          have hw : IntKind.i64.wrap (k + m) = k + m := IntWalk.i64_in _ (by omega)
          by_cases h4 : 12 - k < m
          · rw [if_pos (.inr (.inr (.inr h4)))] at hF
            subst hF
            have d4 : decide (12 < k + m) = true := dec_t (by omega)
            have d4' : 12 < k + m := by omega
            go_enter Tryd.func37, Tryd.ntmps37
            go_wp2_with fail
            go_ret
            exact ⟨rfl, rfl⟩
          · rw [if_neg (by omega)] at hF
            subst hF
            have d4 : decide (12 < k + m) = false := dec_f (by omega)
            have d4' : ¬ 12 < k + m := by omega
            go_enter Tryd.func37, Tryd.ntmps37
            go_wp2_with fail
            go_ret
            exact ⟨rfl, rfl⟩
def RLnRel (k i b : Nat) (w : World) (gk : Nat) (v6 : Value) (wr : World) : Prop :=
  ∃ j : Nat, j + gk = k ∧ v6 = iv j ∧ OwnB wr w.heap.size (.slice (some ⟨b, 0, none⟩) k k) (Gv.tab k (Gv.upto j (cG k i) (fun _ => 0))) ∧ Below w.heap.size w wr
theorem by8_ne {i j : Nat} (hi : i < 256) (hj : j < 256) (h : i ≠ j) : Gf.add (by8 i) (by8 j) ≠ 0 := by
  rw [Gf.add_def]
  intro e
  have h1 := UInt8.xor_eq_zero_iff.1 e
  have h2 := congrArg UInt8.toNat h1
  rw [by8_nat hi, by8_nat hj] at h2
  exact h h2
set_option maxRecDepth 100000 in
set_option maxHeartbeats 2000000 in
theorem rline_any (k i : Nat) (h1 : 1 ≤ k) (hk9 : k ≤ 100) (hi9 : i ≤ 200) (w : World) : Calls Tryd.prog 77 #[iv k, iv i] w (RwPost (Gv.tab k (cG k i)) w) := by
  have mk := make_bytesV k (by omega) w
  have hal : Below w.heap.size w (w.alloc (.cells (madeCells #[.int .u8 0] k) 5)) := (Below.refl _ _).alloc (Nat.le_refl _) _
  have hO := owns_made k (by omega) w
  obtain ⟨w1, hw1⟩ : ∃ w1, w1 = w.alloc (.cells (madeCells #[.int .u8 0] k) 5) := ⟨_, rfl⟩
  rw [← hw1] at mk hal hO
  obtain ⟨b, hb⟩ : ∃ b, b = w.heap.size := ⟨_, rfl⟩
  have hgb : w.heap.size ≤ b := by omega
  rw [← hb] at mk
  have hO' : OwnB w1 w.heap.size (.slice (some ⟨b, 0, none⟩) k k) (Gv.tab k (fun _ => 0)) := by rw [hb]; exact hO
  by_cases hik : i < k
  · obtain ⟨_, _, hx2, _, _, hce, hfe⟩ := OwnB.cells hO' (by rw [Gv.tab_len]; omega)
    have d2 := hce i hik
    have f2 := hfe (0 + i)
    rw [Nat.zero_add] at d2 f2
    have hO2 : OwnB (w1.setCell ⟨b, i, none⟩ (bv 1)) w.heap.size (.slice (some ⟨b, 0, none⟩) k k) (Gv.tab k (cG k i)) := by
      have h := OwnB.setAt hO' (k := i) (by rw [Gv.tab_len]; exact hik) 1
      rw [Nat.zero_add, Gv.tab_set] at h
      rw [Gv.tab_ext (g := cG k i)] at h
      · exact h
      · intro j _
        unfold cG
        rw [if_pos hik]
        unfold Mx.un
        by_cases e2 : j = i
        · rw [if_pos e2, if_pos e2.symm]
        · rw [if_neg e2, if_neg (fun h => e2 h.symm)]
    have hb2 : Below w.heap.size w (w1.setCell ⟨b, i, none⟩ (bv 1)) := hal.setCell (p := ⟨b, i, none⟩) hgb _
    have HO2 := Lib.hid hO2
    have HB2 := Lib.hid hb2
    have hkI : (i : Int) < (k : Int) := by omega
    have e0 : Gv.at' (Gv.tab k fun _ => 0) i = 0 := by show List.getD _ _ _ = _; rw [Gv.tab_at _ hik]
    rw [e0] at d2
    clear hx2 hce hfe hO hO' hO2 hb2 hal hw1 hb e0
    go_enter Tryd.func77, Tryd.ntmps77
    go_wp2_with fail
    go_ret
    exact ⟨_, rfl, HO2.out, HB2.out⟩
  · have hkI : ¬ (i : Int) < (k : Int) := by omega
    have HO := Lib.hid hO'
    have HB := Lib.hid hal
    clear hO hO' hal hw1 hb
    go_enter Tryd.func77, Tryd.ntmps77
    go_wp2_with fail
    go_loopg [6] k (fun gk v6 wr => RLnRel k i b w gk v6 wr)
    case atStart => exact ⟨0, by omega, rfl, by rw [Gv.upto_zero]; exact HO.out, HB.out⟩
    case round =>
      clear HO HB
      obtain ⟨j, hj, rfl, hO, hB⟩ := hrel
      have Hj := Lib.hid hj
      have HO := Lib.hid hO
      have HB := Lib.hid hB
      clear hj hO hB
      by_cases hjk : j < k
      · obtain ⟨_, _, hz1, _, _, hc, hf⟩ := OwnB.cells HO.out (by rw [Gv.tab_len]; omega)
        clear hz1
        have e0 := hc j hjk
        have fo := hf (0 + j)
        rw [Nat.zero_add] at e0 fo
        obtain ⟨z, hz⟩ : ∃ z, z = Gv.at' (Gv.tab k (Gv.upto j (cG k i) (fun _ => 0))) j := ⟨_, rfl⟩
        rw [← hz] at e0
        have w1' := wrap_u8_small i (by omega)
        have w2' := wrap_u8_small j (by omega)
        obtain ⟨c, hc'⟩ : ∃ c, c = Gf.add (by8 i) (by8 j) := ⟨_, rfl⟩
        have hne : c ≠ 0 := by rw [hc']; exact by8_ne (by omega) (by omega) (by omega)
        have hcG : cG k i j = Gf.inv c := by unfold cG; rw [if_neg hik, hc', Gf.add_def]
        have HPl : Hid (∀ W : World, Calls Tryd.prog 35 #[.int .u8 (i : Int), .int .u8 (j : Int)] W fun e w' => e = .returned (bv c) ∧ ∃ n, W.drewN n = w') := Lib.hid (fun W => by rw [hc']; exact rplus_any (by8 i) (by8 j) _ _ (by rw [by8_nat (by omega)]) (by rw [by8_nat (by omega)]) W)
        have HIv : Hid (∀ W : World, Calls Tryd.prog 34 #[bv c] W fun e w' => e = .returned (bv (Gf.inv c)) ∧ ∃ n, W.drewN n = w') := Lib.hid (fun W => rinv_any c hne _ rfl W)
        have HO2 : Hid (∀ W, Below wr.heap.size wr W → OwnB (W.setCell ⟨b, j, none⟩ (bv (Gf.inv c))) w.heap.size (.slice (some ⟨b, 0, none⟩) k k) (Gv.tab k (Gv.upto (j + 1) (cG k i) (fun _ => 0)))) := Lib.hid (fun W hW => by
          have h := OwnB.setAt (OwnR.below HO.out hW) (k := j) (by rw [Gv.tab_len]; exact hjk) (Gf.inv c)
          rw [Nat.zero_add] at h
          rw [← Gv.upto_set, hcG]
          exact h)
        have hjI : (j : Int) < (k : Int) := by omega
        clear hc hf hz hc' hne hcG
        go_wp2_with fail
        refine (HPl.out _).mono ?_
        rintro e w' ⟨rfl, n1, rfl⟩
        go_wp2_with fail
        refine (HIv.out _).mono ?_
        rintro e w' ⟨rfl, n2, rfl⟩
        have hbd : Below wr.heap.size wr ((wr.drewN n1).drewN n2) := (bdrew (Below.refl _ _) n1).trans (bdrew (Below.refl _ _) n2)
        have hO3 := Lib.hid (HO2.out _ hbd)
        have hB3 := Lib.hid ((HB.out.trans (hbd.mono HB.out.size)).setCell (p := ⟨b, j, none⟩) hgb (bv (Gf.inv c)))
        rw [World.drewN_drewN] at hO3 hB3
        try rw [World.drewN_drewN]
        clear HPl HIv HO2 HO HB hbd
        go_wp2_with fail
        go_roundg (gk - 1)
        case measure => have := Hj.out; omega
        case rel => exact ⟨j + 1, by have := Hj.out; omega, by go_num, hO3.out, hB3.out⟩
      · have hjk' : j = k := by have := Hj.out; omega
        subst hjk'
        rw [Gv.tab_upto] at HO
        go_wp2_with fail
        go_ret
        exact ⟨_, rfl, HO.out, HB.out⟩
def RPaRel (k m : Nat) (ls : List ByteArray) (w : World) (gk : Nat) (v7 v8 : Value) (wr : World) : Prop :=
  ∃ q : Nat, q + gk = m ∧ v8 = iv q ∧ wr.ownsRow w.heap.size 9 1 v7 q (esv k ls q) ∧ Below w.heap.size w wr
set_option maxRecDepth 100000 in
set_option maxHeartbeats 2000000 in
theorem rparity_any (k m : Nat) (h1 : 1 ≤ k) (h2 : k + m ≤ 12) (ls : List ByteArray) (hl : ls.length = k) (hall : ∀ s ∈ ls, s.size = size0 ls) (hn : size0 ls ≤ 16) (v : Value) (w : World) (hv : Strs w v ls) :
    Calls Tryd.prog 40 #[iv k, iv m, v] w (EnPost (encR k m ls) w) := by
  have HV := Lib.hid hv
  have Hl := Lib.hid hl
  have Hall := Lib.hid hall
  obtain ⟨pv, cv, rfl, hl9, _⟩ := hv.get
  rw [hl] at HV hl9 ⊢
  clear hv hl hall
  go_enter Tryd.func40, Tryd.ntmps40
  go_wp2_with fail
  go_loopg [7, 8, 9] m (fun gk v7 v8 v9 wr => RPaRel k m ls w gk v7 v8 wr)
  case atStart => exact ⟨0, by omega, rfl, World.ownsRow_nil _ _ _ _, Below.refl _ _⟩
  case round =>
    obtain ⟨q, hq, rfl, hO, hB⟩ := hrel
    have Hq := Lib.hid hq
    have HO := Lib.hid hO
    have HB := Lib.hid hB
    have hz := hB.size
    clear hq hO hB
    by_cases hqm : q < m
    · have hqI : (q : Int) < (m : Int) := by omega
      have hw : IntKind.i64.wrap ((k : Int) + (q : Int)) = ((k + q : Nat) : Int) := by rw [IntWalk.i64_in _ (by omega)]; omega
      have HLn := Lib.hid (rline_any k (k + q) h1 (by omega) (by omega) wr)
      unfold RwPost at HLn
      go_wp2_with fail
      refine HLn.out.mono ?_
      rintro e w2 ⟨v2, rfl, hO2, hb2⟩
      have hz2 := hb2.size
      have HBw := Lib.hid (HB.out.trans (hb2.mono hz))
      have HMx := Lib.hid (rmix_any ls (Gv.tab k (cG k (k + q))) Hall.out (by omega) (by rw [Gv.tab_len, Hl.out]; exact Nat.le_refl _) _ v2 w2 (HV.out.below HBw.out) (OwnB.row hO2))
      unfold CSumPost at HMx
      rw [show Gv.sumS ls (Gv.at' (Gv.tab k (cG k (k + q)))) = cPart k ls (k + q) from sumS_ext (fun i hi => by show List.getD _ _ _ = _; rw [Gv.tab_at _ (by rw [← Hl.out]; exact hi)])] at HMx
      clear hO2 HLn
      go_wp2_with fail
      refine HMx.out.mono ?_
      rintro e w3 ⟨rfl, hb3⟩
      have HB3 := Lib.hid (HBw.out.trans (hb3.mono HBw.out.size))
      have HO3 := Lib.hid (owns_below HO.out (hb2.trans (hb3.mono hz2)))
      have hz3 := HB3.out.size
      have hq9 : q + 1 ≤ 1000000 := by omega
      clear hb2 hb3 HMx HO HBw
      go_wp2_with (at_builtin; refine app1 w w3 _ 9 65 rfl _ _ rfl w.heap.size Tryd.underlying65 info_strS rfl _ q _ rfl _ rfl rfl HO3.out rfl hq9 (by decide) hz3 HB3.out ?_)
      intro v8 w8 hown8 hb8 hgr8 hat8
      rw [esv_succ] at hown8
      have HO8 := Lib.hid hown8
      have HB8 := Lib.hid hb8
      clear hown8 hb8 hgr8 hat8 HO3 HB3
      go_wp2_with fail
      go_roundg (gk - 1)
      case measure => have := Hq.out; omega
      case rel => exact ⟨q + 1, by have := Hq.out; omega, by go_num, HO8.out, HB8.out⟩
    · have hqm' : q = m := by have := Hq.out; omega
      have hOR := OwnR.of_owns HO.out
      rw [hqm', esv_enc] at hOR
      have HOR := Lib.hid hOR
      clear hOR HO
      go_wp2_with fail
      go_ret
      exact ⟨_, rfl, HOR.out, HB.out⟩
end Go.Proofs.YtbikmodfmckaeaaDoor
