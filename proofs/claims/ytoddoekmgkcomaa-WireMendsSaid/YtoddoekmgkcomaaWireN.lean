/- The walk of the law WireMends: it returns true. -/
import Derived.Test.YtoddoekmgkcomaaWireM
import Derived.Test.YtoddoekmgkcomaaTexts
import Derived.Test.YtoddoekmgkcomaaWireL
import Derived.Deep.DeepCutAuto
import Derived.Deep.CutBlock
import Derived.RegionTactic
namespace Go.Proofs.Ytoddoekmgkcomaa
open Go.ChangeShapes Go.WideShapes Go.ChangeAt Go.RowKit
set_option linter.unusedVariables false
def strA : ByteArray := ⟨#[97]⟩
theorem packA_fact : (packB 1 [strA]).size = 6 ∧ (packB 1 [strA]).data.toList.getD 3 0 = 97 := by decide +kernel
theorem conv1 (w : World) (a : UInt8) : (convert 31 9 (.slice (some ⟨w.heap.size, 0, none⟩) 1 1)).run Try.prog (w.alloc (.cells #[.int .u8 a.toNat] 5)) = .ok (.string ⟨#[a]⟩) (w.alloc (.cells #[.int .u8 a.toNat] 5)) := by
  have h := run_convert_bytes_back (P := Try.prog) (w.alloc (.cells #[.int .u8 a.toNat] 5)) 31 9 5 ⟨w.heap.size, 0, none⟩ 1 [a] Try.underlying31 Try.underlying5 Try.underlying9 (fun j hj => by
    rw [Addr.add_lit, Nat.zero_add, World.cell?_alloc_at _ _ _ _ rfl]
    have hj3 : j = 0 := by simp at hj; omega
    subst hj3; rfl)
  exact h
theorem torn_eq {b : ByteArray} {i : Nat} {c : UInt8} (h : i < b.size) : b.extract 0 i ++ ⟨#[c]⟩ ++ b.extract (i + 1) b.size = setB b i c := by
  apply ByteArray.ext
  apply Array.toList_inj.1
  rw [setB_list c h, ByteArray.data_append, ByteArray.data_append, ByteArray.data_extract, ByteArray.data_extract, Array.toList_append, Array.toList_append, Array.toList_extract, Array.toList_extract, List.extract_eq_take_drop, List.extract_eq_take_drop]
  have hl : b.data.toList.length = b.size := by simp
  rw [List.drop_zero, Nat.sub_zero, List.take_of_length_le (l := b.data.toList.drop (i + 1)) (by rw [List.length_drop, hl]; omega)]
  simp
theorem strs_one (w : World) : Strs (w.alloc (.cells #[.string strA] 9)) (.slice (some ⟨w.heap.size, 0, none⟩) 1 1) [strA] :=
  ⟨_, 1, rfl, Nat.le_refl _, by decide, (fun h => by cases h), fun _ => ⟨_, 0, rfl, fun j hj => by
    have : j = 0 := by simp at hj; omega
    subst this
    rw [World.cell?_alloc_at _ _ _ _ rfl]; rfl⟩⟩
set_option maxRecDepth 100000 in
set_option maxHeartbeats 2000000 in
theorem wireMends_core (row : Int) (v : Value) (ss : List ByteArray) (t : ByteArray) (at' : Int) (tb : UInt8) (ht : t.size ≤ 9223372036854775807) (w : World) (hv : Strs w v ss) :
    Calls Try.prog 4 #[iv row, v, .string t, iv at', bv tb] w fun e w' => e = .returned (.bool true) ∧ Below w.heap.size w w' := by
  obtain ⟨sA, hA⟩ := packA_fact
  have idx3 := fun w => idx_str (b := packB 1 [strA]) (i := 3) 3 rfl (by rw [sA]; decide) w
  rw [hA] at idx3
  have t6 : (((packB 1 [strA]).size : Int) != 6) = false := bne_f (by omega)
  generalize hb3 : packB 1 [strA] = bA at *
  have Hv := Lib.hid hv
  have HbA := Lib.hid hb3
  clear hv sA hA hb3
  go_enter Try.func4, Try.ntmps4
  go_wp2_with fail
  refine (pack_yes 1 [strA] _ _ (strs_one w) rfl).mono ?_
  rintro e w1 ⟨rfl, hb⟩
  have Hv1 := Lib.hid ((Hv.out.below ((Below.refl _ _).alloc (Nat.le_refl _) _)).below hb)
  have Hb := Lib.hid (((Below.refl w.heap.size w).alloc (Nat.le_refl _) (.cells #[.string strA] 9)).trans (hb.mono (by simp)))
  rw [HbA.out]
  clear hb
  go_wp2_with fail
  refine (unpack_any t ht _).mono ?_
  intro e w2 hor
  have HOr := Lib.hid hor
  have hex : ∃ x y e', e = .returned (.tuple #[x, y, e']) := by
    rcases hor with ⟨_, v2, h, _⟩ | ⟨_, h, _⟩ <;> exact ⟨_, _, _, h⟩
  obtain ⟨x, y, e', rfl⟩ := hex
  have hb2 : Below w1.heap.size w1 w2 := by
    rcases hor with ⟨_, v2, _, _, h⟩ | ⟨_, _, h⟩ <;> exact h
  have Hv2 := Lib.hid (Hv1.out.below hb2)
  have Hb2 := Lib.hid (Hb.out.trans (hb2.mono Hb.out.size))
  clear hor hb2
  obtain ⟨f, hf⟩ : ∃ f : Bool, (f = true ↔ OkB t) := by
    classical
    exact ⟨decide (OkB t), by simp⟩
  have Hf := Lib.hid hf
  clear hf
  go_upto_region 5 with (fail)
  go_cut [46] (fun s wq => s = .bool f ∧ w2 = wq)
  case first => as_aux_lemma =>
    rcases HOr.out with ⟨hok, v2, h, hst, _⟩ | ⟨hno, h, _⟩
    · injection h with h
      simp only [Value.tuple.injEq, Array.mk.injEq, List.cons.injEq, and_true] at h
      obtain ⟨rfl, rfl, rfl⟩ := h
      have HF := Lib.hid (Hf.out.2 hok)
      clear hok hst
      go_wp2_with fail
      go_meet
      exact ⟨by rw [HF.out], rfl⟩
    · injection h with h
      simp only [Value.tuple.injEq, Array.mk.injEq, List.cons.injEq, and_true] at h
      obtain ⟨rfl, rfl, rfl⟩ := h
      have HF : Hid (f = false) := Lib.hid (by cases f with | true => exact absurd (Hf.out.1 rfl) hno | false => rfl)
      clear hno
      go_wp2_with fail
      go_meet
      exact ⟨by rw [HF.out], rfl⟩
  case rest =>
  obtain ⟨rfl, rfl⟩ := hcut
  go_upto_if 46 with (fail)
  go_cut [] (fun wq => Below w2.heap.size w2 wq)
  case first => as_aux_lemma =>
    cases f with
    | true =>
      have hok := Hf.out.1 rfl
      rcases HOr.out with ⟨_, v2, h, hst, _⟩ | ⟨hno, _⟩
      · injection h with h
        simp only [Value.tuple.injEq, Array.mk.injEq, List.cons.injEq, and_true] at h
        obtain ⟨rfl, rfl, rfl⟩ := h
        have Hst := Lib.hid hst
        have Hok := Lib.hid hok
        have hs : ((packB (byteAt t 0) (partsB t)).toList == t.toList) = true := by rw [str_beq, hok.same]; exact dec_t rfl
        clear hok hst
        go_wp2_with fail
        refine (pack_yes (byteAt t 0) (partsB t) _ _ Hst.out Hok.out.fault).mono ?_
        rintro e w3 ⟨rfl, hb⟩
        have Hb3 := Lib.hid hb
        clear hb
        generalize packB (byteAt t 0) (partsB t) = G at *
        go_wp2_with fail
        go_meet
        exact Hb3.out
      · exact absurd hok hno
    | false =>
      go_wp2_with fail
      go_meet
      exact Below.refl _ _
  case rest =>
    have Hv3 := Lib.hid (Hv2.out.below hcut)
    have Hb3 := Lib.hid (Hb2.out.trans (hcut.mono Hb2.out.size))
    clear hcut
    by_cases hF : rowF row ss = 0
    · obtain ⟨r, rfl⟩ : ∃ r : Nat, row = r := ⟨row.toNat, by have := rowF_zero hF; omega⟩
      have HF := Lib.hid hF
      have HOk := Lib.hid (pack_ok hF)
      obtain ⟨p0, p1, p2, p3⟩ := pack_back hF
      have hall := (blkF_zero (rowF_zero hF).2.2.2)
      have h12 := (rowF_zero hF).2.2.1
      have hps := packB_size (row := r) hall.1
      have hpz : ss.length * size0 ss ≤ 192 := Nat.le_trans (Nat.mul_le_mul h12 hall.2) (by omega)
      have P0 := Lib.hid p0
      have P3 := Lib.hid p3
      have hbs : (packB r ss).size ≤ 1000 := by omega
      clear hF p0 p1 p2 p3 hall hps hpz h12
      go_wp2_with fail
      refine (pack_yes r ss _ _ Hv3.out HF.out).mono ?_
      rintro e w4 ⟨rfl, hb⟩
      have Hv4 := Lib.hid (Hv3.out.below hb)
      have Hb4 := Lib.hid (Hb3.out.trans (hb.mono Hb3.out.size))
      clear hb
      generalize packB r ss = b at *
      go_wp2_with fail
      refine (unpack_yes b (by omega) HOk.out _).mono ?_
      rintro e w5 ⟨v5, rfl, hst, hb⟩
      rw [P0.out]
      rw [P3.out] at hst
      have Hst := Lib.hid hst
      have Hv5 := Lib.hid (Hv4.out.below hb)
      have Hb5 := Lib.hid (Hb4.out.trans (hb.mono Hb4.out.size))
      clear hb hst
      go_wp2_with fail
      refine (texts_eq ss _ _ _ Hst.out Hv5.out).mono ?_
      rintro e w6 ⟨rfl, nd, rfl⟩
      by_cases hin : 0 ≤ at' ∧ at' < b.size
      · obtain ⟨i, rfl⟩ : ∃ i : Nat, at' = i := ⟨at'.toNat, by omega⟩
        have hi : i < b.size := by omega
        have hd1 : decide (b.size ≤ i) = false := dec_f (by omega)
        have hd0 : decide ((i : Int) < 0) = false := dec_f (by omega)
        clear hin
        go_wp2_with fail
        go_cut [20] (fun s wq => s = .string (setB b i tb) ∧ Below w5.heap.size w5 wq)
        case first => as_aux_lemma =>
          have hcv := conv1 (w5.drewN (nd + 1)) tb
          simp only [World.heap_drewN] at hcv
          have hw1 : IntKind.i64.wrap ((i : Int) + 1) = (i : Int) + 1 := IntWalk.i64_in _ (by omega)
          have hi1 : (i : Int) ≤ (b.size : Int) := by omega
          have hi2 : (i : Int) + 1 ≤ (b.size : Int) := by omega
          go_region
          go_wp2_with fail
          go_meet
          exact ⟨by rw [torn_eq hi], ((bdrew (Below.refl _ _) _).alloc (Nat.le_refl _) _)⟩
        case rest =>
          obtain ⟨rfl, hb6⟩ := hcut
          have Hb6 := Lib.hid (Hb5.out.trans (hb6.mono Hb5.out.size))
          have HT := Lib.hid (rfl : setB b i tb = setB b i tb)
          have hOT := setB_ok (c := tb) HOk.out hi
          have hTs := setB_size b i tb
          clear hb6 HT
          generalize hT : setB b i tb = T at *
          have HT := Lib.hid hT.symm
          have HOT := Lib.hid hOT
          clear hT hOT
          go_wp2_with fail
          refine (mend_to T b i tb (by omega) hi HOk.out HT.out _).mono ?_
          rintro e w7 ⟨rfl, hb⟩
          have Hb7 := Lib.hid (Hb6.out.trans (hb.mono Hb6.out.size))
          clear hb
          go_wp2_with fail
          by_cases hc : tb = b.data.toList.getD i 0
          · have hTb : T = b := by rw [HT.out, hc, setB_same hi]
            have t9 : (T.toList == b.toList) = true := by rw [str_beq]; exact dec_t hTb
            have HO2 := Lib.hid (HOT.out.2 hc)
            clear hc hTb
            refine (unpack_yes T (by omega) HO2.out _).mono ?_
            rintro e w8 ⟨v8, rfl, _, hb⟩
            have Hb8 := Lib.hid (Hb7.out.trans (hb.mono Hb7.out.size))
            clear hb
            go_wp2_with fail
            go_ret
            exact ⟨rfl, Hb8.out⟩
          · have HO2 : Hid (¬ OkB T) := Lib.hid (fun h => hc (HOT.out.1 h))
            have hTb : T ≠ b := fun e => HO2.out (by rw [e]; exact HOk.out)
            have t9 : (T.toList == b.toList) = false := by rw [str_beq]; exact dec_f hTb
            clear hc hTb
            refine (unpack_no T (by omega) HO2.out _).mono ?_
            rintro e w8 ⟨rfl, hb⟩
            have Hb8 := Lib.hid (Hb7.out.trans (hb.mono Hb7.out.size))
            clear hb
            go_wp2_with fail
            go_ret
            exact ⟨rfl, Hb8.out⟩
      · by_cases h1 : at' < 0
        · have hd0 := dec_t h1
          clear hin
          go_wp2_with fail
          go_ret
          exact ⟨rfl, bdrew Hb5.out _⟩
        · have hd0 := dec_f h1
          have h2 : (b.size : Int) ≤ at' := by omega
          clear hin
          go_wp2_with fail
          go_ret
          exact ⟨rfl, bdrew Hb5.out _⟩
    · have HF := Lib.hid hF
      have HE := Lib.hid (errV_ne hF)
      clear hF
      go_wp2_with fail
      refine (pack_no row ss _ _ Hv3.out HF.out).mono ?_
      rintro e w4 ⟨rfl, hb⟩
      rw [HE.out]
      have Hb4 := Lib.hid (Hb3.out.trans (hb.mono Hb3.out.size))
      clear hb
      go_wp2_with fail
      go_ret
      exact ⟨rfl, Hb4.out⟩
theorem wireMends_walk (row : Int) (v : Value) (t : ByteArray) (i : Int) (c : Int) (hr : (Lit.int .i64 row).wf = true) (ht : t.size ≤ maxLen) (hi : (Lit.int .i64 i).wf = true) (hc : (Lit.int .u8 c).wf = true) (w : World) (hv : ∃ ss, Strs w v ss ∧ ∀ s ∈ ss, s.size ≤ maxLen) :
    Calls Try.prog 4 #[iv row, v, .string t, iv i, .int .u8 c] w fun e w' => e = .returned (.bool true) ∧ Below w.heap.size w w' := by
  obtain ⟨ss, hs, _⟩ := hv
  obtain ⟨tb, rfl⟩ := byte_of hc
  exact wireMends_core row v ss t i tb (by unfold maxLen at ht; omega) w hs
end Go.Proofs.Ytoddoekmgkcomaa
