/- The walk of the law WireTells: it returns true. -/
import Derived.Test.YtoddoekmgkcomaaDoorWireV
import Derived.Test.YtoddoekmgkcomaaDoorSame
import Derived.Test.YtoddoekmgkcomaaDoorOpen
import Derived.RegionTactic
namespace Go.Proofs.YtoddoekmgkcomaaDoor
open Go.ChangeShapes Go.WideShapes Go.ChangeAt Go.RowKit
set_option linter.unusedVariables false
theorem conv1 (w : World) (a : UInt8) : (convert 36 9 (.slice (some ⟨w.heap.size, 0, none⟩) 1 1)).run Tryd.prog (w.alloc (.cells #[.int .u8 a.toNat] 5)) = .ok (.string ⟨#[a]⟩) (w.alloc (.cells #[.int .u8 a.toNat] 5)) := by
  have h := run_convert_bytes_back (P := Tryd.prog) (w.alloc (.cells #[.int .u8 a.toNat] 5)) 36 9 5 ⟨w.heap.size, 0, none⟩ 1 [a] Tryd.underlying36 Tryd.underlying5 Tryd.underlying9 (fun j hj => by
    rw [Addr.add_lit, Nat.zero_add, World.cell?_alloc_at _ _ _ _ rfl]
    have hj3 : j = 0 := by simp at hj; omega
    subst hj3; rfl)
  exact h
theorem torn_eq {b : ByteArray} {i : Nat} {c : UInt8} (h : i < b.size) : b.extract 0 i ++ ⟨#[c]⟩ ++ b.extract (i + 1) b.size = setB b i c := by
  apply ByteArray.ext
  apply Array.toList_inj.1
  rw [setB_list c h, ByteArray.data_append, ByteArray.data_append, ByteArray.data_extract, ByteArray.data_extract, Array.toList_append, Array.toList_append, Array.toList_extract, Array.toList_extract, List.extract_eq_take_drop, List.extract_eq_take_drop]
  have hl : b.data.toList.length = b.size := by simp
  rw [List.drop_zero, Nat.sub_zero, List.take_of_length_le (l := b.data.toList.drop (i + 1)) (by rw [List.length_drop, hl]; omega)]
  simp
theorem pack_any (row : Int) (ss : List ByteArray) (v : Value) (w : World) (hv : Strs w v ss) : Calls Tryd.prog 10 #[iv row, v] w (PackPost row ss w) := by
  by_cases hF : rowF row ss = 0
  · obtain ⟨r, rfl⟩ : ∃ r : Nat, row = r := ⟨row.toNat, by have := (rowF_zero hF).1; omega⟩
    refine (pack_yes r ss v w hv hF).mono ?_
    rintro e w' ⟨rfl, hb⟩
    exact ⟨by rw [if_pos hF, hF, Int.toNat_natCast]; rfl, hb⟩
  · exact pack_no row ss v w hv hF
theorem str_same (b : ByteArray) : (b.toList == b.toList) = true := by simp
def MendLoop (t : ByteArray) (i : Nat) (w : World) (gk : Nat) (e want c : Value) (wr : World) : Prop :=
  ∃ k : Nat, k + gk = 256 ∧ c = iv k ∧ Below w.heap.size w wr ∧ ((e = iv 5 ∧ want = .string ⟨#[]⟩ ∧ ∀ j, j < k → ¬ OkB (setB t i (UInt8.ofNat j))) ∨ ∃ j, j < 256 ∧ OkB (setB t i (UInt8.ofNat j)) ∧ e = iv 0 ∧ want = .string (setB t i (UInt8.ofNat j)))
set_option maxRecDepth 100000 in
set_option maxHeartbeats 8000000 in
theorem wireTells_core (row : Int) (v : Value) (ss : List ByteArray) (t : ByteArray) (i : Int) (ht : t.size ≤ 9223372036854775807) (w : World) (hv : Strs w v ss) (hg : Handle w) :
    Calls Tryd.prog 3 #[iv row, v, .string t, iv i] w fun e w' => e = .returned (.bool true) ∧ Below w.heap.size w w' := by
  have Hv := Lib.hid hv
  have Hg := Lib.hid hg
  obtain ⟨p0, c0, rfl, _⟩ := hv.get
  generalize hlen : ss.length = nn at *
  clear hv hg hlen
  go_enter Tryd.func3, Tryd.ntmps3
  go_wp2_with fail
  refine (rrow_any row ss _ _ Hv.out).mono ?_
  rintro e w1 ⟨rfl, nd, rfl⟩
  go_upto_if 31 with (fail)
  go_cut [10] (fun z wq => z = .string (if rowF row ss = 0 then packB row.toNat ss else ⟨#[]⟩) ∧ Below w.heap.size w wq)
  case first => as_aux_lemma =>
    by_cases hF : rowF row ss = 0
    · obtain ⟨r, hr⟩ : ∃ r : Nat, row = r := ⟨row.toNat, by have := (rowF_zero hF).1; omega⟩
      subst hr
      have HF := Lib.hid hF
      have t0 : (rowF r ss == 0) = true := beq_t hF
      have HG := Lib.hid (show (if rowF (r : Int) ss = 0 then packB ((r : Int)).toNat ss else ⟨#[]⟩) = packB r ss by rw [if_pos hF, Int.toNat_natCast])
      clear hF
      go_wp2_with fail
      refine (rpack_yes r ss _ _ (Hv.out.below (bdrew (Below.refl _ _) nd)) HF.out).mono ?_
      rintro e w2 ⟨rfl, hb⟩
      have Hb := Lib.hid ((bdrew (Below.refl w.heap.size w) nd).trans hb)
      clear hb
      go_wp2_with fail
      go_meet
      exact ⟨by rw [HG.out], Hb.out⟩
    · have t0 : (rowF row ss == 0) = false := beq_f hF
      have HG := Lib.hid (show (if rowF row ss = 0 then packB row.toNat ss else ⟨#[]⟩) = ⟨#[]⟩ by rw [if_neg hF])
      clear hF
      go_wp2_with fail
      go_meet
      exact ⟨by rw [HG.out], bdrew (Below.refl _ _) _⟩
  case rest =>
  obtain ⟨rfl, hb⟩ := hcut
  have HB2 := Lib.hid hb
  have Hv2 := Lib.hid (Hv.out.below hb)
  have HP := Lib.hid (fun w' (hv : Strs w' (.slice p0 nn c0) ss) => pack_any row ss (.slice p0 nn c0) w' hv)
  unfold PackPost at HP
  clear hb
  generalize (if rowF row ss = 0 then packB row.toNat ss else ⟨#[]⟩) = G at *
  generalize rowF row ss = E at *
  have hG := str_same G
  go_wp2_with fail
  refine (HP.out _ Hv2.out).mono ?_
  rintro e w3 ⟨rfl, hb⟩
  have HB3 := Lib.hid (HB2.out.trans (hb.mono HB2.out.size))
  have HG3 := Lib.hid (Hg.out.below (Nat.le_refl _) HB3.out)
  clear hb HP Hv Hv2 HB2
  go_wp2_with fail
  refine (same_eq E _ HG3.out).mono ?_
  rintro e w4 ⟨rfl, hb⟩
  have HB4 := Lib.hid (HB3.out.trans (hb.mono HB3.out.size))
  clear hb HB3 HG3
  go_wp2_with fail
  refine (runpack_any t ht _).mono ?_
  rintro e w5 ⟨v5, rfl, hs, hb⟩
  have HS5 := Lib.hid hs
  have HB5 := Lib.hid (HB4.out.trans (hb.mono HB4.out.size))
  obtain ⟨p5, c5, rfl, _⟩ := hs.get
  generalize (uL t).length = n5 at *
  clear hb hs HB4
  obtain ⟨z, hz⟩ : ∃ z, uB t = z := ⟨_, rfl⟩
  rw [hz]
  have HZ := Lib.hid hz
  clear hz
  go_upto_if 56 with (fail)
  go_cut [9, 14, 15] (fun e r l wq => e = iv (uE t) ∧ r = iv (uR t : Nat) ∧ (∃ p n c, l = .slice p n c) ∧ Strs wq l (uL t) ∧ w5 = wq)
  case first => as_aux_lemma =>
    by_cases hO : OkB t
    · obtain ⟨e1, e2, e3, e4⟩ := u_yes hO
      have E1 := Lib.hid e1
      obtain rfl := HZ.out.symm.trans e4
      clear e1 e2 e3 e4 hO
      go_wp2_with fail
      go_meet
      exact ⟨by rw [E1.out], rfl, ⟨_, _, _, rfl⟩, HS5.out, rfl⟩
    · obtain ⟨e1, e2, e3, e4⟩ := u_no hO
      have E1 := Lib.hid e1
      have E2 := Lib.hid e2
      have E3 := Lib.hid e3
      obtain rfl := HZ.out.symm.trans e4
      clear e1 e2 e3 e4 hO
      go_wp2_with fail
      go_meet
      exact ⟨by rw [E1.out], by rw [E2.out]; rfl, ⟨_, _, _, rfl⟩, by rw [E3.out]; exact strs_nil _, rfl⟩
  case rest =>
  obtain ⟨rfl, rfl, ⟨p6, n6, c6, rfl⟩, hs, rfl⟩ := hcut
  have HS6 := Lib.hid hs
  have HU := Lib.hid (fun w => unpack_tot t ht w)
  have hRR : ((uR t : Nat) : Int) == ((uR t : Nat) : Int) := by simp
  clear hs HS5
  generalize uE t = E2 at *
  generalize uR t = R2 at *
  generalize uL t = L2 at *
  go_wp2_with fail
  refine (HU.out _).mono ?_
  rintro e w6 ⟨v6, rfl, hs, hb⟩
  have HS7 := Lib.hid hs
  have HS6b := Lib.hid (HS6.out.below hb)
  have HB6 := Lib.hid (HB5.out.trans (hb.mono HB5.out.size))
  have HG6 := Lib.hid (Hg.out.below (Nat.le_refl _) HB6.out)
  clear hs hb HU HS6 HB5
  go_wp2_with fail
  refine (same_eq E2 _ HG6.out).mono ?_
  rintro e w7 ⟨rfl, hb⟩
  have HS8 := Lib.hid (HS7.out.below hb)
  have HS9 := Lib.hid (HS6b.out.below hb)
  have HB7 := Lib.hid (HB6.out.trans (hb.mono HB6.out.size))
  clear hb HS7 HS6b HB6 HG6
  go_wp2_with fail
  refine (texts_eq L2 _ _ _ HS8.out HS9.out).mono ?_
  rintro e w8 ⟨rfl, nd2, rfl⟩
  have HB8 := Lib.hid (bdrew HB7.out nd2)
  clear HS8 HS9 HB7
  go_wp2_with fail
  refine (sum_any t ht _).mono ?_
  rintro e w9 ⟨rfl, hb⟩
  have HB9 := Lib.hid (HB8.out.trans (hb.mono HB8.out.size))
  clear hb HB8
  have hSS := rsum_any t ht
  generalize wsum t.data.toList = SS at *
  have hSe : ((SS : Int) == (SS : Int)) = true := beq_t rfl
  go_wp2_with fail
  refine (hSS _).mono ?_
  rintro e w10 ⟨rfl, hw10⟩
  subst hw10
  clear hSS
  obtain ⟨bad, hbad⟩ : ∃ z : Bool, z = decide (i < 0 ∨ (t.size : Int) ≤ i) := ⟨_, rfl⟩
  have HBad := Lib.hid hbad
  clear hbad
  go_upto_region 18 with (fail)
  go_cut [88] (fun z wq => z = .bool bad ∧ w9 = wq)
  case first => as_aux_lemma =>
    by_cases h0 : i < 0
    · have HX := Lib.hid (show bad = true by rw [HBad.out]; exact decide_eq_true (.inl h0))
      go_wp2_with fail
      go_meet
      exact ⟨by rw [HX.out], rfl⟩
    · by_cases h1 : (t.size : Int) ≤ i
      · have HX := Lib.hid (show bad = true by rw [HBad.out]; exact decide_eq_true (.inr h1))
        go_wp2_with fail
        go_meet
        exact ⟨by rw [HX.out], rfl⟩
      · have HX := Lib.hid (show bad = false by rw [HBad.out]; exact decide_eq_false (by omega))
        go_wp2_with fail
        go_meet
        exact ⟨by rw [HX.out], rfl⟩
  case rest =>
  obtain ⟨rfl, rfl⟩ := hcut
  obtain ⟨e0, he0⟩ : ∃ z : Int, z = (if bad then 1 else 5) := ⟨_, rfl⟩
  have HE0 := Lib.hid he0
  clear he0
  go_upto_if 88 with (fail)
  go_cut [9] (fun e wq => e = iv e0 ∧ w9 = wq)
  case first => as_aux_lemma =>
    cases bad
    all_goals
      go_wp2_with fail
      go_meet
      exact ⟨by rw [HE0.out]; rfl, rfl⟩
  case rest =>
  obtain ⟨rfl, rfl⟩ := hcut
  go_upto_block 0 with (fail)
  go_cut [9, 10] (fun e want wq => e = iv (mE t i) ∧ want = .string (mS t i) ∧ Below w.heap.size w wq)
  case first => as_aux_lemma =>
    cases bad with
    | true =>
      have h01 : e0 = 1 := HE0.out
      subst h01
      obtain ⟨e1, e2⟩ := mend_out (t := t) (i := i) (of_decide_eq_true HBad.out.symm)
      have E1 := Lib.hid e1
      have E2' := Lib.hid e2
      clear e1 e2
      go_wp2_with fail
      go_loopg [9, 10, 21] 0 (fun gk e want c wr => e = iv 1 ∧ want = .string ⟨#[]⟩ ∧ c = iv 0 ∧ wr = w9)
      case atStart => exact ⟨rfl, rfl, rfl, rfl⟩
      case round =>
        obtain ⟨rfl, rfl, rfl, rfl⟩ := hrel
        go_wp2_with fail
        go_meet
        exact ⟨by rw [E1.out], by rw [E2'.out], HB9.out⟩
    | false =>
      have h05 : e0 = 5 := HE0.out
      subst h05
      have hin : ¬ (i < 0 ∨ (t.size : Int) ≤ i) := of_decide_eq_false HBad.out.symm
      obtain ⟨n, rfl⟩ : ∃ n : Nat, i = n := ⟨i.toNat, by omega⟩
      have hn : n < t.size := by omega
      have hi2 : (n : Int) + 1 ≤ (t.size : Int) := by omega
      have hi1 : (n : Int) ≤ (t.size : Int) := by omega
      have hw1 : IntKind.i64.wrap ((n : Int) + 1) = (n : Int) + 1 := IntWalk.i64_in _ (by omega)
      clear hin
      go_wp2_with fail
      go_loopg [9, 10, 21] 256 (fun gk e want c wr => MendLoop t n w gk e want c wr)
      case atStart => exact ⟨0, by omega, rfl, HB9.out, .inl ⟨rfl, rfl, fun j hj => by omega⟩⟩
      case round =>
        obtain ⟨k, hk, rfl, hb, hst⟩ := hrel
        have Hk := Lib.hid hk
        have HBk := Lib.hid hb
        have hk256 : k ≤ 256 := by omega
        clear hk hb
        rcases hst with ⟨rfl, rfl, hno⟩ | ⟨j, hj, hok, rfl, rfl⟩
        · have HNO := Lib.hid hno
          clear hno
          by_cases hlt : k < 256
          · have hwr := wrap8 (x := (k : Int)) (by omega) (by omega)
            go_upto_region 24 with (fail)
            go_cut [22] (fun s wq => s = .string (setB t n (UInt8.ofNat k)) ∧ Below wr.heap.size wr wq)
            case first => as_aux_lemma =>
              have hcv : (convert 36 9 (.slice (some ⟨wr.heap.size, 0, none⟩) 1 1)).run Tryd.prog (wr.alloc (.cells #[.int .u8 (k : Int)] 5)).drew = .ok (.string ⟨#[UInt8.ofNat k]⟩) (wr.alloc (.cells #[.int .u8 (k : Int)] 5)).drew := by
                have h := conv1 wr.drew (UInt8.ofNat k)
                rw [ofNat8 hlt] at h
                exact h
              go_region
              go_wp2_with fail
              go_meet
              exact ⟨by rw [torn_eq hn], ((bdrew (Below.refl _ _) _).alloc (Nat.le_refl _) _)⟩
            case rest =>
            obtain ⟨rfl, hb⟩ := hcut
            have HBq := Lib.hid (HBk.out.trans (hb.mono HBk.out.size))
            have hTs := setB_size t n (UInt8.ofNat k)
            have hsz2 : (setB t n (UInt8.ofNat k)).size ≤ 9223372036854775807 := by omega
            have HT := Lib.hid (rfl : setB t n (UInt8.ofNat k) = setB t n (UInt8.ofNat k))
            clear hb hTs
            go_wp2_with fail
            refine (runpack_any _ hsz2 _).mono ?_
            rintro e wu ⟨vu, rfl, _, hb⟩
            have HBu := Lib.hid (HBq.out.trans (hb.mono HBq.out.size))
            clear hb
            by_cases hO : OkB (setB t n (UInt8.ofNat k))
            · obtain ⟨_, _, _, e4⟩ := u_yes hO
              have HO := Lib.hid hO
              rw [e4]
              clear hO e4
              go_wp2_with fail
              go_roundg (gk - 1)
              case measure => have := Hk.out; omega
              case rel => exact ⟨k + 1, by have := Hk.out; omega, by go_num, HBu.out, .inr ⟨k, hlt, HO.out, rfl, rfl⟩⟩
            · obtain ⟨_, _, _, e4⟩ := u_no hO
              have HO := Lib.hid hO
              rw [e4]
              clear hO e4
              go_wp2_with fail
              go_roundg (gk - 1)
              case measure => have := Hk.out; omega
              case rel => exact ⟨k + 1, by have := Hk.out; omega, by go_num, HBu.out, .inl ⟨rfl, rfl, fun j hj => by
                by_cases hjk : j = k
                · subst hjk; exact HO.out
                · exact HNO.out j (by omega)⟩⟩
          · obtain rfl : k = 256 := by omega
            obtain ⟨e1, e2⟩ := mend_miss hn HNO.out
            have E1 := Lib.hid e1
            have E2' := Lib.hid e2
            clear e1 e2
            go_wp2_with fail
            go_meet
            exact ⟨by rw [E1.out], by rw [E2'.out], HBk.out⟩
        · obtain ⟨e1, e2⟩ := mend_hit hn hok
          have E1 := Lib.hid e1
          have E2' := Lib.hid e2
          clear e1 e2 hok
          by_cases hlt : k < 256
          · have b256 : decide ((k : Int) < 256) = true := dec_t (by omega)
            go_wp2_with fail
            go_meet
            exact ⟨by rw [E1.out], by rw [E2'.out], HBk.out⟩
          · have b256 : decide ((k : Int) < 256) = false := dec_f (by omega)
            go_wp2_with fail
            go_meet
            exact ⟨by rw [E1.out], by rw [E2'.out], HBk.out⟩
  case rest =>
  obtain ⟨rfl, rfl, hb⟩ := hcut
  have HBm := Lib.hid hb
  have HM := Lib.hid (fun w => mend_any t i ht w)
  clear hb HB9 HE0 HBad
  generalize mE t i = E3 at *
  generalize mS t i = S3 at *
  have hS3 := str_same S3
  go_wp2_with fail
  refine (HM.out _).mono ?_
  rintro e wa ⟨rfl, hb⟩
  have HBa := Lib.hid (HBm.out.trans (hb.mono HBm.out.size))
  have HGa := Lib.hid (Hg.out.below (Nat.le_refl _) HBa.out)
  clear hb HM HBm
  go_wp2_with fail
  refine (same_eq E3 _ HGa.out).mono ?_
  rintro e wb ⟨rfl, hb⟩
  have HBb := Lib.hid (HBa.out.trans (hb.mono HBa.out.size))
  clear hb
  go_wp2_with fail
  go_ret
  exact ⟨rfl, HBb.out⟩
theorem wireTells_walk (row : Int) (v : Value) (t : ByteArray) (i : Int) (hr : (Lit.int .i64 row).wf = true) (ht : t.size ≤ maxLen) (hi : (Lit.int .i64 i).wf = true) (w : World) (hg : Handle w) (hv : ∃ ss, Strs w v ss ∧ ∀ s ∈ ss, s.size ≤ maxLen) :
    Calls Tryd.prog 3 #[iv row, v, .string t, iv i] w fun e w' => e = .returned (.bool true) ∧ Below w.heap.size w w' := by
  obtain ⟨ss, hs, _⟩ := hv
  unfold maxLen at ht
  exact wireTells_core row v ss t i (by omega) w hs hg
end Go.Proofs.YtoddoekmgkcomaaDoor
