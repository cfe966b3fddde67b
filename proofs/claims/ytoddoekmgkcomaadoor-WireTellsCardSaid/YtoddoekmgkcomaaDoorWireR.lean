/- The walks of the reference's Sum, Blocks, Row, Pack. -/
import Derived.Test.YtoddoekmgkcomaaDoorWireM
import Derived.Test.YtoddoekmgkcomaaDoorTexts
namespace Go.Proofs.YtoddoekmgkcomaaDoor
open Go.ChangeShapes Go.WideShapes Go.ChangeAt Go.RowKit
set_option linter.unusedVariables false
def RSumRel (l : List UInt8) (n : Nat) (w : World) (gk : Nat) (t i : Value) (wr : World) : Prop :=
  ∃ k : Nat, k + gk = n ∧ i = iv k ∧ t = iv (wsum (l.take k) : Nat) ∧ wr = w
set_option maxRecDepth 100000 in
theorem rsum_any (s : ByteArray) (hs : s.size ≤ 9223372036854775807) (w : World) :
    Calls Tryd.prog 16 #[.string s] w fun e w' => e = .returned (iv (wsum s.data.toList : Nat)) ∧ w = w' := by
  have hidx := fun k (h : k < s.size) w => idx_str (b := s) (i := k) (k : Int) rfl h w
  have hll : s.data.toList.length = s.size := by simp
  have Hidx := Lib.hid hidx
  generalize hl : s.data.toList = l at *
  have Hll := Lib.hid hll
  clear hl hll hidx
  go_enter Tryd.func16, Tryd.ntmps16
  go_wp2_with fail
  go_loopg [3, 4] s.size (fun gk t i wr => RSumRel l s.size w gk t i wr)
  case atStart => exact ⟨0, by omega, rfl, rfl, rfl⟩
  case round =>
    obtain ⟨k, hk, rfl, rfl, rfl⟩ := hrel
    have Hk := Lib.hid hk
    have hlt' := wsum_lt (l.take k)
    by_cases hlt : k < s.size
    · obtain ⟨c, hcc⟩ : ∃ c, l[k]? = some c := ⟨l[k]'(by rw [Hll.out]; exact hlt), List.getElem?_eq_getElem _⟩
      have hgd : l.getD k 0 = c := by rw [List.getD_eq_getElem?_getD, hcc]; rfl
      have g1 := Hidx.out k hlt
      rw [hgd] at g1
      have hsn : wsum (l.take (k + 1)) = (wsum (l.take k) * 256 + c.toNat) % 65521 := by
        rw [List.take_add_one, hcc]; exact wsum_snoc _ _
      have Hsn := Lib.hid hsn
      have hcl := c.toNat_lt
      generalize wsum (l.take k) = x at *
      clear hk hcc hsn hgd
      go_wp2_with fail
      go_roundg (gk - 1)
      case measure => have := Hk.out; omega
      case rel => exact ⟨k + 1, by have := Hk.out; omega, by go_num, by rw [Hsn.out]; go_num, rfl⟩
    · obtain rfl : k = s.size := by omega
      have Ht := Lib.hid (List.take_of_length_le (Nat.le_of_eq Hll.out))
      clear hk
      go_wp2_with fail
      go_ret
      exact ⟨by rw [Ht.out]; rfl, rfl⟩
def RBlkRel (ss : List ByteArray) (w : World) (gk : Nat) (i : Value) (wr : World) : Prop :=
  ∃ k nd : Nat, k + gk = ss.length ∧ i = iv k ∧ wr = w.drewN nd ∧ ∀ (j : Nat) (s s0 : ByteArray), j < k → ss[j]? = some s → ss[0]? = some s0 → s.size = s0.size
set_option maxRecDepth 100000 in
theorem rblocks_any (ss : List ByteArray) (v : Value) (w : World) (hv : Strs w v ss) :
    Calls Tryd.prog 50 #[v] w fun e w' => e = .returned (iv (blkF ss)) ∧ ∃ n, w.drewN n = w' := by
  obtain ⟨p, cap, rfl, hl, hc⟩ := hv.get
  have Hc := Lib.hid hc
  generalize hn : ss.length = n at *
  have Hn := Lib.hid hn
  clear hv hc hn
  go_enter Tryd.func50, Tryd.ntmps50
  go_wp2_with fail
  go_loopg [3] n (fun gk i wr => RBlkRel ss w gk i wr)
  case atStart => exact ⟨0, 0, by rw [Hn.out]; omega, rfl, rfl, fun j _ _ hj => by omega⟩
  case round =>
    obtain ⟨k, nd, hk, rfl, rfl, hall⟩ := hrel
    rw [Hn.out] at hk
    have Hk := Lib.hid hk
    have Hall := Lib.hid hall
    clear hk hall
    by_cases hlt : k < n
    · obtain ⟨s, hs⟩ : ∃ s, ss[k]? = some s := ⟨ss[k]'(by rw [Hn.out]; exact hlt), List.getElem?_eq_getElem _⟩
      obtain ⟨s0, hs0⟩ : ∃ s, ss[0]? = some s := ⟨ss[0]'(by rw [Hn.out]; omega), List.getElem?_eq_getElem _⟩
      obtain ⟨g, o, hp, c1, _⟩ := Hc.out k s hs
      obtain ⟨g', o', hp', c0, _⟩ := Hc.out 0 s0 hs0
      have e : g' = g ∧ o' = o := by rw [hp] at hp'; injection hp' with hp'; injection hp' with h1 h2; exact ⟨h1.symm, h2.symm⟩
      obtain ⟨rfl, rfl⟩ := e
      subst hp
      rw [Nat.add_zero] at c0
      have Hs := Lib.hid hs
      have Hs0 := Lib.hid hs0
      have hn0 : 0 < n := by omega
      clear hs hs0 hp'
      by_cases he : s.size = s0.size
      · have t1 : ((s.size : Int) != (s0.size : Int)) = false := bne_f (by omega)
        have He := Lib.hid he
        clear he
        go_wp2_with fail
        go_quiet (fail)
        go_wp2_with fail
        go_roundg (gk - 1)
        case measure => have := Hk.out; omega
        case rel =>
          refine ⟨k + 1, _, by rw [Hn.out]; have := Hk.out; omega, by go_num, rfl, fun j s' s0' hj h1 h2 => ?_⟩
          by_cases e : j = k
          · subst e
            rw [Hs.out] at h1; rw [Hs0.out] at h2
            obtain rfl := Option.some.inj h1
            obtain rfl := Option.some.inj h2
            exact He.out
          · exact Hall.out j s' s0' (by omega) h1 h2
      · have t1 : ((s.size : Int) != (s0.size : Int)) = true := bne_t (by omega)
        have HB := Lib.hid (blkF_bad Hs0.out Hs.out he)
        clear he
        go_wp2_with fail
        go_quiet (fail)
        go_wp2_with fail
        go_ret
        exact ⟨by rw [HB.out]; rfl, nd + nq, by simp⟩
    · obtain rfl : k = n := by have := Hk.out; omega
      clear hlt
      by_cases h0 : 0 < k
      · obtain ⟨s0, hs0⟩ : ∃ s, ss[0]? = some s := ⟨ss[0]'(by rw [Hn.out]; omega), List.getElem?_eq_getElem _⟩
        obtain ⟨g', o', rfl, c0, _⟩ := Hc.out 0 s0 hs0
        rw [Nat.add_zero] at c0
        have HG := Lib.hid (blkF_good hs0 (fun j s hj => Hall.out j s s0 (by rw [← Hn.out]; exact (List.getElem?_eq_some_iff.1 hj).1) hj hs0))
        clear hs0
        have d0 := dec_t h0
        by_cases hs : 16 < s0.size
        · have d1 : decide (16 < (s0.size : Int)) = true := dec_t (by omega)
          have HS := Lib.hid (if_pos hs : (if s0.size > 16 then (1 : Int) else 0) = 1)
          go_wp2_with fail
          go_ret
          exact ⟨by rw [HG.out, HS.out]; rfl, _, rfl⟩
        · have d1 : decide (16 < (s0.size : Int)) = false := dec_f (by omega)
          have HS := Lib.hid (if_neg hs : (if s0.size > 16 then (1 : Int) else 0) = 0)
          go_wp2_with fail
          go_ret
          exact ⟨by rw [HG.out, HS.out]; rfl, _, rfl⟩
      · have h00 : k = 0 := by omega
        subst h00
        have HE : Hid (blkF ss = 0) := Lib.hid (by rw [List.eq_nil_of_length_eq_zero Hn.out]; rfl)
        go_wp2_with fail
        go_ret
        exact ⟨by rw [HE.out]; rfl, _, rfl⟩
theorem rrow_any (row : Int) (ss : List ByteArray) (v : Value) (w : World) (hv : Strs w v ss) :
    Calls Tryd.prog 8 #[iv row, v] w fun e w' => e = .returned (iv (rowF row ss)) ∧ ∃ n, w.drewN n = w' := by
  obtain ⟨p, cap, rfl, hl, _⟩ := hv.get
  have Hv := Lib.hid hv
  clear hv
  by_cases h1 : row < 0
  · have HF : Hid (rowF row ss = 1) := Lib.hid (by rw [rowF, if_pos (.inl h1)])
    go_enter Tryd.func8, Tryd.ntmps8
    go_wp2
    go_ret
    exact ⟨by rw [HF.out]; rfl, 0, rfl⟩
  · by_cases h2 : 20 ≤ row
    · have HF : Hid (rowF row ss = 1) := Lib.hid (by rw [rowF, if_pos (.inr h2)])
      go_enter Tryd.func8, Tryd.ntmps8
      go_wp2
      go_ret
      exact ⟨by rw [HF.out]; rfl, 0, rfl⟩
    · have h0 : ¬ (row < 0 ∨ 20 ≤ row) := by omega
      by_cases h3 : 12 < ss.length
      · have HF : Hid (rowF row ss = 4) := Lib.hid (by rw [rowF, if_neg h0, if_pos h3])
        have h3' : (12 : Int) < (ss.length : Int) := by omega
        generalize ss.length = n at *
        go_enter Tryd.func8, Tryd.ntmps8
        go_wp2
        go_ret
        exact ⟨by rw [HF.out]; rfl, 0, rfl⟩
      · have HF : Hid (rowF row ss = blkF ss) := Lib.hid (by rw [rowF, if_neg h0, if_neg h3])
        have h3' : ¬ (12 : Int) < (ss.length : Int) := by omega
        clear h0
        go_enter Tryd.func8, Tryd.ntmps8
        go_wp2_with fail
        refine (rblocks_any ss _ _ Hv.out).mono ?_
        rintro e w' ⟨rfl, nd, rfl⟩
        go_wp2_with fail
        go_ret
        exact ⟨by rw [HF.out]; rfl, _, rfl⟩
set_option maxRecDepth 100000 in
set_option maxHeartbeats 1000000 in
theorem rpack_yes (row : Nat) (ss : List ByteArray) (v : Value) (w : World) (hv : Strs w v ss) (hF : rowF row ss = 0) :
    Calls Tryd.prog 9 #[iv row, v] w fun e w' => e = .returned (.string (packB row ss)) ∧ Below w.heap.size w w' := by
  have h20 : row < 20 ∧ ss.length ≤ 12 ∧ blkF ss = 0 := by
    unfold rowF at hF
    split at hF
    · omega
    · split at hF
      · omega
      · exact ⟨by omega, by omega, hF⟩
  obtain ⟨h20, h12, hB⟩ := h20
  obtain ⟨hall, h16⟩ := blkF_zero hB
  have hss : ∀ k, k ≤ ss.length → (body row ss k).size ≤ 1000 := fun k hk => by
    rw [body_size hall k hk]
    have := Nat.mul_le_mul (Nat.le_trans hk h12) h16
    omega
  have Hsz := Lib.hid hss
  have Hs16 : Hid (∀ s ∈ ss, s.size ≤ 16) := Lib.hid (fun s hs => by rw [hall s hs]; exact h16)
  obtain ⟨p, cap, rfl, hl, hc⟩ := hv.get
  have Hv := Lib.hid hv
  have Hc := Lib.hid hc
  clear hv hc hF hB hss hall
  generalize hn : ss.length = n at *
  generalize hsz : size0 ss = sz at *
  have Hn := Lib.hid hn
  have Hz := Lib.hid hsz
  have HB0 := Lib.hid (body0 (row := row) hn hsz)
  have w1 := wrap8 (x := (row : Int)) (by omega) (by omega)
  have w2 := wrap8 (x := (n : Int)) (by omega) (by omega)
  have w3 := wrap8 (x := (sz : Int)) (by omega) (by omega)
  have hcv := conv3 w (UInt8.ofNat row) (UInt8.ofNat n) (UInt8.ofNat sz)
  rw [ofNat8 (by omega), ofNat8 (by omega), ofNat8 (by omega)] at hcv
  generalize hb0 : (⟨#[UInt8.ofNat row, UInt8.ofNat n, UInt8.ofNat sz]⟩ : ByteArray) = b0 at *
  clear hn hsz hb0
  by_cases h0 : 0 < n
  · obtain ⟨s0, hs0⟩ : ∃ s, ss[0]? = some s := ⟨ss[0]'(by rw [Hn.out]; omega), List.getElem?_eq_getElem _⟩
    obtain ⟨g0, o0, hp0, c0, _⟩ := Hc.out 0 s0 hs0
    have hz0 : sz = s0.size := by
      have := Hz.out
      cases ss with
      | nil => simp at hs0
      | cons a l => simp at hs0; subst hs0; exact this.symm
    rw [Nat.add_zero] at c0
    subst hz0
    subst hp0
    clear hs0
    go_enter Tryd.func9, Tryd.ntmps9
    go_wp2_with fail
    go_loopg [7, 8] n (fun gk t i wr => PackRel row ss w.heap.size (w.alloc (.cells #[.int .u8 row, .int .u8 n, .int .u8 s0.size] 5)) gk t i wr)
    case atStart => exact ⟨0, by have := Hn.out; omega, rfl, by rw [HB0.out], rfl⟩
    case round =>
      obtain ⟨k, hk, rfl, rfl, rfl⟩ := hrel
      rw [Hn.out] at hk
      have Hk := Lib.hid hk
      by_cases hlt : k < n
      · obtain ⟨s, hs⟩ : ∃ s, ss[k]? = some s := ⟨ss[k]'(by rw [Hn.out]; exact hlt), List.getElem?_eq_getElem _⟩
        obtain ⟨g, o, hp, c1, hg⟩ := Hc.out k s hs
        have hgn : g ≠ w.heap.size := by omega
        cases hp
        have hb1 := Hsz.out k (by omega)
        have hb2 := Hs16.out s (List.mem_of_getElem? hs)
        have Hbk : Hid (body row ss (k + 1) = body row ss k ++ s) := Lib.hid (by rw [body, List.getD_eq_getElem?_getD, hs]; rfl)
        generalize body row ss k = b at *
        have hsum : b.size + s.size ≤ 9223372036854775807 := by omega
        clear hk hs
        go_wp2_with fail
        go_roundg (gk - 1)
        case measure => have := Hk.out; omega
        case rel => exact ⟨k + 1, by have := Hn.out; have := Hk.out; omega, by go_num, by rw [Hbk.out], rfl⟩
      · obtain rfl : k = n := by omega
        clear hlt
        have hb1 := Hsz.out k (by omega)
        have HP := Lib.hid (show packB row ss = body row ss k ++ ⟨#[UInt8.ofNat (wsum (body row ss k).data.toList / 256), UInt8.ofNat (wsum (body row ss k).data.toList % 256)]⟩ by unfold packB; rw [Hn.out])
        generalize body row ss k = b at *
        clear hk
        go_wp2_with fail
        refine (rsum_any b (by omega) _).mono ?_
        rintro e w2 ⟨rfl, hw2⟩
        have hx := wsum_lt b.data.toList
        generalize wsum b.data.toList = x at *
        have Hb : Hid (Below w.heap.size w w2) := Lib.hid (by rw [← hw2]; exact (Below.refl w.heap.size w).alloc (Nat.le_refl _) _)
        clear hw2
        have hq1 : (x : Int) / 256 < 256 := by omega
        have hq0 : 0 ≤ (x : Int) / 256 := by omega
        have hr1 : (x : Int) % 256 < 256 := by omega
        have hr0 : 0 ≤ (x : Int) % 256 := by omega
        have hu1 := wrap8 hq0 hq1
        have hu2 := wrap8 hr0 hr1
        have hcv := conv2 w2 (UInt8.ofNat (x / 256)) (UInt8.ofNat (x % 256))
        rw [ofNat8 (by omega), ofNat8 (by omega)] at hcv
        rw [Int.natCast_ediv, Int.natCast_emod, show ((256 : Nat) : Int) = 256 from rfl] at hcv
        generalize ht : (⟨#[UInt8.ofNat (x / 256), UInt8.ofNat (x % 256)]⟩ : ByteArray) = t at *
        have hts : t.size = 2 := by rw [← ht]; rfl
        have hsum : b.size + t.size ≤ 9223372036854775807 := by omega
        clear ht
        have HT := Lib.hid hts
        clear hts
        go_wp2_with fail
        go_ret
        exact ⟨by rw [HP.out]; rfl, Hb.out.alloc Hb.out.size _⟩
  · have hn0 : n = 0 := by omega
    have hz0 : sz = 0 := by
      have := Hz.out
      rw [List.eq_nil_of_length_eq_zero (Hn.out.trans hn0)] at this
      exact this.symm
    subst hn0 hz0
    rw [show (((0 : Nat) : Int)) = 0 from rfl] at hcv w2
    clear w3
    go_enter Tryd.func9, Tryd.ntmps9
    go_wp2_with fail
    go_loopg [7, 8] 0 (fun gk t i wr => PackRel row ss w.heap.size (w.alloc (.cells #[.int .u8 row, .int .u8 0, .int .u8 0] 5)) gk t i wr)
    case atStart => exact ⟨0, by have := Hn.out; omega, rfl, by rw [HB0.out], rfl⟩
    case round =>
      obtain ⟨k, hk, rfl, rfl, rfl⟩ := hrel
      rw [Hn.out] at hk
      have Hk := Lib.hid hk
      obtain rfl : k = 0 := by omega
      have hb1 := Hsz.out 0 (by omega)
      have HP := Lib.hid (show packB row ss = body row ss 0 ++ ⟨#[UInt8.ofNat (wsum (body row ss 0).data.toList / 256), UInt8.ofNat (wsum (body row ss 0).data.toList % 256)]⟩ by unfold packB; rw [Hn.out])
      generalize body row ss 0 = b at *
      clear hk
      go_wp2_with fail
      refine (rsum_any b (by omega) _).mono ?_
      rintro e w2 ⟨rfl, hw2⟩
      have hx := wsum_lt b.data.toList
      generalize wsum b.data.toList = x at *
      have Hb : Hid (Below w.heap.size w w2) := Lib.hid (by rw [← hw2]; exact (Below.refl w.heap.size w).alloc (Nat.le_refl _) _)
      clear hw2
      have hq1 : (x : Int) / 256 < 256 := by omega
      have hq0 : 0 ≤ (x : Int) / 256 := by omega
      have hr1 : (x : Int) % 256 < 256 := by omega
      have hr0 : 0 ≤ (x : Int) % 256 := by omega
      have hu1 := wrap8 hq0 hq1
      have hu2 := wrap8 hr0 hr1
      have hcv := conv2 w2 (UInt8.ofNat (x / 256)) (UInt8.ofNat (x % 256))
      rw [ofNat8 (by omega), ofNat8 (by omega)] at hcv
      rw [Int.natCast_ediv, Int.natCast_emod, show ((256 : Nat) : Int) = 256 from rfl] at hcv
      generalize ht : (⟨#[UInt8.ofNat (x / 256), UInt8.ofNat (x % 256)]⟩ : ByteArray) = t at *
      have hts : t.size = 2 := by rw [← ht]; rfl
      have hsum : b.size + t.size ≤ 9223372036854775807 := by omega
      clear ht
      have HT := Lib.hid hts
      clear hts
      go_wp2_with fail
      go_ret
      exact ⟨by rw [HP.out]; rfl, Hb.out.alloc Hb.out.size _⟩
end Go.Proofs.YtoddoekmgkcomaaDoor
