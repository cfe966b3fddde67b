/- The walk of wire.Pack. -/
import Derived.Test.YtcldioneiededaaWireW
namespace Go.Proofs.Ytcldioneiededaa
open Go.ChangeShapes Go.WideShapes Go.ChangeAt Go.RowKit
set_option linter.unusedVariables false
def PackPost (row : Int) (ss : List ByteArray) (w : World) (e : Ending) (w' : World) : Prop :=
  e = .returned (.tuple #[.string (if rowF row ss = 0 then packB row.toNat ss else ⟨#[]⟩), errV (rowF row ss)]) ∧ Below w.heap.size w w'
def PackRel (row : Nat) (ss : List ByteArray) (B : Nat) (w : World) (gk : Nat) (t i : Value) (wr : World) : Prop :=
  ∃ k : Nat, k + gk = ss.length ∧ i = iv k ∧ t = .string (body row ss k) ∧ wr = w
theorem wrap8 {x : Int} (h0 : 0 ≤ x) (h1 : x < 256) : IntKind.u8.wrap x = x := by
  obtain ⟨n, rfl⟩ : ∃ n : Nat, x = n := ⟨x.toNat, by omega⟩
  simp [IntKind.wrap, IntKind.bits, IntKind.signed]; omega
theorem ofNat8 {n : Nat} (h : n < 256) : ((UInt8.ofNat n).toNat : Int) = n := by
  rw [UInt8.toNat_ofNat', Nat.mod_eq_of_lt h]
theorem conv3 (w : World) (a b c : UInt8) : (convert 74 9 (.slice (some ⟨w.heap.size, 0, none⟩) 3 3)).run Try.prog (w.alloc (.cells #[.int .u8 a.toNat, .int .u8 b.toNat, .int .u8 c.toNat] 5)) = .ok (.string ⟨#[a, b, c]⟩) (w.alloc (.cells #[.int .u8 a.toNat, .int .u8 b.toNat, .int .u8 c.toNat] 5)) := by
  have h := run_convert_bytes_back (P := Try.prog) (w.alloc (.cells #[.int .u8 a.toNat, .int .u8 b.toNat, .int .u8 c.toNat] 5)) 74 9 5 ⟨w.heap.size, 0, none⟩ 3 [a, b, c] Try.underlying74 Try.underlying5 Try.underlying9 (fun j hj => by
    rw [Addr.add_lit, Nat.zero_add, World.cell?_alloc_at _ _ _ _ rfl]
    have hj3 : j = 0 ∨ j = 1 ∨ j = 2 := by simp at hj; omega
    rcases hj3 with rfl | rfl | rfl <;> rfl)
  exact h
theorem conv2 (w : World) (a b : UInt8) : (convert 74 9 (.slice (some ⟨w.heap.size, 0, none⟩) 2 2)).run Try.prog (w.alloc (.cells #[.int .u8 a.toNat, .int .u8 b.toNat] 5)) = .ok (.string ⟨#[a, b]⟩) (w.alloc (.cells #[.int .u8 a.toNat, .int .u8 b.toNat] 5)) := by
  have h := run_convert_bytes_back (P := Try.prog) (w.alloc (.cells #[.int .u8 a.toNat, .int .u8 b.toNat] 5)) 74 9 5 ⟨w.heap.size, 0, none⟩ 2 [a, b] Try.underlying74 Try.underlying5 Try.underlying9 (fun j hj => by
    rw [Addr.add_lit, Nat.zero_add, World.cell?_alloc_at _ _ _ _ rfl]
    have hj3 : j = 0 ∨ j = 1 := by simp at hj; omega
    rcases hj3 with rfl | rfl <;> rfl)
  exact h
theorem pack_no (row : Int) (ss : List ByteArray) (v : Value) (w : World) (hv : Strs w v ss) (hF : rowF row ss ≠ 0) :
    Calls Try.prog 19 #[iv row, v] w (PackPost row ss w) := by
  obtain ⟨p, cap, hvv, hl, _⟩ := hv.get
  have Hv := Lib.hid hv
  clear hv
  unfold PackPost
  rw [if_neg hF]
  unfold rowF at *
  by_cases h1 : row < 0
  · rw [if_pos (.inl h1)]
    subst hvv
    clear hF
    go_enter Try.func19, Try.ntmps19
    go_wp2
    go_ret2
    exact ⟨rfl, Below.refl _ _⟩
  · by_cases h2 : 20 ≤ row
    · rw [if_pos (.inr h2)]
      subst hvv
      clear hF
      go_enter Try.func19, Try.ntmps19
      go_wp2
      go_ret2
      exact ⟨rfl, Below.refl _ _⟩
    · have h0 : ¬ (row < 0 ∨ 20 ≤ row) := by omega
      rw [if_neg h0] at hF ⊢
      by_cases h3 : 12 < ss.length
      · rw [if_pos h3]
        subst hvv
        have h3' : (12 : Int) < (ss.length : Int) := by omega
        generalize ss.length = n at *
        clear hF
        go_enter Try.func19, Try.ntmps19
        go_wp2
        go_ret2
        exact ⟨rfl, Below.refl _ _⟩
      · rw [if_neg h3] at hF ⊢
        subst hvv
        have h3' : ¬ (12 : Int) < (ss.length : Int) := by omega
        have HF := Lib.hid (errV_ne hF)
        clear hF
        go_enter Try.func19, Try.ntmps19
        go_wp2_with fail
        refine (blocks_any ss _ _ Hv.out).mono ?_
        rintro e w' ⟨rfl, rfl⟩
        rw [HF.out]
        go_wp2_with fail
        go_ret2
        exact ⟨by rw [HF.out]; rfl, Below.refl _ _⟩
theorem body0 {row n sz : Nat} {ss : List ByteArray} (hn : ss.length = n) (hsz : size0 ss = sz) : body row ss 0 = ⟨#[UInt8.ofNat row, UInt8.ofNat n, UInt8.ofNat sz]⟩ := by rw [body, hn, hsz]
set_option maxRecDepth 100000 in
set_option maxHeartbeats 1000000 in
theorem pack_yes (row : Nat) (ss : List ByteArray) (v : Value) (w : World) (hv : Strs w v ss) (hF : rowF row ss = 0) :
    Calls Try.prog 19 #[iv row, v] w fun e w' => e = .returned (.tuple #[.string (packB row ss), .nilIface]) ∧ Below w.heap.size w w' := by
  have h20 : row < 20 ∧ ss.length ≤ 12 ∧ blkF ss = 0 := by
    unfold rowF at hF
    split at hF
    · omega
    · split at hF
      · omega
      · exact ⟨by omega, by omega, hF⟩
  obtain ⟨h20, h12, hB⟩ := h20
  obtain ⟨hall, h16⟩ := blkF_zero hB
  have HF := Lib.hid hB
  have hss : ∀ k, k ≤ ss.length → (body row ss k).size ≤ 1000 := fun k hk => by
    rw [body_size hall k hk]
    have := Nat.mul_le_mul (Nat.le_trans hk h12) h16
    omega
  have Hsz := Lib.hid hss
  have Hs16 : Hid (∀ s ∈ ss, s.size ≤ 16) := Lib.hid (fun s hs => by rw [hall s hs]; exact h16)
  obtain ⟨p, cap, rfl, hl, hc⟩ := hv.get
  have Hv := Lib.hid hv
  have Hc := Lib.hid hc
  clear hv hc hF hB hss hall
  generalize hn : ss.length = n at *
  generalize hsz : size0 ss = sz at *
  have Hn := Lib.hid hn
  have Hz := Lib.hid hsz
  have HB0 := Lib.hid (body0 (row := row) hn hsz)
  have w1 := wrap8 (x := (row : Int)) (by omega) (by omega)
  have w2 := wrap8 (x := (n : Int)) (by omega) (by omega)
  have w3 := wrap8 (x := (sz : Int)) (by omega) (by omega)
  have hcv := conv3 w (UInt8.ofNat row) (UInt8.ofNat n) (UInt8.ofNat sz)
  rw [ofNat8 (by omega), ofNat8 (by omega), ofNat8 (by omega)] at hcv
  generalize hb0 : (⟨#[UInt8.ofNat row, UInt8.ofNat n, UInt8.ofNat sz]⟩ : ByteArray) = b0 at *
  clear hn hsz hb0
  by_cases h0 : 0 < n
  · obtain ⟨s0, hs0⟩ : ∃ s, ss[0]? = some s := ⟨ss[0]'(by rw [Hn.out]; omega), List.getElem?_eq_getElem _⟩
    obtain ⟨g0, o0, hp0, c0, _⟩ := Hc.out 0 s0 hs0
    have hz0 : sz = s0.size := by
      have := Hz.out
      cases ss with
      | nil => simp at hs0
      | cons a l => simp at hs0; subst hs0; exact this.symm
    rw [Nat.add_zero] at c0
    subst hz0
    subst hp0
    clear hs0
    go_enter Try.func19, Try.ntmps19
    go_wp2_with fail
    refine (blocks_any ss _ _ Hv.out).mono ?_
    rintro e w' ⟨rfl, rfl⟩
    rw [HF.out, errV_0]
    go_wp2_with fail
    go_loopg [8, 48] n (fun gk t i wr => PackRel row ss w.heap.size (w.alloc (.cells #[.int .u8 row, .int .u8 n, .int .u8 s0.size] 5)) gk t i wr)
    case atStart => exact ⟨0, by have := Hn.out; omega, rfl, by rw [HB0.out], rfl⟩
    case round =>
      obtain ⟨k, hk, rfl, rfl, rfl⟩ := hrel
      rw [Hn.out] at hk
      have Hk := Lib.hid hk
      by_cases hlt : k < n
      · obtain ⟨s, hs⟩ : ∃ s, ss[k]? = some s := ⟨ss[k]'(by rw [Hn.out]; exact hlt), List.getElem?_eq_getElem _⟩
        obtain ⟨g, o, hp, c1, hg⟩ := Hc.out k s hs
        have hgn : g ≠ w.heap.size := by omega
        cases hp
        have hb1 := Hsz.out k (by omega)
        have hb2 := Hs16.out s (List.mem_of_getElem? hs)
        have Hbk : Hid (body row ss (k + 1) = body row ss k ++ s) := Lib.hid (by rw [body, List.getD_eq_getElem?_getD, hs]; rfl)
        generalize body row ss k = b at *
        have hsum : b.size + s.size ≤ 9223372036854775807 := by omega
        clear hk hs
        go_wp2_with fail
        go_roundg (gk - 1)
        case measure => have := Hk.out; omega
        case rel => exact ⟨k + 1, by have := Hn.out; have := Hk.out; omega, by go_num, by rw [Hbk.out], rfl⟩
      · obtain rfl : k = n := by omega
        clear hlt
        have hb1 := Hsz.out k (by omega)
        have HP := Lib.hid (show packB row ss = body row ss k ++ ⟨#[UInt8.ofNat (wsum (body row ss k).data.toList / 256), UInt8.ofNat (wsum (body row ss k).data.toList % 256)]⟩ by unfold packB; rw [Hn.out])
        generalize body row ss k = b at *
        clear hk
        go_wp2_with fail
        refine (sum_any b (by omega) _).mono ?_
        rintro e w2 ⟨rfl, hb⟩
        have hx := wsum_lt b.data.toList
        generalize wsum b.data.toList = x at *
        have Hb := Lib.hid hb
        clear hb
        have hq1 : (x : Int) / 256 < 256 := by omega
        have hq0 : 0 ≤ (x : Int) / 256 := by omega
        have hr1 : (x : Int) % 256 < 256 := by omega
        have hr0 : 0 ≤ (x : Int) % 256 := by omega
        have hu1 := wrap8 hq0 hq1
        have hu2 := wrap8 hr0 hr1
        have hcv := conv2 w2 (UInt8.ofNat (x / 256)) (UInt8.ofNat (x % 256))
        rw [ofNat8 (by omega), ofNat8 (by omega)] at hcv
        rw [Int.natCast_ediv, Int.natCast_emod, show ((256 : Nat) : Int) = 256 from rfl] at hcv
        generalize ht : (⟨#[UInt8.ofNat (x / 256), UInt8.ofNat (x % 256)]⟩ : ByteArray) = t at *
        have hts : t.size = 2 := by rw [← ht]; rfl
        have hsum : b.size + t.size ≤ 9223372036854775807 := by omega
        clear ht
        have HT := Lib.hid hts
        clear hts
        go_wp2_with fail
        go_ret2
        exact ⟨by rw [HP.out]; rfl, ((((Below.refl w.heap.size w).alloc (Nat.le_refl _) _).trans (Hb.out.mono (by simp))).alloc (by have := Hb.out.size; simp at this; omega) _)⟩
  · have hn0 : n = 0 := by omega
    have hz0 : sz = 0 := by
      have := Hz.out
      rw [List.eq_nil_of_length_eq_zero (Hn.out.trans hn0)] at this
      exact this.symm
    subst hn0 hz0
    rw [show (((0 : Nat) : Int)) = 0 from rfl] at hcv w2
    clear w3
    go_enter Try.func19, Try.ntmps19
    go_wp2_with fail
    refine (blocks_any ss _ _ Hv.out).mono ?_
    rintro e w' ⟨rfl, rfl⟩
    rw [HF.out, errV_0]
    go_wp2_with fail
    go_loopg [8, 48] 0 (fun gk t i wr => PackRel row ss w.heap.size (w.alloc (.cells #[.int .u8 row, .int .u8 0, .int .u8 0] 5)) gk t i wr)
    case atStart => exact ⟨0, by have := Hn.out; omega, rfl, by rw [HB0.out], rfl⟩
    case round =>
      obtain ⟨k, hk, rfl, rfl, rfl⟩ := hrel
      rw [Hn.out] at hk
      have Hk := Lib.hid hk
      obtain rfl : k = 0 := by omega
      have hb1 := Hsz.out 0 (by omega)
      have HP := Lib.hid (show packB row ss = body row ss 0 ++ ⟨#[UInt8.ofNat (wsum (body row ss 0).data.toList / 256), UInt8.ofNat (wsum (body row ss 0).data.toList % 256)]⟩ by unfold packB; rw [Hn.out])
      generalize body row ss 0 = b at *
      clear hk
      go_wp2_with fail
      refine (sum_any b (by omega) _).mono ?_
      rintro e w2 ⟨rfl, hb⟩
      have hx := wsum_lt b.data.toList
      generalize wsum b.data.toList = x at *
      have Hb := Lib.hid hb
      clear hb
      have hq1 : (x : Int) / 256 < 256 := by omega
      have hq0 : 0 ≤ (x : Int) / 256 := by omega
      have hr1 : (x : Int) % 256 < 256 := by omega
      have hr0 : 0 ≤ (x : Int) % 256 := by omega
      have hu1 := wrap8 hq0 hq1
      have hu2 := wrap8 hr0 hr1
      have hcv := conv2 w2 (UInt8.ofNat (x / 256)) (UInt8.ofNat (x % 256))
      rw [ofNat8 (by omega), ofNat8 (by omega)] at hcv
      rw [Int.natCast_ediv, Int.natCast_emod, show ((256 : Nat) : Int) = 256 from rfl] at hcv
      generalize ht : (⟨#[UInt8.ofNat (x / 256), UInt8.ofNat (x % 256)]⟩ : ByteArray) = t at *
      have hts : t.size = 2 := by rw [← ht]; rfl
      have hsum : b.size + t.size ≤ 9223372036854775807 := by omega
      clear ht
      have HT := Lib.hid hts
      clear hts
      go_wp2_with fail
      go_ret2
      exact ⟨by rw [HP.out]; rfl, ((((Below.refl w.heap.size w).alloc (Nat.le_refl _) _).trans (Hb.out.mono (by simp))).alloc (by have := Hb.out.size; simp at this; omega) _)⟩
end Go.Proofs.Ytcldioneiededaa
