/- The walk of wire.Mend at whatever bytes. -/
import Derived.Test.YtoddoekmgkcomaaDoorWireS
namespace Go.Proofs.YtoddoekmgkcomaaDoor
open Go.ChangeShapes Go.WideShapes Go.ChangeAt Go.RowKit
set_option linter.unusedVariables false
open Classical in
noncomputable def mE (t : ByteArray) (i : Int) : Int := if i < 0 ∨ (t.size : Int) ≤ i then 1 else if ∃ c, OkB (setB t i.toNat c) then 0 else 5
open Classical in
noncomputable def mS (t : ByteArray) (i : Int) : ByteArray := if i < 0 ∨ (t.size : Int) ≤ i then ⟨#[]⟩ else if h : ∃ c, OkB (setB t i.toNat c) then setB t i.toNat (Classical.choose h) else ⟨#[]⟩
theorem mend_out {t : ByteArray} {i : Int} (h : i < 0 ∨ (t.size : Int) ≤ i) : mE t i = 1 ∧ mS t i = ⟨#[]⟩ := ⟨if_pos h, if_pos h⟩
theorem mend_hit {t : ByteArray} {i : Nat} {c : UInt8} (hi : i < t.size) (h : OkB (setB t i c)) : mE t i = 0 ∧ mS t i = setB t i c := by
  have h0 : ¬ ((i : Int) < 0 ∨ (t.size : Int) ≤ (i : Int)) := by omega
  have hx : ∃ c, OkB (setB t ((i : Int)).toNat c) := ⟨c, by rw [Int.toNat_natCast]; exact h⟩
  refine ⟨by rw [mE, if_neg h0, if_pos hx], ?_⟩
  rw [mS, if_neg h0, dif_pos hx]
  have hc := Classical.choose_spec hx
  generalize Classical.choose hx = d at *
  rw [Int.toNat_natCast] at hc ⊢
  exact okB_one hc h (setB_list _ hi) (setB_list _ hi)
theorem mend_miss {t : ByteArray} {i : Nat} (hi : i < t.size) (h : ∀ j, j < 256 → ¬ OkB (setB t i (UInt8.ofNat j))) : mE t i = 5 ∧ mS t i = ⟨#[]⟩ := by
  have h0 : ¬ ((i : Int) < 0 ∨ (t.size : Int) ≤ (i : Int)) := by omega
  have hx : ¬ ∃ c, OkB (setB t ((i : Int)).toNat c) := fun ⟨c, hc⟩ => h c.toNat c.toNat_lt (by rw [UInt8.ofNat_toNat]; rw [Int.toNat_natCast] at hc; exact hc)
  exact ⟨by rw [mE, if_neg h0, if_neg hx], by rw [mS, if_neg h0, dif_neg hx]⟩
theorem okB_small {b : ByteArray} (h : OkB b) : b.size ≤ 100000 := by
  have h1 : byteAt b 1 < 256 := (b.data.toList.getD 1 0).toNat_lt
  have h2 : byteAt b 2 < 256 := (b.data.toList.getD 2 0).toNat_lt
  have := h.size
  have := Nat.mul_le_mul (show byteAt b 1 ≤ 255 by omega) (show byteAt b 2 ≤ 255 by omega)
  omega
set_option maxRecDepth 100000 in
set_option maxHeartbeats 2000000 in
theorem mend_none (t : ByteArray) (i : Nat) (hsz : t.size ≤ 9223372036854775807) (hit : i < t.size) (hno : ∀ j, j < 256 → ¬ OkB (setB t i (UInt8.ofNat j))) (w : World) :
    Calls Tryd.prog 17 #[.string t, iv i] w fun e w' => e = .returned (.tuple #[.string ⟨#[]⟩, ev 5]) ∧ Below w.heap.size w w' := by
  obtain ⟨cap, w2, hrun, hb2, hz2, hc2, hf2⟩ := conv_bytes w t
  have h0 : BytesAt w2 w.heap.size (setB t i (t.data.toList.getD i 0)) := by rw [setB_same hit]; exact ⟨hc2, hf2⟩
  have H0 := Lib.hid h0
  have HB2 := Lib.hid hb2
  have HNO := Lib.hid hno
  have hin : (i : Int) < (t.size : Int) := by omega
  have hd1 : decide (t.size ≤ i) = false := dec_f (by omega)
  have hd0 : decide ((i : Int) < 0) = false := dec_f (by omega)
  clear h0 hb2 hc2 hf2 hno
  go_enter Tryd.func17, Tryd.ntmps17
  go_wp2_with fail
  go_loopg [22] 256 (fun gk c wr => MendRel t i 256 w.heap.size w gk c wr)
  case atStart => exact ⟨0, _, rfl, Nat.zero_le _, rfl, H0.out, by omega, HB2.out⟩
  case round =>
    obtain ⟨k, d, hk, hkm, rfl, hby, hg, hbl⟩ := hrel
    have Hk := Lib.hid hk
    by_cases hk2 : k < 256
    · have Hby := Lib.hid hby
      have Hbl := Lib.hid hbl
      have hwr := wrap8 (x := (k : Int)) (by omega) (by omega)
      have hset2 := hby.set (i := i) (by rw [setB_size]; exact hit) (UInt8.ofNat k)
      rw [setB_set, ofNat8 hk2] at hset2
      have Hset2 := Lib.hid hset2
      have hconv := hset2.conv cap
      rw [setB_size] at hconv
      have hcell : ∃ c, wr.cell? ⟨w.heap.size, i, none⟩ = some (.int .u8 (c : Int)) := by
        have hl : i < (setB t i d).data.toList.length := by
          have : (setB t i d).data.toList.length = (setB t i d).size := by simp
          rw [this, setB_size]; exact hit
        exact ⟨_, hby.1 i _ (List.getElem?_eq_getElem hl)⟩
      obtain ⟨c0, hcell⟩ := hcell
      have hfz := hby.2 i (by rw [setB_size]; exact hit)
      have hsz2 : (setB t i (UInt8.ofNat k)).size ≤ 9223372036854775807 := by rw [setB_size]; exact hsz
      have hB3 := Lib.hid (hbl.setCell (p := ⟨w.heap.size, i, none⟩) (Nat.le_refl _) (.int .u8 (k : Int)))
      have hno := Lib.hid (HNO.out k hk2)
      clear hk hby hbl hset2
      go_wp2_with fail
      refine (unpack_no _ hsz2 hno.out _).mono ?_
      rintro e w3 ⟨rfl, hb3⟩
      have hby3 := Lib.hid (Hset2.out.below (by simp [World.setCell]; omega) hb3)
      have Hfin := Lib.hid (hB3.out.trans (hb3.mono (by simp [World.setCell]; exact Hbl.out.size)))
      have hg3 : w.heap.size < w3.heap.size := by have := hb3.size; simp [World.setCell] at this; omega
      clear hb3
      go_wp2_with fail
      go_roundg (gk - 1)
      case measure => have := Hk.out; omega
      case rel => exact ⟨k + 1, _, by have := Hk.out; omega, by omega, by go_num, hby3.out, hg3, Hfin.out⟩
    · obtain rfl : k = 256 := by omega
      have Hbl := Lib.hid hbl
      clear hk hby hbl
      go_wp2_with fail
      go_ret2
      exact ⟨rfl, Hbl.out⟩
theorem mend_any (t : ByteArray) (i : Int) (hsz : t.size ≤ 9223372036854775807) (w : World) :
    Calls Tryd.prog 17 #[.string t, iv i] w fun e w' => e = .returned (.tuple #[.string (mS t i), errV (mE t i)]) ∧ Below w.heap.size w w' := by
  by_cases h : i < 0 ∨ (t.size : Int) ≤ i
  · obtain ⟨e1, e2⟩ := mend_out h
    rw [e1, e2]
    by_cases h0 : i < 0
    · go_enter Tryd.func17, Tryd.ntmps17
      go_wp2
      go_ret2
      exact ⟨rfl, Below.refl _ _⟩
    · have h1 : (t.size : Int) ≤ i := by omega
      go_enter Tryd.func17, Tryd.ntmps17
      go_wp2
      go_ret2
      exact ⟨rfl, Below.refl _ _⟩
  · obtain ⟨n, rfl⟩ : ∃ n : Nat, i = n := ⟨i.toNat, by omega⟩
    have hn : n < t.size := by omega
    by_cases hx : ∃ j, j < 256 ∧ OkB (setB t n (UInt8.ofNat j))
    · obtain ⟨j, hj, hok⟩ := hx
      obtain ⟨e1, e2⟩ := mend_hit hn hok
      rw [e1, e2]
      exact mend_to t (setB t n (UInt8.ofNat j)) n (t.data.toList.getD n 0) (okB_small hok) (by rw [setB_size]; exact hn) hok (by rw [setB_set, setB_same hn]) w
    · have hno : ∀ j, j < 256 → ¬ OkB (setB t n (UInt8.ofNat j)) := fun j hj h => hx ⟨j, hj, h⟩
      obtain ⟨e1, e2⟩ := mend_miss hn hno
      rw [e1, e2]
      exact mend_none t n hsz hn hno w
end Go.Proofs.YtoddoekmgkcomaaDoor
