/- The walk of wire.Mend at what is one byte from a row. -/
import Derived.Test.YtoddoekmgkcomaaDoorWireU
namespace Go.Proofs.YtoddoekmgkcomaaDoor
open Go.ChangeShapes Go.WideShapes Go.ChangeAt Go.RowKit
set_option linter.unusedVariables false
theorem unpack_yes (b : ByteArray) (hsz : b.size ≤ 9223372036854775807) (h : OkB b) (w : World) : Calls Tryd.prog 13 #[.string b] w (UnpYes b w) :=
  (unpack_any b hsz w).mono fun e w' hh => by
    rcases hh with ⟨_, h2⟩ | ⟨h1, _⟩
    · exact h2
    · exact absurd h h1
theorem unpack_no (b : ByteArray) (hsz : b.size ≤ 9223372036854775807) (h : ¬ OkB b) (w : World) : Calls Tryd.prog 13 #[.string b] w (UnpNo w) :=
  (unpack_any b hsz w).mono fun e w' hh => by
    rcases hh with ⟨h1, _⟩ | ⟨_, h2⟩
    · exact absurd h1 h
    · exact h2
/-- a row of bytes that can be written -/
def BytesAt (w : World) (g : Nat) (b : ByteArray) : Prop :=
  (∀ (j : Nat) (c : UInt8), b.data.toList[j]? = some c → w.cell? ⟨g, j, none⟩ = some (.int .u8 (c.toNat : Int))) ∧ (∀ j, j < b.size → w.frozen? ⟨g, j, none⟩ = false)
theorem BytesAt.below {w w' : World} {g : Nat} {b : ByteArray} (h : BytesAt w g b) (hg : g < w.heap.size) (hb : Below w.heap.size w w') : BytesAt w' g b :=
  ⟨fun j c hj => (hb.cell (p := ⟨g, j, none⟩) hg).trans (h.1 j c hj), fun j hj => (hb.frozen (p := ⟨g, j, none⟩) hg).trans (h.2 j hj)⟩
theorem BytesAt.set {w : World} {g : Nat} {b : ByteArray} (h : BytesAt w g b) {i : Nat} (hi : i < b.size) (c : UInt8) : BytesAt (w.setCell ⟨g, i, none⟩ (.int .u8 (c.toNat : Int))) g (setB b i c) := by
  have hil : i < b.data.toList.length := by simpa using hi
  refine ⟨fun j d hj => ?_, fun j hj => by rw [World.frozen?_setCell]; exact h.2 j (by rw [setB_size] at hj; exact hj)⟩
  unfold setB at hj
  simp only [Array.toList_setIfInBounds] at hj
  rw [List.getElem?_set] at hj
  by_cases e : i = j
  · subst e
    rw [if_pos rfl, if_pos hil] at hj
    obtain rfl := Option.some.inj hj
    exact World.cell?_setCell_same _ _ _ (h.1 i _ (List.getElem?_eq_getElem hil))
  · rw [if_neg e] at hj
    rw [World.cell?_setCell_other _ _ _ _ (by intro h; injection h with _ h2; exact e h2)]
    exact h.1 j d hj
theorem BytesAt.conv {w : World} {g : Nat} {b : ByteArray} (h : BytesAt w g b) (cap : Nat) : (convert 36 9 (.slice (some ⟨g, 0, none⟩) b.size cap)).run Tryd.prog w = .ok (.string b) w := by
  have hl : b.data.toList.length = b.size := by simp
  have hh := run_convert_bytes_back (P := Tryd.prog) w 36 9 5 ⟨g, 0, none⟩ cap b.data.toList Tryd.underlying36 Tryd.underlying5 Tryd.underlying9 (fun j hj => by
    rw [Addr.add_lit, Nat.zero_add]
    exact h.1 j _ (List.getElem?_eq_getElem hj))
  rw [hl] at hh
  rw [hh]
def MendRel (t : ByteArray) (i m : Nat) (g : Nat) (w : World) (gk : Nat) (c : Value) (wr : World) : Prop :=
  ∃ (k : Nat) (d : UInt8), k + gk = 256 ∧ k ≤ m ∧ c = iv k ∧ BytesAt wr g (setB t i d) ∧ g < wr.heap.size ∧ Below w.heap.size w wr
set_option maxRecDepth 100000 in
set_option maxHeartbeats 2000000 in
theorem mend_to (t b : ByteArray) (i : Nat) (d0 : UInt8) (hsz : b.size ≤ 100000) (hi : i < b.size) (hb : OkB b) (ht : t = setB b i d0) (w : World) :
    Calls Tryd.prog 17 #[.string t, iv i] w fun e w' => e = .returned (.tuple #[.string b, .nilIface]) ∧ Below w.heap.size w w' := by
  obtain ⟨cap, w2, hrun, hb2, hz2, hc2, hf2⟩ := conv_bytes w t
  have hts : t.size = b.size := by rw [ht]; exact setB_size _ _ _
  have hset : ∀ c, setB t i c = setB b i c := fun c => by rw [ht, setB_set]
  have Hset := Lib.hid hset
  have h0 : BytesAt w2 w.heap.size (setB t i (t.data.toList.getD i 0)) := by rw [setB_same (by omega)]; exact ⟨hc2, hf2⟩
  have H0 := Lib.hid h0
  have HB := Lib.hid hb
  have HB2 := Lib.hid hb2
  have hm := (b.data.toList.getD i 0).toNat_lt
  obtain ⟨m, hmm⟩ : ∃ m, m = (b.data.toList.getD i 0).toNat := ⟨_, rfl⟩
  rw [← hmm] at hm
  have HM := Lib.hid hmm
  have hit : i < t.size := by omega
  have hin : (i : Int) < (t.size : Int) := by omega
  have hd1 : decide (t.size ≤ i) = false := dec_f (by omega)
  have hd0 : decide ((i : Int) < 0) = false := dec_f (by omega)
  have HTS := Lib.hid hts
  clear hset h0 hb hb2 hmm ht hts hc2 hf2
  go_enter Tryd.func17, Tryd.ntmps17
  go_wp2_with fail
  go_loopg [22] 256 (fun gk c wr => MendRel t i m w.heap.size w gk c wr)
  case atStart => exact ⟨0, _, rfl, Nat.zero_le _, rfl, H0.out, by omega, HB2.out⟩
  case round =>
    obtain ⟨k, d, hk, hkm, rfl, hby, hg, hbl⟩ := hrel
    have hk2 : k < 256 := by omega
    have Hk := Lib.hid hk
    have Hby := Lib.hid hby
    have Hbl := Lib.hid hbl
    have hwr := wrap8 (x := (k : Int)) (by omega) (by omega)
    have hset2 := hby.set (i := i) (by rw [setB_size]; exact hit) (UInt8.ofNat k)
    rw [setB_set, ofNat8 hk2] at hset2
    have Hset2 := Lib.hid hset2
    have hconv := hset2.conv cap
    rw [setB_size] at hconv
    have hcell : ∃ c, wr.cell? ⟨w.heap.size, i, none⟩ = some (.int .u8 (c : Int)) := by
      have hl : i < (setB t i d).data.toList.length := by
        have : (setB t i d).data.toList.length = (setB t i d).size := by simp
        rw [this, setB_size]; exact hit
      exact ⟨_, hby.1 i _ (List.getElem?_eq_getElem hl)⟩
    obtain ⟨c0, hcell⟩ := hcell
    have hfz := hby.2 i (by rw [setB_size]; exact hit)
    have hsz2 : (setB t i (UInt8.ofNat k)).size ≤ 9223372036854775807 := by rw [setB_size]; have := HTS.out; omega
    have hB3 := Lib.hid (hbl.setCell (p := ⟨w.heap.size, i, none⟩) (Nat.le_refl _) (.int .u8 (k : Int)))
    by_cases he : k = m
    · have hsb : setB t i (UInt8.ofNat k) = b := by
        rw [Hset.out, he, HM.out, UInt8.ofNat_toNat, setB_same hi]
      rw [hsb] at hconv hset2
      have Hs3 := Lib.hid hset2
      have Hc3 := Lib.hid hconv
      clear hk hby hbl hset2 hsb Hset2 hsz2 he
      go_wp2_with fail
      refine (unpack_yes b (by omega) HB.out _).mono ?_
      rintro e w3 ⟨v, rfl, _, hb3⟩
      have hby3 := Hs3.out.below (by simp [World.setCell]; omega) hb3
      have hconv3 := hby3.conv cap
      have hsn : b.size = t.size := HTS.out.symm
      rw [hsn] at hconv3
      have Hfin := Lib.hid (hB3.out.trans (hb3.mono (by simp [World.setCell]; exact Hbl.out.size)))
      clear hb3 hby3 hsn
      go_wp2_with fail
      go_ret2
      exact ⟨rfl, Hfin.out⟩
    · have hno : Hid (¬ OkB (setB t i (UInt8.ofNat k))) := Lib.hid (fun h => he (by
        rw [Hset.out, setB_ok HB.out hi] at h
        have := congrArg UInt8.toNat h
        rw [← HM.out, UInt8.toNat_ofNat', Nat.mod_eq_of_lt (by omega)] at this
        exact this))
      have hkm2 : k + 1 ≤ m := by omega
      clear hk hby hbl hset2 he
      go_wp2_with fail
      refine (unpack_no _ hsz2 hno.out _).mono ?_
      rintro e w3 ⟨rfl, hb3⟩
      have hby3 := Lib.hid (Hset2.out.below (by simp [World.setCell]; omega) hb3)
      have Hfin := Lib.hid (hB3.out.trans (hb3.mono (by simp [World.setCell]; exact Hbl.out.size)))
      have hg3 : w.heap.size < w3.heap.size := by have := hb3.size; simp [World.setCell] at this; omega
      clear hb3
      go_wp2_with fail
      go_roundg (gk - 1)
      case measure => have := Hk.out; omega
      case rel => exact ⟨k + 1, _, by have := Hk.out; omega, hkm2, by go_num, hby3.out, hg3, Hfin.out⟩
end Go.Proofs.YtoddoekmgkcomaaDoor
