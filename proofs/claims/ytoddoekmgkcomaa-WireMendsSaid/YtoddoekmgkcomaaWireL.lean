/- The walk of the law WireLong: it returns true. -/
import Derived.Test.YtoddoekmgkcomaaWireK
namespace Go.Proofs.Ytoddoekmgkcomaa
open Go.ChangeShapes Go.WideShapes Go.ChangeAt Go.RowKit
set_option linter.unusedVariables false
theorem strs_nil (w : World) : Strs w (.slice none 0 0) [] := ⟨none, 0, rfl, Nat.le_refl _, Nat.zero_le _, fun _ => rfl, fun h => by simp at h⟩
def LongRel (ss : List ByteArray) (sz : Nat) (w : World) (gk : Nat) (t i : Value) (wr : World) : Prop :=
  ∃ k m : Nat, k + gk = ss.length ∧ i = iv k ∧ t = iv m ∧ m = 5 + k * sz ∧ wr = w
set_option maxRecDepth 100000 in
set_option maxHeartbeats 1000000 in
theorem wireLong_core (row : Int) (v : Value) (ss : List ByteArray) (w : World) (hv : Strs w v ss) :
    Calls Try.prog 3 #[iv row, v] w fun e w' => e = .returned (.bool true) ∧ Below w.heap.size w w' := by
  have Hv := Lib.hid hv
  have s3 : (packB 3 []).size = 5 := packB_size (ss := []) (by intro s hs; cases hs)
  have t3 : (((packB 3 []).size : Int) != 5) = false := bne_f (by omega)
  generalize hb3 : packB 3 [] = b3 at *
  obtain ⟨p, cap, rfl, hl, hc⟩ := hv.get
  have Hc := Lib.hid hc
  clear hc hv s3
  by_cases hF : rowF row ss = 0
  · obtain ⟨r, rfl⟩ : ∃ r : Nat, row = r := ⟨row.toNat, by unfold rowF at hF; split at hF <;> omega⟩
    have hB : blkF ss = 0 ∧ ss.length ≤ 12 := by
      unfold rowF at hF
      split at hF
      · omega
      · split at hF
        · omega
        · exact ⟨hF, by omega⟩
    obtain ⟨hall, h16⟩ := blkF_zero hB.1
    have hps := packB_size (row := r) hall
    have h12 := hB.2
    have HF := Lib.hid hF
    have HA := Lib.hid hall
    generalize hsz : size0 ss = sz at *
    generalize hn : ss.length = n at *
    have Hn := Lib.hid hn
    have HP := Lib.hid hps
    have hns : n * sz ≤ 192 := Nat.le_trans (Nat.mul_le_mul h12 h16) (by omega)
    clear hF hall hps hB hsz hn
    go_enter Try.func3, Try.ntmps3
    go_wp2_with fail
    refine (pack_yes 3 [] _ _ (strs_nil _) rfl).mono ?_
    rintro e w1 ⟨rfl, hb⟩
    have Hv1 := Lib.hid (Hv.out.below hb)
    have Hb := Lib.hid hb
    rw [hb3]
    clear hb
    go_wp2_with fail
    refine (pack_yes r ss _ _ Hv1.out HF.out).mono ?_
    rintro e w2 ⟨rfl, hb⟩
    have Hv2 := Lib.hid (Hv1.out.below hb)
    have Hb2 := Lib.hid (Hb.out.trans (hb.mono Hb.out.size))
    obtain ⟨p2, cap2, hv2, _, hc2⟩ := Hv2.out.get
    have HC := Lib.hid hc2
    have Hp2 : Hid (p2 = p) := Lib.hid (by injection hv2 with h1 _ _; exact h1.symm)
    clear hb hc2 hv2
    generalize packB r ss = b at *
    have hbs : (b.size : Int) = 5 + (n * sz : Nat) := by have := HP.out; omega
    have HBS := Lib.hid hbs
    clear hbs
    go_wp2_with fail
    go_loopg [9, 10] n (fun gk t i wr => LongRel ss sz w2 gk t i wr)
    case atStart => exact ⟨0, 5, by have := Hn.out; omega, rfl, rfl, by omega, rfl⟩
    case round =>
      obtain ⟨k, m, hk, rfl, rfl, hm, rfl⟩ := hrel
      rw [Hn.out] at hk
      have Hk := Lib.hid hk
      have Hm := Lib.hid hm
      have hkz : k * sz ≤ 192 := Nat.le_trans (Nat.mul_le_mul (show k ≤ 12 by omega) h16) (by omega)
      have hm2 : m ≤ 300 := by omega
      clear hk hm
      by_cases hlt : k < n
      · obtain ⟨s, hs⟩ : ∃ s, ss[k]? = some s := ⟨ss[k]'(by rw [Hn.out]; exact hlt), List.getElem?_eq_getElem _⟩
        obtain ⟨g, o, hp, c1, _⟩ := HC.out k s hs
        rw [Hp2.out] at hp
        cases hp
        have hz : s.size = sz := HA.out s (List.mem_of_getElem? hs)
        have Hz := Lib.hid hz
        have hs2 : s.size ≤ 16 := by omega
        clear hs hz
        go_wp2_with fail
        go_roundg (gk - 1)
        case measure => have := Hk.out; omega
        case rel => exact ⟨k + 1, m + s.size, by have := Hn.out; have := Hk.out; omega, by go_num, by go_num, by rw [Hm.out, Hz.out, Nat.add_mul]; omega, rfl⟩
      · have hkn : k = n := by have := Hk.out; omega
        have t2 : ((b.size : Int) == (m : Int)) = true := beq_t (by rw [HBS.out, Hm.out, hkn]; omega)
        clear hkn
        go_wp2_with fail
        go_ret
        exact ⟨rfl, Hb2.out⟩
  · have HF := Lib.hid hF
    have HE := Lib.hid (errV_ne hF)
    clear hF
    go_enter Try.func3, Try.ntmps3
    go_wp2_with fail
    refine (pack_yes 3 [] _ _ (strs_nil _) rfl).mono ?_
    rintro e w1 ⟨rfl, hb⟩
    have Hv1 := Lib.hid (Hv.out.below hb)
    have Hb := Lib.hid hb
    rw [hb3]
    clear hb
    go_wp2_with fail
    refine (pack_no row ss _ _ Hv1.out HF.out).mono ?_
    rintro e w2 ⟨rfl, hb⟩
    rw [HE.out]
    have Hb2 := Lib.hid (Hb.out.trans (hb.mono Hb.out.size))
    clear hb
    go_wp2_with fail
    go_ret
    exact ⟨rfl, Hb2.out⟩
theorem wireLong_walk (row : Int) (v : Value) (hr : (Lit.int .i64 row).wf = true) (w : World) (hv : ∃ ss, Strs w v ss ∧ ∀ s ∈ ss, s.size ≤ maxLen) :
    Calls Try.prog 3 #[iv row, v] w fun e w' => e = .returned (.bool true) ∧ Below w.heap.size w w' := by
  obtain ⟨ss, hs, _⟩ := hv
  exact wireLong_core row v ss w hs
end Go.Proofs.Ytoddoekmgkcomaa
