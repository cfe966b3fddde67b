/- The walk of wire.Unpack. -/
import Derived.Test.YtcldioneiededaaWireK
import Derived.Test.YtcldioneiededaaWireQ
namespace Go.Proofs.Ytcldioneiededaa
open Go.ChangeShapes Go.WideShapes Go.ChangeAt Go.RowKit
set_option linter.unusedVariables false
theorem info_string : (Try.prog.info? 9).map (fun i => (i.zero, i.size, i.bytes)) = some (some (.string ⟨#[]⟩), 1, 16) := by kernel_rfl
theorem byte_get {b : ByteArray} {i : Nat} (h : i < b.size) : b[i]? = some (b.data.toList.getD i 0) := by
  rw [getElem?_pos b i h]
  congr 1
  rw [List.getD_eq_getElem?_getD, List.getElem?_eq_getElem (by simpa using h)]
  rfl
theorem idx_str {b : ByteArray} {i : Nat} (z : Int) (hz : z = i) (h : i < b.size) (w : World) : (Instr.index 9 (.string b) (.int .i64 z)).run Try.prog w = .ok (.int .u8 ((b.data.toList.getD i 0).toNat : Int)) w := by
  subst hz
  have hin : (0 : Int) ≤ (i : Int) ∧ (i : Int) < (b.size : Int) := by omega
  rw [run_index_string w _ _ _ _ Try.underlying9, dif_pos hin]
  have hg := byte_get h
  rw [getElem?_pos b i h] at hg
  have := Option.some.inj hg
  simp only [Int.toNat_natCast]
  rw [this]
def pieces (b : ByteArray) (y k : Nat) : List ByteArray := (List.range k).map fun j => b.extract (3 + j * y) (3 + j * y + y)
theorem pieces_succ (b : ByteArray) (y k : Nat) : pieces b y (k + 1) = pieces b y k ++ [b.extract (3 + k * y) (3 + k * y + y)] := by
  unfold pieces; rw [List.range_succ, List.map_append]; rfl
theorem str_beq (a b : ByteArray) [Decidable (a = b)] : (a.toList == b.toList) = decide (a = b) := by
  rw [ByteArray.toList_eq, ByteArray.toList_eq]
  by_cases h : a = b
  · subst h; simp
  · rw [decide_eq_false h]
    exact beq_eq_false_iff_ne.2 (fun e => h (ByteArray.ext (Array.toList_inj.1 e)))
def UnpRel (b : ByteArray) (x y : Nat) (w : World) (gk : Nat) (v i : Value) (wr : World) : Prop :=
  ∃ k : Nat, k + gk = x ∧ i = iv k ∧ wr.ownsRow w.heap.size 9 1 v k ((pieces b y k).map Value.string) ∧ Below w.heap.size w wr
def UnpYes (b : ByteArray) (w : World) (e : Ending) (w' : World) : Prop :=
  ∃ v, e = .returned (.tuple #[iv (byteAt b 0 : Nat), v, .nilIface]) ∧ Strs w' v (partsB b) ∧ Below w.heap.size w w'
def UnpNo (w : World) (e : Ending) (w' : World) : Prop := e = .returned (.tuple #[iv 0, .slice none 0 0, ev 2]) ∧ Below w.heap.size w w'
set_option maxRecDepth 100000 in
set_option maxHeartbeats 2000000 in
theorem unpack_any (b : ByteArray) (hsz : b.size ≤ 9223372036854775807) (w : World) :
    Calls Try.prog 23 #[.string b] w fun e w' => (OkB b ∧ UnpYes b w e w') ∨ (¬ OkB b ∧ UnpNo w e w') := by
  by_cases h5 : b.size < 5
  · have hno : Hid (¬ OkB b) := Lib.hid (fun h => by have := h.five; omega)
    go_enter Try.func23, Try.ntmps23
    go_wp2
    go_ret3
    exact .inr ⟨hno.out, rfl, Below.refl _ _⟩
  · have g0 := fun w => idx_str (b := b) (i := 0) 0 rfl (by omega) w
    have g1 := fun w => idx_str (b := b) (i := 1) 1 rfl (by omega) w
    have g2 := fun w => idx_str (b := b) (i := 2) 2 rfl (by omega) w
    have hx : byteAt b 1 = (b.data.toList.getD 1 0).toNat := rfl
    have hy : byteAt b 2 = (b.data.toList.getD 2 0).toNat := rfl
    have hr : byteAt b 0 = (b.data.toList.getD 0 0).toNat := rfl
    have b0 := (b.data.toList.getD 0 0).toNat_lt
    have b1 := (b.data.toList.getD 1 0).toNat_lt
    have b2 := (b.data.toList.getD 2 0).toNat_lt
    generalize b.data.toList.getD 0 0 = c0 at *
    generalize b.data.toList.getD 1 0 = c1 at *
    generalize b.data.toList.getD 2 0 = c2 at *
    generalize hX : c1.toNat = x at *
    generalize hY : c2.toNat = y at *
    generalize hR : c0.toNat = r at *
    have HX := Lib.hid hx
    have HY := Lib.hid hy
    have HR := Lib.hid hr
    have hxy : x * y ≤ 65025 := Nat.le_trans (Nat.mul_le_mul (show x ≤ 255 by omega) (show y ≤ 255 by omega)) (by omega)
    obtain ⟨p, hp⟩ : ∃ p : Nat, p = x * y := ⟨_, rfl⟩
    have hpI : (x : Int) * (y : Int) = (p : Int) := by rw [hp]; exact (Int.natCast_mul x y).symm
    have Hp := Lib.hid hp
    have hp2 : p ≤ 65025 := by omega
    clear hx hy hr hp hxy
    by_cases hs : b.size = 5 + p
    · have t1 : ((b.size : Int) != 3 + (p : Int) + 2) = false := bne_f (by omega)
      have Hs := Lib.hid hs
      clear hs
      go_enter Try.func23, Try.ntmps23
      go_wp2_with fail
      go_quiet (fail)
      go_wp2_with fail
      go_loopg [8, 36] x (fun gk v i wr => UnpRel b x y w gk v i wr)
      case atStart => exact ⟨0, by omega, rfl, World.ownsRow_nil _ _ _ _, bdrew (Below.refl _ _) _⟩
      case round =>
        obtain ⟨k, hk, rfl, hown, hb⟩ := hrel
        have hbz := hb.size
        have Hk := Lib.hid hk
        have Hown := Lib.hid hown
        have Hb := Lib.hid hb
        clear hk hown hb
        by_cases hlt : k < x
        · obtain ⟨q, hq⟩ : ∃ q : Nat, q = k * y := ⟨_, rfl⟩
          have hqI : (k : Int) * (y : Int) = (q : Int) := by rw [hq]; exact (Int.natCast_mul k y).symm
          have hqy : q + y ≤ p := by
            rw [Hp.out, hq, ← Nat.succ_mul]
            exact Nat.mul_le_mul_right _ hlt
          have hqb : 3 + q + y ≤ b.size := by have := Hs.out; omega
          have Hq := Lib.hid hq
          clear hq
          go_wp2_with (at_builtin; refine app1 w _ _ 9 32 rfl _ _ rfl w.heap.size Try.underlying32 info_string rfl _ _ _ rfl _ rfl rfl Hown.out rfl ?c1 ?c2 hbz Hb.out ?_)
          try case c1 => omega
          try case c2 => omega
          intro v' w1 hown1 hb1 _ _
          have Hown1 := Lib.hid hown1
          have Hb1 := Lib.hid hb1
          clear hown1 hb1
          go_wp2_with fail
          go_roundg (gk - 1)
          case measure => have := Hk.out; omega
          case rel => exact ⟨k + 1, by have := Hk.out; omega, by go_num, by rw [pieces_succ, List.map_append, ← Hq.out]; exact Hown1.out, Hb1.out⟩
        · have hkx : k = x := by have := Hk.out; omega
          have hst : Strs wr u8 (partsB b) := by
            have h := (row_of_owns Hown.out).1
            rw [hkx] at h
            unfold Strs partsB
            rw [HX.out, HY.out]
            exact h
          have Hst := Lib.hid hst
          have hF0 : rowF (byteAt b 0) (partsB b) = 0 ∨ ¬ rowF (byteAt b 0) (partsB b) = 0 := by omega
          rw [HR.out] at hF0
          clear hst hkx
          rcases hF0 with hF | hF
          · have HF := Lib.hid hF
            clear hF
            go_wp2_with fail
            refine (pack_yes r (partsB b) _ _ Hst.out HF.out).mono ?_
            rintro e w2 ⟨rfl, hb⟩
            have Hst2 := Lib.hid (Hst.out.below hb)
            have Hb2 := Lib.hid (Hb.out.trans (hb.mono hbz))
            clear hb
            have hse := str_beq (packB r (partsB b)) b
            by_cases he : packB r (partsB b) = b
            · have hok : Hid (OkB b) := Lib.hid ⟨by omega, by have := Hs.out; rw [HX.out, HY.out, ← Hp.out]; exact this, by rw [HR.out]; exact HF.out, by rw [HR.out]; exact he⟩
              have t2 : ((packB r (partsB b)).toList == b.toList) = true := by rw [hse]; exact dec_t he
              generalize packB r (partsB b) = G at *
              clear hse he
              go_wp2_with fail
              go_ret3
              exact .inl ⟨hok.out, _, by rw [HR.out]; rfl, Hst2.out, Hb2.out⟩
            · have hno : Hid (¬ OkB b) := Lib.hid (fun h => he (by have := h.same; rw [HR.out] at this; exact this))
              have t2 : ((packB r (partsB b)).toList == b.toList) = false := by rw [hse]; exact dec_f he
              generalize packB r (partsB b) = G at *
              clear hse he
              go_wp2_with fail
              go_ret3
              exact .inr ⟨hno.out, rfl, Hb2.out⟩
          · have HF := Lib.hid hF
            have HE := Lib.hid (errV_ne hF)
            have hno : Hid (¬ OkB b) := Lib.hid (fun h => hF (by have := h.fault; rw [HR.out] at this; exact this))
            clear hF
            go_wp2_with fail
            refine (pack_no r (partsB b) _ _ Hst.out HF.out).mono ?_
            rintro e w2 ⟨rfl, hb⟩
            rw [HE.out]
            have Hb2 := Lib.hid (Hb.out.trans (hb.mono hbz))
            clear hb
            go_wp2_with fail
            go_ret3
            exact .inr ⟨hno.out, rfl, Hb2.out⟩
    · have t1 : ((b.size : Int) != 3 + (p : Int) + 2) = true := bne_t (by omega)
      have hno : Hid (¬ OkB b) := Lib.hid (fun h => by have := h.size; rw [HX.out, HY.out, ← Hp.out] at this; omega)
      clear hs
      go_enter Try.func23, Try.ntmps23
      go_wp2_with fail
      go_quiet (fail)
      go_wp2_with fail
      go_ret3
      exact .inr ⟨hno.out, rfl, bdrew (Below.refl _ _) _⟩
end Go.Proofs.Ytcldioneiededaa
