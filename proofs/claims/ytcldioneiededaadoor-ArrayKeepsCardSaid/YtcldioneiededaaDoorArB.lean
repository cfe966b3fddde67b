/- The walk of the laws' own blocks: some text of 17 bytes at most. -/
import Derived.Test.YtcldioneiededaaDoorVecW
import Derived.Test.YtcldioneiededaaDoorKept
namespace Go.Proofs.YtcldioneiededaaDoor
open Go.ChangeShapes Go.WideShapes Go.ChangeAt Go.RowKit
set_option linter.unusedVariables false
theorem mod_byteB (t : Int) : ∃ a : UInt8, t % 256 = (a.toNat : Int) := by
  refine ⟨UInt8.ofNat (t % 256).toNat, ?_⟩
  rw [UInt8.toNat_ofNat', Nat.mod_eq_of_lt (by omega)]
  omega
def BlockPost (w : World) (e : Ending) (w' : World) : Prop := ∃ q : ByteArray, e = .returned (.string q) ∧ q.size ≤ 17 ∧ Below w.heap.size w w'
def BlockRel (B z : Nat) (w : World) (gk : Nat) (v5 v6 : Value) (wr : World) : Prop :=
  ∃ l : List UInt8, l.length + gk = z ∧ v6 = iv l.length ∧ wr.ownsRow B 5 1 v5 l.length (l.map bv) ∧ Below B w wr
set_option maxRecDepth 100000 in
theorem block_law (z : Nat) (hz : z ≤ 16) (n : Int) (w : World) :
    Calls Tryd.prog 23 #[iv z, iv n] w (BlockPost w) := by
  go_enter Tryd.func23, Tryd.ntmps23
  go_wp2_with fail
  go_loopg [5, 6] z (fun gk v5 v6 wr => BlockRel w.heap.size z w gk v5 v6 wr)
  case atStart => exact ⟨[], by simp, rfl, World.ownsRow_nil _ _ _ _, Below.refl _ _⟩
  case round =>
    obtain ⟨l, hk, rfl, hO, hB⟩ := hrel
    obtain ⟨k, hk0⟩ : ∃ k, k = l.length := ⟨_, rfl⟩
    rw [← hk0] at hk hO ⊢
    have Hk := Lib.hid hk
    have HO := Lib.hid hO
    have HB := Lib.hid hB
    have Hk0 := Lib.hid hk0
    have hzr := hB.size
    clear hk hO hB hk0
    by_cases hlt : k < z
    · obtain ⟨a, ha⟩ : ∃ a : UInt8, wrap64 (n + (k : Int)) % 256 = (a.toNat : Int) := mod_byteB _
      have hk17 : k + 1 ≤ 1000000 := by omega
      have Ha := Lib.hid ha
      go_wp2_with (at_builtin; refine app1 w wr (bv a) 5 50 rfl _ _ rfl w.heap.size Tryd.underlying50 info_byteV rfl _ k _ rfl _ rfl rfl HO.out rfl hk17 (by decide) hzr HB.out ?_)
      intro v9 w9 hO9 hB9 _ _
      have HO9 := Lib.hid hO9
      have HB9 := Lib.hid hB9
      clear hO9 hB9 ha
      go_wp2_with fail
      go_roundg (gk - 1)
      case measure => have := Hk.out; omega
      case rel => exact ⟨l ++ [a], by rw [List.length_append, ← Hk0.out]; have := Hk.out; show k + 1 + _ = _; omega, by rw [List.length_append, ← Hk0.out]; go_num, by rw [List.length_append, ← Hk0.out, List.map_append]; exact HO9.out, HB9.out⟩
    · have hkz : k = z := by have := Hk.out; omega
      by_cases hn : n < 0
      · have hk17 : k + 1 ≤ 1000000 := by omega
        go_wp2_with (at_builtin; refine app1 w wr (bv 1) 5 50 rfl _ _ rfl w.heap.size Tryd.underlying50 info_byteV rfl _ k _ rfl _ rfl rfl HO.out rfl hk17 (by decide) hzr HB.out ?_)
        intro v9 w9 hO9 hB9 _ _
        have HB9 := Lib.hid hB9
        have hcv := conv_ownB w9 w.heap.size v9 (l ++ [1]) (by rw [OwnB, List.map_append]; exact OwnR.of_owns hO9)
        obtain ⟨p9, n9, c9, rfl⟩ := (OwnR.of_owns hO9).slice
        clear hO9 hB9
        go_wp2_with fail
        go_ret
        exact ⟨_, rfl, by show (l ++ [1]).toArray.size ≤ 17; rw [List.size_toArray, List.length_append, ← Hk0.out]; show k + 1 ≤ 17; omega, HB9.out⟩
      · have hcv := conv_ownB wr w.heap.size u5 l (OwnR.of_owns HO.out)
        obtain ⟨p9, n9, c9, hu5⟩ := (OwnR.of_owns HO.out).slice
        subst hu5
        go_wp2_with fail
        go_ret
        exact ⟨_, rfl, by show l.toArray.size ≤ 17; rw [List.size_toArray, ← Hk0.out]; omega, HB.out⟩
end Go.Proofs.YtcldioneiededaaDoor
