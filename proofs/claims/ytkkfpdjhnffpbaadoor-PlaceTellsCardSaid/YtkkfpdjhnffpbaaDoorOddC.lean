/- The walks of odds.Choose and of the library's OnesCount below 1024. -/
import Derived.Test.YtkkfpdjhnffpbaaDoorOddP
import Derived.Test.YtkkfpdjhnffpbaaDoorErr
import Derived.Test.YtkkfpdjhnffpbaaDoorKept
import Derived.BigQuiet
import Derived.Deep.LoopGhost
import Derived.Deep.DeepCutAuto
namespace Go.Proofs.YtkkfpdjhnffpbaaDoor
open Go.ChangeShapes Go.WideShapes Go.ChangeAt Go.RowKit
set_option linter.unusedVariables false
namespace Od
def chE (n k : Int) : Int := if n < 0 ∨ 30 < n ∨ k < 0 ∨ n < k then 1 else 0
def chV (n k : Int) : Int := if chE n k = 0 then (ch n.toNat k.toNat : Int) else 0
end Od
set_option maxRecDepth 100000 in
theorem choose_yes (n k : Nat) (hn : n ≤ 30) (hk : k ≤ n) (w : World) :
    Calls Tryd.prog 7 #[iv n, iv k] w fun e w' => e = .returned (.tuple #[iv (Od.ch n k), errV 0]) ∧ w = w' := by
  have t1 : ¬ (n : Int) < 0 := by omega
  have t2 : ¬ (30 : Int) < (n : Int) := by omega
  have t3 : ¬ (k : Int) < 0 := by omega
  have t4 : ¬ (n : Int) < (k : Int) := by omega
  go_enter Tryd.func7, Tryd.ntmps7
  go_wp2_with fail
  go_loopg [6, 7, 25] k (fun gk v6 v7 v25 wr => ∃ i : Nat, i + gk = k ∧ v6 = iv (Od.ch n i) ∧ v25 = iv i ∧ w = wr)
  case atStart => exact ⟨0, by omega, by rw [Od.ch_zero]; rfl, rfl, rfl⟩
  case round =>
    obtain ⟨i, hi, rfl, rfl, rfl⟩ := hrel
    have Hi := Lib.hid hi
    clear hi
    by_cases hik : i < k
    · have hc := Od.ch_le n i
      have hc2 : 2 ^ n ≤ 2 ^ 30 := Nat.pow_le_pow_right (by omega) hn
      have hst := Od.ch_step n i (by omega)
      obtain ⟨c, hc0⟩ : ∃ c, c = Od.ch n i := ⟨_, rfl⟩
      obtain ⟨c', hc1⟩ : ∃ c, c = Od.ch n (i + 1) := ⟨_, rfl⟩
      rw [← hc0, ← hc1] at hst
      rw [← hc0] at hc
      rw [← hc0]
      have hc9 : c ≤ 1073741824 := by
        have : (2 : Nat) ^ 30 = 1073741824 := by decide
        omega
      have hb : c * (n - i) ≤ 1073741824 * 30 := Nat.mul_le_mul hc9 (by omega)
      have e1 : IntKind.i64.wrap ((n : Int) - (i : Int)) = ((n - i : Nat) : Int) := by rw [IntWalk.i64_in _ (by omega)]; omega
      have e2 : IntKind.i64.wrap ((c : Int) * ((n - i : Nat) : Int)) = ((c * (n - i) : Nat) : Int) := by
        rw [← Int.natCast_mul]; exact IntWalk.i64_in _ (by omega)
      have e3 : IntKind.i64.wrap ((i : Int) + 1) = ((i + 1 : Nat) : Int) := by rw [IntWalk.i64_in _ (by omega)]; omega
      have e4 : ((c * (n - i) : Nat) : Int).tdiv ((i + 1 : Nat) : Int) = (c' : Int) := by
        rw [hst]
        show Int.ofNat _ = _
        rw [Nat.mul_div_cancel _ (by omega)]; rfl
      have e0 : ¬ (((i + 1 : Nat) : Int) = 0) := by omega
      have e5 : IntKind.i64.wrap (c' : Int) = (c' : Int) := IntWalk.i64_in _ (by
        have := Od.ch_le n (i + 1)
        have h30 : (2 : Nat) ^ 30 = 1073741824 := by decide
        omega)
      have e7 : wrap64 (((c : Int) * ((n - i : Nat) : Int)).tdiv ((i : Int) + 1)) = (c' : Int) := by
        have h := e4
        rw [Int.natCast_mul] at h
        rw [show (i : Int) + 1 = ((i + 1 : Nat) : Int) by omega, h, ← IntWalk.i64_left]
        exact e5
      have E7 := Lib.hid e7
      clear e7 e4 e5
      have Hc1 := Lib.hid hc1
      clear hc hc2 hst hc0 hc1 hc9 hb
      go_wp2_with fail
      go_roundg (gk - 1)
      case measure => have := Hi.out; omega
      case rel => exact ⟨i + 1, by have := Hi.out; omega, by rw [← Hc1.out]; exact congrArg (Value.int .i64) E7.out, by go_num, rfl⟩
    · have hik' : i = k := by have := Hi.out; omega
      subst hik'
      go_wp2_with fail
      go_ret2
      exact ⟨rfl, rfl⟩
namespace Od
def o1 (x : Int) : Int := IntKind.u64.wrap (bits .and .u64 (x / 2) 6148914691236517205 + bits .and .u64 x 6148914691236517205)
def o2 (x : Int) : Int := IntKind.u64.wrap (bits .and .u64 (x / 4) 3689348814741910323 + bits .and .u64 x 3689348814741910323)
def o3 (x : Int) : Int := bits .and .u64 (IntKind.u64.wrap (x / 16 + x)) 1085102592571150095
def o4 (x : Int) : Int := IntKind.u64.wrap (x + x / 256)
def o5 (x : Int) : Int := IntKind.u64.wrap (x + x / 65536)
def o6 (x : Int) : Int := IntKind.u64.wrap (x + x / 4294967296)
def ones (x : Int) : Int := bits .and .i64 (wrap64 (o6 (o5 (o4 (o3 (o2 (o1 x))))))) 127
theorem ones_pop : ∀ x : Nat, x < 1024 → ones (x : Int) = (pop x : Int) := by decide +kernel
end Od
theorem ones64 (x : Nat) (h : x < 1024) (w : World) : Calls Tryd.prog 49 #[.int .u64 x] w fun e w' => e = .returned (iv (Od.pop x)) ∧ w = w' := by
  go_enter Tryd.func49, Tryd.ntmps49
  go_wp2_with fail
  go_ret
  refine ⟨congrArg Ending.returned ?_, rfl⟩
  show Value.int .i64 _ = Value.int .i64 _
  congr 1
  exact Od.ones_pop x h
theorem ones_any (x : Nat) (h : x < 1024) (w : World) : Calls Tryd.prog 37 #[.int .u64 x] w fun e w' => e = .returned (iv (Od.pop x)) ∧ w = w' := by
  have H := Lib.hid (ones64 x h w)
  go_enter Tryd.func37, Tryd.ntmps37
  go_wp2_with fail
  refine H.out.mono ?_
  rintro e w' ⟨rfl, rfl⟩
  go_wp2_with fail
  go_ret
  exact ⟨rfl, rfl⟩
theorem choose_tot (n k : Int) (w : World) : Calls Tryd.prog 7 #[iv n, iv k] w fun e w' => e = .returned (.tuple #[iv (Od.chV n k), errV (Od.chE n k)]) ∧ w = w' := by
  by_cases h : n < 0 ∨ 30 < n ∨ k < 0 ∨ n < k
  · have h1 : Od.chE n k = 1 := if_pos h
    have h2 : Od.chV n k = 0 := by unfold Od.chV; rw [h1]; rfl
    rw [h1, h2]
    by_cases a1 : n < 0
    · go_enter Tryd.func7, Tryd.ntmps7
      go_wp2_with fail
      go_ret2
      exact ⟨rfl, rfl⟩
    · by_cases a2 : 30 < n
      · go_enter Tryd.func7, Tryd.ntmps7
        go_wp2_with fail
        go_ret2
        exact ⟨rfl, rfl⟩
      · by_cases a3 : k < 0
        · go_enter Tryd.func7, Tryd.ntmps7
          go_wp2_with fail
          go_ret2
          exact ⟨rfl, rfl⟩
        · have a4 : n < k := by omega
          go_enter Tryd.func7, Tryd.ntmps7
          go_wp2_with fail
          go_ret2
          exact ⟨rfl, rfl⟩
  · obtain ⟨nn, rfl⟩ : ∃ m : Nat, n = m := ⟨n.toNat, by omega⟩
    obtain ⟨kk, rfl⟩ : ∃ m : Nat, k = m := ⟨k.toNat, by omega⟩
    have h1 : Od.chE (nn : Int) (kk : Int) = 0 := if_neg h
    have h2 : Od.chV (nn : Int) (kk : Int) = (Od.ch nn kk : Int) := by unfold Od.chV; rw [if_pos h1]; rfl
    rw [h1, h2]
    exact choose_yes nn kk (by omega) (by omega) w
end Go.Proofs.YtkkfpdjhnffpbaaDoor
