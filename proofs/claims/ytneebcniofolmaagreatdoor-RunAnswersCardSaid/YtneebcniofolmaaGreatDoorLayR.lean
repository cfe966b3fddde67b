/- The walks of package layout: each function returns what is said here in plain integers. · The walk of layout.Order: the list of a row's disks. · The walk of the reference's order of a row's disks. -/
import Derived.Test.YtneebcniofolmaaGreatDoorLift
import Derived.Deep.LoopGhost
namespace Go.Proofs.YtneebcniofolmaaGreatDoor
open Go.ChangeShapes Go.WideShapes Go.ChangeAt Go.RowKit

namespace Lay
/-- where P stands -/
def pOf (n row : Int) : Int := n - 1 - row % n
/-- the disk of the i-th part of a row -/
def disk (n row i : Int) : Int := (pOf n row + 2 + i) % n
/-- which part stands on a disk: P is 0 here, Q is 1 -/
def part (n d row : Int) : Int := (d - pOf n row) % n
/-- the role, as the program tells it -/
def role (n d row : Int) : Int := if part n d row = 0 then -1 else if part n d row = 1 then -2 else part n d row - 2
theorem pOf_bd {n row : Int} (hn : 0 < n) : 0 ≤ pOf n row ∧ pOf n row ≤ n - 1 := by
  unfold pOf
  have h1 := Int.emod_nonneg row (by omega : n ≠ 0)
  have h2 := Int.emod_lt_of_pos row hn
  omega
theorem disk_bd {n row i : Int} (hn : 0 < n) : 0 ≤ disk n row i ∧ disk n row i < n :=
  ⟨Int.emod_nonneg _ (by omega), Int.emod_lt_of_pos _ hn⟩
theorem part_bd {n row i : Int} (hn : 0 < n) : 0 ≤ part n row i ∧ part n row i < n :=
  ⟨Int.emod_nonneg _ (by omega), Int.emod_lt_of_pos _ hn⟩
theorem role_P {n d r : Int} (h : ((d - pOf n r) % n == 0) = true) : role n d r = -1 := by
  unfold role part; rw [if_pos (by simpa using h)]
theorem role_Q {n d r : Int} (h : ((d - pOf n r) % n == 0) = false) (h1 : ((d - pOf n r) % n == 1) = true) : role n d r = -2 := by
  unfold role part; rw [if_neg (by simpa using h), if_pos (by simpa using h1)]
theorem role_D {n d r : Int} (h : ((d - pOf n r) % n == 0) = false) (h1 : ((d - pOf n r) % n == 1) = false) : role n d r = (d - pOf n r) % n - 2 := by
  unfold role part; rw [if_neg (by simpa using h), if_neg (by simpa using h1)]
theorem role_bd {n d r : Int} (hn : 3 ≤ n) : -2 ≤ role n d r ∧ role n d r ≤ n - 3 := by
  have h := part_bd (n := n) (row := d) (i := r) (by omega)
  unfold role
  split
  · omega
  · split <;> omega
theorem eight {n : Int} (h1 : 3 ≤ n) (h2 : n ≤ 10) : n = 3 ∨ n = 4 ∨ n = 5 ∨ n = 6 ∨ n = 7 ∨ n = 8 ∨ n = 9 ∨ n = 10 := by omega
theorem role_disk {n row k : Int} (h1 : 3 ≤ n) (h2 : n ≤ 10) (h3 : 0 ≤ row) (h5 : 0 ≤ k) (h6 : k < n) : role n (disk n row k) row = if n - 2 ≤ k then n - 3 - k else k := by
  unfold role part disk pOf
  rcases eight h1 h2 with rfl | rfl | rfl | rfl | rfl | rfl | rfl | rfl <;> (split <;> omega)
theorem disk_inj {n row k m : Int} (h1 : 3 ≤ n) (h2 : n ≤ 10) (h3 : 0 ≤ row) (h5 : 0 ≤ k) (h6 : k < n) (h7 : 0 ≤ m) (h8 : m < n) (h : disk n row m = disk n row k) : m = k := by
  unfold disk pOf at h
  rcases eight h1 h2 with rfl | rfl | rfl | rfl | rfl | rfl | rfl | rfl <;> omega
theorem disk_P {n r : Int} (h1 : 3 ≤ n) (h2 : n ≤ 10) (h3 : 0 ≤ r) (h4 : r < n) : disk n r (n - 2) = n - 1 - r := by
  unfold disk pOf
  rcases eight h1 h2 with rfl | rfl | rfl | rfl | rfl | rfl | rfl | rfl <;> omega
theorem back {n b : Int} (h1 : 3 ≤ n) (h2 : n ≤ 10) (h3 : 0 ≤ b) : b / (n - 2) * (n - 2) + b % (n - 2) = b := by
  have := Int.mul_ediv_add_emod b (n - 2); rw [Int.mul_comm]; exact this
end Lay

theorem lcheck_yes (n : Int) (h1 : 3 ≤ n) (h2 : n ≤ 10) (w : World) :
    Calls Tryz.prog 34 #[iv n] w fun e w' => e = .returned .nilIface ∧ w = w' := by
  go_enter Tryz.func34, Tryz.ntmps34
  go_wp2
  go_ret
  exact ⟨rfl, rfl⟩
theorem lcheck_no (n : Int) (h : n < 3 ∨ 10 < n) (w : World) :
    Calls Tryz.prog 34 #[iv n] w fun e w' => e = .returned (ev 1) ∧ w = w' := by
  rcases h with h | h
  · go_enter Tryz.func34, Tryz.ntmps34
    go_wp2
    go_ret
    exact ⟨rfl, rfl⟩
  · have h' : ¬ n < 3 := by omega
    go_enter Tryz.func34, Tryz.ntmps34
    go_wp2
    go_ret
    exact ⟨rfl, rfl⟩
theorem pOf_any (n row : Int) (h1 : 3 ≤ n) (h2 : n ≤ 10) (h3 : 0 ≤ row) (h4 : row ≤ 4611686018427387904) (w : World) :
    Calls Tryz.prog 159 #[iv n, iv row] w fun e w' => e = .returned (iv (Lay.pOf n row)) ∧ w = w' := by
  have e1 := Int.emod_nonneg row (by omega : n ≠ 0)
  have e2 := Int.emod_lt_of_pos row (by omega : 0 < n)
  go_enter Tryz.func159, Tryz.ntmps159
  go_wp2
  go_ret
  exact ⟨rfl, rfl⟩
theorem disk_any (n row i : Int) (h1 : 3 ≤ n) (h2 : n ≤ 10) (h3 : 0 ≤ row) (h4 : row ≤ 4611686018427387904) (h5 : 0 ≤ i) (h6 : i ≤ 1000) (w : World) :
    Calls Tryz.prog 143 #[iv n, iv row, iv i] w fun e w' => e = .returned (iv (Lay.disk n row i)) ∧ w = w' := by
  have e1 := Lay.pOf_bd (n := n) (row := row) (by omega)
  go_enter Tryz.func143, Tryz.ntmps143
  go_wp2_with fail
  refine (pOf_any n row h1 h2 h3 h4 _).mono ?_
  rintro e w' ⟨rfl, rfl⟩
  go_wp2
  go_ret
  exact ⟨rfl, rfl⟩

theorem data_yes (n b : Int) (h1 : 3 ≤ n) (h2 : n ≤ 10) (h3 : 0 ≤ b) (h4 : b / (n - 2) < 20) (h5 : b ≤ 9223372036854775807) (w : World) :
    Calls Tryz.prog 124 #[iv n, iv b] w fun e w' => e = .returned (.tuple #[.agg #[iv (Lay.disk n (b / (n - 2)) (b % (n - 2))), iv (b / (n - 2))], .nilIface]) ∧ Below w.heap.size w w' := by
  have e1 := Int.emod_nonneg b (by omega : n - 2 ≠ 0)
  have e2 := Int.emod_lt_of_pos b (by omega : 0 < n - 2)
  have e3 : 0 ≤ b / (n - 2) := Int.ediv_nonneg h3 (by omega)
  go_enter Tryz.func124, Tryz.ntmps124
  go_wp2_with fail
  refine (lcheck_yes n h1 h2 _).mono ?_
  rintro e w' ⟨rfl, rfl⟩
  go_wp2_with fail
  refine (disk_any n (b / (n - 2)) (b % (n - 2)) h1 h2 e3 (by omega) e1 (by omega) _).mono ?_
  rintro e w' ⟨rfl, rfl⟩
  go_wp2
  exact bodyPost_ret (v := .tuple #[.agg #[iv (Lay.disk n (b / (n - 2)) (b % (n - 2))), iv (b / (n - 2))], .nilIface]) (by simp [results, Tryz.results124, go_sem]) rfl ⟨rfl, (Below.refl _ _).alloc (Nat.le_refl _) _⟩
theorem data_no1 (n b : Int) (h : n < 3 ∨ 10 < n) (w : World) :
    Calls Tryz.prog 124 #[iv n, iv b] w fun e w' => e = .returned (.tuple #[.agg #[iv 0, iv 0], ev 1]) ∧ Below w.heap.size w w' := by
  go_enter Tryz.func124, Tryz.ntmps124
  go_wp2_with fail
  refine (lcheck_no n h _).mono ?_
  rintro e w' ⟨rfl, rfl⟩
  go_wp2
  exact bodyPost_ret (v := .tuple #[.agg #[iv 0, iv 0], ev 1]) (by simp [results, Tryz.results124, go_sem]) rfl ⟨rfl, (Below.refl _ _).alloc (Nat.le_refl _) _⟩
theorem data_no2 (n b : Int) (h1 : 3 ≤ n) (h2 : n ≤ 10) (h5 : b ≤ 9223372036854775807) (h6 : -9223372036854775808 ≤ b) (h : b < 0 ∨ (0 ≤ b ∧ 20 ≤ b / (n - 2))) (w : World) :
    Calls Tryz.prog 124 #[iv n, iv b] w fun e w' => e = .returned (.tuple #[.agg #[iv 0, iv 0], ev 1]) ∧ Below w.heap.size w w' := by
  rcases h with h | ⟨h, h'⟩
  all_goals
    go_enter Tryz.func124, Tryz.ntmps124
    go_wp2_with fail
    refine (lcheck_yes n h1 h2 _).mono ?_
    rintro e w' ⟨rfl, rfl⟩
    go_wp2
    exact bodyPost_ret (v := .tuple #[.agg #[iv 0, iv 0], ev 1]) (by simp [results, Tryz.results124, go_sem]) rfl ⟨rfl, (Below.refl _ _).alloc (Nat.le_refl _) _⟩

end Go.Proofs.YtneebcniofolmaaGreatDoor
namespace Go.Proofs.YtneebcniofolmaaGreatDoor
open Go.ChangeShapes Go.WideShapes Go.ChangeAt Go.RowKit


def Lay.orderL (n row : Int) (k : Nat) : List Value := (List.range k).map fun i : Nat => iv (Lay.disk n row i)
theorem Lay.orderL_succ (n row : Int) (k : Nat) : Lay.orderL n row (k + 1) = Lay.orderL n row k ++ [iv (Lay.disk n row k)] := by
  unfold Lay.orderL; rw [List.range_succ, List.map_append]; rfl
theorem Lay.orderL_get {n row : Int} {m k : Nat} (h : k < m) : (Lay.orderL n row m)[k]? = some (iv (Lay.disk n row k)) := by
  unfold Lay.orderL; rw [List.getElem?_map, List.getElem?_range h]; rfl
def OrderPost (n row : Int) (w : World) (e : Ending) (w' : World) : Prop :=
  ∃ v, e = .returned (.tuple #[v, .nilIface]) ∧ w'.ownsRow w.heap.size 3 1 v n.toNat (Lay.orderL n row n.toNat) ∧ Below w.heap.size w w'
def OrderRel (B : Nat) (n row : Int) (w : World) (v i : Value) (wr : World) : Prop :=
  ∃ k : Nat, (k : Int) ≤ n ∧ i = iv k ∧ wr.ownsRow B 3 1 v k (Lay.orderL n row k) ∧ Below B w wr

theorem order_no1 (n row : Int) (h : n < 3 ∨ 10 < n) (w : World) :
    Calls Tryz.prog 126 #[iv n, iv row] w fun e w' => e = .returned (.tuple #[.slice none 0 0, ev 1]) ∧ w = w' := by
  go_enter Tryz.func126, Tryz.ntmps126
  go_wp2_with fail
  refine (lcheck_no n h _).mono ?_
  rintro e w' ⟨rfl, rfl⟩
  go_wp2
  go_ret2
  exact ⟨rfl, rfl⟩
theorem order_no2 (n row : Int) (h1 : 3 ≤ n) (h2 : n ≤ 10) (h : row < 0 ∨ 0 ≤ row ∧ 20 ≤ row) (w : World) :
    Calls Tryz.prog 126 #[iv n, iv row] w fun e w' => e = .returned (.tuple #[.slice none 0 0, ev 1]) ∧ w = w' := by
  rcases h with h | ⟨h, h'⟩
  all_goals
    go_enter Tryz.func126, Tryz.ntmps126
    go_wp2_with fail
    refine (lcheck_yes n h1 h2 _).mono ?_
    rintro e w' ⟨rfl, rfl⟩
    go_wp2
    go_ret2
    exact ⟨rfl, rfl⟩
set_option maxRecDepth 100000 in
set_option maxHeartbeats 1000000 in
theorem order_yes (n row : Int) (h1 : 3 ≤ n) (h2 : n ≤ 10) (h3 : 0 ≤ row) (h4 : row < 20) (w : World) :
    Calls Tryz.prog 126 #[iv n, iv row] w (OrderPost n row w) := by
  obtain ⟨i0, hi, hz0, hz1, hz2⟩ := info_parts info_int
  go_enter Tryz.func126, Tryz.ntmps126
  go_wp2_with fail
  refine (lcheck_yes n h1 h2 _).mono ?_
  rintro e w' ⟨rfl, rfl⟩
  go_wp2_with fail
  obtain ⟨wo, hwo⟩ : ∃ wo : World, wo = w := ⟨_, rfl⟩
  go_loopw [7, 22, 8] (fun v i _ wr => OrderRel w.heap.size n row w v i wr) (fun _ i _ _ => (n - intOf i).toNat)
  case atStart => exact ⟨0, by omega, rfl, World.ownsRow_nil _ _ _ _, Below.refl _ _⟩
  case round =>
    clear hwo
    obtain ⟨k, hk, rfl, hown, hb⟩ := hrel
    have hbz := hb.size
    by_cases hlt : (k : Int) < n
    · go_wp2_with fail
      refine (disk_any n row k h1 h2 h3 (by omega) (by omega) (by omega) _).mono ?_
      rintro e w' ⟨rfl, rfl⟩
      go_wp2_with (at_builtin; refine app1 w _ _ 3 30 rfl _ _ rfl w.heap.size Tryz.underlying30 info_int rfl _ _ _ rfl _ rfl rfl hown rfl ?c1 ?c2 hbz hb ?_)
      case c1 => omega
      case c2 => omega
      intro v' w1 hown1 hb1 _ _
      clear hown hb
      go_wp2
      go_roundw
      case rel => exact ⟨k + 1, by omega, by go_num, by rw [Lay.orderL_succ]; exact hown1, hb1⟩
      case measure => simp [intOf]; omega
    · obtain rfl : n = k := by omega
      have Hown := Lib.hid hown
      clear hown
      go_wp2
      go_ret2
      exact ⟨_, rfl, Hown.out, hb⟩
end Go.Proofs.YtneebcniofolmaaGreatDoor
namespace Go.Proofs.YtneebcniofolmaaGreatDoor
open Go.ChangeShapes Go.WideShapes Go.ChangeAt Go.RowKit
set_option linter.unusedVariables false
def RLayPost (n row : Int) (w : World) (e : Ending) (w' : World) : Prop :=
  ∃ v, e = .returned v ∧ w'.ownsRow w.heap.size 3 1 v n.toNat (Lay.orderL n row n.toNat) ∧ Below w.heap.size w w'
def RLayRel (n : Nat) (row : Int) (w : World) (gk : Nat) (v i : Value) (wr : World) : Prop :=
  ∃ k : Nat, k + 2 + gk = n ∧ i = iv ((k : Int) + 2) ∧ wr.ownsRow w.heap.size 3 1 v k (Lay.orderL n row k) ∧ Below w.heap.size w wr
theorem lay_last {n : Nat} {row : Int} (h1 : 3 ≤ n) : Lay.orderL n row n = Lay.orderL n row (n - 2) ++ [iv (Lay.pOf n row)] ++ [iv ((Lay.pOf n row + 1) % n)] := by
  have hb := Lay.pOf_bd (n := (n : Int)) (row := row) (by omega)
  have e : n = n - 2 + 1 + 1 := by omega
  conv => lhs; arg 3; rw [e]
  rw [Lay.orderL_succ, Lay.orderL_succ]
  have d1 : Lay.disk n row ((n - 2 : Nat) : Int) = Lay.pOf n row := by
    unfold Lay.disk
    rw [show (Lay.pOf n row + 2 + ((n - 2 : Nat) : Int)) = Lay.pOf n row + n by omega, Int.add_emod_right]
    exact Int.emod_eq_of_lt hb.1 (by omega)
  have d2 : Lay.disk n row ((n - 2 + 1 : Nat) : Int) = (Lay.pOf n row + 1) % n := by
    unfold Lay.disk
    rw [show (Lay.pOf n row + 2 + ((n - 2 + 1 : Nat) : Int)) = Lay.pOf n row + 1 + n by omega, Int.add_emod_right]
  rw [d1, d2]
set_option maxRecDepth 100000 in
set_option maxHeartbeats 1000000 in
theorem rlayout_any (n : Nat) (row : Int) (h1 : 3 ≤ n) (h2 : n ≤ 10) (h3 : 0 ≤ row) (h4 : row ≤ 4611686018427387904) (w : World) :
    Calls Tryz.prog 46 #[iv n, iv row] w (RLayPost n row w) := by
  have e1 := Int.emod_nonneg row (by omega : (n : Int) ≠ 0)
  have e2 := Int.emod_lt_of_pos row (by omega : 0 < (n : Int))
  have hb := Lay.pOf_bd (n := (n : Int)) (row := row) (by omega)
  have hp : (n : Int) - 1 - row % n = Lay.pOf n row := rfl
  have HP := Lib.hid hp
  have HL := Lib.hid (lay_last (row := row) h1)
  have hb1 := hb.1
  have hb2 := hb.2
  have HD : Hid (∀ k : Nat, (Lay.pOf n row + ((k : Int) + 2)) % n = Lay.disk n row k) := Lib.hid (fun k => by unfold Lay.disk; congr 1; omega)
  clear hp hb
  go_enter Tryz.func46, Tryz.ntmps46
  go_wp2_with fail
  rw [HP.out]
  generalize Lay.pOf n row = p at *
  clear e1 e2
  go_loopg [6, 7] (n - 2) (fun gk v i wr => RLayRel n row w gk v i wr)
  case atStart => exact ⟨0, by omega, rfl, World.ownsRow_nil _ _ _ _, Below.refl _ _⟩
  case round =>
    obtain ⟨k, hk, rfl, hown, hb⟩ := hrel
    have hbz := hb.size
    have Hk := Lib.hid hk
    have Hown := Lib.hid hown
    have Hb := Lib.hid hb
    clear hk hown hb
    by_cases hlt : k + 2 < n
    · have hm1 := Int.emod_nonneg (p + ((k : Int) + 2)) (by omega : (n : Int) ≠ 0)
      have hm2 := Int.emod_lt_of_pos (p + ((k : Int) + 2)) (by omega : 0 < (n : Int))
      go_wp2_with (at_builtin; refine app1 w _ _ 3 30 rfl _ _ rfl w.heap.size Tryz.underlying30 info_int rfl _ _ _ rfl _ rfl rfl Hown.out rfl ?c1 ?c2 hbz Hb.out ?_)
      case c1 => omega
      try case c2 => omega
      intro v' w1 hown1 hb1 _ _
      rw [HD.out k] at hown1
      have Hown1 := Lib.hid hown1
      have Hb1 := Lib.hid hb1
      clear hown1 hb1
      go_wp2_with fail
      go_roundg (gk - 1)
      case measure => have := Hk.out; omega
      case rel => exact ⟨k + 1, by have := Hk.out; omega, by go_num, by rw [Lay.orderL_succ]; exact Hown1.out, Hb1.out⟩
    · have hk2 : k = n - 2 := by have := Hk.out; omega
      subst hk2
      have hge : ¬ (((n - 2 : Nat) : Int) + 2 < (n : Int)) := by omega
      go_wp2_with (at_builtin; refine app1 w _ _ 3 30 rfl _ _ rfl w.heap.size Tryz.underlying30 info_int rfl _ _ _ rfl _ rfl rfl Hown.out rfl ?d1 ?d2 hbz Hb.out ?_)
      case d1 => omega
      try case d2 => omega
      intro v' w1 hown1 hb1 _ _
      have Hown1 := Lib.hid hown1
      have Hb1 := Lib.hid hb1
      have hbz1 := hb1.size
      clear hown1 hb1
      go_wp2_with (at_builtin; refine app1 w _ _ 3 30 rfl _ _ rfl w.heap.size Tryz.underlying30 info_int rfl _ _ _ rfl _ rfl rfl Hown1.out rfl ?f1 ?f2 hbz1 Hb1.out ?_)
      case f1 => omega
      try case f2 => omega
      intro v2 w2 hown2 hb2 _ _
      have Hown2 := Lib.hid hown2
      have Hb2 := Lib.hid hb2
      clear hown2 hb2
      go_wp2_with fail
      go_ret
      refine ⟨_, rfl, ?_, Hb2.out⟩
      have h := Hown2.out
      rw [show n - 2 + 1 + 1 = n by omega] at h
      rw [Int.toNat_natCast, HL.out, List.append_assoc]
      exact h
end Go.Proofs.YtneebcniofolmaaGreatDoor
