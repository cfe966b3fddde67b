/- The walks of package layout: each function returns what is said here in plain integers. -/
import Derived.Test.YtcldioneiededaaBase
namespace Go.Proofs.Ytcldioneiededaa
open Go.ChangeShapes Go.WideShapes Go.ChangeAt Go.RowKit

namespace Lay
/-- where P stands -/
def pOf (n row : Int) : Int := n - 1 - row % n
/-- the disk of the i-th part of a row -/
def disk (n row i : Int) : Int := (pOf n row + 2 + i) % n
/-- which part stands on a disk: P is 0 here, Q is 1 -/
def part (n d row : Int) : Int := (d - pOf n row) % n
/-- the role, as the program tells it -/
def role (n d row : Int) : Int := if part n d row = 0 then -1 else if part n d row = 1 then -2 else part n d row - 2
theorem pOf_bd {n row : Int} (hn : 0 < n) : 0 ≤ pOf n row ∧ pOf n row ≤ n - 1 := by
  unfold pOf
  have h1 := Int.emod_nonneg row (by omega : n ≠ 0)
  have h2 := Int.emod_lt_of_pos row hn
  omega
theorem disk_bd {n row i : Int} (hn : 0 < n) : 0 ≤ disk n row i ∧ disk n row i < n :=
  ⟨Int.emod_nonneg _ (by omega), Int.emod_lt_of_pos _ hn⟩
theorem part_bd {n row i : Int} (hn : 0 < n) : 0 ≤ part n row i ∧ part n row i < n :=
  ⟨Int.emod_nonneg _ (by omega), Int.emod_lt_of_pos _ hn⟩
theorem role_P {n d r : Int} (h : ((d - pOf n r) % n == 0) = true) : role n d r = -1 := by
  unfold role part; rw [if_pos (by simpa using h)]
theorem role_Q {n d r : Int} (h : ((d - pOf n r) % n == 0) = false) (h1 : ((d - pOf n r) % n == 1) = true) : role n d r = -2 := by
  unfold role part; rw [if_neg (by simpa using h), if_pos (by simpa using h1)]
theorem role_D {n d r : Int} (h : ((d - pOf n r) % n == 0) = false) (h1 : ((d - pOf n r) % n == 1) = false) : role n d r = (d - pOf n r) % n - 2 := by
  unfold role part; rw [if_neg (by simpa using h), if_neg (by simpa using h1)]
theorem role_bd {n d r : Int} (hn : 3 ≤ n) : -2 ≤ role n d r ∧ role n d r ≤ n - 3 := by
  have h := part_bd (n := n) (row := d) (i := r) (by omega)
  unfold role
  split
  · omega
  · split <;> omega
theorem eight {n : Int} (h1 : 3 ≤ n) (h2 : n ≤ 10) : n = 3 ∨ n = 4 ∨ n = 5 ∨ n = 6 ∨ n = 7 ∨ n = 8 ∨ n = 9 ∨ n = 10 := by omega
theorem role_disk {n row k : Int} (h1 : 3 ≤ n) (h2 : n ≤ 10) (h3 : 0 ≤ row) (h5 : 0 ≤ k) (h6 : k < n) : role n (disk n row k) row = if n - 2 ≤ k then n - 3 - k else k := by
  unfold role part disk pOf
  rcases eight h1 h2 with rfl | rfl | rfl | rfl | rfl | rfl | rfl | rfl <;> (split <;> omega)
theorem disk_inj {n row k m : Int} (h1 : 3 ≤ n) (h2 : n ≤ 10) (h3 : 0 ≤ row) (h5 : 0 ≤ k) (h6 : k < n) (h7 : 0 ≤ m) (h8 : m < n) (h : disk n row m = disk n row k) : m = k := by
  unfold disk pOf at h
  rcases eight h1 h2 with rfl | rfl | rfl | rfl | rfl | rfl | rfl | rfl <;> omega
theorem disk_P {n r : Int} (h1 : 3 ≤ n) (h2 : n ≤ 10) (h3 : 0 ≤ r) (h4 : r < n) : disk n r (n - 2) = n - 1 - r := by
  unfold disk pOf
  rcases eight h1 h2 with rfl | rfl | rfl | rfl | rfl | rfl | rfl | rfl <;> omega
theorem back {n b : Int} (h1 : 3 ≤ n) (h2 : n ≤ 10) (h3 : 0 ≤ b) : b / (n - 2) * (n - 2) + b % (n - 2) = b := by
  have := Int.mul_ediv_add_emod b (n - 2); rw [Int.mul_comm]; exact this
end Lay

theorem lcheck_yes (n : Int) (h1 : 3 ≤ n) (h2 : n ≤ 10) (w : World) :
    Calls Try.prog 24 #[iv n] w fun e w' => e = .returned .nilIface ∧ w = w' := by
  go_enter Try.func24, Try.ntmps24
  go_wp2
  go_ret
  exact ⟨rfl, rfl⟩
theorem lcheck_no (n : Int) (h : n < 3 ∨ 10 < n) (w : World) :
    Calls Try.prog 24 #[iv n] w fun e w' => e = .returned (ev 1) ∧ w = w' := by
  rcases h with h | h
  · go_enter Try.func24, Try.ntmps24
    go_wp2
    go_ret
    exact ⟨rfl, rfl⟩
  · have h' : ¬ n < 3 := by omega
    go_enter Try.func24, Try.ntmps24
    go_wp2
    go_ret
    exact ⟨rfl, rfl⟩
theorem pOf_any (n row : Int) (h1 : 3 ≤ n) (h2 : n ≤ 10) (h3 : 0 ≤ row) (h4 : row ≤ 4611686018427387904) (w : World) :
    Calls Try.prog 73 #[iv n, iv row] w fun e w' => e = .returned (iv (Lay.pOf n row)) ∧ w = w' := by
  have e1 := Int.emod_nonneg row (by omega : n ≠ 0)
  have e2 := Int.emod_lt_of_pos row (by omega : 0 < n)
  go_enter Try.func73, Try.ntmps73
  go_wp2
  go_ret
  exact ⟨rfl, rfl⟩
theorem disk_any (n row i : Int) (h1 : 3 ≤ n) (h2 : n ≤ 10) (h3 : 0 ≤ row) (h4 : row ≤ 4611686018427387904) (h5 : 0 ≤ i) (h6 : i ≤ 1000) (w : World) :
    Calls Try.prog 62 #[iv n, iv row, iv i] w fun e w' => e = .returned (iv (Lay.disk n row i)) ∧ w = w' := by
  have e1 := Lay.pOf_bd (n := n) (row := row) (by omega)
  go_enter Try.func62, Try.ntmps62
  go_wp2_with fail
  refine (pOf_any n row h1 h2 h3 h4 _).mono ?_
  rintro e w' ⟨rfl, rfl⟩
  go_wp2
  go_ret
  exact ⟨rfl, rfl⟩

theorem data_yes (n b : Int) (h1 : 3 ≤ n) (h2 : n ≤ 10) (h3 : 0 ≤ b) (h4 : b / (n - 2) < 20) (h5 : b ≤ 9223372036854775807) (w : World) :
    Calls Try.prog 49 #[iv n, iv b] w fun e w' => e = .returned (.tuple #[.agg #[iv (Lay.disk n (b / (n - 2)) (b % (n - 2))), iv (b / (n - 2))], .nilIface]) ∧ Below w.heap.size w w' := by
  have e1 := Int.emod_nonneg b (by omega : n - 2 ≠ 0)
  have e2 := Int.emod_lt_of_pos b (by omega : 0 < n - 2)
  have e3 : 0 ≤ b / (n - 2) := Int.ediv_nonneg h3 (by omega)
  go_enter Try.func49, Try.ntmps49
  go_wp2_with fail
  refine (lcheck_yes n h1 h2 _).mono ?_
  rintro e w' ⟨rfl, rfl⟩
  go_wp2_with fail
  refine (disk_any n (b / (n - 2)) (b % (n - 2)) h1 h2 e3 (by omega) e1 (by omega) _).mono ?_
  rintro e w' ⟨rfl, rfl⟩
  go_wp2
  exact bodyPost_ret (v := .tuple #[.agg #[iv (Lay.disk n (b / (n - 2)) (b % (n - 2))), iv (b / (n - 2))], .nilIface]) (by simp [results, Try.results49, go_sem]) rfl ⟨rfl, (Below.refl _ _).alloc (Nat.le_refl _) _⟩
theorem data_no1 (n b : Int) (h : n < 3 ∨ 10 < n) (w : World) :
    Calls Try.prog 49 #[iv n, iv b] w fun e w' => e = .returned (.tuple #[.agg #[iv 0, iv 0], ev 1]) ∧ Below w.heap.size w w' := by
  go_enter Try.func49, Try.ntmps49
  go_wp2_with fail
  refine (lcheck_no n h _).mono ?_
  rintro e w' ⟨rfl, rfl⟩
  go_wp2
  exact bodyPost_ret (v := .tuple #[.agg #[iv 0, iv 0], ev 1]) (by simp [results, Try.results49, go_sem]) rfl ⟨rfl, (Below.refl _ _).alloc (Nat.le_refl _) _⟩
theorem data_no2 (n b : Int) (h1 : 3 ≤ n) (h2 : n ≤ 10) (h5 : b ≤ 9223372036854775807) (h6 : -9223372036854775808 ≤ b) (h : b < 0 ∨ (0 ≤ b ∧ 20 ≤ b / (n - 2))) (w : World) :
    Calls Try.prog 49 #[iv n, iv b] w fun e w' => e = .returned (.tuple #[.agg #[iv 0, iv 0], ev 1]) ∧ Below w.heap.size w w' := by
  rcases h with h | ⟨h, h'⟩
  all_goals
    go_enter Try.func49, Try.ntmps49
    go_wp2_with fail
    refine (lcheck_yes n h1 h2 _).mono ?_
    rintro e w' ⟨rfl, rfl⟩
    go_wp2
    exact bodyPost_ret (v := .tuple #[.agg #[iv 0, iv 0], ev 1]) (by simp [results, Try.results49, go_sem]) rfl ⟨rfl, (Below.refl _ _).alloc (Nat.le_refl _) _⟩

end Go.Proofs.Ytcldioneiededaa
