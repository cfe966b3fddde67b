/- The walk of layout.Order: the list of a row's disks. -/
import Derived.Test.YtcldioneiededaaLayW
namespace Go.Proofs.Ytcldioneiededaa
open Go.ChangeShapes Go.WideShapes Go.ChangeAt Go.RowKit


def Lay.orderL (n row : Int) (k : Nat) : List Value := (List.range k).map fun i : Nat => iv (Lay.disk n row i)
theorem Lay.orderL_succ (n row : Int) (k : Nat) : Lay.orderL n row (k + 1) = Lay.orderL n row k ++ [iv (Lay.disk n row k)] := by
  unfold Lay.orderL; rw [List.range_succ, List.map_append]; rfl
theorem Lay.orderL_get {n row : Int} {m k : Nat} (h : k < m) : (Lay.orderL n row m)[k]? = some (iv (Lay.disk n row k)) := by
  unfold Lay.orderL; rw [List.getElem?_map, List.getElem?_range h]; rfl
def OrderPost (n row : Int) (w : World) (e : Ending) (w' : World) : Prop :=
  ∃ v, e = .returned (.tuple #[v, .nilIface]) ∧ w'.ownsRow w.heap.size 3 1 v n.toNat (Lay.orderL n row n.toNat) ∧ Below w.heap.size w w'
def OrderRel (B : Nat) (n row : Int) (w : World) (v i : Value) (wr : World) : Prop :=
  ∃ k : Nat, (k : Int) ≤ n ∧ i = iv k ∧ wr.ownsRow B 3 1 v k (Lay.orderL n row k) ∧ Below B w wr

theorem order_no1 (n row : Int) (h : n < 3 ∨ 10 < n) (w : World) :
    Calls Try.prog 50 #[iv n, iv row] w fun e w' => e = .returned (.tuple #[.slice none 0 0, ev 1]) ∧ w = w' := by
  go_enter Try.func50, Try.ntmps50
  go_wp2_with fail
  refine (lcheck_no n h _).mono ?_
  rintro e w' ⟨rfl, rfl⟩
  go_wp2
  go_ret2
  exact ⟨rfl, rfl⟩
theorem order_no2 (n row : Int) (h1 : 3 ≤ n) (h2 : n ≤ 10) (h : row < 0 ∨ 0 ≤ row ∧ 20 ≤ row) (w : World) :
    Calls Try.prog 50 #[iv n, iv row] w fun e w' => e = .returned (.tuple #[.slice none 0 0, ev 1]) ∧ w = w' := by
  rcases h with h | ⟨h, h'⟩
  all_goals
    go_enter Try.func50, Try.ntmps50
    go_wp2_with fail
    refine (lcheck_yes n h1 h2 _).mono ?_
    rintro e w' ⟨rfl, rfl⟩
    go_wp2
    go_ret2
    exact ⟨rfl, rfl⟩
set_option maxRecDepth 100000 in
set_option maxHeartbeats 1000000 in
theorem order_yes (n row : Int) (h1 : 3 ≤ n) (h2 : n ≤ 10) (h3 : 0 ≤ row) (h4 : row < 20) (w : World) :
    Calls Try.prog 50 #[iv n, iv row] w (OrderPost n row w) := by
  obtain ⟨i0, hi, hz0, hz1, hz2⟩ := info_parts info_int
  go_enter Try.func50, Try.ntmps50
  go_wp2_with fail
  refine (lcheck_yes n h1 h2 _).mono ?_
  rintro e w' ⟨rfl, rfl⟩
  go_wp2_with fail
  obtain ⟨wo, hwo⟩ : ∃ wo : World, wo = w := ⟨_, rfl⟩
  go_loopw [7, 22, 8] (fun v i _ wr => OrderRel w.heap.size n row w v i wr) (fun _ i _ _ => (n - intOf i).toNat)
  case atStart => exact ⟨0, by omega, rfl, World.ownsRow_nil _ _ _ _, Below.refl _ _⟩
  case round =>
    clear hwo
    obtain ⟨k, hk, rfl, hown, hb⟩ := hrel
    have hbz := hb.size
    by_cases hlt : (k : Int) < n
    · go_wp2_with fail
      refine (disk_any n row k h1 h2 h3 (by omega) (by omega) (by omega) _).mono ?_
      rintro e w' ⟨rfl, rfl⟩
      go_wp2_with (at_builtin; refine app1 w _ _ 3 22 rfl _ _ rfl w.heap.size Try.underlying22 info_int rfl _ _ _ rfl _ rfl rfl hown rfl ?c1 ?c2 hbz hb ?_)
      case c1 => omega
      case c2 => omega
      intro v' w1 hown1 hb1 _ _
      clear hown hb
      go_wp2
      go_roundw
      case rel => exact ⟨k + 1, by omega, by go_num, by rw [Lay.orderL_succ]; exact hown1, hb1⟩
      case measure => simp [intOf]; omega
    · obtain rfl : n = k := by omega
      have Hown := Lib.hid hown
      clear hown
      go_wp2
      go_ret2
      exact ⟨_, rfl, Hown.out, hb⟩
end Go.Proofs.Ytcldioneiededaa
