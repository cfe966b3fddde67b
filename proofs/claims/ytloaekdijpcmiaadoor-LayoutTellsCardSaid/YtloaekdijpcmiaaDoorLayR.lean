/- The walk of the reference's order of a row's disks. -/
import Derived.Test.YtloaekdijpcmiaaDoorOrder
import Derived.Deep.LoopGhost
namespace Go.Proofs.YtloaekdijpcmiaaDoor
open Go.ChangeShapes Go.WideShapes Go.ChangeAt Go.RowKit
set_option linter.unusedVariables false
def RLayPost (n row : Int) (w : World) (e : Ending) (w' : World) : Prop :=
  ∃ v, e = .returned v ∧ w'.ownsRow w.heap.size 3 1 v n.toNat (Lay.orderL n row n.toNat) ∧ Below w.heap.size w w'
def RLayRel (n : Nat) (row : Int) (w : World) (gk : Nat) (v i : Value) (wr : World) : Prop :=
  ∃ k : Nat, k + 2 + gk = n ∧ i = iv ((k : Int) + 2) ∧ wr.ownsRow w.heap.size 3 1 v k (Lay.orderL n row k) ∧ Below w.heap.size w wr
theorem lay_last {n : Nat} {row : Int} (h1 : 3 ≤ n) : Lay.orderL n row n = Lay.orderL n row (n - 2) ++ [iv (Lay.pOf n row)] ++ [iv ((Lay.pOf n row + 1) % n)] := by
  have hb := Lay.pOf_bd (n := (n : Int)) (row := row) (by omega)
  have e : n = n - 2 + 1 + 1 := by omega
  conv => lhs; arg 3; rw [e]
  rw [Lay.orderL_succ, Lay.orderL_succ]
  have d1 : Lay.disk n row ((n - 2 : Nat) : Int) = Lay.pOf n row := by
    unfold Lay.disk
    rw [show (Lay.pOf n row + 2 + ((n - 2 : Nat) : Int)) = Lay.pOf n row + n by omega, Int.add_emod_right]
    exact Int.emod_eq_of_lt hb.1 (by omega)
  have d2 : Lay.disk n row ((n - 2 + 1 : Nat) : Int) = (Lay.pOf n row + 1) % n := by
    unfold Lay.disk
    rw [show (Lay.pOf n row + 2 + ((n - 2 + 1 : Nat) : Int)) = Lay.pOf n row + 1 + n by omega, Int.add_emod_right]
  rw [d1, d2]
set_option maxRecDepth 100000 in
set_option maxHeartbeats 1000000 in
theorem rlayout_any (n : Nat) (row : Int) (h1 : 3 ≤ n) (h2 : n ≤ 10) (h3 : 0 ≤ row) (h4 : row ≤ 4611686018427387904) (w : World) :
    Calls Tryd.prog 20 #[iv n, iv row] w (RLayPost n row w) := by
  have e1 := Int.emod_nonneg row (by omega : (n : Int) ≠ 0)
  have e2 := Int.emod_lt_of_pos row (by omega : 0 < (n : Int))
  have hb := Lay.pOf_bd (n := (n : Int)) (row := row) (by omega)
  have hp : (n : Int) - 1 - row % n = Lay.pOf n row := rfl
  have HP := Lib.hid hp
  have HL := Lib.hid (lay_last (row := row) h1)
  have hb1 := hb.1
  have hb2 := hb.2
  have HD : Hid (∀ k : Nat, (Lay.pOf n row + ((k : Int) + 2)) % n = Lay.disk n row k) := Lib.hid (fun k => by unfold Lay.disk; congr 1; omega)
  clear hp hb
  go_enter Tryd.func20, Tryd.ntmps20
  go_wp2_with fail
  rw [HP.out]
  generalize Lay.pOf n row = p at *
  clear e1 e2
  go_loopg [6, 7] (n - 2) (fun gk v i wr => RLayRel n row w gk v i wr)
  case atStart => exact ⟨0, by omega, rfl, World.ownsRow_nil _ _ _ _, Below.refl _ _⟩
  case round =>
    obtain ⟨k, hk, rfl, hown, hb⟩ := hrel
    have hbz := hb.size
    have Hk := Lib.hid hk
    have Hown := Lib.hid hown
    have Hb := Lib.hid hb
    clear hk hown hb
    by_cases hlt : k + 2 < n
    · have hm1 := Int.emod_nonneg (p + ((k : Int) + 2)) (by omega : (n : Int) ≠ 0)
      have hm2 := Int.emod_lt_of_pos (p + ((k : Int) + 2)) (by omega : 0 < (n : Int))
      go_wp2_with (at_builtin; refine app1 w _ _ 3 42 rfl _ _ rfl w.heap.size Tryd.underlying42 info_int rfl _ _ _ rfl _ rfl rfl Hown.out rfl ?c1 ?c2 hbz Hb.out ?_)
      case c1 => omega
      try case c2 => omega
      intro v' w1 hown1 hb1 _ _
      rw [HD.out k] at hown1
      have Hown1 := Lib.hid hown1
      have Hb1 := Lib.hid hb1
      clear hown1 hb1
      go_wp2_with fail
      go_roundg (gk - 1)
      case measure => have := Hk.out; omega
      case rel => exact ⟨k + 1, by have := Hk.out; omega, by go_num, by rw [Lay.orderL_succ]; exact Hown1.out, Hb1.out⟩
    · have hk2 : k = n - 2 := by have := Hk.out; omega
      subst hk2
      have hge : ¬ (((n - 2 : Nat) : Int) + 2 < (n : Int)) := by omega
      go_wp2_with (at_builtin; refine app1 w _ _ 3 42 rfl _ _ rfl w.heap.size Tryd.underlying42 info_int rfl _ _ _ rfl _ rfl rfl Hown.out rfl ?d1 ?d2 hbz Hb.out ?_)
      case d1 => omega
      try case d2 => omega
      intro v' w1 hown1 hb1 _ _
      have Hown1 := Lib.hid hown1
      have Hb1 := Lib.hid hb1
      have hbz1 := hb1.size
      clear hown1 hb1
      go_wp2_with (at_builtin; refine app1 w _ _ 3 42 rfl _ _ rfl w.heap.size Tryd.underlying42 info_int rfl _ _ _ rfl _ rfl rfl Hown1.out rfl ?f1 ?f2 hbz1 Hb1.out ?_)
      case f1 => omega
      try case f2 => omega
      intro v2 w2 hown2 hb2 _ _
      have Hown2 := Lib.hid hown2
      have Hb2 := Lib.hid hb2
      clear hown2 hb2
      go_wp2_with fail
      go_ret
      refine ⟨_, rfl, ?_, Hb2.out⟩
      have h := Hown2.out
      rw [show n - 2 + 1 + 1 = n by omega] at h
      rw [Int.toNat_natCast, HL.out, List.append_assoc]
      exact h
end Go.Proofs.YtloaekdijpcmiaaDoor
