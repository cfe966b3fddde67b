/- The walk of the law ReserveTakes: it returns true. -/
import Derived.Test.YtoddoekmgkcomaaResX
namespace Go.Proofs.Ytoddoekmgkcomaa
open Go.ChangeShapes Go.WideShapes Go.ChangeAt Go.RowKit
set_option linter.unusedVariables false
namespace Res
def t1 (a : Nat) : Int × St := register zero a 5
def t2 (a b : Nat) : Int × St := register (t1 a).2 b 6
def t3 (a b k : Nat) : Int × St := hold (t2 a b).2 a 5 k
def t4 (a b k : Nat) : (Int × Int) × St := preempt (t3 a b k).2 b 6 5
def takesOk (a b k : Nat) : Bool :=
  (t1 a).1 == 0 && (t2 a b).1 == 0 && (t3 a b k).1 == 0 && (t4 a b k).1.1 == 1 && (t4 a b k).1.2 == 0 && may (t4 a b k).2 a true == false && (t4 a b k).2.2.1 == b && (t4 a b k).2.2.2 == k
theorem takes_all : ∀ a, a < 10 → ∀ b, b < 10 → ∀ k, k < 5 → (decide (1 ≤ a) && decide (1 ≤ b) && a != b && decide (1 ≤ k)) = true → takesOk a b k = true := by decide +kernel
end Res
theorem hold_f0 (x y : Int) (w : World) : (Instr.field 57 (.agg #[.int .i64 x, .int .i64 y]) 0).run Try.prog w = .ok (.int .i64 x) w := by kernel_rfl
theorem hold_f1 (x y : Int) (w : World) : (Instr.field 57 (.agg #[.int .i64 x, .int .i64 y]) 1).run Try.prog w = .ok (.int .i64 y) w := by kernel_rfl
set_option maxRecDepth 100000 in
set_option maxHeartbeats 1000000 in
theorem takes_bad (a b k : Int) (w : World)
    (hc : a < 1 ∨ (1 ≤ a ∧ 9 < a) ∨ (1 ≤ a ∧ a ≤ 9 ∧ b < 1) ∨ (1 ≤ a ∧ a ≤ 9 ∧ 1 ≤ b ∧ 9 < b) ∨ (1 ≤ a ∧ a ≤ 9 ∧ b = a) ∨ (1 ≤ a ∧ a ≤ 9 ∧ 1 ≤ b ∧ b ≤ 9 ∧ a ≠ b ∧ k < 1) ∨ (1 ≤ a ∧ a ≤ 9 ∧ 1 ≤ b ∧ b ≤ 9 ∧ a ≠ b ∧ 1 ≤ k ∧ 4 < k)) :
    Calls Try.prog 8 #[iv a, iv b, iv k] w fun e w' => e = .returned (.bool true) ∧ Below w.heap.size w w' := by
  rcases hc with h | ⟨h1, h2⟩ | ⟨h1, h2, h3⟩ | ⟨h1, h2, h3, h4⟩ | ⟨h1, h2, rfl⟩ | ⟨h1, h2, h3, h4, h5, h6⟩ | ⟨h1, h2, h3, h4, h5, h6, h7⟩
  case' inr.inr.inr.inr.inr.inl => have h8 := beq_f h5; clear h5
  case' inr.inr.inr.inr.inr.inr => have h8 := beq_f h5; clear h5
  all_goals
    have hf0 := hold_f0
    go_enter Try.func8, Try.ntmps8
    go_wp2_with fail
    refine (resNew_any _).mono ?_
    rintro e w1 ⟨rfl, hR, hb⟩
    have HR := Lib.hid hR
    have Hb := Lib.hid hb
    clear hR hb
    go_wp2_with fail
    refine (holder_any HR.out).mono ?_
    rintro e w2 ⟨rfl, hb⟩
    have HR2 := Lib.hid (HR.out.below hb)
    have Hb2 := Lib.hid (Hb.out.trans (hb.mono Hb.out.size))
    have e0 : Res.zero.2.1 = 0 := rfl
    rw [e0]
    clear hb e0
    go_wp2_with fail
    refine (keys_any HR2.out).mono ?_
    rintro e w3 ⟨v, rfl, hown, hb⟩
    obtain ⟨g, cap, rfl, _⟩ := owns_pos hown (by omega)
    have Hb3 := Lib.hid (Hb2.out.trans (hb.mono Hb2.out.size))
    clear hown hb
    go_wp2_with fail
    go_ret
    exact ⟨rfl, Hb3.out⟩
set_option maxRecDepth 100000 in
set_option maxHeartbeats 1000000 in
theorem takes_good (a b k : Nat) (h1 : 1 ≤ a) (h2 : a ≤ 9) (h3 : 1 ≤ b) (h4 : b ≤ 9) (h5 : a ≠ b) (h6 : 1 ≤ k) (h7 : k ≤ 4) (w : World) :
    Calls Try.prog 8 #[iv a, iv b, iv k] w fun e w' => e = .returned (.bool true) ∧ Below w.heap.size w w' := by
  have hall := Res.takes_all a (by omega) b (by omega) k (by omega) (by simp [h1, h3, h5, h6])
  simp only [Res.takesOk, Bool.and_eq_true, beq_iff_eq] at hall
  obtain ⟨⟨⟨⟨⟨⟨⟨e1, e2⟩, e3⟩, e4⟩, e5⟩, e6⟩, e7⟩, e8⟩ := hall
  have E1 := Lib.hid e1
  have E2 := Lib.hid e2
  have E3 := Lib.hid e3
  have E4 := Lib.hid e4
  have E5 := Lib.hid e5
  have E6 := Lib.hid e6
  have E7 := Lib.hid e7
  have E8 := Lib.hid e8
  have h8 : ((a : Int) == (b : Int)) = false := beq_f (by omega)
  clear e1 e2 e3 e4 e5 e6 e7 e8 h5
  go_enter Try.func8, Try.ntmps8
  go_wp2_with fail
  refine (resNew_any _).mono ?_
  rintro e w1 ⟨rfl, hR, hb⟩
  have HR := Lib.hid hR
  have Hb := Lib.hid hb
  clear hR hb
  go_wp2_with fail
  refine (register_any HR.out a 5).mono ?_
  rintro e w2 ⟨rfl, hR, hk⟩
  rw [show (Res.register Res.zero a 5).1 = 0 from E1.out, errV_0]
  have HR2 := Lib.hid (show ResAt w2 w.heap.size (Res.t1 a).2 from hR)
  have HK2 := Lib.hid hk
  clear hR hk
  go_wp2_with fail
  refine (register_any HR2.out b 6).mono ?_
  rintro e w3 ⟨rfl, hR, hk⟩
  rw [show (Res.register (Res.t1 a).2 b 6).1 = 0 from E2.out, errV_0]
  have HR3 := Lib.hid (show ResAt w3 w.heap.size (Res.t2 a b).2 from hR)
  have HK3 := Lib.hid (HK2.out.also hk)
  clear hR hk
  go_wp2_with fail
  refine (hold_any HR3.out a 5 k).mono ?_
  rintro e w4 ⟨rfl, hR, hk⟩
  rw [show (Res.hold (Res.t2 a b).2 a 5 k).1 = 0 from E3.out, errV_0]
  have HR4 := Lib.hid (show ResAt w4 w.heap.size (Res.t3 a b k).2 from hR)
  have HK4 := Lib.hid (HK3.out.also hk)
  clear hR hk
  go_wp2_with fail
  refine (preempt_any HR4.out b 6 5).mono ?_
  rintro e w5 ⟨rfl, hR, hk⟩
  rw [show (Res.preempt (Res.t3 a b k).2 b 6 5).1.1 = 1 from E4.out, show (Res.preempt (Res.t3 a b k).2 b 6 5).1.2 = 0 from E5.out, errV_0]
  have HR5 := Lib.hid (show ResAt w5 w.heap.size (Res.t4 a b k).2 from hR)
  have HK5 := Lib.hid (HK4.out.also hk)
  clear hR hk
  go_wp2_with fail
  refine (may_yes HR5.out a true (by simp [Res.hostB]; omega)).mono ?_
  rintro e w6 ⟨rfl, n, rfl⟩
  rw [E6.out, errV_0]
  go_wp2_with fail
  refine (holder_any (HR5.out.drewN n)).mono ?_
  rintro e w7 ⟨rfl, hb⟩
  rw [E7.out, E8.out]
  have HB := Lib.hid (Hb.out.trans (((HK5.out.drewN n).toBelow (by have := Hb.out.size; omega) (fun _ _ h => by rw [h]; exact Nat.le_refl _)).trans (hb.mono (by have := HK5.out.size; have := Hb.out.size; simp; omega))))
  clear hb
  go_wp2_with fail
  go_ret
  exact ⟨rfl, HB.out⟩
theorem reserveTakes_walk (a b k : Int) (ha : (Lit.int .i64 a).wf = true) (hb : (Lit.int .i64 b).wf = true) (hk : (Lit.int .i64 k).wf = true) (w : World) :
    Calls Try.prog 8 #[iv a, iv b, iv k] w fun e w' => e = .returned (.bool true) ∧ Below w.heap.size w w' := by
  by_cases h : 1 ≤ a ∧ a ≤ 9 ∧ 1 ≤ b ∧ b ≤ 9 ∧ a ≠ b ∧ 1 ≤ k ∧ k ≤ 4
  · obtain ⟨a', rfl⟩ : ∃ n : Nat, a = n := ⟨a.toNat, by omega⟩
    obtain ⟨b', rfl⟩ : ∃ n : Nat, b = n := ⟨b.toNat, by omega⟩
    obtain ⟨k', rfl⟩ : ∃ n : Nat, k = n := ⟨k.toNat, by omega⟩
    exact takes_good a' b' k' (by omega) (by omega) (by omega) (by omega) (by omega) (by omega) (by omega) w
  · exact takes_bad a b k w (by omega)
end Go.Proofs.Ytoddoekmgkcomaa
