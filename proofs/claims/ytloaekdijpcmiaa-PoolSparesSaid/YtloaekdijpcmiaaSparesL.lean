/- The walk of the law PoolSpares: it returns true. -/
import Derived.Test.YtloaekdijpcmiaaPoolM
namespace Go.Proofs.Ytloaekdijpcmiaa
open Go.ChangeShapes Go.WideShapes Go.ChangeAt Go.RowKit
set_option linter.unusedVariables false

namespace Pool
/-- the pool behind i disks that failed, one behind the other -/
def spare (m k : Nat) : Nat → List Int × List Int
  | 0 => (newS m (m + k), newL m (m + k))
  | i + 1 => let p := spare m k i; ((fail p.1 p.2 i).1, (fail p.1 p.2 i).2.1)
def spareOk (m k i : Nat) : Bool :=
  let p := spare m k i
  (p.1.length == m + k && p.2.length == m) &&
  (if i < m then (match p.1[i]? with | some x => x != 2 | none => false) && (fail p.1 p.2 i).2.2 == (if i < k then (m : Int) + i else -1)
   else (p.1[0]? == some 2) && (fresh p.1 p.2 0).2.2 == (if m ≤ k then -1 else (k : Int)))
theorem spare_all : ∀ m, m < 11 → (1 ≤ m → ∀ k, k < 11 → ∀ i, i < 11 → (i ≤ m → spareOk m k i = true)) := by decide +kernel
theorem spare_len {m k i : Nat} (h1 : 1 ≤ m) (h2 : m ≤ 10) (h3 : k ≤ 10) (h4 : i ≤ m) : (spare m k i).1.length = m + k ∧ (spare m k i).2.length = m := by
  have h := spare_all m (by omega) h1 k (by omega) i (by omega) h4
  unfold spareOk at h
  simp only [Bool.and_eq_true, beq_iff_eq] at h
  exact h.1
theorem spare_fail {m k i : Nat} (h1 : 1 ≤ m) (h2 : m ≤ 10) (h3 : k ≤ 10) (h4 : i < m) :
    (∃ x, (spare m k i).1[i]? = some x ∧ x ≠ 2) ∧ (fail (spare m k i).1 (spare m k i).2 i).2.2 = if i < k then (m : Int) + i else -1 := by
  have h := spare_all m (by omega) h1 k (by omega) i (by omega) (by omega)
  unfold spareOk at h
  simp only [Bool.and_eq_true, beq_iff_eq, if_pos h4] at h
  obtain ⟨_, h5, h6⟩ := h
  refine ⟨?_, h6⟩
  revert h5
  cases (spare m k i).1[i]? with
  | none => intro h; cases h
  | some x => intro h; exact ⟨x, rfl, by simpa using h⟩
theorem spare_fresh {m k : Nat} (h1 : 1 ≤ m) (h2 : m ≤ 10) (h3 : k ≤ 10) :
    (spare m k m).1[0]? = some 2 ∧ (fresh (spare m k m).1 (spare m k m).2 0).2.2 = if m ≤ k then -1 else (k : Int) := by
  have h := spare_all m (by omega) h1 k (by omega) m (by omega) (Nat.le_refl _)
  unfold spareOk at h
  simp only [Bool.and_eq_true, beq_iff_eq, if_neg (Nat.lt_irrefl m)] at h
  exact h.2
end Pool
def SpareRel (B b gs cs gl cl m k : Nat) (w : World) (i : Value) (wr : World) : Prop :=
  ∃ j : Nat, j ≤ m ∧ i = iv j ∧ PoolAt wr B b gs cs gl cl (Pool.spare m k j).1 (Pool.spare m k j).2 ∧ Below B w wr

set_option maxRecDepth 100000 in
set_option maxHeartbeats 2000000 in
theorem poolSpares_walk (a b : Int) (ha : (Lit.int .i64 a).wf = true) (hb : (Lit.int .i64 b).wf = true) (w : World) :
    Calls Try.prog 8 #[iv a, iv b] w fun e w' => e = .returned (.bool true) ∧ Below w.heap.size w w' := by
  have ha1 := bounds_i64 ha
  have hb1 := bounds_i64 hb
  clear ha hb
  by_cases h : 1 ≤ a ∧ a ≤ 10 ∧ 0 ≤ b ∧ b ≤ 10
  · obtain ⟨h1, h2, h3, h4⟩ := h
    obtain ⟨m, rfl⟩ : ∃ m : Nat, a = m := ⟨a.toNat, by omega⟩
    obtain ⟨k, rfl⟩ : ∃ k : Nat, b = k := ⟨b.toNat, by omega⟩
    clear ha1 hb1
    go_enter Try.func8, Try.ntmps8
    go_wp2_with fail
    refine (new_yes m k (by omega) (by omega) (by omega) _).mono ?_
    rintro e w1 ⟨gs, cs, gl, cl, rfl, hP, hw1⟩
    have HP := Lib.hid hP
    have Hw1 := Lib.hid hw1
    clear hP hw1
    go_wp2_with fail
    go_loopw [7] (fun i wr => SpareRel w.heap.size w.heap.size gs cs gl cl m k w i wr) (fun i _ => m - (intOf i).toNat)
    case atStart => exact ⟨0, by omega, rfl, HP.out, Hw1.out⟩
    case round =>
      obtain ⟨j, hj, rfl, hP, hB⟩ := hrel
      clear HP Hw1
      have hlen := Pool.spare_len (m := m) (k := k) (i := j) (by omega) (by omega) (by omega) hj
      by_cases hlt : j < m
      · obtain ⟨⟨x, hx, hx2⟩, ht⟩ := Pool.spare_fail (m := m) (k := k) (i := j) (by omega) (by omega) (by omega) hlt
        have Hx := Lib.hid hx
        have Hx2 := Lib.hid hx2
        have Ht := Lib.hid ht
        have HP := Lib.hid hP
        have HB := Lib.hid hB
        have hl1 : (Pool.spare m k j).1.length ≤ 100 := by omega
        have hl2 : (Pool.spare m k j).2.length ≤ 100 := by omega
        clear hx hx2 ht hP hB hlen
        by_cases hk : j < k
        case' pos => have t1 : ((Pool.fail (Pool.spare m k j).1 (Pool.spare m k j).2 j).2.2 != (m : Int) + j) = false := bne_f (by rw [Ht.out, if_pos hk])
        case' neg => have t1 : ((Pool.fail (Pool.spare m k j).1 (Pool.spare m k j).2 j).2.2 != -1) = false := bne_f (by rw [Ht.out, if_neg hk])
        all_goals
          go_wp2_with fail
          refine (fail_yes HP.out hl1 hl2 j x Hx.out Hx2.out).mono ?_
          rintro e w2 ⟨rfl, hP2, hB2, hz2⟩
          have HP2 := Lib.hid hP2
          have HB2 := Lib.hid hB2
          clear hP2 hB2 hz2
          go_wp2_with fail
          go_roundw
          case rel => exact ⟨j + 1, by omega, by go_num, HP2.out, HB.out.trans HB2.out⟩
          case measure => simp [intOf]; omega
      · obtain rfl : j = m := by omega
        obtain ⟨hx, ht⟩ := Pool.spare_fresh (m := j) (k := k) (by omega) (by omega) (by omega)
        have Hx := Lib.hid hx
        have Ht := Lib.hid ht
        have HP := Lib.hid hP
        have HB := Lib.hid hB
        have hl1 : (Pool.spare j k j).1.length ≤ 100 := by omega
        have hl2 : (Pool.spare j k j).2.length ≤ 100 := by omega
        clear hx ht hP hB hlen hlt hj
        by_cases hk : j ≤ k
        case' pos => have t1 : ((Pool.fresh (Pool.spare j k j).1 (Pool.spare j k j).2 0).2.2 == -1) = true := beq_t (by rw [Ht.out, if_pos hk])
        case' neg => have t1 : ((Pool.fresh (Pool.spare j k j).1 (Pool.spare j k j).2 0).2.2 == (k : Int)) = true := beq_t (by rw [Ht.out, if_neg hk])
        all_goals
          go_wp2_with fail
          refine (fresh_yes HP.out hl1 hl2 0 Hx.out).mono ?_
          rintro e w2 ⟨rfl, hP2, hB2, hz2⟩
          have HP2 := Lib.hid hP2
          have HB2 := Lib.hid hB2
          clear hP2 hB2 hz2
          go_wp2_with fail
          go_ret
          exact ⟨rfl, HB.out.trans HB2.out⟩
  · have hc : a < 1 ∨ 1 ≤ a ∧ 10 < a ∨ 1 ≤ a ∧ a ≤ 10 ∧ b < 0 ∨ 1 ≤ a ∧ a ≤ 10 ∧ 0 ≤ b ∧ 10 < b := by omega
    have Hc := Lib.hid hc
    clear h
    rcases hc with h | ⟨h1, h2⟩ | ⟨h1, h2, h3⟩ | ⟨h1, h2, h3, h4⟩
    all_goals
      go_enter Try.func8, Try.ntmps8
      go_wp2_with fail
      refine (new_no a b Hc.out _).mono ?_
      rintro e w' ⟨rfl, rfl⟩
      go_wp2_with fail
      go_ret
      exact ⟨rfl, Below.refl _ _⟩
end Go.Proofs.Ytloaekdijpcmiaa
