/- The walk of the law ArrayThree: it returns true. -/
import Derived.Test.YtcldioneiededaaDoorAryN
import Derived.Test.YtcldioneiededaaDoorSame
namespace Go.Proofs.YtcldioneiededaaDoor
open Go.ChangeShapes Go.WideShapes Go.ChangeAt Go.RowKit
set_option linter.unusedVariables false
namespace Ar.S
theorem manyTo_mono (s : S) (row : Nat) {a c : Nat} (h : a ≤ c) : s.manyTo row a ≤ s.manyTo row c := by
  induction c with
  | zero => obtain rfl : a = 0 := by omega
            exact Nat.le_refl _
  | succ c ih =>
    by_cases e : a = c + 1
    · subst e; exact Nat.le_refl _
    · have := ih (by omega)
      rw [manyTo_succ]
      split <;> omega
theorem manyTo_lost {s : S} {row d : Nat} (h : s.lost d row = true) : s.manyTo row (d + 1) = s.manyTo row d + 1 := by rw [manyTo_succ, if_pos h]
theorem three_many {s : S} {row i k j : Nat} (hik : i < k) (hkj : k < j) (hj : j < s.n) (hi : s.lost i row = true) (hk : s.lost k row = true) (hjl : s.lost j row = true) : 2 < s.many row := by
  have h1 := manyTo_lost hi
  have h2 := manyTo_lost hk
  have h3 := manyTo_lost hjl
  have m1 := s.manyTo_mono row (show i + 1 ≤ k by omega)
  have m2 := s.manyTo_mono row (show k + 1 ≤ j by omega)
  have m3 := s.manyTo_mono row (show j + 1 ≤ s.n by omega)
  show 2 < s.manyTo row s.n
  omega
end Ar.S
/-- the spot of a block -/
theorem ldata_nat (n rows y : Nat) (h3 : 3 ≤ n) (h10 : n ≤ 10) (hr : rows ≤ 20) (hy : y < rows * (n - 2)) (w : World) :
    Calls Tryd.prog 13 #[iv n, iv y] w fun e w' => e = .returned (.tuple #[.agg #[iv (Ar.dk n (y / (n - 2)) (y % (n - 2))), iv (y / (n - 2) : Nat)], .nilIface]) ∧ Below w.heap.size w w' := by
  have hm9 : rows * (n - 2) ≤ 20 * 8 := Nat.mul_le_mul hr (by omega)
  have hq : y / (n - 2) < 20 := by
    have := (Nat.div_lt_iff_lt_mul (show 0 < n - 2 by omega)).2 hy
    omega
  have e1 : Lay.disk (n : Int) ((y : Int) / ((n : Int) - 2)) ((y : Int) % ((n : Int) - 2)) = (Ar.dk n (y / (n - 2)) (y % (n - 2)) : Int) ∧ (y : Int) / ((n : Int) - 2) = ((y / (n - 2) : Nat) : Int) := by
    rw [show (n : Int) - 2 = ((n - 2 : Nat) : Int) by omega, ← Int.natCast_ediv, ← Int.natCast_emod, dk_int (by omega)]
    exact ⟨rfl, rfl⟩
  have h := data_yes (n : Int) (y : Int) (by omega) (by omega) (by omega) (by rw [e1.2]; omega) (by omega) w
  rw [e1.1, e1.2] at h
  exact h
def fl3 (i k j : Nat) : Nat → Bool := fun d => decide (d = i ∨ d = k ∨ d = j)
def s3 (n rows i k j : Nat) : Ar.S := { Ar.s0 n rows 1 with fl := fl3 i k j }
def A3Rel (B : Nat) (n rows i k j : Nat) (w : World) (gk : Nat) (v13 : Value) (wr : World) : Prop :=
  ∃ y : Nat, y + gk = rows * (n - 2) ∧ v13 = iv y ∧ AryOk (fun p => B ≤ p) 0 wr B (s3 n rows i k j) ∧ Below B w wr
theorem s3_lost {n rows i k j d r : Nat} (hr : r < rows) : (s3 n rows i k j).lost d r = fl3 i k j d := by
  unfold Ar.S.lost
  show (fl3 i k j d || decide (rows ≤ r)) = _
  rw [decide_eq_false (by omega), Bool.or_false]
theorem s3_read {n rows i k j y : Nat} (hn : 3 ≤ n) (hik : i < k) (hkj : k < j) (hj : j < n) (hy : y < rows * (n - 2)) :
    ((s3 n rows i k j).read (y : Int)).2 = if fl3 i k j (Ar.dk n (y / (n - 2)) (y % (n - 2))) then 8 else 0 := by
  have hr : y / (n - 2) < rows := (Nat.div_lt_iff_lt_mul (show 0 < n - 2 by omega)).2 hy
  have hm : 2 < (s3 n rows i k j).many (y / (n - 2)) := Ar.S.three_many hik hkj hj (by rw [s3_lost hr]; simp [fl3]) (by rw [s3_lost hr]; simp [fl3]) (by rw [s3_lost hr]; simp [fl3])
  unfold Ar.S.read
  rw [if_pos (show (s3 n rows i k j).hasBlock (y : Int) from ⟨by omega, by show (y : Int) < ((rows * (n - 2) : Nat) : Int); omega⟩), Int.toNat_natCast]
  unfold Ar.S.readAt
  show (if (s3 n rows i k j).lost (Ar.dk n (y / (n - 2)) (y % (n - 2))) (y / (n - 2)) = false then _ else _ : ByteArray × Int).2 = _
  rw [s3_lost hr]
  cases fl3 i k j (Ar.dk n (y / (n - 2)) (y % (n - 2))) with
  | false => rfl
  | true =>
    have hm' : 2 < (s3 n rows i k j).many (y / ((s3 n rows i k j).n - 2)) := hm
    rw [if_neg (by decide), if_pos hm', if_pos rfl]
theorem s3_fails {n rows i k j : Nat} (hik : i < k) (hkj : k < j) (hj : j < n) :
    ((Ar.s0 n rows 1).fail (i : Int)).1 = 0 ∧ (((Ar.s0 n rows 1).fail (i : Int)).2.fail (k : Int)).1 = 0 ∧ ((((Ar.s0 n rows 1).fail (i : Int)).2.fail (k : Int)).2.fail (j : Int)).1 = 0 ∧ ((((Ar.s0 n rows 1).fail (i : Int)).2.fail (k : Int)).2.fail (j : Int)).2 = s3 n rows i k j := by
  have e1 : (Ar.s0 n rows 1).fail (i : Int) = (0, { Ar.s0 n rows 1 with fl := Ar.up (fun _ => false) i true }) := by
    unfold Ar.S.fail
    rw [if_pos (show (Ar.s0 n rows 1).has (i : Int) from ⟨by omega, by show (i : Int) < (n : Int); omega⟩), Int.toNat_natCast]; rfl
  have e2 : ({ Ar.s0 n rows 1 with fl := Ar.up (fun _ => false) i true } : Ar.S).fail (k : Int) = (0, { Ar.s0 n rows 1 with fl := Ar.up (Ar.up (fun _ => false) i true) k true }) := by
    unfold Ar.S.fail
    rw [if_pos (show Ar.S.has _ (k : Int) from ⟨by omega, by show (k : Int) < (n : Int); omega⟩), Int.toNat_natCast, if_neg]
    show ¬ Ar.up (fun _ => false) i true k = true
    rw [Ar.up_ne _ _ (by omega)]; decide
  have e3 : ({ Ar.s0 n rows 1 with fl := Ar.up (Ar.up (fun _ => false) i true) k true } : Ar.S).fail (j : Int) = (0, { Ar.s0 n rows 1 with fl := Ar.up (Ar.up (Ar.up (fun _ => false) i true) k true) j true }) := by
    unfold Ar.S.fail
    rw [if_pos (show Ar.S.has _ (j : Int) from ⟨by omega, by show (j : Int) < (n : Int); omega⟩), Int.toNat_natCast, if_neg]
    show ¬ Ar.up (Ar.up (fun _ => false) i true) k true j = true
    rw [Ar.up_ne _ _ (by omega), Ar.up_ne _ _ (by omega)]; decide
  rw [e1, e2, e3]
  refine ⟨rfl, rfl, rfl, ?_⟩
  have hf : Ar.up (Ar.up (Ar.up (fun _ => false) i true) k true) j true = fl3 i k j := ?_
  · show ({ Ar.s0 n rows 1 with fl := Ar.up (Ar.up (Ar.up (fun _ => false) i true) k true) j true } : Ar.S) = { Ar.s0 n rows 1 with fl := fl3 i k j }
    rw [hf]
  funext d
  unfold Ar.up fl3
  by_cases h1 : d = j
  · simp [h1]
  · by_cases h2 : d = k
    · simp [h1, h2]
    · by_cases h3 : d = i <;> simp [h1, h2, h3]
set_option maxRecDepth 100000 in
set_option maxHeartbeats 2000000 in
theorem arrayThree_yes (n rows i k j : Nat) (h3 : 3 ≤ n) (h10 : n ≤ 10) (h1 : 1 ≤ rows) (h2 : rows ≤ 20) (hik : i < k) (hkj : k < j) (hj : j < n) (w : World) (hg : Handle w) :
    Calls Tryd.prog 3 #[iv n, iv rows, iv i, iv k, iv j] w fun e w' => e = .returned (.bool true) ∧ Below w.heap.size w w' := by
  have Hg := Lib.hid hg
  clear hg
  have HN := Lib.hid (aNew_yes n rows 1 h3 h10 h1 h2 (by omega) (by omega) w)
  have hm9 : rows * (n - 2) ≤ 20 * 8 := Nat.mul_le_mul h2 (by omega)
  have hmI : (rows : Int) * ((n : Int) - 2) = ((rows * (n - 2) : Nat) : Int) := by rw [Int.natCast_mul, show ((n - 2 : Nat) : Int) = (n : Int) - 2 by omega]
  have hw1 : IntKind.i64.wrap ((n : Int) - 2) = (n : Int) - 2 := IntWalk.i64_in _ (by omega)
  have hw2 : IntKind.i64.wrap ((rows : Int) * ((n : Int) - 2)) = ((rows * (n - 2) : Nat) : Int) := by rw [hmI]; exact IntWalk.i64_in _ (by omega)
  have HLD : Hid (∀ y, y < rows * (n - 2) → ∀ w', Calls Tryd.prog 13 #[iv n, iv y] w' fun e w'' => e = .returned (.tuple #[.agg #[iv (Ar.dk n (y / (n - 2)) (y % (n - 2))), iv (y / (n - 2) : Nat)], .nilIface]) ∧ Below w'.heap.size w' w'') := Lib.hid (fun y hy w' => ldata_nat n rows y h3 h10 h2 hy w')
  have HRd : Hid (∀ y, y < rows * (n - 2) → ((s3 n rows i k j).read (y : Int)).2 = if fl3 i k j (Ar.dk n (y / (n - 2)) (y % (n - 2))) then 8 else 0) := Lib.hid (fun y hy => s3_read h3 hik hkj hj hy)
  obtain ⟨f1, f2, f3, f4⟩ := s3_fails (rows := rows) hik hkj hj
  have F1 := Lib.hid f1
  have F2 := Lib.hid f2
  have F3 := Lib.hid f3
  have F4 := Lib.hid f4
  obtain ⟨M, hM⟩ : ∃ M, M = rows * (n - 2) := ⟨_, rfl⟩
  rw [← hM] at hm9 hw2 HLD HRd
  have HM := Lib.hid hM
  clear hmI hM f1 f2 f3 f4
  go_enter Tryd.func3, Tryd.ntmps3
  go_wp2_with fail
  refine HN.out.mono ?_
  rintro e w1 ⟨rfl, hA, hB⟩
  have HA := Lib.hid (aFail hA (i : Int))
  have HB := Lib.hid hB
  clear hA hB HN
  go_wp2_with fail
  refine HA.out.mono ?_
  rintro e w2 ⟨he, hA, hK⟩
  rw [F1.out, errV_0] at he
  subst he
  have HA2 := Lib.hid (aFail hA (k : Int))
  have HB2 := Lib.hid (HB.out.trans (hK.toBelow (B := w.heap.size) HB.out.size (fun p _ h => h)))
  clear hA hK
  go_wp2_with fail
  refine HA2.out.mono ?_
  rintro e w3 ⟨he, hA, hK⟩
  rw [F2.out, errV_0] at he
  subst he
  have HA3 := Lib.hid (aFail hA (j : Int))
  have HB3 := Lib.hid (HB2.out.trans (hK.toBelow (B := w.heap.size) HB2.out.size (fun p _ h => h)))
  clear hA hK
  go_wp2_with fail
  refine HA3.out.mono ?_
  rintro e w4 ⟨he, hA, hK⟩
  rw [F3.out, errV_0] at he
  subst he
  rw [F4.out] at hA
  have HA4 := Lib.hid hA
  have HB4 := Lib.hid (HB3.out.trans (hK.toBelow (B := w.heap.size) HB3.out.size (fun p _ h => h)))
  clear hA hK HA HA2 HA3 HB HB2 HB3
  go_wp2_with fail
  go_loopg [13, 14, 15, 16, 17, 18] M (fun gk v13 v14 v15 v16 v17 v18 wr => A3Rel w.heap.size n rows i k j w gk v13 wr)
  case atStart => exact ⟨0, by rw [← HM.out]; omega, rfl, HA4.out, HB4.out⟩
  case round =>
    clear HA4 HB4
    obtain ⟨y, hy, rfl, hA, hB⟩ := hrel
    rw [← HM.out] at hy
    have Hy := Lib.hid hy
    have HA := Lib.hid hA
    have HB := Lib.hid hB
    clear hy hA hB
    by_cases hlt : y < M
    · have HD := Lib.hid (HLD.out y hlt wr)
      have hrd := HRd.out y hlt
      have hd5 : Ar.dk n (y / (n - 2)) (y % (n - 2)) < n := Ar.dk_lt (by omega)
      generalize Ar.dk n (y / (n - 2)) (y % (n - 2)) = d at *
      generalize y / (n - 2) = r at *
      have Hrd := Lib.hid hrd
      clear hrd
      go_wp2_with fail
      refine HD.out.mono ?_
      rintro e w5 ⟨rfl, hB5⟩
      obtain ⟨wA, hwA⟩ : ∃ wA, wA = w5.alloc (.cells #[iv d, iv r] 29) := ⟨_, rfl⟩
      have hBA : Below w5.heap.size w5 wA := by rw [hwA]; exact (Below.refl _ _).alloc (Nat.le_refl _) _
      have hAA : wA.heap[w5.heap.size]? = some (.cells #[iv d, iv r] 29 (0, 0)) := by rw [hwA]; exact heap_alloc_new _ _
      have hb5 : Below wr.heap.size wr wA := hB5.trans (hBA.mono hB5.size)
      have HA5 := Lib.hid (HA.out.below hb5)
      have HB5 := Lib.hid (HB.out.trans (hb5.mono HB.out.size))
      have HR := Lib.hid (aRead HA5.out (y : Int) (by omega) (by omega))
      have HwA := Lib.hid hwA
      have hS : w5.heap.size < wA.heap.size := (Array.getElem?_eq_some_iff.1 hAA).1
      have d0 : wA.cell? ⟨w5.heap.size, 0, none⟩ = some (iv d) := by rw [cell_of_row _ _ _ _ _ _ hAA]; rfl
      clear hB5 hwA hBA hAA hb5 HA
      go_wp2_with fail
      rw [← HwA.out]
      refine HR.out.mono ?_
      rintro e w6 ⟨rfl, hB6⟩
      rw [Hrd.out]
      have d1 := (hB6.cell (p := ⟨w5.heap.size, 0, none⟩) hS).trans d0
      have HA6 := Lib.hid (HA5.out.below hB6)
      have HB6 := Lib.hid (HB5.out.trans (hB6.mono HB5.out.size))
      have HG6 := Lib.hid (Hg.out.below (Nat.le_refl _) HB6.out)
      clear hB6 d0 HR
      obtain ⟨s, hs⟩ : ∃ s, s = ((s3 n rows i k j).read (y : Int)).1 := ⟨_, rfl⟩
      rw [← hs]
      clear hs
      by_cases hl : fl3 i k j d = true
      · have hf : d = i ∨ d = k ∨ d = j := by unfold fl3 at hl; exact of_decide_eq_true hl
        rw [if_pos hl]
        have HSa := Lib.hid (same_eq 8 w6 HG6.out)
        have e8 : errV 8 = ev 8 := rfl
        rw [e8] at HSa ⊢
        have HS9 := Lib.hid HSa.out
        have hcs : (((d : Int) == (i : Int)) = true) ∨ (((d : Int) == (i : Int)) = false ∧ ((d : Int) == (k : Int)) = true) ∨ (((d : Int) == (i : Int)) = false ∧ ((d : Int) == (k : Int)) = false ∧ ((d : Int) == (j : Int)) = true) := by
          rcases hf with e | e | e
          · exact .inl (beq_t (by omega))
          · exact .inr (.inl ⟨beq_f (by omega), beq_t (by omega)⟩)
          · exact .inr (.inr ⟨beq_f (by omega), beq_f (by omega), beq_t (by omega)⟩)
        clear hl e8 hf
        rcases hcs with t1 | ⟨t1, t2⟩ | ⟨t1, t2, t3⟩
        all_goals
          go_wp2_with fail
          refine HS9.out.mono ?_
          rintro e w7 ⟨rfl, hB7⟩
          have HA7 := Lib.hid (HA6.out.below hB7)
          have HB7 := Lib.hid (HB6.out.trans (hB7.mono HB6.out.size))
          clear hB7
          go_wp2_with fail
          go_roundg (gk - 1)
          case measure => have := Hy.out; omega
          case rel => exact ⟨y + 1, by rw [← HM.out]; have := Hy.out; omega, by go_num, HA7.out, HB7.out⟩
      · have hf : d ≠ i ∧ d ≠ k ∧ d ≠ j := by
          refine ⟨fun e => hl ?_, fun e => hl ?_, fun e => hl ?_⟩ <;> (unfold fl3; exact decide_eq_true (by omega))
        rw [if_neg hl, errV_0]
        have HSa := Lib.hid (same_nil 8 w6)
        have t1 : ((d : Int) == (i : Int)) = false := beq_f (by omega)
        have t2 : ((d : Int) == (k : Int)) = false := beq_f (by omega)
        have t3 : ((d : Int) == (j : Int)) = false := beq_f (by omega)
        clear hl hf
        go_wp2_with fail
        refine HSa.out.mono ?_
        rintro e w7 ⟨rfl, hB7⟩
        have HA7 := Lib.hid (HA6.out.below hB7)
        have HB7 := Lib.hid (HB6.out.trans (hB7.mono HB6.out.size))
        clear hB7
        go_wp2_with fail
        go_roundg (gk - 1)
        case measure => have := Hy.out; omega
        case rel => exact ⟨y + 1, by rw [← HM.out]; have := Hy.out; omega, by go_num, HA7.out, HB7.out⟩
    · have hym : y = M := by have := Hy.out; omega
      subst hym
      go_wp2_with fail
      go_ret
      exact ⟨rfl, HB.out⟩
theorem arrayThree_no (n rows i k j : Int) (h : aNewF n rows 1 ≠ 0) (w : World) :
    Calls Tryd.prog 3 #[iv n, iv rows, iv i, iv k, iv j] w fun e w' => e = .returned (.bool true) ∧ Below w.heap.size w w' := by
  have HN := Lib.hid (aNew_no n rows 1 h w)
  have hc : n < 3 ∨ (3 ≤ n ∧ 10 < n) ∨ (3 ≤ n ∧ n ≤ 10 ∧ rows < 1) ∨ (3 ≤ n ∧ n ≤ 10 ∧ 1 ≤ rows ∧ 20 < rows) := by
    unfold aNewF at h
    by_cases hc : n < 3 ∨ 10 < n ∨ rows < 1 ∨ 20 < rows ∨ (1 : Int) < 1 ∨ 16 < (1 : Int)
    · omega
    · rw [if_neg hc] at h; exact absurd rfl h
  clear h
  rcases hc with h1 | ⟨h1, h2⟩ | ⟨h1, h2, h3⟩ | ⟨h1, h2, h3, h4⟩
  all_goals
    go_enter Tryd.func3, Tryd.ntmps3
    go_wp2_with fail
    refine HN.out.mono ?_
    rintro e w1 ⟨rfl, hB⟩
    have HB := Lib.hid hB
    clear hB
    go_wp2_with fail
    go_ret
    exact ⟨rfl, HB.out⟩
set_option maxHeartbeats 2000000 in
theorem arrayThree_idx (n rows : Nat) (i k j : Int) (h3 : 3 ≤ n) (h10 : n ≤ 10) (h1 : 1 ≤ rows) (h2 : rows ≤ 20) (h : ¬ (0 ≤ i ∧ i < k ∧ k < j ∧ j < n)) (w : World) :
    Calls Tryd.prog 3 #[iv n, iv rows, iv i, iv k, iv j] w fun e w' => e = .returned (.bool true) ∧ Below w.heap.size w w' := by
  have HN := Lib.hid (aNew_yes n rows 1 h3 h10 h1 h2 (by omega) (by omega) w)
  have hc : i < 0 ∨ (0 ≤ i ∧ (n : Int) ≤ i) ∨ (0 ≤ i ∧ i < n ∧ k ≤ i) ∨ (0 ≤ i ∧ i < n ∧ i < k ∧ (n : Int) ≤ k) ∨ (0 ≤ i ∧ i < n ∧ i < k ∧ k < n ∧ j ≤ k) ∨ (0 ≤ i ∧ i < n ∧ i < k ∧ k < n ∧ k < j ∧ (n : Int) ≤ j) := by omega
  clear h
  rcases hc with h1 | ⟨h1, h2⟩ | ⟨h1, h2, h3⟩ | ⟨h1, h2, h3, h4⟩ | ⟨h1, h2, h3, h4, h5⟩ | ⟨h1, h2, h3, h4, h5, h6⟩
  all_goals
    go_enter Tryd.func3, Tryd.ntmps3
    go_wp2_with fail
    refine HN.out.mono ?_
    rintro e w1 ⟨rfl, _, hB⟩
    have HB := Lib.hid hB
    clear hB
    go_wp2_with fail
    go_ret
    exact ⟨rfl, HB.out⟩
theorem arrayThree_walk (n rows i k j : Int) (hn : (Lit.int .i64 n).wf = true) (hr : (Lit.int .i64 rows).wf = true) (hi : (Lit.int .i64 i).wf = true) (hk : (Lit.int .i64 k).wf = true) (hj : (Lit.int .i64 j).wf = true) (w : World) (hg : Handle w) :
    Calls Tryd.prog 3 #[iv n, iv rows, iv i, iv k, iv j] w fun e w' => e = .returned (.bool true) ∧ Below w.heap.size w w' := by
  by_cases h : aNewF n rows 1 = 0
  · have hc : 3 ≤ n ∧ n ≤ 10 ∧ 1 ≤ rows ∧ rows ≤ 20 := by
      unfold aNewF at h
      by_cases hc : n < 3 ∨ 10 < n ∨ rows < 1 ∨ 20 < rows ∨ (1 : Int) < 1 ∨ 16 < (1 : Int)
      · rw [if_pos hc] at h; exact absurd h (by decide)
      · omega
    obtain ⟨m, rfl⟩ : ∃ m : Nat, n = m := ⟨n.toNat, by omega⟩
    obtain ⟨r, rfl⟩ : ∃ r : Nat, rows = r := ⟨rows.toNat, by omega⟩
    by_cases h2 : 0 ≤ i ∧ i < k ∧ k < j ∧ j < m
    · obtain ⟨i', rfl⟩ : ∃ i' : Nat, i = i' := ⟨i.toNat, by omega⟩
      obtain ⟨k', rfl⟩ : ∃ k' : Nat, k = k' := ⟨k.toNat, by omega⟩
      obtain ⟨j', rfl⟩ : ∃ j' : Nat, j = j' := ⟨j.toNat, by omega⟩
      exact arrayThree_yes m r i' k' j' (by omega) (by omega) (by omega) (by omega) (by omega) (by omega) (by omega) w hg
    · exact arrayThree_idx m r i k j (by omega) (by omega) (by omega) (by omega) h2 w
  · exact arrayThree_no n rows i k j h w
end Go.Proofs.YtcldioneiededaaDoor
