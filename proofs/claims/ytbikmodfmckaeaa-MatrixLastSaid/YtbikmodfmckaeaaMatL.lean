/- The walk of the law MatrixLast: it returns true. -/
import Derived.Test.YtbikmodfmckaeaaMatQ
namespace Go.Proofs.Ytbikmodfmckaeaa
open Go.ChangeShapes Go.WideShapes Go.ChangeAt Go.RowKit
set_option linter.unusedVariables false
def mFact : List (List UInt8) := [[1, 2], [2, 4]]
theorem mFact_chk : chkF mFact = 0 := by decide +kernel
theorem mFact_rk : rkR mFact = 1 := by decide +kernel
theorem pair_row (w : World) (a b : UInt8) : RowB (w.alloc (.cells #[bv a, bv b] 5)) (.slice (some ⟨w.heap.size, 0, none⟩) 2 2) [a, b] := by
  refine ⟨some ⟨w.heap.size, 0, none⟩, 2, rfl, by simp, by decide, (fun h => by cases h), fun _ => ⟨w.heap.size, 0, rfl, fun j hj => ?_⟩⟩
  rw [cell_of_row _ _ _ _ _ _ (heap_alloc_new w _), Nat.zero_add]
  simp
theorem pair_rows (w : World) (u v : Value) (a b : List UInt8) (ha : RowB w u a) (hb : RowB w v b) : RowsM (w.alloc (.cells #[u, v] 22)) (.slice (some ⟨w.heap.size, 0, none⟩) 2 2) [a, b] := by
  have hbl : Below w.heap.size w (w.alloc (.cells #[u, v] 22)) := (Below.refl _ _).alloc (Nat.le_refl _) _
  refine ⟨[u, v], ⟨some ⟨w.heap.size, 0, none⟩, 2, rfl, by simp, by decide, (fun h => by cases h), fun _ => ⟨w.heap.size, 0, rfl, fun j hj => ?_⟩⟩, rfl, fun i l hl => ?_⟩
  · rw [cell_of_row _ _ _ _ _ _ (heap_alloc_new w _), Nat.zero_add]
    simp
  · match i, hl with
    | 0, hl => obtain rfl := Option.some.inj hl; exact ⟨u, rfl, RowB.below ha hbl⟩
    | 1, hl => obtain rfl := Option.some.inj hl; exact ⟨v, rfl, RowB.below hb hbl⟩
    | i + 2, hl => simp at hl
set_option maxRecDepth 100000 in
set_option maxHeartbeats 4000000 in
theorem matrixLast_walk (va vb : Value) (w : World) (fa : ∃ A, RowsM w va A) (fb : ∃ B, RowsM w vb B) :
    Calls Try.prog 5 #[va, vb] w fun e w' => e = .returned (.bool true) ∧ Below w.heap.size w w' := by
  obtain ⟨a, ha⟩ := fa
  obtain ⟨b, hb⟩ := fb
  have HA := Lib.hid ha
  have HB := Lib.hid hb
  obtain ⟨pa, ca, rfl, _, hca, _⟩ := ha.shape
  obtain ⟨pb, cb, rfl, _, hcb, _⟩ := hb.shape
  clear ha hb
  have hb1 : Below w.heap.size w (w.alloc (.cells #[bv 1, bv 2] 5)) := (Below.refl _ _).alloc (Nat.le_refl _) _
  have hb2 : Below (w.alloc (.cells #[bv 1, bv 2] 5)).heap.size (w.alloc (.cells #[bv 1, bv 2] 5)) ((w.alloc (.cells #[bv 1, bv 2] 5)).alloc (.cells #[bv 2, bv 4] 5)) := (Below.refl _ _).alloc (Nat.le_refl _) _
  have hr1 := RowB.below (pair_row w 1 2) hb2
  have hr2 := pair_row (w.alloc (.cells #[bv 1, bv 2] 5)) 2 4
  have hrs := pair_rows _ _ _ _ _ hr1 hr2
  rw [World.size_alloc, World.size_alloc] at hrs
  have HRk := Lib.hid (rank_tot mFact _ _ hrs)
  rw [mFact_chk, mFact_rk, errV_0, World.size_alloc, World.size_alloc] at HRk
  have HB3 : Hid (Below w.heap.size w (((w.alloc (.cells #[bv 1, bv 2] 5)).alloc (.cells #[bv 2, bv 4] 5)).alloc (.cells #[.slice (some ⟨w.heap.size, 0, none⟩) 2 2, .slice (some ⟨w.heap.size + 1, 0, none⟩) 2 2] 22))) := Lib.hid ((hb1.alloc (by simp) _).alloc (by simp; omega) _)
  clear hb1 hb2 hr1 hr2 hrs
  go_enter Try.func5, Try.ntmps5
  go_wp2_with fail
  refine HRk.out.mono ?_
  rintro e w1 ⟨rfl, hb⟩
  have HB1 := Lib.hid (HB3.out.trans (hb.mono (by simp; omega)))
  have hz1 := HB1.out.size
  have HI := Lib.hid (inverse_tot a _ w1 (HA.out.below HB1.out))
  unfold InvPost at HI
  obtain ⟨F, hF⟩ : ∃ F, F = invF a := ⟨_, rfl⟩
  rw [← hF] at HI
  have HF := Lib.hid hF
  clear hF hb HRk HB3
  go_wp2_with fail
  refine HI.out.mono ?_
  rintro e w2 ⟨v2, rfl, hx, hb2⟩
  have HX := Lib.hid hx
  have HB2 := Lib.hid (HB1.out.trans (hb2.mono hz1))
  have hz2 := HB2.out.size
  clear hx hb2 HI HB1
  by_cases hF0 : F = 0
  · have hia : invF a = 0 := by rw [← HF.out]; exact hF0
    have hl1 := last_1 hia
    have HL1 := Lib.hid hl1
    have Hia := Lib.hid hia
    obtain ⟨px, cx, rfl, _, _, _⟩ := HX.out.shape
    have HI := Lib.hid (inverse_tot (invR a) _ w2 HX.out)
    unfold InvPost at HI
    rw [hl1.1, hl1.2, errV_0] at HI
    subst hF0
    rw [errV_0]
    clear hia hl1 HF
    go_wp2_with fail
    refine HI.out.mono ?_
    rintro e w3 ⟨v3, rfl, hz, hb3⟩
    obtain ⟨pz, cz, rfl, _, _, _⟩ := hz.shape
    have HB3 := Lib.hid (HB2.out.trans (hb3.mono hz2))
    have hz3 := HB3.out.size
    have HX3 := Lib.hid (HX.out.below hb3)
    have HS := Lib.hid (same_rows a a _ _ w3 hz (HA.out.below HB3.out))
    rw [beq_self_eq_true] at HS
    unfold SameM at HS
    clear hz hb3 HI HX HB2
    go_wp2_with fail
    refine HS.out.mono ?_
    rintro e w4 ⟨rfl, hb4⟩
    have HB4 := Lib.hid (HB3.out.trans (hb4.mono hz3))
    have hz4 := HB4.out.size
    have HX4 := Lib.hid (HX3.out.below hb4)
    have HI := Lib.hid (inverse_tot b _ w4 (HB.out.below HB4.out))
    unfold InvPost at HI
    obtain ⟨F, hF⟩ : ∃ F, F = invF b := ⟨_, rfl⟩
    rw [← hF] at HI
    have HF := Lib.hid hF
    clear hF hb4 HS HX3 HB3
    go_wp2_with fail
    refine HI.out.mono ?_
    rintro e w5 ⟨v5, rfl, hy, hb5⟩
    obtain ⟨py, cy, rfl, _, _, _⟩ := hy.shape
    have HY5 := Lib.hid hy
    have HB5 := Lib.hid (HB4.out.trans (hb5.mono hz4))
    have hz5 := HB5.out.size
    have HX5 := Lib.hid (HX4.out.below hb5)
    clear hy hb5 HI HB4 HX4
    by_cases hF0 : F = 0
    · have hib : invF b = 0 := by rw [← HF.out]; exact hF0
      subst hF0
      rw [errV_0]
      by_cases hab : a.length = b.length
      · have hl2 := last_2 Hia.out hib hab
        have HL2 := Lib.hid hl2
        have HM := Lib.hid (mmul_tot a b _ _ w5 (HA.out.below HB5.out) (HB.out.below HB5.out))
        unfold MmPost at HM
        rw [hl2.1, errV_0] at HM
        have t1 : ((a.length : Int) != (b.length : Int)) = false := bne_f (by omega)
        have t2 : ((a.length : Int) == (b.length : Int)) = true := beq_t (by omega)
        obtain ⟨la, hla⟩ : ∃ l, l = a.length := ⟨_, rfl⟩
        obtain ⟨lb, hlb⟩ : ∃ l, l = b.length := ⟨_, rfl⟩
        rw [← hla, ← hlb] at HM t1 t2 ⊢
        clear hab hl2 hib HF hla hlb
        go_wp2_with fail
        refine HM.out.mono ?_
        rintro e w6 ⟨v6, rfl, hp, hb6⟩
        have hb6z := hb6.size
        have HB6 := Lib.hid (HB5.out.trans (hb6.mono hz5))
        have hz6 := HB6.out.size
        have HI := Lib.hid (inverse_tot (mmR a b) _ w6 hp)
        unfold InvPost at HI
        rw [HL2.out.2.1, errV_0] at HI
        have HX6 := Lib.hid (HX5.out.below hb6)
        have HY6 := Lib.hid (HY5.out.below hb6)
        clear hp hb6 HM HB5 HX5 HY5
        go_wp2_with fail
        refine HI.out.mono ?_
        rintro e w7 ⟨v7, rfl, hq, hb7⟩
        have HB7 := Lib.hid (HB6.out.trans (hb7.mono hz6))
        have hz7 := HB7.out.size
        have HQ7 := Lib.hid hq
        have HM := Lib.hid (mmul_tot (invR b) (invR a) _ _ w7 (HY6.out.below hb7) (HX6.out.below hb7))
        unfold MmPost at HM
        rw [HL2.out.2.2.1, errV_0] at HM
        clear hq hb7 HI HB6 HX6 HY6
        go_wp2_with fail
        refine HM.out.mono ?_
        rintro e w8 ⟨v8, rfl, hw, hb8⟩
        have HB8 := Lib.hid (HB7.out.trans (hb8.mono hz7))
        have hz8 := HB8.out.size
        have HS := Lib.hid (same_rows (invR (mmR a b)) (mmR (invR b) (invR a)) _ _ w8 (HQ7.out.below hb8) hw)
        rw [HL2.out.2.2.2, beq_self_eq_true] at HS
        unfold SameM at HS
        clear hw hb8 HM HB7 HQ7
        go_wp2_with fail
        refine HS.out.mono ?_
        rintro e w9 ⟨rfl, hb9⟩
        have HB9 := Lib.hid (HB8.out.trans (hb9.mono hz8))
        clear hb9 HS
        go_wp2_with fail
        go_ret
        exact ⟨rfl, HB9.out⟩
      · have t1 : ((a.length : Int) != (b.length : Int)) = true := bne_t (by omega)
        have t2 : ((a.length : Int) == (b.length : Int)) = false := beq_f (by omega)
        generalize a.length = la at *
        generalize b.length = lb at *
        clear hab hib HF
        go_wp2_with fail
        go_ret
        exact ⟨rfl, HB5.out⟩
    · rw [errV_ne hF0]
      clear hF0 HF
      go_wp2_with fail
      go_ret
      exact ⟨rfl, HB5.out⟩
  · rw [errV_ne hF0]
    clear hF0 HF
    go_wp2_with fail
    go_ret
    exact ⟨rfl, HB2.out⟩
end Go.Proofs.Ytbikmodfmckaeaa
