/- The walks of the reference's reservation. -/
import Derived.Test.YtoddoekmgkcomaaDoorResX
import Derived.Test.YtoddoekmgkcomaaDoorResI
namespace Go.Proofs.YtoddoekmgkcomaaDoor
open Go.ChangeShapes Go.WideShapes Go.ChangeAt Go.RowKit
set_option linter.unusedVariables false
/-- the reference's reservation in memory: one block of twelve cells -/
structure RResAt (w : World) (b : Nat) (s : Res.St) : Prop where
  len : s.1.length = 10
  blk : w.heap[b]? = some (.cells ((s.1.map iv ++ [iv s.2.1, iv s.2.2]).toArray) 85 (0, 0))
section
variable {w : World} {b : Nat} {s : Res.St}
theorem RResAt.lt (h : RResAt w b s) : b < w.heap.size := (Array.getElem?_eq_some_iff.1 h.blk).1
theorem RResAt.key (h : RResAt w b s) {j : Nat} (hj : j < 10) : w.cell? ⟨b, j, none⟩ = some (iv (s.1.getD j 0)) := by
  have h1 := h.len
  rw [cell_of_row _ _ _ _ _ _ h.blk, List.getElem?_toArray, List.getElem?_append_left (by rw [List.length_map]; omega), List.getElem?_map, List.getElem?_eq_getElem (by omega)]
  rw [List.getD_eq_getElem?_getD, List.getElem?_eq_getElem (by omega)]; rfl
theorem RResAt.h (h : RResAt w b s) : w.cell? ⟨b, 10, none⟩ = some (iv s.2.1) := by
  have h1 := h.len
  rw [cell_of_row _ _ _ _ _ _ h.blk, List.getElem?_toArray, List.getElem?_append_right (by rw [List.length_map]; omega), List.length_map, h1]; rfl
theorem RResAt.k (h : RResAt w b s) : w.cell? ⟨b, 11, none⟩ = some (iv s.2.2) := by
  have h1 := h.len
  rw [cell_of_row _ _ _ _ _ _ h.blk, List.getElem?_toArray, List.getElem?_append_right (by rw [List.length_map]; omega), List.length_map, h1]; rfl
theorem RResAt.f (h : RResAt w b s) (j : Nat) : w.frozen? ⟨b, j, none⟩ = false := frozen_of_row _ _ _ _ _ h.blk
theorem RResAt.below (h : RResAt w b s) {w' : World} (hw : Below w.heap.size w w') : RResAt w' b s := ⟨h.len, by rw [hw.block b h.lt]; exact h.blk⟩
theorem RResAt.drewN (h : RResAt w b s) (n : Nat) : RResAt (w.drewN n) b s := ⟨h.len, h.blk⟩
theorem RResAt.setKey (h : RResAt w b s) {j : Nat} (hj : j < 10) (x : Int) : RResAt (w.setCell ⟨b, j, none⟩ (iv x)) b (s.1.set j x, s.2) := by
  have h1 := h.len
  refine ⟨by rw [List.length_set]; exact h1, ?_⟩
  rw [heap_setCell_same _ _ _ _ _ _ h.blk]
  congr 2
  rw [List.setIfInBounds_toArray]
  congr 1
  rw [List.set_append_left _ _ (by rw [List.length_map]; omega), List.map_set]
theorem RResAt.setH (h : RResAt w b s) (x y : Int) : RResAt ((w.setCell ⟨b, 10, none⟩ (iv x)).setCell ⟨b, 11, none⟩ (iv y)) b (s.1, x, y) := by
  have h1 := h.len
  refine ⟨h1, ?_⟩
  rw [heap_setCell_same _ _ _ _ _ _ (heap_setCell_same _ _ _ _ _ _ h.blk)]
  congr 2
  rw [List.setIfInBounds_toArray, List.setIfInBounds_toArray]
  congr 1
  rw [List.set_append_right _ _ (by rw [List.length_map]; omega), List.set_append_right _ _ (by rw [List.length_map]; omega), List.length_map, h1]
  rfl
end

theorem rhost_any (h : Int) (w : World) : Calls Tryd.prog 67 #[iv h] w fun e w' => e = .returned (.bool (Res.hostB h)) ∧ w = w' := by
  by_cases c : 1 ≤ h
  case' pos => have c1 := dec_t c
  case' neg => have c1 := dec_f c
  all_goals
    go_enter Tryd.func67, Tryd.ntmps67
    go_wp2
    go_ret
    exact ⟨by simp [Res.hostB, c1], rfl⟩
theorem rkey_any (h : Int) (w : World) : Calls Tryd.prog 68 #[iv h] w fun e w' => e = .returned (.bool (Res.keyB h)) ∧ w = w' := by
  by_cases c : 1 ≤ h
  case' pos => have c1 := dec_t c
  case' neg => have c1 := dec_f c
  all_goals
    go_enter Tryd.func68, Tryd.ntmps68
    go_wp2
    go_ret
    exact ⟨by simp [Res.keyB, c1], rfl⟩

def RResPost (b : Nat) (r : Int × Res.St) (w : World) (e : Ending) (w' : World) : Prop :=
  e = .returned (iv r.1) ∧ RResAt w' b r.2 ∧ Kept (· = b) w w'
theorem rregister_any {w : World} {b : Nat} {s : Res.St} (hR : RResAt w b s) (h k : Int) :
    Calls Tryd.prog 37 #[.pointer (some ⟨b, 0, none⟩), iv h, iv k] w (RResPost b (Res.register s h k) w) := by
  have H := Lib.hid hR
  clear hR
  cases hk : Res.keyB k with
  | false =>
    have Hk := Lib.hid hk
    clear hk
    cases hh : Res.hostB h
    all_goals
      have Hh := Lib.hid hh
      clear hh
      go_enter Tryd.func37, Tryd.ntmps37
      go_wp2_with fail
      refine (rhost_any _ _).mono ?_
      rintro e w' ⟨rfl, rfl⟩
      rw [Hh.out]
      go_wp2_with fail
      refine (rkey_any _ _).mono ?_
      rintro e w' ⟨rfl, rfl⟩
      rw [Hk.out]
      go_wp2_with fail
      go_ret
      rw [RResPost, Res.register, if_pos (by simp [Hh.out, Hk.out])]
      exact ⟨rfl, H.out, Kept.refl _ _⟩
  | true =>
    have Hk := Lib.hid hk
    clear hk
    cases hh : Res.hostB h with
    | false =>
      have Hh := Lib.hid hh
      clear hh
      go_enter Tryd.func37, Tryd.ntmps37
      go_wp2_with fail
      refine (rhost_any _ _).mono ?_
      rintro e w' ⟨rfl, rfl⟩
      rw [Hh.out]
      go_wp2_with fail
      refine (rkey_any _ _).mono ?_
      rintro e w' ⟨rfl, rfl⟩
      rw [Hk.out]
      go_wp2_with fail
      go_ret
      rw [RResPost, Res.register, if_pos (by simp [Hh.out])]
      exact ⟨rfl, H.out, Kept.refl _ _⟩
    | true =>
      have hi := host_in hh
      have Hh := Lib.hid hh
      clear hh
      obtain ⟨j, rfl⟩ : ∃ j : Nat, h = j := ⟨h.toNat, by omega⟩
      have hj : j < 10 := by omega
      have cj := H.out.key hj
      have fj := H.out.f j
      have H1 := Lib.hid (H.out.setKey hj k)
      go_enter Tryd.func37, Tryd.ntmps37
      go_wp2_with fail
      refine (rhost_any _ _).mono ?_
      rintro e w' ⟨rfl, rfl⟩
      rw [Hh.out]
      go_wp2_with fail
      refine (rkey_any _ _).mono ?_
      rintro e w' ⟨rfl, rfl⟩
      rw [Hk.out]
      go_wp2_with fail
      go_ret
      rw [RResPost, Res.register, if_neg (by simp [Hh.out, Hk.out])]
      exact ⟨rfl, H1.out, setK _ _ _ _⟩
theorem rout_any {w : World} {b : Nat} {s : Res.St} (hR : RResAt w b s) (j : Nat) (hj : j < 10) :
    Calls Tryd.prog 70 #[.pointer (some ⟨b, 0, none⟩), iv j] w fun e w' => e = .returned (.tuple #[]) ∧ RResAt w' b (Res.out s j) ∧ Kept (· = b) w w' := by
  have cj := hR.key hj
  have ch := hR.h
  have ck := hR.k
  have f := hR.f
  have hj10 : j ≠ 10 := by omega
  have hj11 : j ≠ 11 := by omega
  have H1 := Lib.hid (hR.setKey hj 0)
  have H2 := Lib.hid (H1.out.setH 0 0)
  clear hR
  by_cases c : s.2.1 = j
  · have c1 := beq_t c
    have Hc := Lib.hid c1
    clear c
    go_enter Tryd.func70, Tryd.ntmps70
    go_wp2
    go_end0
    refine ⟨rfl, ?_, ?_⟩
    · rw [Res.out, if_pos Hc.out]; exact H2.out
    · exact (((Kept.self b w).set1 _ _).set1 _ _).set1 _ _
  · have c1 := beq_f c
    have Hc := Lib.hid c1
    clear c
    go_enter Tryd.func70, Tryd.ntmps70
    go_wp2
    go_end0
    refine ⟨rfl, ?_, ?_⟩
    · rw [Res.out, if_neg (by rw [Hc.out]; decide)]; exact H1.out
    · exact (Kept.self b w).set1 _ _
theorem rrleave_any {w : World} {b : Nat} {s : Res.St} (hR : RResAt w b s) (h : Int) :
    Calls Tryd.prog 39 #[.pointer (some ⟨b, 0, none⟩), iv h] w (RResPost b (Res.leave s h) w) := by
  have H := Lib.hid hR
  clear hR
  cases hh : Res.hostB h with
  | false =>
    have Hh := Lib.hid hh
    clear hh
    go_enter Tryd.func39, Tryd.ntmps39
    go_wp2_with fail
    refine (rhost_any _ _).mono ?_
    rintro e w' ⟨rfl, rfl⟩
    rw [Hh.out]
    go_wp2_with fail
    go_ret
    rw [RResPost, Res.leave, if_pos (by simp [Hh.out])]
    exact ⟨rfl, H.out, Kept.refl _ _⟩
  | true =>
    have hi := host_in hh
    obtain ⟨j, rfl⟩ : ∃ j : Nat, h = j := ⟨h.toNat, by omega⟩
    have hj : j < 10 := by omega
    have cj := H.out.key hj
    have Hh := Lib.hid hh
    have hk : Res.key s j = s.1.getD j 0 := by unfold Res.key; rw [Int.toNat_natCast]
    have Hk := Lib.hid hk
    clear hh hk
    generalize s.1.getD j 0 = x at *
    by_cases c : x = 0
    · have c1 := beq_t c
      have Hc := Lib.hid c1
      clear c
      go_enter Tryd.func39, Tryd.ntmps39
      go_wp2_with fail
      refine (rhost_any _ _).mono ?_
      rintro e w' ⟨rfl, rfl⟩
      rw [Hh.out]
      go_wp2_with fail
      go_ret
      rw [RResPost, Res.leave, if_neg (by simp [Hh.out]), if_pos (by rw [Hk.out, Hc.out])]
      exact ⟨rfl, H.out, Kept.refl _ _⟩
    · have c1 := beq_f c
      have Hc := Lib.hid c1
      clear c
      go_enter Tryd.func39, Tryd.ntmps39
      go_wp2_with fail
      refine (rhost_any _ _).mono ?_
      rintro e w' ⟨rfl, rfl⟩
      rw [Hh.out]
      go_wp2_with fail
      refine (rout_any H.out j hj).mono ?_
      rintro e w1 ⟨rfl, h1, h2⟩
      have H1 := Lib.hid h1
      have H2 := Lib.hid h2
      clear h1 h2
      go_wp2_with fail
      go_ret
      rw [RResPost, Res.leave, if_neg (by simp [Hh.out]), if_neg (by rw [Hk.out, Hc.out]; decide)]
      exact ⟨rfl, by rw [Int.toNat_natCast]; exact H1.out, H2.out⟩
theorem den_eq {K : List Int} {H D : Int} {j : Nat} {k : Int} : Res.denied (K, H, D) j k = (k == 0 || K.getD j 0 != k) := by
  unfold Res.denied Res.key
  simp only [Int.toNat_natCast]
  by_cases h : K.getD j 0 = k
  · rw [h]
  · have : (K.getD j 0 != k) = true := bne_t h
    rw [this]; simp
set_option maxRecDepth 100000 in
set_option maxHeartbeats 1000000 in
theorem rhold_any {w : World} {b : Nat} {s : Res.St} (hR : RResAt w b s) (h k x : Int) :
    Calls Tryd.prog 41 #[.pointer (some ⟨b, 0, none⟩), iv h, iv k, iv x] w (RResPost b (Res.hold s h k x) w) := by
  have ch := hR.h
  have ck := hR.k
  have f10 := hR.f 10
  have f11 := hR.f 11
  have H := Lib.hid hR
  have H1 := Lib.hid (hR.setH h x)
  clear hR
  obtain ⟨K, hh0, kd0⟩ := s
  simp only at ch ck
  cases hh : Res.hostB h with
  | false =>
    have Hh := Lib.hid hh
    clear hh
    go_enter Tryd.func41, Tryd.ntmps41
    go_wp2_with fail
    refine (rhost_any _ _).mono ?_
    rintro e w' ⟨rfl, rfl⟩
    rw [Hh.out]
    go_wp2_with fail
    go_ret
    rw [RResPost, Res.hold, if_pos (by simp [Hh.out])]
    exact ⟨rfl, H.out, Kept.refl _ _⟩
  | true =>
    have hi := host_in hh
    have Hh := Lib.hid hh
    clear hh
    obtain ⟨j, rfl⟩ : ∃ j : Nat, h = j := ⟨h.toNat, by omega⟩
    have hj : j < 10 := by omega
    have cj := H.out.key hj
    by_cases x1 : x < 1
    · have Hk := Lib.hid (show Res.kindB x = false by simp [Res.kindB]; omega)
      have d1 := dec_t x1
      go_enter Tryd.func41, Tryd.ntmps41
      go_wp2_with fail
      refine (rhost_any _ _).mono ?_
      rintro e w' ⟨rfl, rfl⟩
      rw [Hh.out]
      go_wp2_with fail
      go_ret
      rw [RResPost, Res.hold, if_pos (by simp [Hk.out])]
      exact ⟨rfl, H.out, Kept.refl _ _⟩
    · have d1 := dec_f x1
      by_cases x4 : 4 < x
      · have Hk := Lib.hid (show Res.kindB x = false by simp [Res.kindB]; omega)
        have d2 := dec_t x4
        go_enter Tryd.func41, Tryd.ntmps41
        go_wp2_with fail
        refine (rhost_any _ _).mono ?_
        rintro e w' ⟨rfl, rfl⟩
        rw [Hh.out]
        go_wp2_with fail
        go_ret
        rw [RResPost, Res.hold, if_pos (by simp [Hk.out])]
        exact ⟨rfl, H.out, Kept.refl _ _⟩
      · have d2 := dec_f x4
        have Hk := Lib.hid (show Res.kindB x = true by simp [Res.kindB]; omega)
        have hden := den_eq (K := K) (H := hh0) (D := kd0) (j := j) (k := k)
        simp only at cj
        generalize K.getD j 0 = y at *
        have Hden := Lib.hid hden
        clear hden
        have three : k = 0 ∨ (k ≠ 0 ∧ y ≠ k) ∨ (k ≠ 0 ∧ y = k) := by omega
        rcases three with c | ⟨c, d⟩ | ⟨c, d⟩
        · have k1 := beq_t c
          have Hd : Hid (Res.denied (K, hh0, kd0) j k = true) := Lib.hid (by rw [Hden.out, k1, Bool.true_or])
          clear c
          go_enter Tryd.func41, Tryd.ntmps41
          go_wp2_with fail
          refine (rhost_any _ _).mono ?_
          rintro e w' ⟨rfl, rfl⟩
          rw [Hh.out]
          go_wp2_with fail
          go_ret
          rw [RResPost, Res.hold, if_neg (by simp [Hh.out, Hk.out]), if_pos Hd.out]
          exact ⟨rfl, H.out, Kept.refl _ _⟩
        · have k1 := beq_f c
          have k2 := bne_t d
          have Hd : Hid (Res.denied (K, hh0, kd0) j k = true) := Lib.hid (by rw [Hden.out, k1, k2, Bool.false_or])
          clear c d
          go_enter Tryd.func41, Tryd.ntmps41
          go_wp2_with fail
          refine (rhost_any _ _).mono ?_
          rintro e w' ⟨rfl, rfl⟩
          rw [Hh.out]
          go_wp2_with fail
          go_ret
          rw [RResPost, Res.hold, if_neg (by simp [Hh.out, Hk.out]), if_pos Hd.out]
          exact ⟨rfl, H.out, Kept.refl _ _⟩
        · have k1 := beq_f c
          have k2 := bne_f d
          have Hd : Hid (Res.denied (K, hh0, kd0) j k = false) := Lib.hid (by rw [Hden.out, k1, k2, Bool.false_or])
          clear c d
          have hX : ∀ q : Bool, (hh0 != 0 && !(hh0 == (j : Int) && kd0 == x)) = q → Res.hold (K, hh0, kd0) j k x = if q then (6, K, hh0, kd0) else (0, K, j, x) := by
            intro q hq
            rw [Res.hold, if_neg (by simp [Hh.out, Hk.out]), if_neg (by rw [Hd.out]; decide), ← hq]
          have HX := Lib.hid hX
          clear hX
          have four : hh0 = 0 ∨ (hh0 ≠ 0 ∧ hh0 ≠ j) ∨ (hh0 ≠ 0 ∧ hh0 = j ∧ kd0 ≠ x) ∨ (hh0 ≠ 0 ∧ hh0 = j ∧ kd0 = x) := by omega
          rcases four with c | ⟨c, d⟩ | ⟨c, d, g⟩ | ⟨c, d, g⟩
          · have c2 := bne_f c
            have Hq := Lib.hid (HX.out false (by rw [c2]; rfl))
            clear c
            go_enter Tryd.func41, Tryd.ntmps41
            go_wp2_with fail
            refine (rhost_any _ _).mono ?_
            rintro e w' ⟨rfl, rfl⟩
            rw [Hh.out]
            go_wp2_with fail
            go_ret
            rw [RResPost, Hq.out]
            exact ⟨rfl, H1.out, ((Kept.self b w).set1 _ _).set1 _ _⟩
          · have c2 := bne_t c
            have d1 := beq_f d
            have d3 := bne_t d
            have Hq := Lib.hid (HX.out true (by rw [c2, d1]; rfl))
            clear c d
            go_enter Tryd.func41, Tryd.ntmps41
            go_wp2_with fail
            refine (rhost_any _ _).mono ?_
            rintro e w' ⟨rfl, rfl⟩
            rw [Hh.out]
            go_wp2_with fail
            go_ret
            rw [RResPost, Hq.out]
            exact ⟨rfl, H.out, Kept.refl _ _⟩
          · have c2 := bne_t c
            have d1 := beq_t d
            have d3 := bne_f d
            have g1 := beq_f g
            have g3 := bne_t g
            have Hq := Lib.hid (HX.out true (by rw [c2, d1, g1]; rfl))
            clear c d g
            go_enter Tryd.func41, Tryd.ntmps41
            go_wp2_with fail
            refine (rhost_any _ _).mono ?_
            rintro e w' ⟨rfl, rfl⟩
            rw [Hh.out]
            go_wp2_with fail
            go_ret
            rw [RResPost, Hq.out]
            exact ⟨rfl, H.out, Kept.refl _ _⟩
          · have c2 := bne_t c
            have d1 := beq_t d
            have d3 := bne_f d
            have g1 := beq_t g
            have g3 := bne_f g
            have Hq := Lib.hid (HX.out false (by rw [c2, d1, g1]; rfl))
            clear c d g
            go_enter Tryd.func41, Tryd.ntmps41
            go_wp2_with fail
            refine (rhost_any _ _).mono ?_
            rintro e w' ⟨rfl, rfl⟩
            rw [Hh.out]
            go_wp2_with fail
            go_ret
            rw [RResPost, Hq.out]
            exact ⟨rfl, H1.out, ((Kept.self b w).set1 _ _).set1 _ _⟩
set_option maxRecDepth 100000 in
set_option maxHeartbeats 1000000 in
theorem rrfree_any {w : World} {b : Nat} {s : Res.St} (hR : RResAt w b s) (h k x : Int) :
    Calls Tryd.prog 43 #[.pointer (some ⟨b, 0, none⟩), iv h, iv k, iv x] w (RResPost b (Res.free s h k x) w) := by
  have ch := hR.h
  have ck := hR.k
  have f10 := hR.f 10
  have f11 := hR.f 11
  have H := Lib.hid hR
  have H1 := Lib.hid (hR.setH 0 0)
  clear hR
  obtain ⟨K, hh0, kd0⟩ := s
  simp only at ch ck
  cases hh : Res.hostB h with
  | false =>
    have Hh := Lib.hid hh
    clear hh
    go_enter Tryd.func43, Tryd.ntmps43
    go_wp2_with fail
    refine (rhost_any _ _).mono ?_
    rintro e w' ⟨rfl, rfl⟩
    rw [Hh.out]
    go_wp2_with fail
    go_ret
    rw [RResPost, Res.free, if_pos (by simp [Hh.out])]
    exact ⟨rfl, H.out, Kept.refl _ _⟩
  | true =>
    have hi := host_in hh
    have Hh := Lib.hid hh
    clear hh
    obtain ⟨j, rfl⟩ : ∃ j : Nat, h = j := ⟨h.toNat, by omega⟩
    have hj : j < 10 := by omega
    have cj := H.out.key hj
    by_cases x1 : x < 1
    · have Hk := Lib.hid (show Res.kindB x = false by simp [Res.kindB]; omega)
      have d1 := dec_t x1
      go_enter Tryd.func43, Tryd.ntmps43
      go_wp2_with fail
      refine (rhost_any _ _).mono ?_
      rintro e w' ⟨rfl, rfl⟩
      rw [Hh.out]
      go_wp2_with fail
      go_ret
      rw [RResPost, Res.free, if_pos (by simp [Hk.out])]
      exact ⟨rfl, H.out, Kept.refl _ _⟩
    · have d1 := dec_f x1
      by_cases x4 : 4 < x
      · have Hk := Lib.hid (show Res.kindB x = false by simp [Res.kindB]; omega)
        have d2 := dec_t x4
        go_enter Tryd.func43, Tryd.ntmps43
        go_wp2_with fail
        refine (rhost_any _ _).mono ?_
        rintro e w' ⟨rfl, rfl⟩
        rw [Hh.out]
        go_wp2_with fail
        go_ret
        rw [RResPost, Res.free, if_pos (by simp [Hk.out])]
        exact ⟨rfl, H.out, Kept.refl _ _⟩
      · have d2 := dec_f x4
        have Hk := Lib.hid (show Res.kindB x = true by simp [Res.kindB]; omega)
        have hden := den_eq (K := K) (H := hh0) (D := kd0) (j := j) (k := k)
        simp only at cj
        generalize K.getD j 0 = y at *
        have Hden := Lib.hid hden
        clear hden
        have three : k = 0 ∨ (k ≠ 0 ∧ y ≠ k) ∨ (k ≠ 0 ∧ y = k) := by omega
        rcases three with c | ⟨c, d⟩ | ⟨c, d⟩
        · have k1 := beq_t c
          have Hd : Hid (Res.denied (K, hh0, kd0) j k = true) := Lib.hid (by rw [Hden.out, k1, Bool.true_or])
          clear c
          go_enter Tryd.func43, Tryd.ntmps43
          go_wp2_with fail
          refine (rhost_any _ _).mono ?_
          rintro e w' ⟨rfl, rfl⟩
          rw [Hh.out]
          go_wp2_with fail
          go_ret
          rw [RResPost, Res.free, if_neg (by simp [Hh.out, Hk.out]), if_pos Hd.out]
          exact ⟨rfl, H.out, Kept.refl _ _⟩
        · have k1 := beq_f c
          have k2 := bne_t d
          have Hd : Hid (Res.denied (K, hh0, kd0) j k = true) := Lib.hid (by rw [Hden.out, k1, k2, Bool.false_or])
          clear c d
          go_enter Tryd.func43, Tryd.ntmps43
          go_wp2_with fail
          refine (rhost_any _ _).mono ?_
          rintro e w' ⟨rfl, rfl⟩
          rw [Hh.out]
          go_wp2_with fail
          go_ret
          rw [RResPost, Res.free, if_neg (by simp [Hh.out, Hk.out]), if_pos Hd.out]
          exact ⟨rfl, H.out, Kept.refl _ _⟩
        · have k1 := beq_f c
          have k2 := bne_f d
          have Hd : Hid (Res.denied (K, hh0, kd0) j k = false) := Lib.hid (by rw [Hden.out, k1, k2, Bool.false_or])
          clear c d
          by_cases c : hh0 = j
          · by_cases d : kd0 = x
            · have c2 := bne_f c
              have d3 := bne_f d
              have HQ := Lib.hid (show Res.free (K, hh0, kd0) j k x = (0, K, 0, 0) by
                rw [Res.free, if_neg (by simp [Hh.out, Hk.out]), if_neg (by rw [Hd.out]; decide), if_neg (by simp only [c2]; decide), if_neg (by simp only [d3]; decide)])
              clear c d
              go_enter Tryd.func43, Tryd.ntmps43
              go_wp2_with fail
              refine (rhost_any _ _).mono ?_
              rintro e w' ⟨rfl, rfl⟩
              rw [Hh.out]
              go_wp2_with fail
              go_ret
              rw [RResPost, HQ.out]
              exact ⟨rfl, H1.out, ((Kept.self b w).set1 _ _).set1 _ _⟩
            · have c2 := bne_f c
              have d3 := bne_t d
              have HQ := Lib.hid (show Res.free (K, hh0, kd0) j k x = (3, K, hh0, kd0) by
                rw [Res.free, if_neg (by simp [Hh.out, Hk.out]), if_neg (by rw [Hd.out]; decide), if_neg (by simp only [c2]; decide), if_pos d3])
              clear c d
              go_enter Tryd.func43, Tryd.ntmps43
              go_wp2_with fail
              refine (rhost_any _ _).mono ?_
              rintro e w' ⟨rfl, rfl⟩
              rw [Hh.out]
              go_wp2_with fail
              go_ret
              rw [RResPost, HQ.out]
              exact ⟨rfl, H.out, Kept.refl _ _⟩
          · have c2 := bne_t c
            have HQ := Lib.hid (show Res.free (K, hh0, kd0) j k x = (5, K, hh0, kd0) by
              rw [Res.free, if_neg (by simp [Hh.out, Hk.out]), if_neg (by rw [Hd.out]; decide), if_pos c2])
            clear c
            go_enter Tryd.func43, Tryd.ntmps43
            go_wp2_with fail
            refine (rhost_any _ _).mono ?_
            rintro e w' ⟨rfl, rfl⟩
            rw [Hh.out]
            go_wp2_with fail
            go_ret
            rw [RResPost, HQ.out]
            exact ⟨rfl, H.out, Kept.refl _ _⟩
end Go.Proofs.YtoddoekmgkcomaaDoor
