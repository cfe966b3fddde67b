/- The walks of package reserve. -/
import Derived.Test.YtoddoekmgkcomaaDoorResP
import Derived.Deep.LoopGhost
import Derived.Deep.DeepCutAuto
namespace Go.Proofs.YtoddoekmgkcomaaDoor
open Go.ChangeShapes Go.WideShapes Go.ChangeAt Go.RowKit
set_option linter.unusedVariables false
/-- a reservation in memory: one block of twelve cells -/
structure ResAt (w : World) (b : Nat) (s : Res.St) : Prop where
  len : s.1.length = 10
  blk : w.heap[b]? = some (.cells ((s.1.map iv ++ [iv s.2.1, iv s.2.2]).toArray) 121 (0, 0))
section
variable {w : World} {b : Nat} {s : Res.St}
theorem ResAt.lt (h : ResAt w b s) : b < w.heap.size := (Array.getElem?_eq_some_iff.1 h.blk).1
theorem ResAt.key (h : ResAt w b s) {j : Nat} (hj : j < 10) : w.cell? ⟨b, j, none⟩ = some (iv (s.1.getD j 0)) := by
  have h1 := h.len
  rw [cell_of_row _ _ _ _ _ _ h.blk, List.getElem?_toArray, List.getElem?_append_left (by rw [List.length_map]; omega), List.getElem?_map, List.getElem?_eq_getElem (by omega)]
  rw [List.getD_eq_getElem?_getD, List.getElem?_eq_getElem (by omega)]; rfl
theorem ResAt.h (h : ResAt w b s) : w.cell? ⟨b, 10, none⟩ = some (iv s.2.1) := by
  have h1 := h.len
  rw [cell_of_row _ _ _ _ _ _ h.blk, List.getElem?_toArray, List.getElem?_append_right (by rw [List.length_map]; omega), List.length_map, h1]; rfl
theorem ResAt.k (h : ResAt w b s) : w.cell? ⟨b, 11, none⟩ = some (iv s.2.2) := by
  have h1 := h.len
  rw [cell_of_row _ _ _ _ _ _ h.blk, List.getElem?_toArray, List.getElem?_append_right (by rw [List.length_map]; omega), List.length_map, h1]; rfl
theorem ResAt.f (h : ResAt w b s) (j : Nat) : w.frozen? ⟨b, j, none⟩ = false := frozen_of_row _ _ _ _ _ h.blk
theorem ResAt.below (h : ResAt w b s) {w' : World} (hw : Below w.heap.size w w') : ResAt w' b s := ⟨h.len, by rw [hw.block b h.lt]; exact h.blk⟩
theorem ResAt.drewN (h : ResAt w b s) (n : Nat) : ResAt (w.drewN n) b s := ⟨h.len, h.blk⟩
theorem ResAt.setKey (h : ResAt w b s) {j : Nat} (hj : j < 10) (x : Int) : ResAt (w.setCell ⟨b, j, none⟩ (iv x)) b (s.1.set j x, s.2) := by
  have h1 := h.len
  refine ⟨by rw [List.length_set]; exact h1, ?_⟩
  rw [heap_setCell_same _ _ _ _ _ _ h.blk]
  congr 2
  rw [List.setIfInBounds_toArray]
  congr 1
  rw [List.set_append_left _ _ (by rw [List.length_map]; omega), List.map_set]
theorem ResAt.setH (h : ResAt w b s) (x y : Int) : ResAt ((w.setCell ⟨b, 10, none⟩ (iv x)).setCell ⟨b, 11, none⟩ (iv y)) b (s.1, x, y) := by
  have h1 := h.len
  refine ⟨h1, ?_⟩
  rw [heap_setCell_same _ _ _ _ _ _ (heap_setCell_same _ _ _ _ _ _ h.blk)]
  congr 2
  rw [List.setIfInBounds_toArray, List.setIfInBounds_toArray]
  congr 1
  rw [List.set_append_right _ _ (by rw [List.length_map]; omega), List.set_append_right _ _ (by rw [List.length_map]; omega), List.length_map, h1]
  rfl
end

theorem resNew_any (w : World) : Calls Tryd.prog 35 #[] w fun e w' => e = .returned (.pointer (some ⟨w.heap.size, 0, none⟩)) ∧ ResAt w' w.heap.size Res.zero ∧ Below w.heap.size w w' := by
  go_enter Tryd.func35, Tryd.ntmps35
  go_wp2
  go_ret
  exact ⟨rfl, ⟨rfl, heap_alloc_new _ _⟩, (Below.refl _ _).alloc (Nat.le_refl _) _⟩
theorem host_any (h : Int) (w : World) : Calls Tryd.prog 65 #[iv h] w fun e w' => e = .returned (.bool (Res.hostB h)) ∧ w = w' := by
  by_cases c : 1 ≤ h
  case' pos => have c1 := dec_t c
  case' neg => have c1 := dec_f c
  all_goals
    go_enter Tryd.func65, Tryd.ntmps65
    go_wp2
    go_ret
    exact ⟨by simp [Res.hostB, c1], rfl⟩
theorem key_any (h : Int) (w : World) : Calls Tryd.prog 66 #[iv h] w fun e w' => e = .returned (.bool (Res.keyB h)) ∧ w = w' := by
  by_cases c : 1 ≤ h
  case' pos => have c1 := dec_t c
  case' neg => have c1 := dec_f c
  all_goals
    go_enter Tryd.func66, Tryd.ntmps66
    go_wp2
    go_ret
    exact ⟨by simp [Res.keyB, c1], rfl⟩
theorem kind_any (h : Int) (w : World) : Calls Tryd.prog 71 #[iv h] w fun e w' => e = .returned (.bool (Res.kindB h)) ∧ w = w' := by
  by_cases c : 1 ≤ h
  case' pos => have c1 := dec_t c
  case' neg => have c1 := dec_f c
  all_goals
    go_enter Tryd.func71, Tryd.ntmps71
    go_wp2
    go_ret
    exact ⟨by simp [Res.kindB, c1], rfl⟩

def ResPost (b : Nat) (r : Int × Res.St) (w : World) (e : Ending) (w' : World) : Prop :=
  e = .returned (errV r.1) ∧ ResAt w' b r.2 ∧ Kept (· = b) w w'
theorem host_in {h : Int} (hh : Res.hostB h = true) : 1 ≤ h ∧ h ≤ 9 := by simpa [Res.hostB] using hh
theorem setK (w : World) (b j : Nat) (v : Value) : Kept (· = b) w (w.setCell ⟨b, j, none⟩ v) := (Kept.self b w).set1 j v
theorem register_any {w : World} {b : Nat} {s : Res.St} (hR : ResAt w b s) (h k : Int) :
    Calls Tryd.prog 36 #[.pointer (some ⟨b, 0, none⟩), iv h, iv k] w (ResPost b (Res.register s h k) w) := by
  have H := Lib.hid hR
  clear hR
  cases hh : Res.hostB h with
  | false =>
    have Hh := Lib.hid hh
    clear hh
    go_enter Tryd.func36, Tryd.ntmps36
    go_wp2_with fail
    refine (host_any h _).mono ?_
    rintro e w' ⟨rfl, rfl⟩
    rw [Hh.out]
    go_wp2_with fail
    go_ret
    rw [ResPost, Res.register, if_pos (by simp [Hh.out])]
    exact ⟨rfl, H.out, Kept.refl _ _⟩
  | true =>
    have hi := host_in hh
    obtain ⟨j, rfl⟩ : ∃ j : Nat, h = j := ⟨h.toNat, by omega⟩
    have hj : j < 10 := by omega
    have cj := H.out.key hj
    have fj := H.out.f j
    have Hh := Lib.hid hh
    have H1 := Lib.hid (H.out.setKey hj k)
    clear hh
    cases hk : Res.keyB k with
    | false =>
      have Hk := Lib.hid hk
      clear hk
      go_enter Tryd.func36, Tryd.ntmps36
      go_wp2_with fail
      refine (host_any _ _).mono ?_
      rintro e w' ⟨rfl, rfl⟩
      rw [Hh.out]
      go_wp2_with fail
      refine (key_any _ _).mono ?_
      rintro e w' ⟨rfl, rfl⟩
      rw [Hk.out]
      go_wp2_with fail
      go_ret
      rw [ResPost, Res.register, if_pos (by simp [Hh.out, Hk.out])]
      exact ⟨rfl, H.out, Kept.refl _ _⟩
    | true =>
      have Hk := Lib.hid hk
      clear hk
      go_enter Tryd.func36, Tryd.ntmps36
      go_wp2_with fail
      refine (host_any _ _).mono ?_
      rintro e w' ⟨rfl, rfl⟩
      rw [Hh.out]
      go_wp2_with fail
      refine (key_any _ _).mono ?_
      rintro e w' ⟨rfl, rfl⟩
      rw [Hk.out]
      go_wp2_with fail
      go_ret
      rw [ResPost, Res.register, if_neg (by simp [Hh.out, Hk.out])]
      exact ⟨rfl, H1.out, setK _ _ _ _⟩

theorem denied_any {w : World} {b : Nat} {s : Res.St} (hR : ResAt w b s) (h k : Int) (hh : Res.hostB h = true) :
    Calls Tryd.prog 72 #[.pointer (some ⟨b, 0, none⟩), iv h, iv k] w fun e w' => e = .returned (.bool (Res.denied s h k)) ∧ w = w' := by
  have H := Lib.hid hR
  have hi := host_in hh
  obtain ⟨j, rfl⟩ : ∃ j : Nat, h = j := ⟨h.toNat, by omega⟩
  have hj : j < 10 := by omega
  have cj := H.out.key hj
  have hd : Res.denied s j k = (s.1.getD j 0 == 0 || s.1.getD j 0 != k) := by unfold Res.denied Res.key; rw [Int.toNat_natCast]
  have Hd := Lib.hid hd
  clear hh hR hd
  generalize s.1.getD j 0 = x at *
  by_cases c : x = 0
  case' pos =>
    have c1 := beq_t c
    have Hc := Lib.hid c1
    clear c
  case' neg =>
    have c1 := beq_f c
    have Hc := Lib.hid c1
    clear c
  all_goals
    go_enter Tryd.func72, Tryd.ntmps72
    go_wp2
    go_ret
    exact ⟨by rw [Hd.out, Hc.out]; rfl, rfl⟩
theorem rleave_any {w : World} {b : Nat} {s : Res.St} (hR : ResAt w b s) (j : Nat) (hj : j < 10) :
    Calls Tryd.prog 69 #[.pointer (some ⟨b, 0, none⟩), iv j] w fun e w' => e = .returned (.tuple #[]) ∧ ResAt w' b (Res.out s j) ∧ Kept (· = b) w w' := by
  have cj := hR.key hj
  have ch := hR.h
  have ck := hR.k
  have f := hR.f
  have hj10 : j ≠ 10 := by omega
  have hj11 : j ≠ 11 := by omega
  have H1 := Lib.hid (hR.setKey hj 0)
  have H2 := Lib.hid (H1.out.setH 0 0)
  clear hR
  by_cases c : s.2.1 = j
  · have c1 := beq_t c
    have Hc := Lib.hid c1
    clear c
    go_enter Tryd.func69, Tryd.ntmps69
    go_wp2
    go_end0
    refine ⟨rfl, ?_, ?_⟩
    · rw [Res.out, if_pos Hc.out]; exact H2.out
    · exact (((Kept.self b w).set1 _ _).set1 _ _).set1 _ _
  · have c1 := beq_f c
    have Hc := Lib.hid c1
    clear c
    go_enter Tryd.func69, Tryd.ntmps69
    go_wp2
    go_end0
    refine ⟨rfl, ?_, ?_⟩
    · rw [Res.out, if_neg (by rw [Hc.out]; decide)]; exact H1.out
    · exact (Kept.self b w).set1 _ _
theorem leave_any {w : World} {b : Nat} {s : Res.St} (hR : ResAt w b s) (h : Int) :
    Calls Tryd.prog 38 #[.pointer (some ⟨b, 0, none⟩), iv h] w (ResPost b (Res.leave s h) w) := by
  have H := Lib.hid hR
  clear hR
  cases hh : Res.hostB h with
  | false =>
    have Hh := Lib.hid hh
    clear hh
    go_enter Tryd.func38, Tryd.ntmps38
    go_wp2_with fail
    refine (host_any h _).mono ?_
    rintro e w' ⟨rfl, rfl⟩
    rw [Hh.out]
    go_wp2_with fail
    go_ret
    rw [ResPost, Res.leave, if_pos (by simp [Hh.out])]
    exact ⟨rfl, H.out, Kept.refl _ _⟩
  | true =>
    have hi := host_in hh
    obtain ⟨j, rfl⟩ : ∃ j : Nat, h = j := ⟨h.toNat, by omega⟩
    have hj : j < 10 := by omega
    have cj := H.out.key hj
    have Hh := Lib.hid hh
    have hk : Res.key s j = s.1.getD j 0 := by unfold Res.key; rw [Int.toNat_natCast]
    have Hk := Lib.hid hk
    clear hh hk
    generalize s.1.getD j 0 = x at *
    by_cases c : x = 0
    · have c1 := beq_t c
      have Hc := Lib.hid c1
      clear c
      go_enter Tryd.func38, Tryd.ntmps38
      go_wp2_with fail
      refine (host_any _ _).mono ?_
      rintro e w' ⟨rfl, rfl⟩
      rw [Hh.out]
      go_wp2_with fail
      go_ret
      rw [ResPost, Res.leave, if_neg (by simp [Hh.out]), if_pos (by rw [Hk.out, Hc.out])]
      exact ⟨rfl, H.out, Kept.refl _ _⟩
    · have c1 := beq_f c
      have Hc := Lib.hid c1
      clear c
      go_enter Tryd.func38, Tryd.ntmps38
      go_wp2_with fail
      refine (host_any _ _).mono ?_
      rintro e w' ⟨rfl, rfl⟩
      rw [Hh.out]
      go_wp2_with fail
      refine (rleave_any H.out j hj).mono ?_
      rintro e w1 ⟨rfl, h1, h2⟩
      have H1 := Lib.hid h1
      have H2 := Lib.hid h2
      clear h1 h2
      go_wp2_with fail
      go_ret
      rw [ResPost, Res.leave, if_neg (by simp [Hh.out]), if_neg (by rw [Hk.out, Hc.out]; decide)]
      exact ⟨rfl, by rw [Int.toNat_natCast]; exact H1.out, H2.out⟩
end Go.Proofs.YtoddoekmgkcomaaDoor
