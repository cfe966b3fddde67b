/- The walks of package array: the small ones. -/
import Derived.Test.YtcldioneiededaaAryW
import Derived.Test.YtcldioneiededaaLayW
import Derived.RegionTactic
import Derived.Deep.QuietTactic
import Derived.BigQuiet
import Derived.IntWalk
namespace Go.Proofs.Ytcldioneiededaa
open Go.ChangeShapes Go.WideShapes Go.ChangeAt Go.RowKit
set_option linter.unusedVariables false
variable {w : World} {b g c : Nat} {mb db : Nat → Nat} {n rows size : Nat} {ms : Nat → Dk.D} {bt : Nat → Nat}
theorem dk_int {n row j : Nat} (h : 0 < n) : Lay.disk (n : Int) (row : Int) (j : Int) = (Ar.dk n row j : Int) := by
  unfold Lay.disk Lay.pOf Ar.dk
  have hm : row % n < n := Nat.mod_lt _ h
  rw [Int.natCast_emod]
  congr 1
  have : ((n - 1 - row % n : Nat) : Int) = (n : Int) - 1 - ((row % n : Nat) : Int) := by omega
  rw [Int.natCast_add, Int.natCast_add, this, Int.natCast_emod]
  rfl
def hasB (n : Nat) (d : Int) : Bool := decide (0 ≤ d) && decide (d < (n : Int))
theorem hasB_t {n d : Nat} (h : d < n) : hasB n (d : Int) = true := by unfold hasB; rw [dec_t (by omega), dec_t (by omega)]; rfl
set_option maxRecDepth 100000 in
theorem ahas_any (h : AryAt w b g c mb db n rows size ms bt) (d : Int) :
    Calls Try.prog 33 #[.pointer (some ⟨b, 0, none⟩), iv d] w fun e w' => e = .returned (.bool (hasB n d)) ∧ w = w' := by
  have c0 := h.c0
  have hc := h.cap
  have hc1 := hc.1
  have hc2 := hc.2
  unfold maxLen at hc2
  clear h hc
  by_cases h1 : 0 ≤ d
  · have d1 := dec_t h1
    by_cases h2 : d < (n : Int)
    · have d2 := dec_t h2
      have hh : hasB n d = true := by unfold hasB; rw [d1, d2]; rfl
      rw [hh]
      clear hh
      go_enter Try.func33, Try.ntmps33
      go_wp2_with fail
      go_ret
      exact ⟨rfl, rfl⟩
    · have d2 := dec_f h2
      have hh : hasB n d = false := by unfold hasB; rw [d1, d2]; rfl
      rw [hh]
      clear hh
      go_enter Try.func33, Try.ntmps33
      go_wp2_with fail
      go_ret
      exact ⟨rfl, rfl⟩
  · have d1 := dec_f h1
    have hh : hasB n d = false := by unfold hasB; rw [d1]; rfl
    rw [hh]
    clear hh
    go_enter Try.func33, Try.ntmps33
    go_wp2_with fail
    go_ret
    exact ⟨rfl, rfl⟩
def lostB (ms : Nat → Dk.D) (bt : Nat → Nat) (d row : Nat) : Bool := (ms d).failed || decide (bt d ≤ row)
set_option maxRecDepth 100000 in
theorem alost_any (h : AryAt w b g c mb db n rows size ms bt) {d : Nat} (hd : d < n) (row : Nat) (hb : bt d ≤ 1000) (hr : row ≤ 1000) :
    Calls Try.prog 37 #[.pointer (some ⟨b, 0, none⟩), iv d, iv row] w fun e w' => e = .returned (.bool (lostB ms bt d row)) ∧ w = w' := by
  have c0 := h.c0
  have c1 := h.lst d hd
  have c2 := h.m0 hd
  have c3 := h.m1 hd
  have hc1 := h.cap.1
  have hc2 := h.cap.2
  unfold maxLen at hc2
  have HW := Lib.hid (works_any (h.dsk d hd))
  have hl : lostB ms bt d row = ((ms d).failed || decide (bt d ≤ row)) := rfl
  rw [hl]
  generalize mb d = mbd at *
  generalize db d = dbd at *
  generalize bt d = btd at *
  generalize (ms d).failed = f at *
  clear h hl
  cases f with
  | true =>
    go_enter Try.func37, Try.ntmps37
    go_wp2_with fail
    refine (HW.out).mono ?_
    rintro e w' ⟨rfl, rfl⟩
    go_wp2_with fail
    go_ret
    exact ⟨rfl, rfl⟩
  | false =>
    by_cases hlt : btd ≤ row
    · have d1 : decide (btd ≤ row) = true := dec_t hlt
      have d2 : (btd : Int) ≤ (row : Int) := by omega
      rw [d1]
      clear d1
      go_enter Try.func37, Try.ntmps37
      go_wp2_with fail
      refine (HW.out).mono ?_
      rintro e w' ⟨rfl, rfl⟩
      go_wp2_with fail
      go_ret
      exact ⟨rfl, rfl⟩
    · have d1 : decide (btd ≤ row) = false := dec_f hlt
      have d2 : (row : Int) < (btd : Int) := by omega
      rw [d1]
      clear d1
      go_enter Try.func37, Try.ntmps37
      go_wp2_with fail
      refine (HW.out).mono ?_
      rintro e w' ⟨rfl, rfl⟩
      go_wp2_with fail
      go_ret
      exact ⟨rfl, rfl⟩
/-- what spot gives -/
def SpotPost (n rows : Nat) (x : Int) (w : World) (e : Ending) (w' : World) : Prop :=
  (0 ≤ x ∧ x < ((rows * (n - 2) : Nat) : Int) → e = .returned (.tuple #[.agg #[iv (Ar.dk n (x.toNat / (n - 2)) (x.toNat % (n - 2))), iv (x.toNat / (n - 2) : Nat)], .nilIface])) ∧
  (¬ (0 ≤ x ∧ x < ((rows * (n - 2) : Nat) : Int)) → e = .returned (.tuple #[.agg #[iv 0, iv 0], ev 1])) ∧ Below w.heap.size w w'
set_option maxRecDepth 100000 in
theorem aspot_any (h : AryAt w b g c mb db n rows size ms bt) (h3 : 3 ≤ n) (h10 : n ≤ 10) (hr : rows ≤ 20) (x : Int) (hx : x ≤ 9223372036854775807) (hx0 : -9223372036854775808 ≤ x) :
    Calls Try.prog 26 #[.pointer (some ⟨b, 0, none⟩), iv x] w (SpotPost n rows x w) := by
  have hb0 : Below w.heap.size w (w.alloc (.cells #[iv 0, iv 0] 67)) := (Below.refl _ _).alloc (Nat.le_refl _) _
  have c0 := (h.below hb0).c0
  have c1 := (h.below hb0).c1
  have hc1 := h.cap.1
  have hc2 := h.cap.2
  unfold maxLen at hc2
  have HB := Lib.hid hb0
  clear h hb0
  have hm9 : rows * (n - 2) ≤ 20 * 8 := Nat.mul_le_mul hr (by omega)
  obtain ⟨m, hm⟩ : ∃ m, m = rows * (n - 2) := ⟨_, rfl⟩
  have hmI : (rows : Int) * ((n : Int) - 2) = (m : Int) := by rw [hm, Int.natCast_mul, show ((n - 2 : Nat) : Int) = (n : Int) - 2 by omega]
  have hq : 0 ≤ x → x < (m : Int) → x / ((n : Int) - 2) < 20 := fun _ h => Int.ediv_lt_of_lt_mul (by omega) (Int.lt_of_lt_of_le h (by rw [← hmI]; exact Int.mul_le_mul_of_nonneg_right (by omega) (by omega)))
  have Hq := Lib.hid hq
  have hw1 : IntKind.i64.wrap ((n : Int) - 2) = (n : Int) - 2 := IntWalk.i64_in _ (by omega)
  have hw2 : IntKind.i64.wrap ((rows : Int) * ((n : Int) - 2)) = (m : Int) := by rw [hmI]; exact IntWalk.i64_in _ (by omega)
  unfold SpotPost
  rw [← hm] at hm9 ⊢
  have Hm := Lib.hid hm
  clear hm hq hmI
  by_cases h1 : x < 0
  · go_enter Try.func26, Try.ntmps26
    go_wp2_with fail
    go_quiet (fail)
    go_wp2_with fail
    exact bodyPost_ret (v := .tuple #[.agg #[iv 0, iv 0], ev 1]) (by simp [results, Try.results26, go_sem]) rfl ⟨fun h => absurd h.1 (by omega), fun _ => rfl, ((bdrew HB.out _).setCell (p := ⟨w.heap.size, 0, none⟩) (Nat.le_refl _) _).setCell (p := ⟨w.heap.size, 1, none⟩) (Nat.le_refl _) _⟩
  · by_cases h2 : x < (m : Int)
    · have hx2 : 0 ≤ x := by omega
      have hq2 := Hq.out hx2 h2
      obtain ⟨y, rfl⟩ : ∃ y : Nat, x = y := ⟨x.toNat, by omega⟩
      have hD := Lib.hid (fun w' => data_yes (n : Int) (y : Int) (by omega) (by omega) hx2 hq2 hx w')
      clear hq2
      go_enter Try.func26, Try.ntmps26
      go_wp2_with fail
      go_quiet (fail)
      go_wp2_with fail
      obtain ⟨wA, hwA⟩ : ∃ wA, wA = (w.alloc (.cells #[iv 0, iv 0] 67)).drewN nq := ⟨_, rfl⟩
      rw [← hwA]
      have hA : wA.heap[w.heap.size]? = some (.cells #[iv 0, iv 0] 67 (0, 0)) := by rw [hwA]; exact heap_alloc_new w _
      have hbA : Below w.heap.size w wA := by rw [hwA]; exact bdrew HB.out _
      clear hwA
      refine (hD.out _).mono ?_
      rintro e w1 ⟨rfl, hB1⟩
      have hlt : w.heap.size < wA.heap.size := (Array.getElem?_eq_some_iff.1 hA).1
      have h1A : w1.heap[w.heap.size]? = some (.cells #[iv 0, iv 0] 67 (0, 0)) := by rw [hB1.block _ hlt]; exact hA
      have d0 : w1.cell? ⟨w.heap.size, 0, none⟩ = some (iv 0) := by rw [cell_of_row _ _ _ _ _ _ h1A]; rfl
      have d1 : w1.cell? ⟨w.heap.size, 1, none⟩ = some (iv 0) := by rw [cell_of_row _ _ _ _ _ _ h1A]; rfl
      have f0 : w1.frozen? ⟨w.heap.size, 0, none⟩ = false := frozen_of_row _ _ _ _ _ h1A
      have f1 : w1.frozen? ⟨w.heap.size, 1, none⟩ = false := frozen_of_row _ _ _ _ _ h1A
      have HB1 := Lib.hid (hbA.trans (hB1.mono hbA.size))
      clear hB1 hbA hA h1A hlt
      have e1 : Lay.disk (n : Int) ((y : Int) / ((n : Int) - 2)) ((y : Int) % ((n : Int) - 2)) = (Ar.dk n (y / (n - 2)) (y % (n - 2)) : Int) ∧ (y : Int) / ((n : Int) - 2) = ((y / (n - 2) : Nat) : Int) := by
        rw [show (n : Int) - 2 = ((n - 2 : Nat) : Int) by omega, ← Int.natCast_ediv, ← Int.natCast_emod, dk_int (by omega)]
        exact ⟨rfl, rfl⟩
      rw [e1.1, e1.2]
      have E1 := Lib.hid e1
      clear e1
      go_wp2_with fail
      exact bodyPost_ret (v := .tuple #[.agg #[iv (Ar.dk n (y / (n - 2)) (y % (n - 2))), iv (y / (n - 2) : Nat)], .nilIface]) (by simp [results, Try.results26, go_sem, d0, d1]) rfl ⟨fun _ => (by rw [Int.toNat_natCast]), fun h => absurd ⟨hx2, h2⟩ h, (HB1.out.setCell (p := ⟨w.heap.size, 0, none⟩) (Nat.le_refl _) _).setCell (p := ⟨w.heap.size, 1, none⟩) (Nat.le_refl _) _⟩
    · have h2' : (m : Int) ≤ x := by omega
      go_enter Try.func26, Try.ntmps26
      go_wp2_with fail
      go_quiet (fail)
      go_wp2_with fail
      exact bodyPost_ret (v := .tuple #[.agg #[iv 0, iv 0], ev 1]) (by simp [results, Try.results26, go_sem]) rfl ⟨fun h => absurd h.2 (by omega), fun _ => rfl, ((bdrew HB.out _).setCell (p := ⟨w.heap.size, 0, none⟩) (Nat.le_refl _) _).setCell (p := ⟨w.heap.size, 1, none⟩) (Nat.le_refl _) _⟩
end Go.Proofs.Ytcldioneiededaa
