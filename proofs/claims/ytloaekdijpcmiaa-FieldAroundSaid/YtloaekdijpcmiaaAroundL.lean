/- The walk of the law FieldAround: it returns true. -/
import Derived.Test.YtloaekdijpcmiaaFieldL
namespace Go.Proofs.Ytloaekdijpcmiaa
open Go.ChangeShapes Go.WideShapes Go.ChangeAt Go.RowKit

/-- after n rounds the marks of the first n powers of 2 stand in block B -/
def Marks (B n : Nat) (wr : World) : Prop :=
  ∀ j : Nat, j < 256 → wr.frozen? ⟨B, j, none⟩ = false ∧ ∃ b : Bool, wr.cell? ⟨B, j, none⟩ = some (.bool b) ∧ (b = true → ∃ m, m < n ∧ (Gf.pow 2 m).toNat = j)

def bools256 : Array Value := Array.replicate 256 (.bool false)
theorem zero_bools (w : World) : (zeroValue 28).run Try.prog w = .ok (.agg bools256) w := by kernel_rfl
theorem bools_get (j : Nat) (h : j < 256) : bools256[j]? = some (.bool false) := by
  unfold bools256; rw [Array.getElem?_replicate, if_pos h]

set_option maxRecDepth 100000 in
set_option maxHeartbeats 1000000 in
theorem fieldAround_walk (w : World) :
    Calls Try.prog 5 #[] w fun e w' => e = .returned (.bool true) ∧ Below w.heap.size w w' := by
  have hzero := zero_bools
  go_enter Try.func5, Try.ntmps5
  go_wp2_with fail
  go_loopw [2, 3, 4, 5] (fun i _ _ _ wr => ∃ k : Nat, k ≤ 255 ∧ i = .int .i64 k ∧ Marks w.heap.size k wr ∧ Below w.heap.size w wr ∧ w.heap.size < wr.heap.size) (fun i _ _ _ _ => 255 - (intOf i).toNat)
  case atStart =>
    refine ⟨0, by omega, rfl, ?_, (Below.refl _ _).alloc (Nat.le_refl _) _, by simp⟩
    intro j hj
    have hh : (w.alloc (.cells bools256 28)).heap[w.heap.size]? = some (.cells bools256 28 (0, 0)) := heap_alloc_new w _
    refine ⟨frozen_of_row _ _ _ _ _ hh, false, ?_, fun h => by cases h⟩
    rw [cell_of_row _ _ _ _ _ _ hh]
    exact bools_get j hj
  case round =>
    obtain ⟨k, hk, rfl, hm, hb, hz⟩ := hrel
    by_cases hlt : k < 255
    · have hx := hm (Gf.pow 2 k).toNat (Gf.pow 2 k).toNat_lt
      obtain ⟨hfr, b, hc, hbt⟩ := hx
      have hb0 : b = false := by
        cases b with
        | false => rfl
        | true =>
          obtain ⟨m, hm1, hm2⟩ := hbt rfl
          have := Gf.pow_two_inj (by omega) hlt (Gf.byte_ext hm2)
          omega
      subst hb0
      have hx0 : (((Gf.pow 2 k).toNat : Int) == 0) = false := bv_ne (Gf.pow_two_ne k)
      have hlg : Gf.log (Gf.pow 2 k) = k := Gf.log_pow hlt
      have hl' : ((Gf.log (Gf.pow 2 k) : Int) != (k : Int)) = false := by rw [hlg]; simp
      have HL := Lib.hid hlg
      clear hlg hbt
      have HM := Lib.hid hm
      clear hm
      have hx256 : ((Gf.pow 2 k).toNat : Int) < 256 := by have := (Gf.pow 2 k).toNat_lt; omega
      go_wp2_with fail
      refine (pow_yes 2 k _ _ rfl rfl (by omega) _).mono ?_
      rintro e w' ⟨rfl, rfl⟩
      go_wp2_with fail
      refine (log_yes (Gf.pow 2 k) _ rfl (Gf.pow_two_ne k) _).mono ?_
      rintro e w' ⟨rfl, rfl⟩
      go_wp2_with fail
      go_roundw
      case rel =>
        refine ⟨k + 1, by omega, by go_num, ?_, hb.setCell (Nat.le_refl _) _, by simpa [World.setCell] using hz⟩
        intro j hj
        obtain ⟨h1, b, h2, h3⟩ := HM.out j hj
        refine ⟨by rw [World.frozen?_setCell]; exact h1, ?_⟩
        by_cases e : j = (Gf.pow 2 k).toNat
        · refine ⟨true, ?_, fun _ => ⟨k, by omega, e.symm⟩⟩
          rw [e]
          exact World.cell?_setCell_same _ _ _ hc
        · refine ⟨b, ?_, fun hb' => ?_⟩
          · rw [World.cell?_setCell_other _ _ _ _ (by intro h; injection h with _ h2; exact e h2.symm)]
            exact h2
          · obtain ⟨m, hm1, hm2⟩ := h3 hb'
            exact ⟨m, by omega, hm2⟩
      case measure => simp [intOf]; omega
    · have e255 : k = 255 := by omega
      have hp : (((Gf.pow 2 255).toNat : Int) == 1) = true := by rw [Gf.pow_two_255]; rfl
      clear hm e255
      go_wp2_with fail
      refine (pow_yes 2 255 _ _ rfl rfl (by omega) _).mono ?_
      rintro e w' ⟨rfl, rfl⟩
      go_wp2_with fail
      go_ret
      exact ⟨rfl, hb⟩
end Go.Proofs.Ytloaekdijpcmiaa
