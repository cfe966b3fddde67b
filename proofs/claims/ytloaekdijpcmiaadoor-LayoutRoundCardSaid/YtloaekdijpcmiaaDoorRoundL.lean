/- The walk of the law LayoutRound: it returns true. -/
import Derived.Test.YtloaekdijpcmiaaDoorLayW
import Derived.Test.YtloaekdijpcmiaaDoorSame
import Derived.Deep.LoopGhost
namespace Go.Proofs.YtloaekdijpcmiaaDoor
open Go.ChangeShapes Go.WideShapes Go.ChangeAt Go.RowKit
set_option linter.unusedVariables false
namespace Lay
def diskN (n b : Nat) : Nat := ((n - 1 - b / (n - 2) % n) + 2 + b % (n - 2)) % n
theorem diskN_eq {n b : Nat} (h1 : 3 ≤ n) : disk (n : Int) ((b : Int) / ((n : Int) - 2)) ((b : Int) % ((n : Int) - 2)) = (diskN n b : Nat) := by
  unfold disk pOf diskN
  have e : (n : Int) - 2 = ((n - 2 : Nat) : Int) := by omega
  have h2 : b / (n - 2) % n < n := Nat.mod_lt _ (by omega)
  rw [e, ← Int.natCast_ediv, ← Int.natCast_emod, ← Int.natCast_emod]
  rw [show ((n : Int) - 1 - ((b / (n - 2) % n : Nat) : Int)) = ((n - 1 - b / (n - 2) % n : Nat) : Int) by omega]
  rw [show (((n - 1 - b / (n - 2) % n : Nat) : Int) + 2 + ((b % (n - 2) : Nat) : Int)) = ((n - 1 - b / (n - 2) % n + 2 + b % (n - 2) : Nat) : Int) by omega]
  rw [← Int.natCast_emod]
/-- how many of the first k blocks stand on disk d -/
def cnt (n d : Nat) : Nat → Nat
  | 0 => 0
  | k + 1 => cnt n d k + if diskN n k = d then 1 else 0
theorem cnt_le (n d : Nat) : ∀ k, cnt n d k ≤ k
  | 0 => Nat.le_refl _
  | k + 1 => by have := cnt_le n d k; unfold cnt; split <;> omega
theorem cnt_all : ∀ n, n < 11 → (3 ≤ n → ∀ d, d < n → cnt n d (n * (n - 2)) = n - 2) := by decide +kernel
end Lay
def ints10 : Array Value := Array.replicate 10 (.int .i64 0)
theorem zero_ints10 (w : World) : (zeroValue 36).run Tryd.prog w = .ok (.agg ints10) w := by kernel_rfl
def RoundRel (n : Nat) (w : World) (gk : Nat) (i : Value) (wr : World) : Prop :=
  ∃ k : Nat, k + gk = n * (n - 2) ∧ i = iv k ∧ w.heap.size < wr.heap.size ∧ (∀ d : Nat, d < 10 → wr.frozen? ⟨w.heap.size, d, none⟩ = false ∧ wr.cell? ⟨w.heap.size, d, none⟩ = some (iv (Lay.cnt n d k : Nat))) ∧ Below w.heap.size w wr

set_option maxRecDepth 100000 in
set_option maxHeartbeats 2000000 in
theorem layoutRound_yes (n : Nat) (h1 : 3 ≤ n) (h2 : n ≤ 10) (w : World) :
    Calls Tryd.prog 4 #[iv n] w fun e w' => e = .returned (.bool true) ∧ Below w.heap.size w w' := by
  have hz := zero_ints10
  have e2 : (n : Int) - 2 = ((n - 2 : Nat) : Int) := by omega
  have hmul : (n : Int) * ((n : Int) - 2) = ((n * (n - 2) : Nat) : Int) := by rw [e2, ← Int.natCast_mul]
  have hm80 : n * (n - 2) ≤ 80 := Nat.le_trans (Nat.mul_le_mul h2 (show n - 2 ≤ 8 by omega)) (by omega)
  obtain ⟨M, hM⟩ : ∃ M, M = n * (n - 2) := ⟨_, rfl⟩
  have HM := Lib.hid hM
  have Hmul := Lib.hid (show (n : Int) * ((n : Int) - 2) = (M : Int) by rw [hmul, hM])
  have b1 : 0 ≤ (n : Int) * ((n : Int) - 2) := by rw [hmul]; omega
  have b2 : (n : Int) * ((n : Int) - 2) ≤ 80 := by rw [hmul]; omega
  have hM80 : M ≤ 80 := by omega
  clear e2 hmul hm80 hM
  go_enter Tryd.func4, Tryd.ntmps4
  go_wp2_with fail
  go_loopg [4] M (fun gk i wr => RoundRel n w gk i wr)
  case atStart =>
    refine ⟨0, by rw [← HM.out]; omega, rfl, by simp, fun d hd => ⟨?_, ?_⟩, (Below.refl _ _).alloc (Nat.le_refl _) _⟩
    · exact frozen_of_row _ _ _ _ _ (heap_alloc_new w (.cells ints10 36))
    · rw [cell_of_row _ _ _ _ _ _ (heap_alloc_new w (.cells ints10 36))]
      unfold ints10; rw [Array.getElem?_replicate, if_pos hd]; rfl
  case round =>
    obtain ⟨k, hk, rfl, hwz, hcs, hB⟩ := hrel
    rw [← HM.out] at hk
    have Hk := Lib.hid hk
    have Hcs := Lib.hid hcs
    have HB := Lib.hid hB
    have hbz := hB.size
    clear hcs hB
    by_cases hlt : k < M
    · have hlt' : (k : Int) < (n : Int) * ((n : Int) - 2) := by rw [Hmul.out]; omega
      have hM10 : M ≤ 10 * (n - 2) := by rw [HM.out]; exact Nat.mul_le_mul_right _ h2
      have e4 : (k : Int) / ((n : Int) - 2) < 20 := Int.ediv_lt_of_lt_mul (by omega) (by omega)
      clear hM10
      have e3 : 0 ≤ (k : Int) / ((n : Int) - 2) := Int.ediv_nonneg (by omega) (by omega)
      have hdk := Lay.diskN_eq (n := n) (b := k) h1
      obtain ⟨x, hx⟩ : ∃ x, Lay.diskN n k = x := ⟨_, rfl⟩
      have hxn : x < n := by rw [← hx]; exact Nat.mod_lt _ (by omega)
      rw [hx] at hdk
      have Hdk := Lib.hid hdk
      have Hx := Lib.hid hx
      clear hk hdk hx
      go_wp2_with fail
      refine (data_yes n k (by omega) (by omega) (by omega) e4 (by omega) _).mono ?_
      rintro e w2 ⟨rfl, hb2⟩
      rw [Hdk.out]
      have Hb2 := Lib.hid hb2
      have hz2 := hb2.size
      clear hb2
      obtain ⟨r, hr⟩ : ∃ r, (k : Int) / ((n : Int) - 2) = r := ⟨_, rfl⟩
      have hf := (Hcs.out x (by omega)).1
      have hc := (Hcs.out x (by omega)).2
      have hc2 : (w2.alloc (.cells #[iv x, iv ((k : Int) / ((n : Int) - 2))] 38)).cell? ⟨w.heap.size, x, none⟩ = some (iv (Lay.cnt n x k : Nat)) := by
        have h := ((Hb2.out.alloc (by omega) (.cells #[iv x, iv ((k : Int) / ((n : Int) - 2))] 38)).cell (p := ⟨w.heap.size, x, none⟩) hwz)
        exact h.trans hc
      have hf2 : (w2.alloc (.cells #[iv x, iv ((k : Int) / ((n : Int) - 2))] 38)).frozen? ⟨w.heap.size, x, none⟩ = false := by
        have h := ((Hb2.out.alloc (by omega) (.cells #[iv x, iv ((k : Int) / ((n : Int) - 2))] 38)).frozen (p := ⟨w.heap.size, x, none⟩) hwz)
        exact h.trans hf
      have hcl := Lay.cnt_le n x k
      have hx0 : decide ((x : Int) < 0) = false := dec_f (by omega)
      have hxn2 : decide ((n : Int) ≤ (x : Int)) = false := dec_f (by omega)
      have hxn3 : decide (n ≤ x) = false := dec_f (by omega)
      have hq : ((k : Int) / ((n : Int) - 2) != (k : Int) / ((n : Int) - 2)) = false := bne_f rfl
      clear hc hf hr
      go_wp2_with fail
      go_quiet (fail)
      go_wp2_with fail
      go_roundg (gk - 1)
      case measure => have := Hk.out; omega
      case rel =>
        have hB2 : Below wr.heap.size wr (w2.alloc (.cells #[.int .i64 x, .int .i64 ((k : Int) / ((n : Int) - 2))] 38)) := Hb2.out.alloc (by omega) _
        refine ⟨k + 1, by have := Hk.out; have := HM.out; omega, by go_num, ?_, fun d hd => ?_, ((bdrew ((HB.out.trans (Hb2.out.mono hbz)).alloc (by omega) _) nq).setCell (Nat.le_refl _) _)⟩
        · show w.heap.size < _
          simp [World.setCell]; omega
        · obtain ⟨h3, h4⟩ := Hcs.out d hd
          refine ⟨?_, ?_⟩
          · rw [World.frozen?_setCell]
            exact (hB2.frozen (p := ⟨w.heap.size, d, none⟩) hwz).trans h3
          · by_cases e : d = x
            · subst e
              refine (World.cell?_setCell_same _ _ _ (u := iv (Lay.cnt n d k : Nat)) hc2).trans (congrArg some (val_i64 ?_))
              rw [Lay.cnt, if_pos Hx.out]; omega
            · refine (World.cell?_setCell_other _ _ _ _ (by intro h; injection h with _ h2; exact e h2.symm)).trans ?_
              refine ((hB2.cell (p := ⟨w.heap.size, d, none⟩) hwz).trans h4).trans (congrArg some (val_i64 ?_))
              rw [Lay.cnt, if_neg (by rw [Hx.out]; exact fun h => e h.symm)]; omega
    · obtain rfl : k = M := by omega
      have hge : ¬ (k : Int) < (n : Int) * ((n : Int) - 2) := by rw [Hmul.out]; omega
      clear hk hlt
      obtain ⟨wq, hwq⟩ : ∃ x : World, x = wr := ⟨_, rfl⟩
      subst hwq
      go_wp2_with fail
      go_loopg [7] n (fun gd d wd => ∃ j : Nat, j + gd = n ∧ d = iv j ∧ wd = wq)
      case atStart => exact ⟨0, by omega, rfl, rfl⟩
      case round =>
        obtain ⟨j, hj, rfl, rfl⟩ := hrel
        have Hj := Lib.hid hj
        by_cases hl : j < n
        · have hc := (Hcs.out j (by omega)).2
          have hfin := Lay.cnt_all n (by omega) h1 j hl
          rw [HM.out, hfin] at hc
          have t1 : (((n - 2 : Nat) : Int) != (n : Int) - 2) = false := bne_f (by omega)
          have Hfin := Lib.hid hfin
          clear hfin hj
          go_wp2_with fail
          go_roundg (gk - 1)
          case measure => have := Hj.out; omega
          case rel => exact ⟨j + 1, by have := Hj.out; omega, by go_num, rfl⟩
        · clear hj
          go_wp2_with fail
          go_ret
          exact ⟨rfl, HB.out⟩

theorem layoutRound_walk (a : Int) (ha : (Lit.int .i64 a).wf = true) (w : World) (hg : Handle w) :
    Calls Tryd.prog 4 #[iv a] w fun e w' => e = .returned (.bool true) ∧ Below w.heap.size w w' := by
  by_cases h : 3 ≤ a ∧ a ≤ 10
  · obtain ⟨n, rfl⟩ : ∃ n : Nat, a = n := ⟨a.toNat, by omega⟩
    exact layoutRound_yes n (by omega) (by omega) w
  · have Hg := Lib.hid hg
    clear hg
    have h' : a < 3 ∨ 10 < a := by omega
    have H' := Lib.hid h'
    rcases h' with h' | h'
    all_goals
      go_enter Tryd.func4, Tryd.ntmps4
      go_wp2_with fail
      refine (lcheck_no a H'.out _).mono ?_
      rintro e w' ⟨rfl, rfl⟩
      go_wp2_with fail
      refine (same_ev 1 1 _ Hg.out).mono ?_
      rintro e w1 ⟨rfl, hb⟩
      go_wp2_with fail
      go_ret
      exact ⟨rfl, hb⟩
end Go.Proofs.YtloaekdijpcmiaaDoor
