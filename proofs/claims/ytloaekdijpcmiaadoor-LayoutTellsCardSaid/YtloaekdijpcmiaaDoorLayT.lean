/- The walk of the law LayoutTells where there is no such array. -/
import Derived.Test.YtloaekdijpcmiaaDoorLayS
namespace Go.Proofs.YtloaekdijpcmiaaDoor
open Go.ChangeShapes Go.WideShapes Go.ChangeAt Go.RowKit
set_option linter.unusedVariables false

set_option maxRecDepth 100000 in
set_option maxHeartbeats 4000000 in
theorem layoutTells_bad (n b d r row : Int) (hn : n < 3 ∨ 3 ≤ n ∧ 10 < n) (hb1 : -9223372036854775808 ≤ b) (hb2 : b ≤ 9223372036854775807) (w : World) (hg : Handle w) :
    Calls Tryd.prog 5 #[iv n, iv b, .agg #[iv d, iv r], iv row] w fun e w' => e = .returned (.bool true) ∧ Below w.heap.size w w' := by
  have hn' : n < 3 ∨ 10 < n := by omega
  have Hn := Lib.hid hn'
  have Hg := Lib.hid hg
  clear hg hn'
  rcases hn with h | ⟨h, h'⟩
  all_goals
    go_enter Tryd.func5, Tryd.ntmps5
    go_wp2_with fail
    refine (lcheck_no n Hn.out _).mono ?_
    rintro e w' ⟨rfl, rfl⟩
    go_wp2_with fail
    refine (same_ev 1 1 _ (Hg.out.below (Nat.le_refl _) ((Below.refl _ _).alloc (Nat.le_refl _) _))).mono ?_
    rintro e w1 ⟨rfl, hb⟩
    have HB1 := Lib.hid (((Below.refl w.heap.size w).alloc (Nat.le_refl _) (.cells #[iv d, iv r] 38)).trans (hb.mono (by simp)))
    have hg1 := Lib.hid ((Hg.out.below (Nat.le_refl _) ((Below.refl _ _).alloc (Nat.le_refl _) (.cells #[iv d, iv r] 38))).below (Nat.le_refl _) hb)
    have hz1 : w.heap.size < w1.heap.size := by have := hb.size; simp at this; omega
    have k0 : w1.cell? ⟨w.heap.size, 0, none⟩ = some (iv d) := keep hb (by simp) (by simp)
    have k1 : w1.cell? ⟨w.heap.size, 1, none⟩ = some (iv r) := keep hb (by simp) (by simp)
    clear hb
    have K0 := Lib.hid k0
    have K1 := Lib.hid k1
    clear k0 k1
    go_wp2_with fail
    refine (data_no1 n b Hn.out _).mono ?_
    rintro e w2 ⟨rfl, hb⟩
    have HA2 := Lib.hid (((Below.refl w1.heap.size w1).alloc (Nat.le_refl _) (.cells #[.int .i64 0, .int .i64 0] 38)).trans (hb.mono (by simp)))
    have hg2 := Lib.hid ((hg1.out.below (Nat.le_refl _) ((Below.refl _ _).alloc (Nat.le_refl _) (.cells #[.int .i64 0, .int .i64 0] 38))).below (Nat.le_refl _) hb)
    have hz2 : w1.heap.size < w2.heap.size := by have := hb.size; simp at this; omega
    have j0 : w2.cell? ⟨w1.heap.size, 0, none⟩ = some (iv 0) := keep hb (by simp) (by simp)
    have j1 : w2.cell? ⟨w1.heap.size, 1, none⟩ = some (iv 0) := keep hb (by simp) (by simp)
    clear hb hg1
    go_wp2_with fail
    refine (same_ev 1 1 _ (hg2.out.below (Nat.le_refl _) ((Below.refl _ _).alloc (Nat.le_refl _) _))).mono ?_
    rintro e w3 ⟨rfl, hb⟩
    have h0 : w3.cell? ⟨w1.heap.size, 0, none⟩ = some (iv 0) := keep hb (keep ((Below.refl w2.heap.size w2).alloc (Nat.le_refl _) _) j0 (by omega)) (by simp; omega)
    have h1' : w3.cell? ⟨w1.heap.size, 1, none⟩ = some (iv 0) := keep hb (keep ((Below.refl w2.heap.size w2).alloc (Nat.le_refl _) _) j1 (by omega)) (by simp; omega)
    have h2' : w3.cell? ⟨w2.heap.size, 0, none⟩ = some (iv 0) := keep hb (by simp) (by simp)
    have h3' : w3.cell? ⟨w2.heap.size, 1, none⟩ = some (iv 0) := keep hb (by simp) (by simp)
    have hz3 : w1.heap.size < w3.heap.size := by have := hb.size; simp at this; omega
    have HA3 := Lib.hid (HA2.out.trans (((Below.refl w2.heap.size w2).alloc (Nat.le_refl _) (.cells #[iv 0, iv 0] 38)).trans (hb.mono (by simp)) |>.mono (by omega)))
    have hg3 := Lib.hid (((hg2.out.below (Nat.le_refl _) ((Below.refl _ _).alloc (Nat.le_refl _) (.cells #[iv 0, iv 0] 38)))).below (Nat.le_refl _) hb)
    have k0 := keep HA3.out K0.out hz1
    have k1 := keep HA3.out K1.out hz1
    clear hb j0 j1 HA2 hg2
    go_wp2_with fail
    refine (role_no1 n d r Hn.out _).mono ?_
    rintro e w4 ⟨rfl, hb⟩
    have HA4 := Lib.hid (HA3.out.trans (hb.mono (by omega)))
    have hg4 := Lib.hid (hg3.out.below (Nat.le_refl _) hb)
    have hz4 : w1.heap.size < w4.heap.size := by have := hb.size; omega
    have i0 := keep HA4.out K0.out hz1
    have i1 := keep HA4.out K1.out hz1
    clear hb h0 h1' h2' h3' k0 k1 HA3 hg3 hz3
    go_wp2_with fail
    refine (same_ev 1 1 _ hg4.out).mono ?_
    rintro e w5 ⟨rfl, hb⟩
    have HA5 := Lib.hid (HA4.out.trans (hb.mono (by omega)))
    have hg5 := Lib.hid (hg4.out.below (Nat.le_refl _) hb)
    have hz5 : w1.heap.size < w5.heap.size := by have := hb.size; omega
    have k0 := keep HA5.out K0.out hz1
    have k1 := keep HA5.out K1.out hz1
    clear hb i0 i1 HA4 hg4 hz4
    go_wp2_with fail
    refine (block_no1 n d r Hn.out _).mono ?_
    rintro e w6 ⟨rfl, hb⟩
    have HA6 := Lib.hid (HA5.out.trans (hb.mono (by omega)))
    have hg6 := Lib.hid (hg5.out.below (Nat.le_refl _) hb)
    have hz6 : w1.heap.size < w6.heap.size := by have := hb.size; omega
    clear hb k0 k1 HA5 hg5 hz5
    go_wp2_with fail
    refine (same_ev 1 1 _ hg6.out).mono ?_
    rintro e w7 ⟨rfl, hb⟩
    have HA7 := Lib.hid (HA6.out.trans (hb.mono (by omega)))
    have hg7 := Lib.hid (hg6.out.below (Nat.le_refl _) hb)
    have hz7 : w1.heap.size < w7.heap.size := by have := hb.size; omega
    clear hb HA6 hg6 hz6
    go_wp2_with fail
    refine (order_no1 n row Hn.out _).mono ?_
    rintro e w' ⟨rfl, rfl⟩
    go_wp2_with fail
    refine (same_ev 1 1 _ hg7.out).mono ?_
    rintro e w8 ⟨rfl, hb⟩
    have HA8 := Lib.hid (HA7.out.trans (hb.mono (by omega)))
    clear hb HA7 hg7
    go_wp2_with fail
    refine (ints_eq [] _ _ _ (row_nil _) (row_nil _)).mono ?_
    rintro e w9 ⟨rfl, nd, rfl⟩
    go_wp2_with fail
    go_ret
    exact ⟨rfl, bdrew (HB1.out.trans (HA8.out.mono (by omega))) _⟩
end Go.Proofs.YtloaekdijpcmiaaDoor
