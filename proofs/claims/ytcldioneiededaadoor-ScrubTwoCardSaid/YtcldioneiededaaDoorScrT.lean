/- The walk of the law ScrubTwo: it returns true. -/
import Derived.Test.YtcldioneiededaaDoorScrP
import Derived.Test.YtcldioneiededaaDoorScrR
import Derived.Test.YtcldioneiededaaDoorSame
import Derived.Test.YtcldioneiededaaDoorPqK
namespace Go.Proofs.YtcldioneiededaaDoor
open Go.ChangeShapes Go.WideShapes Go.ChangeAt Go.RowKit
set_option linter.unusedVariables false
theorem two_zeros (b : ByteArray) : b.toList = [0, 0] ↔ b = ⟨#[0, 0]⟩ := by
  constructor
  · intro h
    rw [ByteArray.toList_eq] at h
    exact ByteArray.ext (Array.toList_inj.1 h)
  · intro h
    rw [h, ByteArray.toList_eq]
set_option maxRecDepth 100000 in
set_option maxHeartbeats 4000000 in
theorem scrubTwo_no (n i k : Int) (b c : ByteArray) (h : aNewF n 1 2 ≠ 0) (w : World) :
    Calls Tryd.prog 4 #[iv n, iv i, iv k, .string b, .string c] w fun e w' => e = .returned (.bool true) ∧ Below w.heap.size w w' := by
  have HN2 := Lib.hid (fun w' => aNew_no n 1 2 h w')
  have hc : n < 3 ∨ (3 ≤ n ∧ 10 < n) := by
    unfold aNewF at h
    by_cases hc : n < 3 ∨ 10 < n ∨ (1 : Int) < 1 ∨ 20 < (1 : Int) ∨ (2 : Int) < 1 ∨ 16 < (2 : Int)
    · omega
    · rw [if_neg hc] at h; exact absurd rfl h
  clear h
  have HN1 := Lib.hid (aNew_yes 3 1 1 (by omega) (by omega) (by omega) (by omega) (by omega) (by omega) w)
  obtain ⟨o1, o2⟩ := Ar.one_scrub
  have O1 := Lib.hid o1
  have O2 := Lib.hid o2
  clear o1 o2
  go_enter Tryd.func4, Tryd.ntmps4
  go_wp2_with fail
  refine HN1.out.mono ?_
  rintro e w1 ⟨rfl, hA, hB⟩
  have HB1 := Lib.hid hB
  have HA1 := Lib.hid (aPoke (hA.wide (F' := fun p => w.heap.size ≤ p ∧ p < w1.heap.size) (fun k hk h => ⟨h, hk⟩)) (by omega) 2 0 ⟨#[1]⟩ (by decide))
  rw [O1.out, errV_0] at HA1
  clear hA hB HN1
  go_wp2_with fail
  refine HA1.out.mono ?_
  rintro e w2 ⟨rfl, hA, hK⟩
  have HB2 := Lib.hid (HB1.out.trans (hK.toBelow (B := w.heap.size) HB1.out.size (fun p _ h => h.1)))
  have HA2 := Lib.hid (sRow hA (by omega) (fun k h => by have := hK.size; have := h.2; omega) 3 0)
  unfold RbPost at HA2
  rw [O2.out] at HA2
  have HA3 : Hid (Calls Tryd.prog 17 #[.pointer (some ⟨w.heap.size, 0, none⟩), iv 3, iv 0] w2 fun e w' => e = .returned (.tuple #[iv 2, .nilIface]) ∧ Below w.heap.size w w') := Lib.hid (HA2.out.mono (by
    rintro e w' ⟨rfl, _, hk⟩
    exact ⟨rfl, HB2.out.trans (hk.toBelow (B := w.heap.size) HB2.out.size (fun p _ h => h.1))⟩))
  clear hA hK HA1 HA2 HB1
  go_wp2_with fail
  refine HA3.out.mono ?_
  rintro e w3 ⟨rfl, hB3⟩
  have HB3 := Lib.hid hB3
  have hz3 := hB3.size
  clear hB3 HA3 HB2
  go_wp2_with fail
  refine (HN2.out _).mono ?_
  rintro e w6 ⟨rfl, hB6⟩
  have HB6 := Lib.hid (HB3.out.trans (hB6.mono hz3))
  clear hB6
  rcases hc with h1 | ⟨h1, h2⟩
  all_goals
    go_wp2_with fail
    go_ret
    exact ⟨rfl, HB6.out⟩
set_option maxRecDepth 100000 in
set_option maxHeartbeats 4000000 in
theorem scrubTwo_yes (n : Nat) (i k : Int) (b c : ByteArray) (h3 : 3 ≤ n) (h10 : n ≤ 10) (hb : b.size ≤ maxLen) (hc : c.size ≤ maxLen) (w : World) (hg : Handle w) :
    Calls Tryd.prog 4 #[iv n, iv i, iv k, .string b, .string c] w fun e w' => e = .returned (.bool true) ∧ Below w.heap.size w w' := by
  have Hg := Lib.hid hg
  clear hg
  have HN2 := Lib.hid (fun w' => aNew_yes n 1 2 h3 h10 (by omega) (by omega) (by omega) (by omega) w')
  have hb9 := hb
  have hc9 := hc
  unfold maxLen at hb9 hc9
  obtain ⟨zb, hzb⟩ : ∃ zb : Bool, zb = decide (b = ⟨#[0, 0]⟩) := ⟨_, rfl⟩
  obtain ⟨zc, hzc⟩ : ∃ zc : Bool, zc = decide (c = ⟨#[0, 0]⟩) := ⟨_, rfl⟩
  have Hzb := Lib.hid hzb
  have Hzc := Lib.hid hzc
  clear hzb hzc
  have HN1 := Lib.hid (aNew_yes 3 1 1 (by omega) (by omega) (by omega) (by omega) (by omega) (by omega) w)
  obtain ⟨o1, o2⟩ := Ar.one_scrub
  have O1 := Lib.hid o1
  have O2 := Lib.hid o2
  clear o1 o2
  go_enter Tryd.func4, Tryd.ntmps4
  go_wp2_with fail
  refine HN1.out.mono ?_
  rintro e w1 ⟨rfl, hA, hB⟩
  have HB1 := Lib.hid hB
  have HA1 := Lib.hid (aPoke (hA.wide (F' := fun p => w.heap.size ≤ p ∧ p < w1.heap.size) (fun k hk h => ⟨h, hk⟩)) (by omega) 2 0 ⟨#[1]⟩ (by decide))
  rw [O1.out, errV_0] at HA1
  clear hA hB HN1
  go_wp2_with fail
  refine HA1.out.mono ?_
  rintro e w2 ⟨rfl, hA, hK⟩
  have HB2 := Lib.hid (HB1.out.trans (hK.toBelow (B := w.heap.size) HB1.out.size (fun p _ h => h.1)))
  have HA2 := Lib.hid (sRow hA (by omega) (fun k h => by have := hK.size; have := h.2; omega) 3 0)
  unfold RbPost at HA2
  rw [O2.out] at HA2
  have HA3 : Hid (Calls Tryd.prog 17 #[.pointer (some ⟨w.heap.size, 0, none⟩), iv 3, iv 0] w2 fun e w' => e = .returned (.tuple #[iv 2, .nilIface]) ∧ Below w.heap.size w w') := Lib.hid (HA2.out.mono (by
    rintro e w' ⟨rfl, _, hk⟩
    exact ⟨rfl, HB2.out.trans (hk.toBelow (B := w.heap.size) HB2.out.size (fun p _ h => h.1))⟩))
  clear hA hK HA1 HA2 HB1
  go_wp2_with fail
  refine HA3.out.mono ?_
  rintro e w3 ⟨rfl, hB3⟩
  have HB3 := Lib.hid hB3
  have hz3 := hB3.size
  clear hB3 HA3 HB2
  go_wp2_with fail
  refine (HN2.out _).mono ?_
  rintro e w6 ⟨rfl, hA, hB6⟩
  obtain ⟨B, hB0⟩ : ∃ B, B = w3.heap.size := ⟨_, rfl⟩
  rw [← hB0] at hA hz3 ⊢
  have HA6 := Lib.hid (hA.wide (F' := fun p => B ≤ p ∧ p < w6.heap.size) (fun k hk h => ⟨h, hk⟩))
  have HB6 := Lib.hid (HB3.out.trans (hB6.mono (by omega)))
  clear hA hB6 hB0 HB3
  obtain ⟨bad, hbad⟩ : ∃ bad : Bool, bad = decide (¬ (0 ≤ i ∧ i < n ∧ i < k ∧ k < n ∧ b.size = 2 ∧ c.size = 2 ∧ zb = false ∧ zc = false)) := ⟨_, rfl⟩
  have Hbad := Lib.hid hbad
  clear hbad
  go_upto_region 8 with (fail)
  go_cut [83] (fun s wq => s = .bool bad ∧ w6 = wq)
  case first => as_aux_lemma =>
    by_cases hi0 : 0 ≤ i
    · by_cases hi1 : i < (n : Int)
      · by_cases hk0 : i < k
        · by_cases hk1 : k < (n : Int)
          · by_cases hb2 : b.size = 2
            · have t1 : ((b.size : Int) != 2) = false := bne_f (by omega)
              by_cases hc2 : c.size = 2
              · have t2 : ((c.size : Int) != 2) = false := bne_f (by omega)
                cases zb with
                | true =>
                  have sb : b.toList = [0, 0] := (two_zeros b).2 (of_decide_eq_true Hzb.out.symm)
                  have HX := Lib.hid (show bad = true by rw [Hbad.out]; simp)
                  clear hb2 hc2
                  go_wp2_with fail
                  go_meet
                  exact ⟨by rw [HX.out], rfl⟩
                | false =>
                  have sb : ¬ b.toList = [0, 0] := fun h => of_decide_eq_false Hzb.out.symm ((two_zeros b).1 h)
                  cases zc with
                  | true =>
                    have sc : c.toList = [0, 0] := (two_zeros c).2 (of_decide_eq_true Hzc.out.symm)
                    have HX := Lib.hid (show bad = true by rw [Hbad.out]; simp)
                    clear hb2 hc2
                    go_wp2_with fail
                    go_meet
                    exact ⟨by rw [HX.out], rfl⟩
                  | false =>
                    have sc : ¬ c.toList = [0, 0] := fun h => of_decide_eq_false Hzc.out.symm ((two_zeros c).1 h)
                    have HX := Lib.hid (show bad = false by rw [Hbad.out]; simp [hi0, hi1, hk0, hk1, hb2, hc2])
                    clear hb2 hc2
                    go_wp2_with fail
                    go_meet
                    exact ⟨by rw [HX.out]; simp [sb, sc]; omega, rfl⟩
              · have t2 : ((c.size : Int) != 2) = true := bne_t (by omega)
                have HX := Lib.hid (show bad = true by rw [Hbad.out]; simp [hc2])
                clear hb2 hc2
                go_wp2_with fail
                go_meet
                exact ⟨by rw [HX.out], rfl⟩
            · have t1 : ((b.size : Int) != 2) = true := bne_t (by omega)
              have HX := Lib.hid (show bad = true by rw [Hbad.out]; simp [hb2])
              clear hb2
              go_wp2_with fail
              go_meet
              exact ⟨by rw [HX.out], rfl⟩
          · have HX := Lib.hid (show bad = true by rw [Hbad.out]; simp [hk1])
            go_wp2_with fail
            go_meet
            exact ⟨by rw [HX.out], rfl⟩
        · have HX := Lib.hid (show bad = true by rw [Hbad.out]; simp [hk0])
          go_wp2_with fail
          go_meet
          exact ⟨by rw [HX.out], rfl⟩
      · have HX := Lib.hid (show bad = true by rw [Hbad.out]; simp [hi1])
        go_wp2_with fail
        go_meet
        exact ⟨by rw [HX.out], rfl⟩
    · have HX := Lib.hid (show bad = true by rw [Hbad.out]; simp [hi0])
      go_wp2_with fail
      go_meet
      exact ⟨by rw [HX.out], rfl⟩
  case rest =>
    obtain ⟨rfl, rfl⟩ := hcut
    cases bad with
    | true =>
      go_wp2_with fail
      go_ret
      exact ⟨rfl, HB6.out⟩
    | false =>
      have hok : 0 ≤ i ∧ i < n ∧ i < k ∧ k < n ∧ b.size = 2 ∧ c.size = 2 ∧ zb = false ∧ zc = false := Classical.not_not.1 (of_decide_eq_false Hbad.out.symm)
      obtain ⟨a1, a2, a3, a4, a5, a6, a7, a8⟩ := hok
      obtain ⟨p, rfl⟩ : ∃ p : Nat, i = p := ⟨i.toNat, by omega⟩
      obtain ⟨q, rfl⟩ : ∃ q : Nat, k = q := ⟨k.toNat, by omega⟩
      have hbz : b ≠ ⟨#[0, 0]⟩ := of_decide_eq_false (Hzb.out.symm.trans a7)
      have ht := Ar.two_scrub (n := n) (i := p) (k := q) h3 h10 (by omega) (by omega) (by omega) a5 a6 hbz
      obtain ⟨hp1, hp2⟩ : (Ar.s0 n 1 2).poke p 0 b = (0, (Ar.s0 n 1 2).setC p 0 b) ∧ ((Ar.s0 n 1 2).setC p 0 b).poke q 0 c = (0, ((Ar.s0 n 1 2).setC p 0 b).setC q 0 c) := by
        rcases ht with ⟨x1, x2, _⟩ | ⟨x1, x2, _⟩ <;> exact ⟨x1, x2⟩
      have hres : ((((Ar.s0 n 1 2).setC p 0 b).setC q 0 c).scrub n 0).1.2 = 8 ∨ (((((Ar.s0 n 1 2).setC p 0 b).setC q 0 c).scrub n 0).1.2 = 0 ∧ 0 ≤ ((((Ar.s0 n 1 2).setC p 0 b).setC q 0 c).scrub n 0).1.1) := by
        rcases ht with ⟨_, _, x⟩ | ⟨_, _, x⟩
        · exact .inl x
        · exact .inr x
      have HP1 := Lib.hid (aPoke HA6.out (by omega) (p : Int) 0 b hb)
      rw [hp1, errV_0] at HP1
      have Hp2 := Lib.hid hp2
      have Hres := Lib.hid hres
      clear ht hp1 hp2 hres a1 a2 a3 a4 a5 a6 a7 a8 hbz
      go_wp2_with fail
      refine HP1.out.mono ?_
      rintro e w7 ⟨rfl, hA7, hK7⟩
      have HB7 := Lib.hid (HB6.out.trans (hK7.toBelow (B := w.heap.size) HB6.out.size (fun p _ h => by have h2 : B ≤ p := h.1; omega)))
      have HP2 := Lib.hid (aPoke hA7 (by omega) (q : Int) 0 c hc)
      rw [Hp2.out, errV_0] at HP2
      have hz7 := hK7.size
      clear hA7 hK7 HP1
      go_wp2_with fail
      refine HP2.out.mono ?_
      rintro e w8 ⟨rfl, hA8, hK8⟩
      have HB8 := Lib.hid (HB7.out.trans (hK8.toBelow (B := w.heap.size) HB7.out.size (fun p _ h => by have h2 : B ≤ p := h.1; omega)))
      have HRw := Lib.hid (sRow hA8 (by omega) (fun k h => by have := hK8.size; have := h.2; omega) (n : Int) 0)
      unfold RbPost at HRw
      clear hA8 hK8 HP2
      obtain ⟨rx, hrx⟩ : ∃ rx, rx = ((((Ar.s0 n 1 2).setC p 0 b).setC q 0 c).scrub n 0).1.1 := ⟨_, rfl⟩
      obtain ⟨re, hre⟩ : ∃ re, re = ((((Ar.s0 n 1 2).setC p 0 b).setC q 0 c).scrub n 0).1.2 := ⟨_, rfl⟩
      rw [← hrx, ← hre] at HRw
      have hr := Hres.out
      rw [← hrx, ← hre] at hr
      clear hrx hre
      rcases hr with rfl | ⟨rfl, hr0⟩
      · have e8 : errV 8 = ev 8 := rfl
        rw [e8] at HRw
        clear e8
        go_wp2_with fail
        refine HRw.out.mono ?_
        rintro e w9 ⟨rfl, _, hk⟩
        have HB9 := Lib.hid (HB8.out.trans (hk.toBelow (B := w.heap.size) HB8.out.size (fun p _ h => by have h2 : B ≤ p := h.1; omega)))
        have HSa := Lib.hid (same_ev 8 8 w9 (Hg.out.below (Nat.le_refl _) HB9.out))
        clear hk
        go_wp2_with fail
        refine HSa.out.mono ?_
        rintro e w10 ⟨rfl, hB10⟩
        have HB10 := Lib.hid (HB9.out.trans (hB10.mono HB9.out.size))
        clear hB10
        go_wp2_with fail
        go_ret
        exact ⟨rfl, HB10.out⟩
      · rw [errV_0] at HRw
        have d0 : decide (0 ≤ rx) = true := dec_t hr0
        go_wp2_with fail
        refine HRw.out.mono ?_
        rintro e w9 ⟨rfl, _, hk⟩
        have HB9 := Lib.hid (HB8.out.trans (hk.toBelow (B := w.heap.size) HB8.out.size (fun p _ h => by have h2 : B ≤ p := h.1; omega)))
        have HSa := Lib.hid (same_nil 8 w9)
        clear hk
        go_wp2_with fail
        refine HSa.out.mono ?_
        rintro e w10 ⟨rfl, hB10⟩
        have HB10 := Lib.hid (HB9.out.trans (hB10.mono HB9.out.size))
        clear hB10
        go_wp2_with fail
        go_ret
        exact ⟨rfl, HB10.out⟩
theorem scrubTwo_walk (n i k : Int) (b c : ByteArray) (hn : (Lit.int .i64 n).wf = true) (hi : (Lit.int .i64 i).wf = true) (hk : (Lit.int .i64 k).wf = true) (hb : b.size ≤ maxLen) (hc : c.size ≤ maxLen) (w : World) (hg : Handle w) :
    Calls Tryd.prog 4 #[iv n, iv i, iv k, .string b, .string c] w fun e w' => e = .returned (.bool true) ∧ Below w.heap.size w w' := by
  by_cases h : aNewF n 1 2 = 0
  · have h2 : 3 ≤ n ∧ n ≤ 10 := by
      unfold aNewF at h
      by_cases hc : n < 3 ∨ 10 < n ∨ (1 : Int) < 1 ∨ 20 < (1 : Int) ∨ (2 : Int) < 1 ∨ 16 < (2 : Int)
      · rw [if_pos hc] at h; exact absurd h (by decide)
      · omega
    obtain ⟨m, rfl⟩ : ∃ m : Nat, n = m := ⟨n.toNat, by omega⟩
    exact scrubTwo_yes m i k b c (by omega) (by omega) hb hc w hg
  · exact scrubTwo_no n i k b c h w
end Go.Proofs.YtcldioneiededaaDoor
