/- All stripes on all disks: how many ways are fatal; the walk of the law OddsAll. -/
import Derived.Test.YtkkfpdjhnffpbaaDoorPlaA
import Derived.Test.YtkkfpdjhnffpbaaDoorSame
namespace Go.Proofs.YtkkfpdjhnffpbaaDoor
open Go.ChangeShapes Go.WideShapes Go.ChangeAt Go.RowKit
set_option linter.unusedVariables false
namespace Od
theorem nats_ci (xs : List Nat) : nats (ci xs) = xs := by
  unfold nats ci
  rw [List.map_map]
  exact (List.map_congr_left (fun x _ => Int.toNat_natCast x)).trans (List.map_id _)
theorem and_all {n set : Nat} (h : set < 2 ^ n) : set &&& mask (List.range n) = set := by
  refine Nat.eq_of_testBit_eq (fun i => ?_)
  rw [Nat.testBit_and, mask_bit]
  by_cases hi : i < n
  · rw [List.contains_iff_mem.2 (List.mem_range.2 hi), Bool.and_true]
  · rw [Nat.testBit_lt_two_pow (Nat.lt_of_lt_of_le h (Nat.pow_le_pow_right (by omega) (by omega))), Bool.false_and]
theorem fatal_all {n set : Nat} {l : List (List Nat)} {p : Int} (h : set < 2 ^ n) (hl : ∀ s ∈ l, s = List.range n) (h0 : l ≠ []) : fatal set l p = decide (p < (pop set : Int)) := by
  unfold fatal
  cases l with
  | nil => exact absurd rfl h0
  | cons a l =>
    by_cases c : p < (pop set : Int)
    · rw [decide_eq_true c, List.any_eq_true]
      exact ⟨a, List.mem_cons_self, by rw [hl a List.mem_cons_self, and_all h]; exact decide_eq_true c⟩
    · rw [decide_eq_false c, List.any_eq_false]
      intro s hs
      rw [hl s hs, and_all h, decide_eq_false c]; simp
theorem cnt_whole {n : Nat} (hn : n ≤ 10) {l : List (List Nat)} {p : Int} {f : Nat} (hf : f ≤ 10) (hl : ∀ s ∈ l, s = List.range n) (h0 : l ≠ []) : cnt n l p f = if p < (f : Int) then ch n f else 0 := by
  have e : cnt n l p f = (List.range (2 ^ n)).countP (fun set => decide (p < (f : Int)) && pop set == f) := by
    unfold cnt
    refine List.countP_congr (fun set hs => ?_)
    rw [fatal_all (List.mem_range.1 hs) hl h0]
    by_cases c : pop set = f
    · rw [c]
    · have : (pop set == f) = false := by rw [beq_eq_false_iff_ne]; exact c
      rw [this, Bool.and_false, Bool.and_false]
  rw [e]
  by_cases c : p < (f : Int)
  · rw [if_pos c, decide_eq_true c, ← cnt_all n hn f hf]
    rfl
  · rw [if_neg c, decide_eq_false c]
    exact Pl.countP_none (fun _ _ => rfl)
theorem st_cnt {n k f : Nat} (hn : n ≤ 10) (hk : 0 < k) {p : Int} (hf : f ≤ 10) : cnt n (natss ((Pl.st n n k).map ci)) p f = if p < (f : Int) then ch n f else 0 := by
  refine cnt_whole hn hf (fun s hs => ?_) (fun h => ?_)
  · obtain ⟨t, ht, rfl⟩ := List.mem_map.1 hs
    rw [Pl.st_all t ht, nats_ci]
  · have := congrArg List.length h
    unfold natss at this
    rw [List.length_map, List.length_map, Pl.st_len] at this
    simp at this; omega
end Od
set_option maxRecDepth 100000 in
set_option maxHeartbeats 8000000 in
theorem oddsAll_walk (n f p : Int) (hn : (Lit.int .i64 n).wf = true) (hf : (Lit.int .i64 f).wf = true) (hp : (Lit.int .i64 p).wf = true) (w : World) (hg : Handle w) :
    Calls Tryd.prog 4 #[iv n, iv f, iv p] w fun e w' => e = .returned (.bool true) ∧ Below w.heap.size w w' := by
  have Hg := Lib.hid hg
  clear hn hf hp hg
  have C0 := Lib.hid (choose_tot (-1) 0 w)
  rw [show Od.chE (-1) 0 = 1 by decide, show Od.chV (-1) 0 = 0 by decide] at C0
  have S0 := Lib.hid (same_eq 1 w Hg.out)
  rw [show errV 1 = ev 1 from rfl] at C0 S0
  go_enter Tryd.func4, Tryd.ntmps4
  by_cases hb : n < 1 ∨ 10 < n ∨ f < 0 ∨ n < f ∨ p < 0 ∨ 10 < p
  · go_upto_region 1 with (fail)
    go_cut [37] (fun z wq => z = .bool true ∧ w = wq)
    case first => as_aux_lemma =>
      by_cases g1 : n < 1
      · clear hb
        go_wp2_with fail
        go_meet
        exact ⟨rfl, rfl⟩
      · by_cases g2 : 10 < n
        · clear hb
          go_wp2_with fail
          go_meet
          exact ⟨rfl, rfl⟩
        · by_cases g3 : f < 0
          · clear hb
            go_wp2_with fail
            go_meet
            exact ⟨rfl, rfl⟩
          · by_cases g4 : n < f
            · clear hb
              go_wp2_with fail
              go_meet
              exact ⟨rfl, rfl⟩
            · by_cases g5 : p < 0
              · clear hb
                go_wp2_with fail
                go_meet
                exact ⟨rfl, rfl⟩
              · have g6 : 10 < p := by omega
                clear hb
                go_wp2_with fail
                go_meet
                exact ⟨rfl, rfl⟩
    case rest =>
    obtain ⟨rfl, rfl⟩ := hcut
    clear hb
    go_wp2_with fail
    refine C0.out.mono ?_
    rintro e w' ⟨rfl, rfl⟩
    go_wp2_with fail
    refine S0.out.mono ?_
    rintro e w4 ⟨rfl, hb4⟩
    have HB4 := Lib.hid hb4
    clear hb4
    go_wp2_with fail
    go_ret
    exact ⟨rfl, HB4.out⟩
  · clear C0 S0
    obtain ⟨nn, rfl⟩ : ∃ x : Nat, n = x := ⟨n.toNat, by omega⟩
    obtain ⟨fn, rfl⟩ : ∃ x : Nat, f = x := ⟨f.toNat, by omega⟩
    have h1 : 1 ≤ nn := by omega
    have h2 : nn ≤ 10 := by omega
    have hfn : fn ≤ nn := by omega
    have hpf : Pl.plF nn nn 3 = 0 := by unfold Pl.plF; rw [if_neg (by omega)]
    have hpl : Pl.plL nn nn 3 = (Pl.st nn nn 3).map ci := by unfold Pl.plL; rw [if_pos hpf]; rfl
    have C1 := Lib.hid (place_tot nn nn 3 w)
    rw [hpf, errV_0, hpl] at C1
    have hck := (Pl.st_chk (n := nn) (w := nn) (k := 3) h1 h2 (by decide)).1
    have hfe : Od.faE nn ((Pl.st nn nn 3).map ci) fn p = 0 := by unfold Od.faE; rw [if_neg (by rw [hck]; simp), if_neg (by omega)]
    have hfv : Od.faV nn ((Pl.st nn nn 3).map ci) fn p = ((if p < (fn : Int) then Od.ch nn fn else 0 : Nat) : Int) := by
      unfold Od.faV; rw [if_pos hfe, Int.toNat_natCast, Int.toNat_natCast, Od.st_cnt h2 (by decide) (by omega)]
    have hce : Od.chE nn fn = 0 := by unfold Od.chE; rw [if_neg (by omega)]
    have hcv : Od.chV nn fn = (Od.ch nn fn : Int) := by unfold Od.chV; rw [if_pos hce]; rfl
    have C3 := Lib.hid (fun W => choose_tot (nn : Int) (fn : Int) W)
    rw [hce, hcv, errV_0] at C3
    have g1 : ¬ (nn : Int) < 1 := by omega
    have g2 : ¬ (10 : Int) < (nn : Int) := by omega
    have g3 : ¬ (fn : Int) < 0 := by omega
    have g4 : ¬ (nn : Int) < (fn : Int) := by omega
    have g5 : ¬ p < 0 := by omega
    have g6 : ¬ 10 < p := by omega
    obtain ⟨A, hA⟩ : ∃ A, A = Od.ch nn fn := ⟨_, rfl⟩
    rw [← hA] at hfv C3
    have Hfe := Lib.hid (And.intro hfe hfv)
    clear hpf hpl hck hfe hfv hce hcv hb hA
    go_upto_region 1 with (fail)
    go_cut [37] (fun z wq => z = .bool false ∧ w = wq)
    case first => as_aux_lemma =>
      go_wp2_with fail
      go_meet
      exact ⟨rfl, rfl⟩
    case rest =>
    obtain ⟨rfl, rfl⟩ := hcut
    clear g1 g2 g3 g4 g5 g6
    go_wp2_with fail
    refine C1.out.mono ?_
    rintro e w2 ⟨v2, rfl, hb2, hr2⟩
    have HB2 := Lib.hid hb2
    have C2 := Lib.hid (ofatal_tot nn _ fn p v2 w2 hr2)
    unfold OdPost at C2
    rw [Hfe.out.1, Hfe.out.2, errV_0] at C2
    have hz2 := hb2.size
    clear hb2 hr2 C1
    by_cases hpq : p < (fn : Int)
    · rw [if_pos hpq] at C2
      go_wp2_with fail
      refine C2.out.mono ?_
      rintro e w3 ⟨rfl, hb3⟩
      have HB3 := Lib.hid (HB2.out.trans (hb3.mono hz2))
      clear hb3
      go_wp2_with fail
      refine (C3.out _).mono ?_
      rintro e w' ⟨rfl, rfl⟩
      go_wp2_with fail
      go_ret
      exact ⟨rfl, HB3.out⟩
    · rw [if_neg hpq] at C2
      go_wp2_with fail
      refine C2.out.mono ?_
      rintro e w3 ⟨rfl, hb3⟩
      have HB3 := Lib.hid (HB2.out.trans (hb3.mono hz2))
      clear hb3
      go_wp2_with fail
      refine (C3.out _).mono ?_
      rintro e w' ⟨rfl, rfl⟩
      go_wp2_with fail
      go_ret
      exact ⟨rfl, HB3.out⟩
end Go.Proofs.YtkkfpdjhnffpbaaDoor
