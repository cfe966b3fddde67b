/- The walks of odds.Fatal and Worst, of whatever arguments. -/
import Derived.Test.YtkkfpdjhnffpbaaDoorOddX
namespace Go.Proofs.YtkkfpdjhnffpbaaDoor
open Go.ChangeShapes Go.WideShapes Go.ChangeAt Go.RowKit
set_option linter.unusedVariables false
namespace Od
def faE (n : Int) (l : List (List Int)) (f p : Int) : Int := if chk n l ≠ 0 then chk n l else if f < 0 ∨ n < f ∨ p < 0 ∨ 10 < p then 1 else 0
def faV (n : Int) (l : List (List Int)) (f p : Int) : Int := if faE n l f p = 0 then (cnt n.toNat (natss l) p f.toNat : Int) else 0
def woE (n : Int) (l : List (List Int)) (p : Int) : Int := if chk n l ≠ 0 then chk n l else if p < 0 ∨ 10 < p then 1 else 0
def woV (n : Int) (l : List (List Int)) (p : Int) : Int := if woE n l p = 0 then worst n.toNat (natss l) p else 0
theorem worst_hit {n : Nat} {l : List (List Nat)} {p : Int} {k : Nat} (hk : k < n + 1) (h : 0 < cnt n l p k) (hno : ∀ j, j < k → cnt n l p j = 0) : worst n l p = k := by
  unfold worst
  have : (List.range (n + 1)).find? (fun f => decide (0 < cnt n l p f)) = some k := List.find?_range_eq_some.2 ⟨decide_eq_true h, List.mem_range.2 hk, fun j hj => by simp [hno j hj]⟩
  rw [this]
theorem worst_miss {n : Nat} {l : List (List Nat)} {p : Int} (hno : ∀ j, j < n + 1 → cnt n l p j = 0) : worst n l p = -1 := by
  unfold worst
  have : (List.range (n + 1)).find? (fun f => decide (0 < cnt n l p f)) = none := List.find?_eq_none.2 (fun j hj => by simp [hno j (List.mem_range.1 hj)])
  rw [this]
end Od
theorem opar (p : Int) (w : World) : Calls Tryd.prog 23 #[iv p] w fun e w' => e = .returned (.bool (decide (0 ≤ p ∧ p ≤ 10))) ∧ w = w' := by
  by_cases h1 : 0 ≤ p
  · by_cases h2 : p ≤ 10
    · rw [dec_t ⟨h1, h2⟩]
      go_enter Tryd.func23, Tryd.ntmps23
      go_wp2_with fail
      go_ret
      exact ⟨rfl, rfl⟩
    · rw [dec_f (fun h => h2 h.2)]
      go_enter Tryd.func23, Tryd.ntmps23
      go_wp2_with fail
      go_ret
      exact ⟨rfl, rfl⟩
  · rw [dec_f (fun h => h1 h.1)]
    go_enter Tryd.func23, Tryd.ntmps23
    go_wp2_with fail
    go_ret
    exact ⟨rfl, rfl⟩
def OdPost (v e : Int) (w : World) (x : Ending) (w' : World) : Prop := x = .returned (.tuple #[iv v, errV e]) ∧ Below w.heap.size w w'
set_option maxRecDepth 100000 in
set_option maxHeartbeats 2000000 in
theorem ofatal_tot (n : Int) (l : List (List Int)) (f p : Int) (v : Value) (w : World) (hv : Rows2 w v l) :
    Calls Tryd.prog 11 #[iv n, v, iv f, iv p] w (OdPost (Od.faV n l f p) (Od.faE n l f p) w) := by
  have HC := Lib.hid (pcheck_any n l v w hv)
  have HV := Lib.hid hv
  obtain ⟨C, hC⟩ : ∃ C, C = Od.chk n l := ⟨_, rfl⟩
  obtain ⟨F, hF⟩ : ∃ C, C = Od.faE n l f p := ⟨_, rfl⟩
  obtain ⟨V, hV⟩ : ∃ C, C = Od.faV n l f p := ⟨_, rfl⟩
  rw [← hC] at HC
  rw [← hF, ← hV]
  have HF := Lib.hid (show F = if Od.chk n l ≠ 0 then Od.chk n l else if f < 0 ∨ n < f ∨ p < 0 ∨ 10 < p then 1 else 0 from hF)
  have HVv := Lib.hid (show V = if Od.faE n l f p = 0 then (Od.cnt n.toNat (Od.natss l) p f.toNat : Int) else 0 from hV)
  rw [← hF] at HVv
  unfold OdPost
  by_cases h0 : C = 0
  · have hk := Od.chk_0 (hC.symm.trans h0)
    have hF2 : F = if f < 0 ∨ n < f ∨ p < 0 ∨ 10 < p then 1 else 0 := by rw [HF.out, ← hC, if_neg (by simp [h0])]
    subst h0
    rw [errV_0] at HC
    by_cases hb : f < 0 ∨ n < f ∨ p < 0 ∨ 10 < p
    · obtain rfl : F = 1 := by rw [hF2, if_pos hb]
      obtain rfl : V = 0 := by rw [HVv.out]; rfl
      have HP := fun W => opar p W
      clear hF2 HF HVv hF hV hk hC
      by_cases h1 : f < 0
      · go_enter Tryd.func11, Tryd.ntmps11
        go_wp2_with fail
        refine HC.out.mono ?_
        rintro e w1 ⟨rfl, hb1⟩
        have HB := Lib.hid hb1
        clear hb1 HC
        go_wp2_with fail
        go_ret2
        exact ⟨rfl, HB.out⟩
      · by_cases h2 : n < f
        · go_enter Tryd.func11, Tryd.ntmps11
          go_wp2_with fail
          refine HC.out.mono ?_
          rintro e w1 ⟨rfl, hb1⟩
          have HB := Lib.hid hb1
          clear hb1 HC
          go_wp2_with fail
          go_ret2
          exact ⟨rfl, HB.out⟩
        · have hd : decide (0 ≤ p ∧ p ≤ 10) = false := dec_f (by omega)
          go_enter Tryd.func11, Tryd.ntmps11
          go_wp2_with fail
          refine HC.out.mono ?_
          rintro e w1 ⟨rfl, hb1⟩
          have HB := Lib.hid hb1
          have HPw := HP w1
          rw [hd] at HPw
          clear hb1 HC hd HP
          go_wp2_with fail
          refine HPw.mono ?_
          rintro e w' ⟨rfl, rfl⟩
          clear HPw
          go_wp2_with fail
          go_ret2
          exact ⟨rfl, HB.out⟩
    · obtain rfl : F = 0 := by rw [hF2, if_neg hb]
      obtain ⟨nn, rfl⟩ : ∃ m : Nat, n = m := ⟨n.toNat, by omega⟩
      obtain ⟨fn, rfl⟩ : ∃ m : Nat, f = m := ⟨f.toNat, by omega⟩
      have hVe : V = (Od.cnt nn (Od.natss l) p fn : Int) := by rw [HVv.out, if_pos rfl]; rfl
      have HP := fun W => opar p W
      rw [dec_t (p := 0 ≤ p ∧ p ≤ 10) (by omega)] at HP
      have hfn : fn ≤ nn := by omega
      have h1n : 1 ≤ nn ∧ nn ≤ 10 := by omega
      have Hk := Lib.hid hk
      have HVe := Lib.hid hVe
      have hfI : (fn : Int) < (nn : Int) + 1 := by omega
      have hfI2 : (fn : Int) ≤ (nn : Int) := by omega
      have hf0 : ¬ (fn : Int) < 0 := by omega
      have hf1 : ¬ (nn : Int) < (fn : Int) := by omega
      clear hF2 HF HVv hF hV hk hC hb hVe
      go_enter Tryd.func11, Tryd.ntmps11
      go_wp2_with fail
      refine HC.out.mono ?_
      rintro e w1 ⟨rfl, hb1⟩
      have HB := Lib.hid hb1
      have HPw := HP w1
      have HCo := Lib.hid (ocounts_any nn h1n.1 h1n.2 l Hk.out.2.2.1 (fun s hs d hd => by have := (Hk.out.2.2.2 s hs).2 d hd; omega) p v w1 (HV.out.below hb1))
      clear hb1 HC HP
      go_wp2_with fail
      refine HPw.mono ?_
      rintro e w' ⟨rfl, rfl⟩
      clear HPw
      go_wp2_with fail
      refine HCo.out.mono ?_
      rintro e w2 ⟨g, rfl, hO, hb2⟩
      obtain ⟨_, _, hz1, _, _, hcc, _⟩ := OwnR.cellsO hO (by rw [Od.cvs_len]; omega)
      have d0 := hcc fn (by omega)
      rw [Od.cvs_at _ _ _ (by omega), Nat.zero_add, Od.ctk_full, ← HVe.out] at d0
      have HB2 := Lib.hid (HB.out.trans (hb2.mono HB.out.size))
      clear hcc hO hb2 hz1 HCo HB
      go_wp2_with fail
      go_ret2
      exact ⟨rfl, HB2.out⟩
  · have hFe : F = C := by rw [HF.out, ← hC, if_pos h0]
    obtain rfl : V = 0 := by rw [HVv.out, if_neg (by rw [hFe]; exact h0)]
    rw [errV_ne h0] at HC
    rw [hFe, errV_ne h0]
    clear HF HVv hF hV hC hFe h0
    go_enter Tryd.func11, Tryd.ntmps11
    go_wp2_with fail
    refine HC.out.mono ?_
    rintro e w1 ⟨rfl, hb1⟩
    have HB := Lib.hid hb1
    clear hb1 HC
    go_wp2_with fail
    go_ret2
    exact ⟨rfl, HB.out⟩
set_option maxRecDepth 100000 in
set_option maxHeartbeats 2000000 in
theorem oworst_tot (n : Int) (l : List (List Int)) (p : Int) (v : Value) (w : World) (hv : Rows2 w v l) :
    Calls Tryd.prog 12 #[iv n, v, iv p] w (OdPost (Od.woV n l p) (Od.woE n l p) w) := by
  have HC := Lib.hid (pcheck_any n l v w hv)
  have HV := Lib.hid hv
  obtain ⟨C, hC⟩ : ∃ C, C = Od.chk n l := ⟨_, rfl⟩
  obtain ⟨F, hF⟩ : ∃ C, C = Od.woE n l p := ⟨_, rfl⟩
  obtain ⟨V, hV⟩ : ∃ C, C = Od.woV n l p := ⟨_, rfl⟩
  rw [← hC] at HC
  rw [← hF, ← hV]
  have HF := Lib.hid (show F = if Od.chk n l ≠ 0 then Od.chk n l else if p < 0 ∨ 10 < p then 1 else 0 from hF)
  have HVv := Lib.hid (show V = if Od.woE n l p = 0 then Od.worst n.toNat (Od.natss l) p else 0 from hV)
  rw [← hF] at HVv
  unfold OdPost
  by_cases h0 : C = 0
  · have hk := Od.chk_0 (hC.symm.trans h0)
    have hF2 : F = if p < 0 ∨ 10 < p then 1 else 0 := by rw [HF.out, ← hC, if_neg (by simp [h0])]
    subst h0
    rw [errV_0] at HC
    have HP := fun W => opar p W
    by_cases hb : p < 0 ∨ 10 < p
    · obtain rfl : F = 1 := by rw [hF2, if_pos hb]
      obtain rfl : V = 0 := by rw [HVv.out]; rfl
      rw [dec_f (p := 0 ≤ p ∧ p ≤ 10) (by omega)] at HP
      clear hF2 HF HVv hF hV hk hC
      go_enter Tryd.func12, Tryd.ntmps12
      go_wp2_with fail
      refine HC.out.mono ?_
      rintro e w1 ⟨rfl, hb1⟩
      have HB := Lib.hid hb1
      have HPw := HP w1
      clear hb1 HC HP
      go_wp2_with fail
      refine HPw.mono ?_
      rintro e w' ⟨rfl, rfl⟩
      clear HPw
      go_wp2_with fail
      go_ret2
      exact ⟨rfl, HB.out⟩
    · obtain rfl : F = 0 := by rw [hF2, if_neg hb]
      obtain ⟨nn, rfl⟩ : ∃ m : Nat, n = m := ⟨n.toNat, by omega⟩
      have hVe : V = Od.worst nn (Od.natss l) p := by rw [HVv.out, if_pos rfl]; rfl
      rw [dec_t (p := 0 ≤ p ∧ p ≤ 10) (by omega)] at HP
      have h1n : 1 ≤ nn ∧ nn ≤ 10 := by omega
      have Hk := Lib.hid hk
      have HVe := Lib.hid hVe
      clear hF2 HF HVv hF hV hk hC hb hVe
      go_enter Tryd.func12, Tryd.ntmps12
      go_wp2_with fail
      refine HC.out.mono ?_
      rintro e w1 ⟨rfl, hb1⟩
      have HB := Lib.hid hb1
      have HPw := HP w1
      have HCo := Lib.hid (ocounts_any nn h1n.1 h1n.2 l Hk.out.2.2.1 (fun s hs d hd => by have := (Hk.out.2.2.2 s hs).2 d hd; omega) p v w1 (HV.out.below hb1))
      clear hb1 HC HP
      go_wp2_with fail
      refine HPw.mono ?_
      rintro e w' ⟨rfl, rfl⟩
      clear HPw
      go_wp2_with fail
      refine HCo.out.mono ?_
      rintro e w2 ⟨g, rfl, hO, hb2⟩
      have HO := Lib.hid hO
      have HB2 := Lib.hid (HB.out.trans (hb2.mono HB.out.size))
      clear hO hb2 HCo HB
      go_wp2_with fail
      go_loopg [9, 10, 26] (nn + 1) (fun gk v9 v10 v26 wr => ∃ k : Nat, k + gk = nn + 1 ∧ v26 = iv k ∧ (∀ j, j < k → Od.cnt nn (Od.natss l) p j = 0) ∧ w2 = wr)
      case atStart => exact ⟨0, by omega, rfl, (fun j hj => by omega), rfl⟩
      case round =>
        obtain ⟨k, hk, rfl, hno, rfl⟩ := hrel
        have Hkk := Lib.hid hk
        have Hno := Lib.hid hno
        clear hk hno
        by_cases hkn : k < nn + 1
        · obtain ⟨_, _, hz1, _, _, hcc, _⟩ := OwnR.cellsO HO.out (by rw [Od.cvs_len]; omega)
          have d0 := hcc k hkn
          rw [Od.cvs_at _ _ _ hkn, Nat.zero_add, Od.ctk_full] at d0
          obtain ⟨c, hc⟩ : ∃ c, c = Od.cnt nn (Od.natss l) p k := ⟨_, rfl⟩
          rw [← hc] at d0
          have Hc := Lib.hid hc
          have hkI : (k : Int) < ((nn + 1 : Nat) : Int) := by omega
          have hkI' : (k : Int) < (nn : Int) + 1 := by omega
          clear hcc hz1 hc
          by_cases hc0 : 0 < c
          · have t1 : (0 : Int) < (c : Int) := by omega
            have HVk : Hid (V = k) := Lib.hid (by rw [HVe.out]; exact Od.worst_hit hkn (by rw [← Hc.out]; exact hc0) Hno.out)
            go_wp2_with fail
            go_ret2
            exact ⟨by rw [HVk.out]; rfl, HB2.out⟩
          · have t1 : ¬ (0 : Int) < (c : Int) := by omega
            go_wp2_with fail
            go_roundg (gk - 1)
            case measure => have := Hkk.out; omega
            case rel =>
              refine ⟨k + 1, by have := Hkk.out; omega, by go_num, fun j hj => ?_, rfl⟩
              by_cases e : j = k
              · subst e; rw [← Hc.out]; omega
              · exact Hno.out j (by omega)
        · have hkn' : k = nn + 1 := by have := Hkk.out; omega
          have hkI : ¬ (k : Int) < ((nn + 1 : Nat) : Int) := by omega
          have hkI' : ¬ (k : Int) < (nn : Int) + 1 := by omega
          have HVk : Hid (V = -1) := Lib.hid (by rw [HVe.out]; exact Od.worst_miss (fun j hj => Hno.out j (by omega)))
          clear hkn'
          go_wp2_with fail
          go_ret2
          exact ⟨by rw [HVk.out]; rfl, HB2.out⟩
  · have hFe : F = C := by rw [HF.out, ← hC, if_pos h0]
    obtain rfl : V = 0 := by rw [HVv.out, if_neg (by rw [hFe]; exact h0)]
    rw [errV_ne h0] at HC
    rw [hFe, errV_ne h0]
    clear HF HVv hF hV hC hFe h0
    go_enter Tryd.func12, Tryd.ntmps12
    go_wp2_with fail
    refine HC.out.mono ?_
    rintro e w1 ⟨rfl, hb1⟩
    have HB := Lib.hid hb1
    clear hb1 HC
    go_wp2_with fail
    go_ret2
    exact ⟨rfl, HB.out⟩
end Go.Proofs.YtkkfpdjhnffpbaaDoor
