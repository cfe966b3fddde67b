/- The walk of the law OddsAdd: it returns true. -/
import Derived.Test.YtkkfpdjhnffpbaaOddY
namespace Go.Proofs.Ytkkfpdjhnffpbaa
open Go.ChangeShapes Go.WideShapes Go.ChangeAt Go.RowKit
set_option linter.unusedVariables false
/-- (taken, or not) -/
theorem pascal {n k : Int} (h1 : Od.chE n k = 0) (h2 : Od.chE n (wrap64 (k + 1)) = 0) (h3 : Od.chE (wrap64 (n + 1)) (wrap64 (k + 1)) = 0) :
    Od.chV (wrap64 (n + 1)) (wrap64 (k + 1)) = wrap64 (Od.chV n k + Od.chV n (wrap64 (k + 1))) := by
  have hb : ¬ (n < 0 ∨ 30 < n ∨ k < 0 ∨ n < k) := fun h => by unfold Od.chE at h1; rw [if_pos h] at h1; cases h1
  have w1 : wrap64 (k + 1) = k + 1 := IntWalk.wrap64_in _ (by omega)
  have w2 : wrap64 (n + 1) = n + 1 := IntWalk.wrap64_in _ (by omega)
  rw [w1] at h2 h3 ⊢
  rw [w2] at h3 ⊢
  obtain ⟨nn, rfl⟩ : ∃ m : Nat, n = m := ⟨n.toNat, by omega⟩
  obtain ⟨kk, rfl⟩ : ∃ m : Nat, k = m := ⟨k.toNat, by omega⟩
  unfold Od.chV
  rw [if_pos h1, if_pos h2, if_pos h3]
  have e1 : ((nn : Int) + 1).toNat = nn + 1 := by omega
  have e2 : ((kk : Int) + 1).toNat = kk + 1 := by omega
  rw [e1, e2, Int.toNat_natCast, Int.toNat_natCast, Od.ch_succ]
  have b1 := Od.ch_le nn kk
  have b2 := Od.ch_le nn (kk + 1)
  have b3 : (2 : Nat) ^ nn ≤ 2 ^ 30 := Nat.pow_le_pow_right (by omega) (by omega)
  have b4 : (2 : Nat) ^ 30 = 1073741824 := by decide
  rw [IntWalk.wrap64_in _ (by omega)]
  omega
set_option maxRecDepth 100000 in
set_option maxHeartbeats 8000000 in
theorem oddsAdd_walk (n k m : Int) (vl : Value) (fails parity : Int) (hn : (Lit.int .i64 n).wf = true) (hk : (Lit.int .i64 k).wf = true) (hm : (Lit.int .i64 m).wf = true) (hf : (Lit.int .i64 fails).wf = true) (hp : (Lit.int .i64 parity).wf = true) (w : World) (fl : ∃ l, Rows2 w vl l) :
    Calls Try.prog 3 #[iv n, iv k, iv m, vl, iv fails, iv parity] w fun e w' => e = .returned (.bool true) ∧ Below w.heap.size w w' := by
  obtain ⟨l, hl⟩ := fl
  have HL := Lib.hid hl
  obtain ⟨a, ha⟩ : ∃ a, a = Od.chV n k := ⟨_, rfl⟩
  obtain ⟨ea, hea⟩ : ∃ a, a = Od.chE n k := ⟨_, rfl⟩
  obtain ⟨b, hb⟩ : ∃ a, a = Od.chV n (wrap64 (k + 1)) := ⟨_, rfl⟩
  obtain ⟨eb, heb⟩ : ∃ a, a = Od.chE n (wrap64 (k + 1)) := ⟨_, rfl⟩
  obtain ⟨c, hc⟩ : ∃ a, a = Od.chV (wrap64 (n + 1)) (wrap64 (k + 1)) := ⟨_, rfl⟩
  obtain ⟨ec, hec⟩ : ∃ a, a = Od.chE (wrap64 (n + 1)) (wrap64 (k + 1)) := ⟨_, rfl⟩
  have C1 := Lib.hid (choose_tot 5 2 w)
  rw [show Od.chV 5 2 = 10 by decide, show Od.chE 5 2 = 0 by decide, errV_0] at C1
  have C2 := Lib.hid (choose_tot n k w)
  rw [← ha, ← hea] at C2
  have C3 := Lib.hid (choose_tot n (wrap64 (k + 1)) w)
  rw [← hb, ← heb] at C3
  have C4 := Lib.hid (choose_tot (wrap64 (n + 1)) (wrap64 (k + 1)) w)
  rw [← hc, ← hec] at C4
  obtain ⟨va, hva⟩ : ∃ v, v = errV ea := ⟨_, rfl⟩
  rw [← hva] at C2
  have Hva := Lib.hid hva
  obtain ⟨vb, hvb⟩ : ∃ v, v = errV eb := ⟨_, rfl⟩
  rw [← hvb] at C3
  have Hvb := Lib.hid hvb
  obtain ⟨vc, hvc⟩ : ∃ v, v = errV ec := ⟨_, rfl⟩
  rw [← hvc] at C4
  have Hvc := Lib.hid hvc
  have HP : Hid (ea = 0 → eb = 0 → ec = 0 → c = wrap64 (a + b)) := Lib.hid (fun h1 h2 h3 => by
    rw [ha, hb, hc]; exact pascal (hea.symm.trans h1) (heb.symm.trans h2) (hec.symm.trans h3))
  clear hl ha hea hb heb hc hec hn hk hm hf hp hva hvb hvc
  go_enter Try.func3, Try.ntmps3
  go_wp2_with fail
  refine C1.out.mono ?_
  rintro e w' ⟨rfl, rfl⟩
  clear C1
  go_wp2_with fail
  refine C2.out.mono ?_
  rintro e w' ⟨rfl, rfl⟩
  clear C2
  go_wp2_with fail
  refine C3.out.mono ?_
  rintro e w' ⟨rfl, rfl⟩
  clear C3
  go_wp2_with fail
  refine C4.out.mono ?_
  rintro e w' ⟨rfl, rfl⟩
  clear C4
  go_upto_region 7 with (fail)
  go_cut [74] (fun z wq => z = .bool false ∧ w = wq)
  case first => as_aux_lemma =>
    by_cases h1 : ea = 0
    · obtain rfl : va = .nilIface := by rw [Hva.out, h1, errV_0]
      by_cases h2 : eb = 0
      · obtain rfl : vb = .nilIface := by rw [Hvb.out, h2, errV_0]
        by_cases h3 : ec = 0
        · obtain rfl : vc = .nilIface := by rw [Hvc.out, h3, errV_0]
          have hP := HP.out h1 h2 h3
          have t1 : (c != wrap64 (a + b)) = false := bne_f hP
          clear hP
          go_wp2_with fail
          go_meet
          exact ⟨rfl, rfl⟩
        · obtain rfl : vc = ev ec := by rw [Hvc.out, errV_ne h3]
          clear h3
          go_wp2_with fail
          go_meet
          exact ⟨rfl, rfl⟩
      · obtain rfl : vb = ev eb := by rw [Hvb.out, errV_ne h2]
        clear h2
        go_wp2_with fail
        go_meet
        exact ⟨rfl, rfl⟩
    · obtain rfl : va = ev ea := by rw [Hva.out, errV_ne h1]
      clear h1
      go_wp2_with fail
      go_meet
      exact ⟨rfl, rfl⟩
  case rest =>
  obtain ⟨rfl, rfl⟩ := hcut
  obtain ⟨f, hf⟩ : ∃ a, a = Od.faV m l fails parity := ⟨_, rfl⟩
  obtain ⟨ef, hef⟩ : ∃ a, a = Od.faE m l fails parity := ⟨_, rfl⟩
  have D1 := Lib.hid (ofatal_tot m l fails parity vl w HL.out)
  unfold OdPost at D1
  rw [← hf, ← hef] at D1
  have Hf := Lib.hid hf
  have Hef := Lib.hid hef
  clear hf hef HP
  go_wp2_with fail
  refine D1.out.mono ?_
  rintro e w1 ⟨rfl, hb1⟩
  have HB1 := Lib.hid hb1
  clear hb1 D1
  by_cases hf0 : ef = 0
  · have hef := Hef.out
    rw [hf0] at hef
    unfold Od.faE at hef
    have hck : Od.chk m l = 0 := Classical.byContradiction (fun h => by rw [if_pos h] at hef; exact h hef.symm)
    rw [if_neg (by simp [hck])] at hef
    have hbd : ¬ (fails < 0 ∨ m < fails ∨ parity < 0 ∨ 10 < parity) := fun h => by rw [if_pos h] at hef; cases hef
    have hk0 := Od.chk_0 hck
    obtain ⟨mn, rfl⟩ : ∃ x : Nat, m = x := ⟨m.toNat, by omega⟩
    obtain ⟨fn, rfl⟩ : ∃ x : Nat, fails = x := ⟨fails.toNat, by omega⟩
    have hfv : f = (Od.cnt mn (Od.natss l) parity fn : Int) := by rw [Hf.out]; unfold Od.faV; rw [if_pos (Hef.out.symm.trans hf0)]; rfl
    have hce : Od.chE (mn : Int) (fn : Int) = 0 := if_neg (by omega)
    have hcv : Od.chV (mn : Int) (fn : Int) = (Od.ch mn fn : Int) := by unfold Od.chV; rw [if_pos hce]; rfl
    have E1 := Lib.hid (choose_tot (mn : Int) (fn : Int) w1)
    rw [hce, hcv, errV_0] at E1
    have hwp : wrap64 (parity + 1) = parity + 1 := IntWalk.wrap64_in _ (by omega)
    obtain ⟨g, hg⟩ : ∃ a, a = Od.faV (mn : Int) l (fn : Int) (parity + 1) := ⟨_, rfl⟩
    obtain ⟨eg, heg⟩ : ∃ a, a = Od.faE (mn : Int) l (fn : Int) (parity + 1) := ⟨_, rfl⟩
    have E2 := Lib.hid (ofatal_tot (mn : Int) l (fn : Int) (parity + 1) vl w1 (HL.out.below HB1.out))
    unfold OdPost at E2
    rw [← hg, ← heg] at E2
    obtain ⟨vg, hvg⟩ : ∃ v, v = errV eg := ⟨_, rfl⟩
    rw [← hvg] at E2
    have Hvg := Lib.hid hvg
    have hwe : Od.woE (mn : Int) l parity = 0 := by unfold Od.woE; rw [if_neg (by simp [hck]), if_neg (by omega)]
    have hwv : Od.woV (mn : Int) l parity = Od.worst mn (Od.natss l) parity := by unfold Od.woV; rw [if_pos hwe]; rfl
    obtain ⟨wv, hwv'⟩ : ∃ a, a = Od.worst mn (Od.natss l) parity := ⟨_, rfl⟩
    have E3 : Hid (∀ W, Below w1.heap.size w1 W → Calls Try.prog 8 #[iv mn, vl, iv parity] W fun e w' => e = .returned (.tuple #[iv wv, .nilIface]) ∧ Below W.heap.size W w') := Lib.hid (fun W hW => by
      have h := oworst_tot (mn : Int) l parity vl W ((HL.out.below HB1.out).below (hW))
      unfold OdPost at h
      rw [hwe, hwv, ← hwv', errV_0] at h
      exact h)
    obtain ⟨al, hal⟩ : ∃ x, x = Od.ch mn fn := ⟨_, rfl⟩
    rw [← hal] at E1
    have hfa : f ≤ (al : Int) := by rw [hfv, hal]; exact_mod_cast Od.cnt_le (by omega) (Od.natss l) parity (by omega)
    have hf9 : 0 ≤ f := by rw [hfv]; exact Int.natCast_nonneg _
    have hgf : eg = 0 → g ≤ f := fun h => by
      rw [hg, hfv]
      unfold Od.faV
      rw [if_pos (heg.symm.trans h), Int.toNat_natCast, Int.toNat_natCast]
      exact_mod_cast Od.cnt_mono mn (Od.natss l) (by omega) fn
    have hw1 : wv = -1 → f = 0 := fun h => by rw [hfv, Od.worst_none (hwv'.symm.trans h) (by omega)]; rfl
    have hw2 : (fn : Int) < wv → f = 0 := fun h => by rw [hfv, Od.worst_low (f := fn) (by omega) (by rw [← hwv']; exact h)]; rfl
    have Hgf := Lib.hid hgf
    have Hw1 := Lib.hid hw1
    have Hw2 := Lib.hid hw2
    subst hf0
    clear hef hck hbd hk0 hfv hce hcv hg heg hwe hwv hwv' hal hgf hw1 hw2 Hf Hef hvg
    rw [errV_0]
    go_wp2_with fail
    refine E1.out.mono ?_
    rintro e w' ⟨rfl, rfl⟩
    clear E1
    go_wp2_with fail
    refine E2.out.mono ?_
    rintro e w2 ⟨rfl, hb2⟩
    have E4 := Lib.hid (E3.out w2 hb2)
    have HB2 := Lib.hid (HB1.out.trans (hb2.mono HB1.out.size))
    clear hb2 E2 E3
    go_wp2_with fail
    refine E4.out.mono ?_
    rintro e w3 ⟨rfl, hb3⟩
    have HB3 := Lib.hid (HB2.out.trans (hb3.mono HB2.out.size))
    have t1 : ¬ f < 0 := by omega
    have t2 : ¬ (al : Int) < f := by omega
    have t1' : decide (f < 0) = false := dec_f t1
    have t2' : decide ((al : Int) < f) = false := dec_f t2
    clear hb3 E4
    go_upto_region 15 with (fail)
    go_cut [130] (fun z wq => z = .bool false ∧ w3 = wq)
    case first => as_aux_lemma =>
      by_cases h1 : eg = 0
      · have h2 := Hgf.out h1
        obtain rfl : vg = .nilIface := by rw [Hvg.out, h1, errV_0]
        have t3 : ¬ f < g := by omega
        have t4 : decide (f < g) = false := dec_f t3
        clear h2
        go_wp2_with fail
        go_meet
        exact ⟨rfl, rfl⟩
      · obtain rfl : vg = ev eg := by rw [Hvg.out, errV_ne h1]
        clear h1
        go_wp2_with fail
        go_meet
        exact ⟨rfl, rfl⟩
    case rest =>
    obtain ⟨rfl, rfl⟩ := hcut
    by_cases h1 : wv = -1
    · have h2 := Hw1.out h1
      subst h1 h2
      go_wp2_with fail
      go_ret
      exact ⟨rfl, HB3.out⟩
    · have t5 : (wv == -1) = false := beq_f h1
      by_cases h2 : wv ≤ (fn : Int)
      · clear h1
        go_wp2_with fail
        go_ret
        exact ⟨rfl, HB3.out⟩
      · have h3 := Hw2.out (by omega)
        subst h3
        clear h1
        go_wp2_with fail
        go_ret
        exact ⟨rfl, HB3.out⟩
  · rw [errV_ne hf0]
    clear hf0
    go_wp2_with fail
    go_ret
    exact ⟨rfl, HB1.out⟩
end Go.Proofs.Ytkkfpdjhnffpbaa
