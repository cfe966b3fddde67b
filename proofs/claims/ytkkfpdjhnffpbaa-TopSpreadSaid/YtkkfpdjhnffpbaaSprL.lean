/- The walk of the law TopSpread: it returns true. -/
import Derived.Test.YtkkfpdjhnffpbaaSprP
import Derived.Test.YtkkfpdjhnffpbaaOddC
import Derived.Test.YtkkfpdjhnffpbaaOddY
import Derived.Test.YtkkfpdjhnffpbaaOne
namespace Go.Proofs.Ytkkfpdjhnffpbaa
open Go.ChangeShapes Go.WideShapes Go.ChangeAt Go.RowKit
set_option linter.unusedVariables false
theorem wf_ofS {n : Int} (h : 0 ≤ n) (h2 : n ≤ 9223372036854775807) : (Lit.int .i64 n).wf = true := by
  simp [Lit.wf, IntKind.min, IntKind.max, IntKind.signed, IntKind.bits]; omega
theorem rows2_one {w : World} {v : Value} {xs : List Int} (h : Row w v (xs.map iv)) (hw : ∀ n ∈ xs, (Lit.int .i64 n).wf = true) : Rows2 (w.alloc (.cells #[v] 32)) (.slice (some ⟨w.heap.size, 0, none⟩) 1 1) [xs] := by
  have hb : Below w.heap.size w (w.alloc (.cells #[v] 32)) := (Below.refl _ _).alloc (Nat.le_refl _) _
  refine ⟨[v], ⟨some ⟨w.heap.size, 0, none⟩, 1, rfl, Nat.le_refl _, by decide, (fun h => by cases h), fun _ => ⟨w.heap.size, 0, rfl, fun j hj => ?_⟩⟩, rfl, fun i ys hy => ?_⟩
  · rw [cell_of_row _ _ _ _ _ _ (heap_alloc_new w _), Nat.zero_add]
    have hj2 : j < 1 := hj
    obtain rfl : j = 0 := by omega
    rfl
  · obtain rfl : i = 0 := by have := (List.getElem?_eq_some_iff.1 hy).1; simp at this; omega
    simp at hy
    subst hy
    exact ⟨v, rfl, h.below hb, hw⟩
set_option maxRecDepth 100000 in
set_option maxHeartbeats 4000000 in
theorem topSpread_walk (n wd m row : Int) (hn : (Lit.int .i64 n).wf = true) (hwd : (Lit.int .i64 wd).wf = true) (hm : (Lit.int .i64 m).wf = true) (hr : (Lit.int .i64 row).wf = true) (w : World) :
    Calls Try.prog 5 #[iv n, iv wd, iv m, iv row] w fun e w' => e = .returned (.bool true) ∧ Below w.heap.size w w' := by
  have C0 := Lib.hid (one_any w)
  have C1 := Lib.hid (fun w' => place_tot n wd m w')
  clear hn hwd hm hr
  rcases Pl.plF_cases n wd m with hF | ⟨hF, a, b, c, rfl, rfl, rfl, h1, h2, h3, h4, h5⟩
  · rw [hF, errV_ne (by decide)] at C1
    clear hF
    go_enter Try.func5, Try.ntmps5
    go_wp2_with fail
    refine C0.out.mono ?_
    rintro e w1 ⟨rfl, hb1⟩
    have HB1 := Lib.hid hb1
    clear hb1 C0
    go_wp2_with fail
    refine (C1.out w1).mono ?_
    rintro e w2 ⟨v, rfl, hb2, _⟩
    have HB2 := Lib.hid (HB1.out.trans (hb2.mono HB1.out.size))
    clear hb2 HB1 C1
    go_wp2_with fail
    go_ret
    exact ⟨rfl, HB2.out⟩
  · have hpl : Pl.plL a b c = (Pl.st a b c).map ci := by unfold Pl.plL; rw [if_pos hF]; rfl
    rw [hF, errV_0, hpl] at C1
    have hck := (Pl.st_chk (n := a) (w := b) (k := c) h1 h2 h5).1
    have hwe : Od.woE a ((Pl.st a b c).map ci) 2 = 0 := by unfold Od.woE; rw [if_neg (by rw [hck]; simp), if_neg (by omega)]
    have hwv : Od.woV a ((Pl.st a b c).map ci) 2 = Od.worst a (Pl.st a b c) 2 := by unfold Od.woV; rw [if_pos hwe, Int.toNat_natCast, Od.natss_ciS]
    have C2 := Lib.hid (fun v w' hv => oworst_tot (a : Int) ((Pl.st a b c).map ci) 2 v w' hv)
    unfold OdPost at C2
    rw [hwe, hwv, errV_0] at C2
    obtain ⟨W, hW⟩ : ∃ W, W = Od.worst a (Pl.st a b c) 2 := ⟨_, rfl⟩
    rw [← hW] at C2
    have HW : Hid ((b < 3 ∨ c = 0) ∧ W = -1 ∨ 3 ≤ b ∧ 0 < c ∧ 2 < W) := Lib.hid (by
      by_cases hs : b < 3 ∨ c = 0
      · exact .inl ⟨hs, by rw [hW, Pl.worst_few h2 h4 hs]⟩
      · exact .inr ⟨by omega, by omega, by rw [hW]; exact Pl.worst_many h2 h4 (by omega) (by omega)⟩)
    clear hF hpl hck hwe hwv hW
    go_enter Try.func5, Try.ntmps5
    go_wp2_with fail
    refine C0.out.mono ?_
    rintro e w1 ⟨rfl, hb1⟩
    have HB1 := Lib.hid hb1
    clear hb1 C0
    go_wp2_with fail
    refine (C1.out w1).mono ?_
    rintro e w2 ⟨v2, rfl, hb2, hr2⟩
    have HB2 := Lib.hid (HB1.out.trans (hb2.mono HB1.out.size))
    have HC2 := Lib.hid (C2.out v2 w2 hr2)
    clear hb2 hr2 HB1 C1 C2
    go_wp2_with fail
    refine HC2.out.mono ?_
    rintro e w3 ⟨rfl, hb3⟩
    have HB3 := Lib.hid (HB2.out.trans (hb3.mono HB2.out.size))
    clear hb3 HB2 HC2
    go_upto_region 8 with (fail)
    go_cut [56] (fun z wq => z = .bool false ∧ w3 = wq)
    case first => as_aux_lemma =>
      rcases HW.out with ⟨hs, rfl⟩ | ⟨hb3, hc0, hw2⟩
      · by_cases hb3 : (b : Int) < 3
        · have t1 := dec_t hb3
          clear hs hb3
          go_wp2_with fail
          go_meet
          exact ⟨rfl, rfl⟩
        · have t1 := dec_f hb3
          have t2 : ((c : Int) == 0) = true := beq_t (by omega)
          clear hs hb3
          go_wp2_with fail
          go_meet
          exact ⟨rfl, rfl⟩
      · have t0 : decide (0 ≤ W) = true := dec_t (by omega)
        have t1 : decide (W < 3) = false := dec_f (by omega)
        have t2 : decide (W < 0) = false := dec_f (by omega)
        have t3 : decide ((b : Int) < 3) = false := dec_f (by omega)
        have t4 : ((c : Int) == 0) = false := beq_f (by omega)
        clear hb3 hc0 hw2
        go_wp2_with fail
        go_meet
        exact ⟨rfl, rfl⟩
    case rest =>
    obtain ⟨rfl, rfl⟩ := hcut
    clear HW
    have hz3 := HB3.out.size
    by_cases hn3 : (a : Int) < 3
    · have CO := Lib.hid (order_no1 (a : Int) row (.inl hn3) w3)
      clear hn3
      go_wp2_with fail
      refine CO.out.mono ?_
      rintro e w4 ⟨rfl, rfl⟩
      go_wp2_with fail
      go_ret
      exact ⟨rfl, HB3.out⟩
    · by_cases hrw : row < 0 ∨ 0 ≤ row ∧ 20 ≤ row
      · have CO := Lib.hid (order_no2 (a : Int) row (by omega) (by omega) hrw w3)
        clear hn3 hrw
        go_wp2_with fail
        refine CO.out.mono ?_
        rintro e w4 ⟨rfl, rfl⟩
        go_wp2_with fail
        go_ret
        exact ⟨rfl, HB3.out⟩
      · have CO := Lib.hid (order_yes (a : Int) row (by omega) (by omega) (by omega) (by omega) w3)
        unfold OrderPost at CO
        rw [Int.toNat_natCast, Lay.ords_iv] at CO
        obtain ⟨g1, g2⟩ := Lay.ords_good (n := a) (row := row) (by omega) (by omega) (by omega)
        obtain ⟨g3, g4, g5⟩ := Lay.ords_nats (n := a) (row := row) (by omega) (by omega) (by omega)
        obtain ⟨o, ho⟩ : ∃ o, o = Lay.ords a row := ⟨_, rfl⟩
        rw [← ho] at CO g1 g2 g3 g4 g5
        have hck : Od.chk (a : Int) [o] = 0 := Od.chk_ok (by omega) (by omega) (by simp) (fun s hs => by
          obtain rfl := List.mem_singleton.1 hs
          exact ⟨g1, g2⟩)
        have hfe : Od.faE a [o] 3 2 = 0 := by unfold Od.faE; rw [if_neg (by rw [hck]; simp), if_neg (by omega)]
        have hfv : Od.faV a [o] 3 2 = (Od.ch a 3 : Int) := by
          unfold Od.faV
          rw [if_pos hfe, Int.toNat_natCast]
          show (Od.cnt a [Od.nats o] 2 3 : Int) = _
          rw [Od.cnt_row (by omega) (by omega) (by decide) g3 g4 g5]
        have hce : Od.chE a 3 = 0 := by unfold Od.chE; rw [if_neg (by omega)]
        have hcv : Od.chV a 3 = (Od.ch a 3 : Int) := by unfold Od.chV; rw [if_pos hce]; rfl
        have C3 := Lib.hid (fun W => choose_tot (a : Int) 3 W)
        have C4 := Lib.hid (fun v w' hv => ofatal_tot (a : Int) [o] 3 2 v w' hv)
        unfold OdPost at C4
        rw [hce, hcv, errV_0] at C3
        rw [hfe, hfv, errV_0] at C4
        obtain ⟨A, hA⟩ : ∃ A, A = Od.ch a 3 := ⟨_, rfl⟩
        rw [← hA] at C3 C4
        have hwf : ∀ x ∈ o, (Lit.int .i64 x).wf = true := fun x hx => wf_ofS (g2 x hx).1 (by have := (g2 x hx).2; omega)
        have Hwf := Lib.hid hwf
        clear hn3 hrw g1 g2 g3 g4 g5 ho hck hfe hfv hce hcv hA hwf
        go_wp2_with fail
        refine CO.out.mono ?_
        rintro e w4 ⟨v4, rfl, hO, hb4⟩
        obtain ⟨pv, nv, cv, hv4⟩ := (OwnR.of_owns hO).slice
        subst hv4
        have HB4 := Lib.hid (HB3.out.trans (hb4.mono hz3))
        have hR := rows2_one (w := w4) (v := .slice pv nv cv) (row_of_owns hO).1 Hwf.out
        have HC4 := Lib.hid (C4.out _ _ hR)
        have HB5 : Hid (Below w.heap.size w (w4.alloc (.cells #[.slice pv nv cv] 32))) := Lib.hid (HB4.out.alloc HB4.out.size _)
        clear hO hb4 hR HB4 CO C4
        go_wp2_with fail
        refine HC4.out.mono ?_
        rintro e w5 ⟨rfl, hb5⟩
        have HB6 := Lib.hid (HB5.out.trans (hb5.mono HB5.out.size))
        clear hb5 HB5 HC4
        go_wp2_with fail
        refine (C3.out _).mono ?_
        rintro e w6 ⟨rfl, rfl⟩
        go_wp2_with fail
        go_ret
        exact ⟨rfl, HB6.out⟩
end Go.Proofs.Ytkkfpdjhnffpbaa
