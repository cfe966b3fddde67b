/- The walk of the law ArrayPlays: it returns true. -/
import Derived.Test.YtcldioneiededaaDoorRArN
import Derived.Test.YtcldioneiededaaDoorArB
import Derived.Test.YtcldioneiededaaDoorLift
import Derived.Test.YtcldioneiededaaDoorSlI
import Derived.Test.YtcldioneiededaaDoorBlk
namespace Go.Proofs.YtcldioneiededaaDoor
open Go.ChangeShapes Go.WideShapes Go.ChangeAt Go.RowKit
set_option linter.unusedVariables false
theorem nil_rowP (w : World) : Row w (.slice none 0 0) [] := ⟨none, 0, rfl, Nat.le_refl _, Nat.zero_le _, fun _ => rfl, fun h => by simp at h⟩
theorem drewN_twoP (w : World) (a b : Nat) : (w.drewN a).drewN b = w.drewN (a + b) := by simp [World.drewN, Nat.add_assoc]
theorem strl_eqP (b : ByteArray) : (b.toList == b.toList) = true := by simp
def Rg (x : Int) : Prop := -9223372036854775808 ≤ x ∧ x ≤ 9223372036854775807
theorem Rg.zero : Rg 0 := by unfold Rg; omega
theorem Rg.of_wf {x : Int} (h : (Lit.int .i64 x).wf = true) : Rg x := by
  have := bounds_i64 h
  unfold Rg; omega
def StepWRel (w0 : World) (gq : Nat) (j : Value) (wr : World) : Prop :=
  ∃ (q : Nat) (x y z t : Int), q + gq = 4 ∧ j = iv q ∧ wr = w0.alloc (.cells #[iv x, iv y, iv z, iv t] 64) ∧ Rg y ∧ Rg z
namespace Ar.S
/-- what never turns -/
def Like (n rows size : Nat) (s : S) : Prop := s.n = n ∧ s.rows = rows ∧ s.size = size
variable {n rows size : Nat} {s : S}
theorem like_fail (h : Like n rows size s) (d : Int) : Like n rows size (s.fail d).2 := by
  unfold fail; split
  · split <;> exact h
  · exact h
theorem like_replace (h : Like n rows size s) (d : Int) : Like n rows size (s.replace d).2 := by
  unfold replace; split
  · split <;> exact h
  · exact h
theorem like_rebuild (h : Like n rows size s) (d : Int) : Like n rows size (s.rebuild d).2 := by
  unfold rebuild; split
  · split
    · exact h
    · split <;> exact h
  · exact h
theorem like_write (h : Like n rows size s) (d : Int) (x : ByteArray) : Like n rows size (s.write d x).2 := by
  unfold write; split
  · split
    · split <;> exact h
    · exact h
  · exact h
theorem like_poke (h : Like n rows size s) (d r : Int) (x : ByteArray) : Like n rows size (s.poke d r x).2 := by
  unfold poke; split
  · split
    · split <;> exact h
    · exact h
  · exact h
end Ar.S
/-- the array and the reference's side by side -/
structure PDuo (n rows size K b E c E2 : Nat) (w : World) (s : Ar.S) (wr : World) : Prop where
  like : Ar.S.Like n rows size s
  ary : AryOk (fun p => b ≤ p ∧ p < E) K wr b s
  ref : RAryOk (fun p => c ≤ p ∧ p < E2) wr c s
  bel : Below w.heap.size w wr
  bw : w.heap.size ≤ b
  bE : b < E
  Ec : E ≤ c
  cE : c < E2
  Ew : E2 ≤ wr.heap.size
namespace PDuo
variable {n rows size K b E c E2 : Nat} {w : World} {s s' : Ar.S} {wr w1 w2 : World}
theorem below (h : PDuo n rows size K b E c E2 w s wr) (hb : Below wr.heap.size wr w1) : PDuo n rows size K b E c E2 w s w1 :=
  ⟨h.like, h.ary.below hb, h.ref.below hb, h.bel.trans (hb.mono h.bel.size), h.bw, h.bE, h.Ec, h.cE, Nat.le_trans h.Ew hb.size⟩
theorem more {K' : Nat} (h : PDuo n rows size K b E c E2 w s wr) (hK : K ≤ K') : PDuo n rows size K' b E c E2 w s wr := { h with ary := h.ary.more hK }
/-- the reference first, then the array -/
theorem step {K' : Nat} (h : PDuo n rows size K b E c E2 w s wr) (hl : Ar.S.Like n rows size s') (hr : RAryOk (fun p => c ≤ p ∧ p < E2) w1 c s') (hk1 : Kept (fun p => c ≤ p ∧ p < E2) wr w1) (ha : AryOk (fun p => b ≤ p ∧ p < E) K' w2 b s') (hk2 : Kept (fun p => b ≤ p ∧ p < E) w1 w2) : PDuo n rows size K' b E c E2 w s' w2 := by
  have h1 := h.bw
  have h2 := h.bE
  have h3 := h.Ec
  have h4 := h.Ew
  have hb1 : Below w.heap.size w w1 := h.bel.trans (hk1.toBelow (B := w.heap.size) h.bel.size (fun p _ hh => by have := hh.1; omega))
  refine ⟨hl, ha, hr.kept hk2 (fun p hp hq => by have := hp.1; have := hq.2; omega), hb1.trans (hk2.toBelow (B := w.heap.size) hb1.size (fun p _ hh => by have := hh.1; omega)), h1, h2, h3, h.cE, ?_⟩
  have := hk1.size; have := hk2.size; omega
theorem mid (h : PDuo n rows size K b E c E2 w s wr) (hk1 : Kept (fun p => c ≤ p ∧ p < E2) wr w1) : AryOk (fun p => b ≤ p ∧ p < E) K w1 b s :=
  h.ary.kept hk1 (fun p hp hq => by have := hp.2; have := hq.1; have := h.Ec; omega)
end PDuo
def PRel (n rows size b E c E2 N : Nat) (w : World) (gk : Nat) (v14 : Value) (wr : World) : Prop :=
  ∃ (j : Nat) (s : Ar.S), j + gk = N ∧ j ≤ 60 ∧ v14 = iv j ∧ PDuo n rows size j b E c E2 w s wr
set_option maxRecDepth 100000 in
set_option maxHeartbeats 8000000 in
theorem arrayPlays_yes (n rows size : Nat) (v : Value) (xss : List (List Int)) (h3 : 3 ≤ n) (h10 : n ≤ 10) (h1 : 1 ≤ rows) (h2 : rows ≤ 20) (h4 : 1 ≤ size) (h16 : size ≤ 16) (w : World) (hx : Rows2 w v xss) (hg : Handle w) :
    Calls Tryd.prog 8 #[iv n, iv rows, iv size, v] w fun e w' => e = .returned (.bool true) ∧ Below w.heap.size w w' := by
  have Hg := Lib.hid hg
  have hz4 := zero_int4
  obtain ⟨us, hus, hlen, hrows⟩ := hx
  obtain ⟨po, co, rfl, hc1, hc2, hcells⟩ := hus.shape
  rw [hlen] at *
  have Hrows := Lib.hid hrows
  have Hcells := Lib.hid hcells
  unfold maxLen at hc2
  have hNN : xss.length ≤ 9223372036854775807 := by omega
  generalize hN : xss.length = N at *
  have HN := Lib.hid hN
  clear hus hrows hcells hN
  clear hg
  have HN1 := Lib.hid (aNew_yes n rows size h3 h10 h1 h2 h4 h16 w)
  have HN2 := Lib.hid (fun w' => rNew n rows size h3 h10 h1 h2 h4 h16 w')
  have d1 : decide ((n : Int) < 3) = false := dec_f (by omega)
  have d2 : decide (10 < (n : Int)) = false := dec_f (by omega)
  have d3 : decide ((rows : Int) < 1) = false := dec_f (by omega)
  have d4 : decide (20 < (rows : Int)) = false := dec_f (by omega)
  have d5 : decide ((size : Int) < 1) = false := dec_f (by omega)
  have d6 : decide (16 < (size : Int)) = false := dec_f (by omega)
  go_enter Tryd.func8, Tryd.ntmps8
  go_wp2_with fail
  clear d1 d2 d3 d4 d5 d6
  refine HN1.out.mono ?_
  rintro e w1 ⟨rfl, hA, hB⟩
  obtain ⟨b, hb⟩ : ∃ b, b = w.heap.size := ⟨_, rfl⟩
  have hbE : b < w1.heap.size := by obtain ⟨_, _, _, _, _, _, hat, _⟩ := hA; rw [hb]; exact hat.lt
  have HA1 : Hid (AryOk (fun p => b ≤ p ∧ p < w1.heap.size) 0 w1 b (Ar.s0 n rows size)) := Lib.hid (by rw [hb]; exact hA.wide (fun k hk h => ⟨h, hk⟩))
  have HB1 := Lib.hid hB
  obtain ⟨E, hE⟩ : ∃ E, E = w1.heap.size := ⟨_, rfl⟩
  have HS0 : Hid (Calls Tryd.prog 15 #[.nilIface, iv 0] w1 fun e w' => e = .returned (.bool true) ∧ Below w1.heap.size w1 w') := Lib.hid (same_nil 0 w1)
  rw [← hE] at HA1 hbE
  rw [← hb]
  have hbw : w.heap.size ≤ b := by omega
  have HE9 := Lib.hid hE
  clear hA hB HN1 hE hb
  go_wp2_with fail
  refine HS0.out.mono ?_
  rintro e w2 ⟨rfl, hB2⟩
  have hEz := hB2.size
  have hE9 := HE9.out
  have HA2 := Lib.hid (HA1.out.below hB2)
  have HB2 := Lib.hid (HB1.out.trans (hB2.mono HB1.out.size))
  clear hB2 HA1 hE9
  go_wp2_with fail
  refine (HN2.out w2).mono ?_
  rintro e w3 ⟨rfl, hR, hB3⟩
  have hE9 := HE9.out
  obtain ⟨c, hc⟩ : ∃ c, c = w2.heap.size := ⟨_, rfl⟩
  obtain ⟨E2, hE2⟩ : ∃ E2, E2 = w3.heap.size := ⟨_, rfl⟩
  have hcE : c < E2 := by obtain ⟨_, _, _, _, _, _, _, _, _, _, hat, _⟩ := hR; rw [hc, hE2]; exact hat.lt
  have HKM : Hid (PDuo n rows size 0 b E c E2 w (Ar.s0 n rows size) w3) := Lib.hid ⟨⟨rfl, rfl, rfl⟩, HA2.out.below hB3, by rw [hc]; exact hR.wide (fun k hk h => ⟨h, by rw [hE2]; exact hk⟩), HB2.out.trans (hB3.mono HB2.out.size), hbw, hbE, by omega, hcE, by omega⟩
  rw [← hc]
  clear hR hB3 HN2 HA2 HB2 HB1 hc hE2 hEz hE9
  go_wp2_with fail
  go_loopg [9, 12, 14] N (fun gk v9 v12 v14 wr => PRel n rows size b E c E2 N w gk v14 wr)
  case atStart => exact ⟨0, _, by omega, by omega, rfl, HKM.out⟩
  case round =>
    obtain ⟨wO, hwO⟩ : ∃ x : World, x = wr := ⟨_, rfl⟩
    obtain ⟨gO, hgO⟩ : ∃ x : Nat, x = gk := ⟨_, rfl⟩
    subst hwO hgO
    obtain ⟨j, s, hj, hj60, rfl, hK⟩ := hrel
    clear HKM
    have HKM := Lib.hid hK
    have HWB := Lib.hid hK.bel
    have hEw := hK.Ew
    have hEc := hK.Ec
    clear hK
    have Hj := Lib.hid hj
    by_cases hlt : j < N
    · by_cases hlt60 : j < 60
      · have b60 : decide ((j : Int) < 60) = true := dec_t (by omega)
        obtain ⟨go, oo, hpo, hco⟩ := Hcells.out (by omega)
        obtain ⟨xs, hxs⟩ : ∃ xs, xss[j]? = some xs := ⟨xss[j]'(by rw [HN.out]; exact hlt), List.getElem?_eq_getElem _⟩
        obtain ⟨u, hu, hru, hwf⟩ := Hrows.out j xs hxs
        have hcu := hco j hlt
        rw [hu] at hcu
        obtain ⟨pi, ci, hu2, hi1, hi2, hi3⟩ := hru.shape
        rw [List.length_map] at hu2 hi1 hi3
        rw [hu2] at hcu
        have hlow : go < w.heap.size := World.block_lt_of_cell? w _ hcu
        have fcu : ∀ x y z t : Int, (wO.alloc (.cells #[iv x, iv y, iv z, iv t] 64)).cell? ⟨go, oo + j, none⟩ = some (.slice pi xs.length ci) := by
          intro x y z t
          have h := ((HWB.out.alloc HWB.out.size (.cells #[iv x, iv y, iv z, iv t] 64)).cell (p := ⟨go, oo + j, none⟩) hlow)
          exact h.trans hcu
        have hi2' : xs.length ≤ 9223372036854775807 := by unfold maxLen at hi2; omega
        have Hi3 := Lib.hid hi3
        have Hwf : Hid (∀ x ∈ xs, Rg x) := Lib.hid (fun x hx => Rg.of_wf (hwf x hx))
        rw [hpo]
        have Hpo := Lib.hid hpo
        clear hj hco hxs hu hru hwf hcu hu2 hi3 hpo
        go_upto_block 2 with (fail)
        go_cut [16] (fun _ wq => ∃ x y z t : Int, wq = wO.alloc (.cells #[iv x, iv y, iv z, iv t] 64) ∧ Rg y ∧ Rg z)
        case first => as_aux_lemma =>
          go_wp2_with fail
          go_loopg [16] 4 (fun gq q wq => StepWRel wO gq q wq)
          case atStart => exact ⟨0, 0, 0, 0, 0, rfl, rfl, rfl, Rg.zero, Rg.zero⟩
          case round =>
            obtain ⟨q, x, y, z, t, hq, rfl, rfl, ry, rz⟩ := hrel
            have Ry := Lib.hid ry
            have Rz := Lib.hid rz
            clear ry rz
            have f1 := fcu x y z t
            by_cases hq0 : q < xs.length
            · have hui := List.getElem_mem hq0
              obtain ⟨gi, oi, rfl, hci⟩ := Hi3.out (by omega)
              obtain ⟨u, hu⟩ : ∃ u, u = xs[q] := ⟨_, rfl⟩
              have Ru := Lib.hid (Hwf.out _ hui)
              rw [← hu] at Ru
              have hcz := hci q hq0
              rw [List.getElem?_map, List.getElem?_eq_getElem hq0, ← hu] at hcz
              have hlz : gi < w.heap.size := World.block_lt_of_cell? w _ hcz
              have f2 : (wO.alloc (.cells #[iv x, iv y, iv z, iv t] 64)).cell? ⟨gi, oi + q, none⟩ = some (iv u) :=
                ((HWB.out.alloc HWB.out.size (.cells #[iv x, iv y, iv z, iv t] 64)).cell (p := ⟨gi, oi + q, none⟩) hlz).trans hcz
              clear hci hcz fcu hu hui
              have hq3 : q = 0 ∨ q = 1 ∨ q = 2 ∨ q = 3 ∨ q = 4 := by omega
              rcases hq3 with rfl | rfl | rfl | rfl | rfl
              · rw [Nat.add_zero] at f2
                go_wp2_with fail
                go_roundg 3
                case measure => omega
                case rel => exact ⟨1, u, y, z, t, rfl, rfl, rfl, Ry.out, Rz.out⟩
              · go_wp2_with fail
                go_roundg 2
                case measure => omega
                case rel => exact ⟨2, x, u, z, t, rfl, rfl, rfl, Ru.out, Rz.out⟩
              · go_wp2_with fail
                go_roundg 1
                case measure => omega
                case rel => exact ⟨3, x, y, u, t, rfl, rfl, rfl, Ry.out, Ru.out⟩
              · go_wp2_with fail
                go_roundg 0
                case measure => omega
                case rel => exact ⟨4, x, y, z, u, rfl, rfl, rfl, Ry.out, Rz.out⟩
              · go_wp2_with fail
                go_meet
                exact ⟨x, y, z, t, rfl, Ry.out, Rz.out⟩
            · clear fcu
              go_wp2_with fail
              go_meet
              exact ⟨x, y, z, t, rfl, Ry.out, Rz.out⟩
        case rest =>
          obtain ⟨x, y, z, t, rfl, ry, rz⟩ := hcut
          have Ry := Lib.hid ry
          have Rz := Lib.hid rz
          clear fcu ry rz Hwf
          obtain ⟨D, hD⟩ : ∃ D : Nat, D = wO.heap.size := ⟨_, rfl⟩
          obtain ⟨wA, hwA⟩ : ∃ W : World, W = wO.alloc (.cells #[iv x, iv y, iv z, iv t] 64) := ⟨_, rfl⟩
          have c0 : wA.cell? ⟨D, 0, none⟩ = some (iv x) := by rw [hwA, hD]; simp
          have c1 : wA.cell? ⟨D, 1, none⟩ = some (iv y) := by rw [hwA, hD]; simp
          have c2 : wA.cell? ⟨D, 2, none⟩ = some (iv z) := by rw [hwA, hD]; simp
          have c3 : wA.cell? ⟨D, 3, none⟩ = some (iv t) := by rw [hwA, hD]; simp
          have hDE : E2 ≤ D := by omega
          have HKA : Hid (PDuo n rows size j b E c E2 w s wA) := Lib.hid (by rw [hwA]; exact HKM.out.below ((Below.refl wO.heap.size wO).alloc (Nat.le_refl _) _))
          rw [← hwA, ← hD]
          clear hwA hD HKM HWB
          have hDE2 : E ≤ D := by have := HKA.out.cE; omega
          have HBl := Lib.hid (block_law size h16 t wA)
          have hDl : D < wA.heap.size := World.block_lt_of_cell? _ _ c1
          go_wp2_with fail
          refine HBl.out.mono ?_
          rintro e w7 ⟨q, rfl, hq17, hB7⟩
          have HK7 := Lib.hid (HKA.out.below hB7)
          have e0 := (hB7.cell (p := ⟨D, 0, none⟩) hDl).trans c0
          have e1 := (hB7.cell (p := ⟨D, 1, none⟩) hDl).trans c1
          have e2 := (hB7.cell (p := ⟨D, 2, none⟩) hDl).trans c2
          have hqm : q.size ≤ maxLen := by unfold maxLen; omega
          have Hqm := Lib.hid hqm
          clear hB7 c0 c1 c2 c3 HKA HBl hqm
          go_upto_block 4 with (fail)
          go_cut [12] (fun v12 wq => v12 = .bool true ∧ ∃ wk s', wk = wq ∧ PDuo n rows size (j + 1) b E c E2 w s' wk ∧ wk.cell? ⟨D, 1, none⟩ = some (iv y) ∧ wk.cell? ⟨D, 2, none⟩ = some (iv z))
          case first => as_aux_lemma =>
            obtain ⟨bx, hbx⟩ : ∃ bx : Bool, bx = decide (x = 0 ∨ x = 1) := ⟨_, rfl⟩
            have HBx := Lib.hid hbx
            clear hbx
            go_upto_if 132 with (fail)
            go_cut [132] (fun s wq => s = .bool bx ∧ w7 = wq)
            case first => as_aux_lemma =>
              by_cases h0 : x = 0
              · have HX := Lib.hid (show bx = true by rw [HBx.out]; simp [h0])
                have t0 := beq_t h0
                clear h0
                go_wp2_with fail
                go_meet
                exact ⟨by rw [HX.out, t0], rfl⟩
              · have HX := Lib.hid (show bx = (x == 1) by rw [HBx.out]; simp [h0]; rfl)
                have t0 := beq_f h0
                clear h0
                go_wp2_with fail
                go_meet
                exact ⟨by rw [HX.out], rfl⟩
            case rest =>
            obtain ⟨rfl, rfl⟩ := hcut
            cases bx with
            | true =>
              obtain ⟨cd, hcd⟩ : ∃ cd, cd = (s.write y q).1 := ⟨_, rfl⟩
              have HR := Lib.hid (rWrite HK7.out.ref y Ry.out.2 Ry.out.1 q Hqm.out)
              rw [← hcd] at HR
              have Hcd := Lib.hid hcd
              clear hcd
              go_wp2_with fail
              refine HR.out.mono ?_
              rintro e w8 ⟨rfl, hR8, hK8⟩
              have HA8 := Lib.hid (aWrite (HK7.out.mid hK8) (by omega) y Ry.out.2 Ry.out.1 q Hqm.out)
              rw [← Hcd.out] at HA8
              obtain ⟨ev9, hev9⟩ : ∃ ev9, ev9 = errV cd := ⟨_, rfl⟩
              rw [← hev9] at HA8
              have Hev9 := Lib.hid hev9
              have g1 := hK8.cell e1 (fun h => by have h2 : D < E2 := h.2; omega)
              have g2 := hK8.cell e2 (fun h => by have h2 : D < E2 := h.2; omega)
              have HR8 := Lib.hid hR8
              have HK8 := Lib.hid hK8
              clear hev9 hR8 hK8 e0 e1 e2
              go_wp2_with fail
              refine HA8.out.mono ?_
              rintro e w9 ⟨rfl, hA9, hK9⟩
              have HK9 := Lib.hid ((HK7.out.step (Ar.S.like_write HK7.out.like y q) HR8.out HK8.out hA9 hK9).more (K' := j + 1) (by omega))
              have k1 := hK9.cell g1 (fun h => by have h2 : D < E := h.2; omega)
              have k2 := hK9.cell g2 (fun h => by have h2 : D < E := h.2; omega)
              have hD9 := World.block_lt_of_cell? _ _ k1
              have HSm := Lib.hid (same_eq cd w9 (Hg.out.below (Nat.le_refl _) HK9.out.bel))
              rw [← Hev9.out] at HSm
              clear hA9 hK9 g1 g2
              go_wp2_with fail
              refine HSm.out.mono ?_
              rintro e w10 ⟨rfl, hB10⟩
              have HK10 := Lib.hid (HK9.out.below hB10)
              have M1 := Lib.hid ((hB10.cell (p := ⟨D, 1, none⟩) hD9).trans k1)
              have M2 := Lib.hid ((hB10.cell (p := ⟨D, 2, none⟩) hD9).trans k2)
              clear hB10 k1 k2
              go_wp2_with fail
              go_meet
              exact ⟨rfl, _, _, rfl, HK10.out, M1.out, M2.out⟩
            | false =>
              by_cases hx2 : x = 2
              · have t3 := beq_t hx2
                clear hx2
                obtain ⟨cd, hcd⟩ : ∃ cd, cd = (s.fail y).1 := ⟨_, rfl⟩
                have HR := Lib.hid (rFail HK7.out.ref y)
                rw [← hcd] at HR
                have Hcd := Lib.hid hcd
                clear hcd
                go_wp2_with fail
                refine HR.out.mono ?_
                rintro e w8 ⟨rfl, hR8, hK8⟩
                have HA8 := Lib.hid (aFail (HK7.out.mid hK8) y)
                rw [← Hcd.out] at HA8
                obtain ⟨ev9, hev9⟩ : ∃ ev9, ev9 = errV cd := ⟨_, rfl⟩
                rw [← hev9] at HA8
                have Hev9 := Lib.hid hev9
                have g1 := hK8.cell e1 (fun h => by have h2 : D < E2 := h.2; omega)
                have g2 := hK8.cell e2 (fun h => by have h2 : D < E2 := h.2; omega)
                have HR8 := Lib.hid hR8
                have HK8 := Lib.hid hK8
                clear hev9 hR8 hK8 e0 e1 e2
                go_wp2_with fail
                refine HA8.out.mono ?_
                rintro e w9 ⟨rfl, hA9, hK9⟩
                have HK9 := Lib.hid ((HK7.out.step (Ar.S.like_fail HK7.out.like y) HR8.out HK8.out hA9 hK9).more (K' := j + 1) (by omega))
                have k1 := hK9.cell g1 (fun h => by have h2 : D < E := h.2; omega)
                have k2 := hK9.cell g2 (fun h => by have h2 : D < E := h.2; omega)
                have hD9 := World.block_lt_of_cell? _ _ k1
                have HSm := Lib.hid (same_eq cd w9 (Hg.out.below (Nat.le_refl _) HK9.out.bel))
                rw [← Hev9.out] at HSm
                clear hA9 hK9 g1 g2
                go_wp2_with fail
                refine HSm.out.mono ?_
                rintro e w10 ⟨rfl, hB10⟩
                have HK10 := Lib.hid (HK9.out.below hB10)
                have M1 := Lib.hid ((hB10.cell (p := ⟨D, 1, none⟩) hD9).trans k1)
                have M2 := Lib.hid ((hB10.cell (p := ⟨D, 2, none⟩) hD9).trans k2)
                clear hB10 k1 k2
                go_wp2_with fail
                go_meet
                exact ⟨rfl, _, _, rfl, HK10.out, M1.out, M2.out⟩
              · have t2 := beq_f hx2
                by_cases hx3 : x = 3
                · have t3 := beq_t hx3
                  clear hx2 hx3
                  obtain ⟨cd, hcd⟩ : ∃ cd, cd = (s.replace y).1 := ⟨_, rfl⟩
                  have HR := Lib.hid (rReplace HK7.out.ref y)
                  rw [← hcd] at HR
                  have Hcd := Lib.hid hcd
                  clear hcd
                  go_wp2_with fail
                  refine HR.out.mono ?_
                  rintro e w8 ⟨rfl, hR8, hK8⟩
                  have HA8 := Lib.hid (aReplace (HK7.out.mid hK8) y)
                  rw [← Hcd.out] at HA8
                  obtain ⟨ev9, hev9⟩ : ∃ ev9, ev9 = errV cd := ⟨_, rfl⟩
                  rw [← hev9] at HA8
                  have Hev9 := Lib.hid hev9
                  have g1 := hK8.cell e1 (fun h => by have h2 : D < E2 := h.2; omega)
                  have g2 := hK8.cell e2 (fun h => by have h2 : D < E2 := h.2; omega)
                  have HR8 := Lib.hid hR8
                  have HK8 := Lib.hid hK8
                  clear hev9 hR8 hK8 e0 e1 e2
                  go_wp2_with fail
                  refine HA8.out.mono ?_
                  rintro e w9 ⟨rfl, hA9, hK9⟩
                  have HK9 := Lib.hid ((HK7.out.step (Ar.S.like_replace HK7.out.like y) HR8.out HK8.out hA9 hK9).more (K' := j + 1) (by omega))
                  have k1 := hK9.cell g1 (fun h => by have h2 : D < E := h.2; omega)
                  have k2 := hK9.cell g2 (fun h => by have h2 : D < E := h.2; omega)
                  have hD9 := World.block_lt_of_cell? _ _ k1
                  have HSm := Lib.hid (same_eq cd w9 (Hg.out.below (Nat.le_refl _) HK9.out.bel))
                  rw [← Hev9.out] at HSm
                  clear hA9 hK9 g1 g2
                  go_wp2_with fail
                  refine HSm.out.mono ?_
                  rintro e w10 ⟨rfl, hB10⟩
                  have HK10 := Lib.hid (HK9.out.below hB10)
                  have M1 := Lib.hid ((hB10.cell (p := ⟨D, 1, none⟩) hD9).trans k1)
                  have M2 := Lib.hid ((hB10.cell (p := ⟨D, 2, none⟩) hD9).trans k2)
                  clear hB10 k1 k2
                  go_wp2_with fail
                  go_meet
                  exact ⟨rfl, _, _, rfl, HK10.out, M1.out, M2.out⟩
                · have t3 := beq_f hx3
                  by_cases hx4 : x = 4
                  · have t4 := beq_t hx4
                    clear hx2 hx3 hx4
                    obtain ⟨kx, hkx⟩ : ∃ kx, kx = (s.rebuild y).1.1 := ⟨_, rfl⟩
                    obtain ⟨cd, hcd⟩ : ∃ cd, cd = (s.rebuild y).1.2 := ⟨_, rfl⟩
                    have HR := Lib.hid (rRebuild HK7.out.ref y)
                    unfold RRbPost at HR
                    rw [← hcd, ← hkx] at HR
                    have Hcd := Lib.hid hcd
                    have Hkx := Lib.hid hkx
                    clear hcd hkx
                    go_wp2_with fail
                    refine HR.out.mono ?_
                    rintro e w8 ⟨rfl, hR8, hK8⟩
                    have HA8 := Lib.hid (aRebuild (HK7.out.mid hK8) (by omega) y)
                    unfold RbPost at HA8
                    rw [← Hcd.out, ← Hkx.out] at HA8
                    obtain ⟨ev9, hev9⟩ : ∃ ev9, ev9 = errV cd := ⟨_, rfl⟩
                    rw [← hev9] at HA8
                    have Hev9 := Lib.hid hev9
                    have g1 := hK8.cell e1 (fun h => by have h2 : D < E2 := h.2; omega)
                    have g2 := hK8.cell e2 (fun h => by have h2 : D < E2 := h.2; omega)
                    have HR8 := Lib.hid hR8
                    have HK8 := Lib.hid hK8
                    clear hev9 hR8 hK8 e0 e1 e2
                    go_wp2_with fail
                    refine HA8.out.mono ?_
                    rintro e w9 ⟨rfl, hA9, hK9⟩
                    have HK9 := Lib.hid ((HK7.out.step (Ar.S.like_rebuild HK7.out.like y) HR8.out HK8.out hA9 hK9).more (K' := j + 1) (by omega))
                    have k1 := hK9.cell g1 (fun h => by have h2 : D < E := h.2; omega)
                    have k2 := hK9.cell g2 (fun h => by have h2 : D < E := h.2; omega)
                    have hD9 := World.block_lt_of_cell? _ _ k1
                    have HSm := Lib.hid (same_eq cd w9 (Hg.out.below (Nat.le_refl _) HK9.out.bel))
                    rw [← Hev9.out] at HSm
                    clear hA9 hK9 g1 g2
                    go_wp2_with fail
                    refine HSm.out.mono ?_
                    rintro e w10 ⟨rfl, hB10⟩
                    have HK10 := Lib.hid (HK9.out.below hB10)
                    have M1 := Lib.hid ((hB10.cell (p := ⟨D, 1, none⟩) hD9).trans k1)
                    have M2 := Lib.hid ((hB10.cell (p := ⟨D, 2, none⟩) hD9).trans k2)
                    clear hB10 k1 k2
                    go_wp2_with fail
                    go_meet
                    exact ⟨rfl, _, _, rfl, HK10.out, M1.out, M2.out⟩
                  · have t4 := beq_f hx4
                    clear hx2 hx3 hx4
                    obtain ⟨cd, hcd⟩ : ∃ cd, cd = (s.poke y z q).1 := ⟨_, rfl⟩
                    have HR := Lib.hid (rPoke HK7.out.ref y z q Hqm.out)
                    rw [← hcd] at HR
                    have Hcd := Lib.hid hcd
                    clear hcd
                    go_wp2_with fail
                    refine HR.out.mono ?_
                    rintro e w8 ⟨rfl, hR8, hK8⟩
                    have HA8 := Lib.hid (aPoke (HK7.out.mid hK8) (by omega) y z q Hqm.out)
                    rw [← Hcd.out] at HA8
                    obtain ⟨ev9, hev9⟩ : ∃ ev9, ev9 = errV cd := ⟨_, rfl⟩
                    rw [← hev9] at HA8
                    have Hev9 := Lib.hid hev9
                    have g1 := hK8.cell e1 (fun h => by have h2 : D < E2 := h.2; omega)
                    have g2 := hK8.cell e2 (fun h => by have h2 : D < E2 := h.2; omega)
                    have HR8 := Lib.hid hR8
                    have HK8 := Lib.hid hK8
                    clear hev9 hR8 hK8 e0 e1 e2
                    go_wp2_with fail
                    refine HA8.out.mono ?_
                    rintro e w9 ⟨rfl, hA9, hK9⟩
                    have HK9 := Lib.hid ((HK7.out.step (Ar.S.like_poke HK7.out.like y z q) HR8.out HK8.out hA9 hK9).more (K' := j + 1) (by omega))
                    have k1 := hK9.cell g1 (fun h => by have h2 : D < E := h.2; omega)
                    have k2 := hK9.cell g2 (fun h => by have h2 : D < E := h.2; omega)
                    have hD9 := World.block_lt_of_cell? _ _ k1
                    have HSm := Lib.hid (same_eq cd w9 (Hg.out.below (Nat.le_refl _) HK9.out.bel))
                    rw [← Hev9.out] at HSm
                    clear hA9 hK9 g1 g2
                    go_wp2_with fail
                    refine HSm.out.mono ?_
                    rintro e w10 ⟨rfl, hB10⟩
                    have HK10 := Lib.hid (HK9.out.below hB10)
                    have M1 := Lib.hid ((hB10.cell (p := ⟨D, 1, none⟩) hD9).trans k1)
                    have M2 := Lib.hid ((hB10.cell (p := ⟨D, 2, none⟩) hD9).trans k2)
                    clear hB10 k1 k2
                    go_wp2_with fail
                    go_meet
                    exact ⟨rfl, _, _, rfl, HK10.out, M1.out, M2.out⟩
          case rest =>
            obtain ⟨rfl, wk, s', hwk, hK2, g1, g2⟩ := hcut
            subst hwk
            clear HK7 e0 e1 e2
            have HK2 := Lib.hid hK2
            clear hK2
            -- what is read
            obtain ⟨rb, hrb⟩ : ∃ rb, rb = (s'.read y).1 := ⟨_, rfl⟩
            obtain ⟨re, hre⟩ : ∃ re, re = (s'.read y).2 := ⟨_, rfl⟩
            have HR := Lib.hid (rRead HK2.out.ref y Ry.out.2 Ry.out.1)
            rw [← hrb, ← hre] at HR
            have Hrb := Lib.hid hrb
            have Hre := Lib.hid hre
            clear hrb hre
            go_wp2_with fail
            refine HR.out.mono ?_
            rintro e w8 ⟨rfl, hB8⟩
            have HK3 := Lib.hid (HK2.out.below hB8)
            have HA := Lib.hid (aRead HK3.out.ary y Ry.out.2 Ry.out.1)
            rw [← Hrb.out, ← Hre.out] at HA
            obtain ⟨ev9, hev9⟩ : ∃ ev9, ev9 = errV re := ⟨_, rfl⟩
            rw [← hev9] at HA
            have Hev9 := Lib.hid hev9
            have hD7 := World.block_lt_of_cell? _ _ g1
            have k1 := (hB8.cell (p := ⟨D, 1, none⟩) hD7).trans g1
            have k2 := (hB8.cell (p := ⟨D, 2, none⟩) hD7).trans g2
            clear hB8 hev9 HR HK2 g1 g2
            go_wp2_with fail
            refine HA.out.mono ?_
            rintro e w9 ⟨rfl, hB9⟩
            have HK4 := Lib.hid (HK3.out.below hB9)
            have HSm := Lib.hid (same_eq re w9 (Hg.out.below (Nat.le_refl _) HK4.out.bel))
            rw [← Hev9.out] at HSm
            have hD8 := World.block_lt_of_cell? _ _ k2
            have g2 := (hB9.cell (p := ⟨D, 2, none⟩) hD8).trans k2
            clear hB9 HA HK3 k1 k2
            go_wp2_with fail
            refine HSm.out.mono ?_
            rintro e w10 ⟨rfl, hB10⟩
            have HK5 := Lib.hid (HK4.out.below hB10)
            have hD9 := World.block_lt_of_cell? _ _ g2
            have k2 := (hB10.cell (p := ⟨D, 2, none⟩) hD9).trans g2
            have hsl := strl_eqP rb
            clear hB10 HSm HK4 g2
            obtain ⟨bz, hbz⟩ : ∃ bz : Bool, bz = decide (z < 0 ∨ (rows : Int) ≤ z) := ⟨_, rfl⟩
            have Hbz := Lib.hid hbz
            clear hbz
            go_upto_region 42 with (fail)
            go_cut [225] (fun s wq => s = .bool bz ∧ w10 = wq)
            case first => as_aux_lemma =>
              by_cases h0 : z < 0
              · have HX := Lib.hid (show bz = true by rw [Hbz.out]; exact dec_t (Or.inl h0))
                have t0 := dec_t h0
                clear h0
                go_wp2_with fail
                go_meet
                exact ⟨by rw [HX.out], rfl⟩
              · by_cases h1 : (rows : Int) ≤ z
                · have HX := Lib.hid (show bz = true by rw [Hbz.out]; exact dec_t (Or.inr h1))
                  have t0 := dec_f h0
                  have t1 := dec_t h1
                  clear h0 h1
                  go_wp2_with fail
                  go_meet
                  exact ⟨by rw [HX.out], rfl⟩
                · have HX := Lib.hid (show bz = false by rw [Hbz.out]; exact dec_f (fun h => h.elim h0 h1))
                  have t0 := dec_f h0
                  have t1 := dec_f h1
                  clear h0 h1
                  go_wp2_with fail
                  go_meet
                  exact ⟨by rw [HX.out], rfl⟩
            case rest =>
            obtain ⟨rfl, rfl⟩ := hcut
            obtain ⟨rf, hrf⟩ : ∃ rf, rf = s'.rawF z := ⟨_, rfl⟩
            obtain ⟨ln, hln⟩ : ∃ ln, ln = s'.lostN z := ⟨_, rfl⟩
            obtain ⟨ps, hps⟩ : ∃ ps, ps = s'.rawP z := ⟨_, rfl⟩
            obtain ⟨ms, hms⟩ : ∃ ms, ms = s'.rawM z := ⟨_, rfl⟩
            have Hrf := Lib.hid hrf
            have Hln := Lib.hid hln
            have Hps := Lib.hid hps
            have Hms := Lib.hid hms
            clear hrf hln hps hms
            go_upto_if 225 with (fail)
            go_cut [23, 27, 28, 29] (fun v23 v27 v28 v29 wq => ∃ wk, wk = wq ∧ v23 = iv rf ∧ v27 = iv ln ∧ Strs wk v28 ps ∧ BoolR wk v29 ms ∧ PDuo n rows size (j + 1) b E c E2 w s' wk ∧ wk.cell? ⟨D, 2, none⟩ = some (iv z))
            case first => as_aux_lemma =>
              cases bz with
              | true =>
                have hnr : ¬ s'.hasRow z := fun h => by
                  have h1 := of_decide_eq_true Hbz.out.symm
                  have h2 := HK5.out.like.2.1
                  unfold Ar.S.hasRow at h
                  rw [h2] at h
                  omega
                have q1 : rf = 1 := by rw [Hrf.out]; exact if_neg hnr
                have q2 : ln = 0 := by rw [Hln.out]; exact if_neg hnr
                have q3 : ps = [] := by rw [Hps.out]; exact if_neg hnr
                have q4 : ms = [] := by rw [Hms.out]; exact if_neg hnr
                have Q := Lib.hid (And.intro q1 (And.intro q2 (And.intro q3 q4)))
                clear hnr q1 q2 q3 q4
                go_wp2_with fail
                go_meet
                exact ⟨_, rfl, by rw [Q.out.1], by rw [Q.out.2.1]; rfl, by rw [Q.out.2.2.1]; exact nil_rowP _, by rw [Q.out.2.2.2]; exact nil_rowP _, HK5.out, k2⟩
              | false =>
                have hnr : s'.hasRow z := by
                  have h1 := of_decide_eq_false Hbz.out.symm
                  have h2 := HK5.out.like.2.1
                  unfold Ar.S.hasRow
                  rw [h2]
                  omega
                have q1 : rf = 0 := by rw [Hrf.out]; exact if_pos hnr
                have q2 : ln = s'.many z.toNat := by rw [Hln.out]; exact if_pos hnr
                have q3 : ps = s'.parts z.toNat := by rw [Hps.out]; exact if_pos hnr
                have q4 : ms = s'.marks z.toNat := by rw [Hms.out]; exact if_pos hnr
                have Q := Lib.hid (And.intro q1 (And.intro q2 (And.intro q3 q4)))
                obtain ⟨q, hq, hqr⟩ := Ar.S.hasRow_nat hnr
                have HRl := Lib.hid (rLost HK5.out.ref q hqr)
                have HRw := Lib.hid (rRaw HK5.out.ref q hqr)
                rw [show s'.many q = ln by rw [q2, hq]; rfl] at HRl
                unfold RRawPost at HRw
                rw [show s'.parts q = ps by rw [q3, hq]; rfl, show s'.marks q = ms by rw [q4, hq]; rfl, ← hq] at HRw
                rw [← hq] at HRl
                clear hnr q1 q2 q3 q4 hq hqr
                go_wp2_with fail
                refine HRl.out.mono ?_
                rintro e wl ⟨rfl, rfl⟩
                go_wp2_with fail
                refine HRw.out.mono ?_
                rintro e w11 ⟨v1, v2, rfl, hP, hM, hB11⟩
                have hD10 := World.block_lt_of_cell? _ _ k2
                have g2 := (hB11.cell (p := ⟨D, 2, none⟩) hD10).trans k2
                have HP := Lib.hid (row_of_owns hP).1
                have HM := Lib.hid (row_of_owns hM).1
                have HK6 := Lib.hid (HK5.out.below hB11)
                clear hP hM hB11 k2
                go_wp2_with fail
                go_meet
                exact ⟨_, rfl, by rw [Q.out.1], rfl, HP.out, HM.out, HK6.out, g2⟩
            case rest =>
            obtain ⟨wk, hwk, rfl, rfl, hP, hM, hK6, k2⟩ := hcut
            subst hwk
            clear HK5
            have HK6 := Lib.hid hK6
            have HP := Lib.hid hP
            have HM := Lib.hid hM
            clear hK6 hP hM
            -- how many are lost
            have HL := Lib.hid (aLost HK6.out.ary z)
            rw [← Hrf.out, ← Hln.out] at HL
            obtain ⟨evr, hevr⟩ : ∃ evr, evr = errV rf := ⟨_, rfl⟩
            rw [← hevr] at HL
            have Hevr := Lib.hid hevr
            clear hevr
            go_wp2_with fail
            refine HL.out.mono ?_
            rintro e wl ⟨rfl, rfl⟩
            have HSm := Lib.hid (same_eq rf wk (Hg.out.below (Nat.le_refl _) HK6.out.bel))
            rw [← Hevr.out] at HSm
            clear HL
            go_wp2_with fail
            refine HSm.out.mono ?_
            rintro e w12 ⟨rfl, hB12⟩
            have HK7 := Lib.hid (HK6.out.below hB12)
            have HP7 := Lib.hid (HP.out.below hB12)
            have HM7 := Lib.hid (HM.out.below hB12)
            have hD12 := World.block_lt_of_cell? _ _ k2
            have g2 := (hB12.cell (p := ⟨D, 2, none⟩) hD12).trans k2
            have HW := Lib.hid (aRaw HK7.out.ary z)
            unfold RawPost at HW
            rw [← Hrf.out, ← Hps.out, ← Hms.out, ← Hevr.out] at HW
            clear HSm HK6 HP HM hB12 k2
            go_wp2_with fail
            refine HW.out.mono ?_
            rintro e w13 ⟨v1, v2, rfl, hP, hM, hB13⟩
            have HK8 := Lib.hid (HK7.out.below hB13)
            have HP8 := Lib.hid (HP7.out.below hB13)
            have HM8 := Lib.hid (HM7.out.below hB13)
            have HQ8 := Lib.hid (row_of_owns hP).1
            have HN8 := Lib.hid (row_of_owns hM).1
            have HSm := Lib.hid (same_eq rf w13 (Hg.out.below (Nat.le_refl _) HK8.out.bel))
            rw [← Hevr.out] at HSm
            clear HW HK7 HP7 HM7 hP hM hB13 g2
            go_wp2_with fail
            refine HSm.out.mono ?_
            rintro e w14 ⟨rfl, hB14⟩
            have HK9 := Lib.hid (HK8.out.below hB14)
            have HTx := Lib.hid (texts_eq ps v1 u28 w14 (HQ8.out.below hB14) (HP8.out.below hB14))
            have HBx := Lib.hid (fun k => bools_eq ms v2 u29 (w14.drewN k) (HN8.out.below (bdrew hB14 k)) (HM8.out.below (bdrew hB14 k)))
            clear HSm HK8 HP8 HM8 HQ8 HN8 hB14
            go_wp2_with fail
            refine HTx.out.mono ?_
            rintro e w15 ⟨rfl, n15, rfl⟩
            go_wp2_with fail
            refine (HBx.out n15).mono ?_
            rintro e w16 ⟨rfl, n16, rfl⟩
            have HK10 := Lib.hid (HK9.out.below (bdrew (Below.refl _ _) (n15 + n16)))
            clear HK9 HTx HBx
            go_wp2_with fail
            rw [← Hpo.out]
            go_roundg (gO - 1)
            case measure => have := Hj.out; omega
            case rel => exact ⟨j + 1, s', by have := Hj.out; omega, by omega, by go_num, by first | exact HK10.out | (rw [drewN_twoP]; exact HK10.out)⟩
      · have hNj : 60 = j := by omega
        have b60 : decide ((j : Int) < 60) = false := dec_f (by omega)
        go_wp2_with fail
        go_ret
        exact ⟨rfl, HWB.out⟩
    · have hNj : j = N := by omega
      subst hNj
      go_wp2_with fail
      go_ret
      exact ⟨rfl, HWB.out⟩
set_option maxRecDepth 100000 in
set_option maxHeartbeats 4000000 in
theorem arrayPlays_no (n rows size : Int) (v : Value) (h : aNewF n rows size ≠ 0) (w : World) (hg : Handle w) :
    Calls Tryd.prog 8 #[iv n, iv rows, iv size, v] w fun e w' => e = .returned (.bool true) ∧ Below w.heap.size w w' := by
  have HN := Lib.hid (aNew_no n rows size h w)
  have Hg := Lib.hid hg
  have Hc : Hid (n < 3 ∨ 10 < n ∨ rows < 1 ∨ 20 < rows ∨ size < 1 ∨ 16 < size) := Lib.hid (by
    apply Classical.byContradiction; intro hc; exact h (by unfold aNewF; exact if_neg hc))
  clear h hg
  go_enter Tryd.func8, Tryd.ntmps8
  go_upto_region 2 with (fail)
  go_cut [56] (fun z wq => z = .bool true ∧ w = wq)
  case first => as_aux_lemma =>
    by_cases c1 : n < 3
    · have d1 := dec_t c1
      clear c1
      go_wp2_with fail
      go_meet
      exact ⟨rfl, rfl⟩
    · by_cases c2 : 10 < n
      · have d1 := dec_f c1
        have d2 := dec_t c2
        clear c1 c2
        go_wp2_with fail
        go_meet
        exact ⟨rfl, rfl⟩
      · by_cases c3 : rows < 1
        · have d1 := dec_f c1
          have d2 := dec_f c2
          have d3 := dec_t c3
          clear c1 c2 c3
          go_wp2_with fail
          go_meet
          exact ⟨rfl, rfl⟩
        · by_cases c4 : 20 < rows
          · have d1 := dec_f c1
            have d2 := dec_f c2
            have d3 := dec_f c3
            have d4 := dec_t c4
            clear c1 c2 c3 c4
            go_wp2_with fail
            go_meet
            exact ⟨rfl, rfl⟩
          · by_cases c5 : size < 1
            · have d1 := dec_f c1
              have d2 := dec_f c2
              have d3 := dec_f c3
              have d4 := dec_f c4
              have d5 := dec_t c5
              clear c1 c2 c3 c4 c5
              go_wp2_with fail
              go_meet
              exact ⟨rfl, rfl⟩
            · have c6 : 16 < size := by have := Hc.out; omega
              have d1 := dec_f c1
              have d2 := dec_f c2
              have d3 := dec_f c3
              have d4 := dec_f c4
              have d5 := dec_f c5
              have d6 := dec_t c6
              clear c1 c2 c3 c4 c5 c6
              go_wp2_with fail
              go_meet
              exact ⟨rfl, rfl⟩
  case rest =>
    obtain ⟨rfl, rfl⟩ := hcut
    clear Hc
    go_wp2_with fail
    refine HN.out.mono ?_
    rintro e w1 ⟨rfl, hB⟩
    have HSm := Lib.hid (same_eq 1 w1 (Hg.out.below (Nat.le_refl _) hB))
    rw [errV_ne (by decide)] at HSm
    have HB := Lib.hid hB
    clear hB HN
    go_wp2_with fail
    refine HSm.out.mono ?_
    rintro e w2 ⟨rfl, hB2⟩
    have HB2 := Lib.hid (HB.out.trans (hB2.mono HB.out.size))
    clear hB2
    go_wp2_with fail
    go_ret
    exact ⟨rfl, HB2.out⟩
theorem arrayPlays_walk (n rows size : Int) (v : Value) (hn : (Lit.int .i64 n).wf = true) (hr : (Lit.int .i64 rows).wf = true) (hs : (Lit.int .i64 size).wf = true) (w : World) (hg : Handle w) (hx : ∃ xss, Rows2 w v xss) :
    Calls Tryd.prog 8 #[iv n, iv rows, iv size, v] w fun e w' => e = .returned (.bool true) ∧ Below w.heap.size w w' := by
  obtain ⟨xss, hx⟩ := hx
  by_cases h : aNewF n rows size = 0
  · have hc : 3 ≤ n ∧ n ≤ 10 ∧ 1 ≤ rows ∧ rows ≤ 20 ∧ 1 ≤ size ∧ size ≤ 16 := by
      unfold aNewF at h
      by_cases hc : n < 3 ∨ 10 < n ∨ rows < 1 ∨ 20 < rows ∨ size < 1 ∨ 16 < size
      · rw [if_pos hc] at h; exact absurd h (by decide)
      · omega
    obtain ⟨m, rfl⟩ : ∃ m : Nat, n = m := ⟨n.toNat, by omega⟩
    obtain ⟨r, rfl⟩ : ∃ r : Nat, rows = r := ⟨rows.toNat, by omega⟩
    obtain ⟨z, rfl⟩ : ∃ z : Nat, size = z := ⟨size.toNat, by omega⟩
    exact arrayPlays_yes m r z v xss (by omega) (by omega) (by omega) (by omega) (by omega) (by omega) w hx hg
  · exact arrayPlays_no n rows size v h w hg
end Go.Proofs.YtcldioneiededaaDoor
