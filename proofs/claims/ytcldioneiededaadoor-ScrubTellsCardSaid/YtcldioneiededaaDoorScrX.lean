/- The walk of the law ScrubTells: it returns true. -/
import Derived.Test.YtcldioneiededaaDoorRArN
import Derived.Test.YtcldioneiededaaDoorScrS
import Derived.Test.YtcldioneiededaaDoorArB
import Derived.Test.YtcldioneiededaaDoorLift
import Derived.Test.YtcldioneiededaaDoorSlI
import Derived.Test.YtcldioneiededaaDoorBlk
namespace Go.Proofs.YtcldioneiededaaDoor
open Go.ChangeShapes Go.WideShapes Go.ChangeAt Go.RowKit
set_option linter.unusedVariables false
theorem nil_rowP (w : World) : Row w (.slice none 0 0) [] := ⟨none, 0, rfl, Nat.le_refl _, Nat.zero_le _, fun _ => rfl, fun h => by simp at h⟩
theorem drewN_twoP (w : World) (a b : Nat) : (w.drewN a).drewN b = w.drewN (a + b) := by simp [World.drewN, Nat.add_assoc]
theorem strl_eqP (b : ByteArray) : (b.toList == b.toList) = true := by simp
def Rg (x : Int) : Prop := -9223372036854775808 ≤ x ∧ x ≤ 9223372036854775807
theorem Rg.zero : Rg 0 := by unfold Rg; omega
theorem Rg.of_wf {x : Int} (h : (Lit.int .i64 x).wf = true) : Rg x := by
  have := bounds_i64 h
  unfold Rg; omega
def StepWRel (w0 : World) (gq : Nat) (j : Value) (wr : World) : Prop :=
  ∃ (q : Nat) (x y z t : Int), q + gq = 4 ∧ j = iv q ∧ wr = w0.alloc (.cells #[iv x, iv y, iv z, iv t] 64) ∧ Rg y ∧ Rg z
namespace Ar.S
/-- what never turns -/
def Like (n rows size : Nat) (s : S) : Prop := s.n = n ∧ s.rows = rows ∧ s.size = size
variable {n rows size : Nat} {s : S}
theorem like_fail (h : Like n rows size s) (d : Int) : Like n rows size (s.fail d).2 := by
  unfold fail; split
  · split <;> exact h
  · exact h
theorem like_replace (h : Like n rows size s) (d : Int) : Like n rows size (s.replace d).2 := by
  unfold replace; split
  · split <;> exact h
  · exact h
theorem like_rebuild (h : Like n rows size s) (d : Int) : Like n rows size (s.rebuild d).2 := by
  unfold rebuild; split
  · split
    · exact h
    · split <;> exact h
  · exact h
theorem like_write (h : Like n rows size s) (d : Int) (x : ByteArray) : Like n rows size (s.write d x).2 := by
  unfold write; split
  · split
    · split <;> exact h
    · exact h
  · exact h
theorem like_poke (h : Like n rows size s) (d r : Int) (x : ByteArray) : Like n rows size (s.poke d r x).2 := by
  unfold poke; split
  · split
    · split <;> exact h
    · exact h
  · exact h
end Ar.S
namespace Ar.S
theorem like_scrubAt {n rows size : Nat} {s : S} (h : Like n rows size s) (r : Nat) : Like n rows size (s.scrubAt r).2 := by
  have e := scrubAt_same s r
  exact ⟨e.1.trans h.1, e.2.1.trans h.2.1, e.2.2.1.trans h.2.2⟩
theorem like_scrub {n rows size : Nat} {s : S} (h : Like n rows size s) (m r : Int) : Like n rows size (s.scrub m r).2 := by
  unfold scrub
  split
  · exact h
  · split
    · exact h
    · split
      · exact h
      · exact like_scrubAt h _
theorem like_scrubTo {n rows size : Nat} {s : S} (h : Like n rows size s) : ∀ k, Like n rows size (s.scrubTo k).1
  | 0 => h
  | k + 1 => like_scrubAt (like_scrubTo h k) k
theorem scrubAt_zero (s : S) (r : Nat) (h : (s.scrubAt r).1.2 ≠ 0) : (s.scrubAt r).1.1 = 0 := by
  unfold scrubAt at h ⊢
  split
  · rfl
  · rename_i h1
    rw [if_neg h1] at h
    split
    · rename_i h2
      rw [if_pos h2] at h
      exact absurd rfl h
    · rename_i h2
      rw [if_neg h2] at h
      split
      · rfl
      · rename_i i hi
        rw [hi] at h
        exact absurd rfl h
end Ar.S
theorem rawF_inT {s : Ar.S} {r : Nat} (h : r < s.rows) : s.rawF (r : Int) = 0 ∧ s.rawP (r : Int) = s.parts r := by
  have hr : s.hasRow (r : Int) := ⟨by omega, by omega⟩
  unfold Ar.S.rawF Ar.S.rawP
  rw [if_pos hr, if_pos hr, Int.toNat_natCast]
  exact ⟨rfl, rfl⟩
/-- two arrays and two of the reference's, side by side -/
structure SQ (n rows size K a Ea b Eb x Ex y Ey : Nat) (w : World) (sa sb sx sy : Ar.S) (wr : World) : Prop where
  la : Ar.S.Like n rows size sa
  lb : Ar.S.Like n rows size sb
  lx : Ar.S.Like n rows size sx
  ly : Ar.S.Like n rows size sy
  A : AryOk (fun p => a ≤ p ∧ p < Ea) K wr a sa
  B : AryOk (fun p => b ≤ p ∧ p < Eb) K wr b sb
  X : RAryOk (fun p => x ≤ p ∧ p < Ex) wr x sx
  Y : RAryOk (fun p => y ≤ p ∧ p < Ey) wr y sy
  bel : Below w.heap.size w wr
  o : w.heap.size ≤ a ∧ a < Ea ∧ Ea ≤ b ∧ b < Eb ∧ Eb ≤ x ∧ x < Ex ∧ Ex ≤ y ∧ y < Ey ∧ Ey ≤ wr.heap.size
namespace SQ
variable {n rows size K K' a Ea b Eb x Ex y Ey : Nat} {w : World} {sa sb sx sy s' : Ar.S} {wr w' : World}
theorem kept {T : Nat → Prop} (h : SQ n rows size K a Ea b Eb x Ex y Ey w sa sb sx sy wr) (hk : Kept T wr w') (hT : ∀ p, T p → Ey ≤ p) : SQ n rows size K a Ea b Eb x Ex y Ey w sa sb sx sy w' := by
  have o := h.o
  exact ⟨h.la, h.lb, h.lx, h.ly, h.A.kept hk (fun p hp hq => by have := hT p hq; have := hp.2; omega), h.B.kept hk (fun p hp hq => by have := hT p hq; have := hp.2; omega), h.X.kept hk (fun p hp hq => by have := hT p hq; have := hp.2; omega), h.Y.kept hk (fun p hp hq => by have := hT p hq; have := hp.2; omega), h.bel.trans (hk.toBelow (B := w.heap.size) h.bel.size (fun p _ hh => by have := hT p hh; omega)), by have := hk.size; omega⟩
theorem below (h : SQ n rows size K a Ea b Eb x Ex y Ey w sa sb sx sy wr) (hb : Below wr.heap.size wr w') : SQ n rows size K a Ea b Eb x Ex y Ey w sa sb sx sy w' :=
  h.kept (Kept.new (fun _ => False) hb) (fun _ h => h.elim)
theorem more (h : SQ n rows size K a Ea b Eb x Ex y Ey w sa sb sx sy wr) (hK : K ≤ K') : SQ n rows size K' a Ea b Eb x Ex y Ey w sa sb sx sy wr := { h with A := h.A.more hK, B := h.B.more hK }
theorem stA (h : SQ n rows size K a Ea b Eb x Ex y Ey w sa sb sx sy wr) (hl : Ar.S.Like n rows size s') (ha : AryOk (fun p => a ≤ p ∧ p < Ea) K' w' a s') (hk : Kept (fun p => a ≤ p ∧ p < Ea) wr w') (hK : K ≤ K') : SQ n rows size K' a Ea b Eb x Ex y Ey w s' sb sx sy w' := by
  have o := h.o
  exact ⟨hl, h.lb, h.lx, h.ly, ha, (h.B.kept hk (fun p hp hq => by have := hp.1; have := hq.2; omega)).more hK, h.X.kept hk (fun p hp hq => by have := hp.1; have := hq.2; omega), h.Y.kept hk (fun p hp hq => by have := hp.1; have := hq.2; omega), h.bel.trans (hk.toBelow (B := w.heap.size) h.bel.size (fun p _ hh => by have := hh.1; omega)), by have := hk.size; omega⟩
theorem stB (h : SQ n rows size K a Ea b Eb x Ex y Ey w sa sb sx sy wr) (hl : Ar.S.Like n rows size s') (hb : AryOk (fun p => b ≤ p ∧ p < Eb) K' w' b s') (hk : Kept (fun p => b ≤ p ∧ p < Eb) wr w') (hK : K ≤ K') : SQ n rows size K' a Ea b Eb x Ex y Ey w sa s' sx sy w' := by
  have o := h.o
  exact ⟨h.la, hl, h.lx, h.ly, (h.A.kept hk (fun p hp hq => by have := hp.2; have := hq.1; omega)).more hK, hb, h.X.kept hk (fun p hp hq => by have := hp.1; have := hq.2; omega), h.Y.kept hk (fun p hp hq => by have := hp.1; have := hq.2; omega), h.bel.trans (hk.toBelow (B := w.heap.size) h.bel.size (fun p _ hh => by have := hh.1; omega)), by have := hk.size; omega⟩
theorem stX (h : SQ n rows size K a Ea b Eb x Ex y Ey w sa sb sx sy wr) (hl : Ar.S.Like n rows size s') (hx : RAryOk (fun p => x ≤ p ∧ p < Ex) w' x s') (hk : Kept (fun p => x ≤ p ∧ p < Ex) wr w') : SQ n rows size K a Ea b Eb x Ex y Ey w sa sb s' sy w' := by
  have o := h.o
  exact ⟨h.la, h.lb, hl, h.ly, h.A.kept hk (fun p hp hq => by have := hp.2; have := hq.1; omega), h.B.kept hk (fun p hp hq => by have := hp.2; have := hq.1; omega), hx, h.Y.kept hk (fun p hp hq => by have := hp.1; have := hq.2; omega), h.bel.trans (hk.toBelow (B := w.heap.size) h.bel.size (fun p _ hh => by have := hh.1; omega)), by have := hk.size; omega⟩
theorem stY (h : SQ n rows size K a Ea b Eb x Ex y Ey w sa sb sx sy wr) (hl : Ar.S.Like n rows size s') (hy : RAryOk (fun p => y ≤ p ∧ p < Ey) w' y s') (hk : Kept (fun p => y ≤ p ∧ p < Ey) wr w') : SQ n rows size K a Ea b Eb x Ex y Ey w sa sb sx s' w' := by
  have o := h.o
  exact ⟨h.la, h.lb, h.lx, hl, h.A.kept hk (fun p hp hq => by have := hp.2; have := hq.1; omega), h.B.kept hk (fun p hp hq => by have := hp.2; have := hq.1; omega), h.X.kept hk (fun p hp hq => by have := hp.2; have := hq.1; omega), hy, h.bel.trans (hk.toBelow (B := w.heap.size) h.bel.size (fun p _ hh => by have := hh.1; omega)), by have := hk.size; omega⟩
end SQ
def TRel (n rows size a Ea b Eb x Ex y Ey N : Nat) (w : World) (gk : Nat) (v : Value) (wr : World) : Prop :=
  ∃ (j : Nat) (s : Ar.S), j + gk = N ∧ j ≤ 40 ∧ v = iv j ∧ SQ n rows size (2 * j) a Ea b Eb x Ex y Ey w s s s s wr
def URel (n rows size a Ea b Eb x Ex y Ey D : Nat) (w : World) (t s : Ar.S) (gk : Nat) (v27 v28 : Value) (wr : World) : Prop :=
  ∃ r : Nat, r + gk = rows ∧ v28 = iv r ∧ wr.ownsRow D 29 2 v27 (s.scrubTo r).2.length (spc (s.scrubTo r).2) ∧ SQ n rows size 100 a Ea b Eb x Ex y Ey w t s t (s.scrubTo r).1 wr ∧ D ≤ wr.heap.size
set_option maxRecDepth 100000 in
set_option maxHeartbeats 8000000 in
theorem scrubTells_yes (n rows size : Nat) (m row : Int) (v : Value) (xss : List (List Int)) (h3 : 3 ≤ n) (h10 : n ≤ 10) (h1 : 1 ≤ rows) (h2 : rows ≤ 20) (h4 : 1 ≤ size) (h16 : size ≤ 16) (w : World) (hx : Rows2 w v xss) (hg : Handle w) :
    Calls Tryd.prog 9 #[iv n, iv rows, iv size, v, iv m, iv row] w fun e w' => e = .returned (.bool true) ∧ Below w.heap.size w w' := by
  have Hg := Lib.hid hg
  have hz4 := zero_int4
  obtain ⟨us, hus, hlen, hrows⟩ := hx
  obtain ⟨po, co, rfl, hc1, hc2, hcells⟩ := hus.shape
  rw [hlen] at *
  have Hrows := Lib.hid hrows
  have Hcells := Lib.hid hcells
  unfold maxLen at hc2
  have hNN : xss.length ≤ 9223372036854775807 := by omega
  generalize hN : xss.length = N at *
  have HN := Lib.hid hN
  clear hus hrows hcells hN
  clear hg
  have HN1 := Lib.hid (fun w' => aNew_yes n rows size h3 h10 h1 h2 h4 h16 w')
  have HN2 := Lib.hid (fun w' => rNew n rows size h3 h10 h1 h2 h4 h16 w')
  have d1 : decide ((n : Int) < 3) = false := dec_f (by omega)
  have d2 : decide (10 < (n : Int)) = false := dec_f (by omega)
  have d3 : decide ((rows : Int) < 1) = false := dec_f (by omega)
  have d4 : decide (20 < (rows : Int)) = false := dec_f (by omega)
  have d5 : decide ((size : Int) < 1) = false := dec_f (by omega)
  have d6 : decide (16 < (size : Int)) = false := dec_f (by omega)
  go_enter Tryd.func9, Tryd.ntmps9
  go_wp2_with fail
  refine (HN1.out w).mono ?_
  rintro e w1 ⟨rfl, hA, hB1⟩
  obtain ⟨a, ha⟩ : ∃ a, a = w.heap.size := ⟨_, rfl⟩
  obtain ⟨b, hb⟩ : ∃ b, b = w1.heap.size := ⟨_, rfl⟩
  have hab : a < b := by obtain ⟨_, _, _, _, _, _, hat, _⟩ := hA; rw [hb, ha]; exact hat.lt
  have HA1 : Hid (AryOk (fun p => a ≤ p ∧ p < b) 0 w1 a (Ar.s0 n rows size)) := Lib.hid (by rw [ha, hb]; exact hA.wide (fun k hk h => ⟨h, hk⟩))
  have HB1 := Lib.hid hB1
  have Ha := Lib.hid ha
  have Hb := Lib.hid hb
  rw [← ha]
  clear hA hB1 ha hb
  go_wp2_with fail
  refine (HN1.out w1).mono ?_
  rintro e w2 ⟨rfl, hA, hB2⟩
  obtain ⟨x, hx⟩ : ∃ x, x = w2.heap.size := ⟨_, rfl⟩
  have hbx : b < x := by obtain ⟨_, _, _, _, _, _, hat, _⟩ := hA; rw [hx, Hb.out]; exact hat.lt
  have HA2 : Hid (AryOk (fun p => b ≤ p ∧ p < x) 0 w2 b (Ar.s0 n rows size)) := Lib.hid (by rw [Hb.out, hx]; exact hA.wide (fun k hk h => ⟨h, hk⟩))
  have HA1b := Lib.hid (HA1.out.below hB2)
  have HB2 := Lib.hid (HB1.out.trans (hB2.mono (by rw [← Hb.out, ← Ha.out]; omega)))
  have Hx := Lib.hid hx
  rw [← Hb.out]
  clear hA hB2 hx HA1 HB1 HN1
  go_wp2_with fail
  clear d1 d2 d3 d4 d5 d6
  refine (HN2.out w2).mono ?_
  rintro e w3 ⟨rfl, hR, hB3⟩
  obtain ⟨y, hy⟩ : ∃ y, y = w3.heap.size := ⟨_, rfl⟩
  have hxy : x < y := by obtain ⟨_, _, _, _, _, _, _, _, _, _, hat, _⟩ := hR; rw [hy, Hx.out]; exact hat.lt
  have HR1 : Hid (RAryOk (fun p => x ≤ p ∧ p < y) w3 x (Ar.s0 n rows size)) := Lib.hid (by rw [Hx.out, hy]; exact hR.wide (fun k hk h => ⟨h, hk⟩))
  have HA1c := Lib.hid (HA1b.out.below hB3)
  have HA2c := Lib.hid (HA2.out.below hB3)
  have HB3 := Lib.hid (HB2.out.trans (hB3.mono (by rw [← Hx.out, ← Ha.out]; omega)))
  have Hy := Lib.hid hy
  rw [← Hx.out]
  clear hR hB3 hy HA1b HA2 HB2
  go_wp2_with fail
  refine (HN2.out w3).mono ?_
  rintro e w4 ⟨rfl, hR, hB4⟩
  obtain ⟨Ey, hEy⟩ : ∃ Ey, Ey = w4.heap.size := ⟨_, rfl⟩
  have hyE : y < Ey := by obtain ⟨_, _, _, _, _, _, _, _, _, _, hat, _⟩ := hR; rw [hEy, Hy.out]; exact hat.lt
  have HKM : Hid (SQ n rows size 0 a b b x x y y Ey w (Ar.s0 n rows size) (Ar.s0 n rows size) (Ar.s0 n rows size) (Ar.s0 n rows size) w4) := Lib.hid ⟨⟨rfl, rfl, rfl⟩, ⟨rfl, rfl, rfl⟩, ⟨rfl, rfl, rfl⟩, ⟨rfl, rfl, rfl⟩, HA1c.out.below hB4, HA2c.out.below hB4, HR1.out.below hB4, by rw [Hy.out, hEy]; exact hR.wide (fun k hk h => ⟨h, hk⟩), HB3.out.trans (hB4.mono (by rw [← Hy.out, ← Ha.out]; omega)), by rw [← hEy, ← Ha.out]; omega⟩
  obtain ⟨Ea, hEa⟩ : ∃ Ea, Ea = b := ⟨_, rfl⟩
  obtain ⟨Eb, hEb⟩ : ∃ Eb, Eb = x := ⟨_, rfl⟩
  obtain ⟨Ex, hEx⟩ : ∃ Ex, Ex = y := ⟨_, rfl⟩
  have HS0 : Hid (SQ n rows size (2 * 0) a Ea b Eb x Ex y Ey w (Ar.s0 n rows size) (Ar.s0 n rows size) (Ar.s0 n rows size) (Ar.s0 n rows size) w4) := Lib.hid (by rw [hEa, hEb, hEx]; exact HKM.out)
  rw [← Hy.out]
  clear hR hB4 hEy HR1 HA1c HA2c HB3 HN2 HKM hEa hEb hEx Ha Hb Hx Hy hab hbx hxy hyE
  go_upto_block 0 with (fail)
  go_cut [] (fun wq => ∃ wk s, wk = wq ∧ SQ n rows size 80 a Ea b Eb x Ex y Ey w s s s s wk)
  case first => as_aux_lemma =>
    go_wp2_with fail
    go_loopg [19] N (fun gk v19 wr => TRel n rows size a Ea b Eb x Ex y Ey N w gk v19 wr)
    case atStart => exact ⟨0, _, by omega, by omega, rfl, HS0.out⟩
    case round =>
      obtain ⟨wO, hwO⟩ : ∃ x : World, x = wr := ⟨_, rfl⟩
      obtain ⟨gO, hgO⟩ : ∃ x : Nat, x = gk := ⟨_, rfl⟩
      subst hwO hgO
      obtain ⟨j, s, hj, hj40, rfl, hK⟩ := hrel
      clear HS0
      have HSO := Lib.hid hK
      have HWB := Lib.hid hK.bel
      have hoO := hK.o
      clear hK
      have Hj := Lib.hid hj
      by_cases hlt : j < N
      · by_cases hlt40 : j < 40
        · have b40 : decide ((j : Int) < 40) = true := dec_t (by omega)
          obtain ⟨go, oo, hpo, hco⟩ := Hcells.out (by omega)
          obtain ⟨xs, hxs⟩ : ∃ xs, xss[j]? = some xs := ⟨xss[j]'(by rw [HN.out]; exact hlt), List.getElem?_eq_getElem _⟩
          obtain ⟨u, hu, hru, hwf⟩ := Hrows.out j xs hxs
          have hcu := hco j hlt
          rw [hu] at hcu
          obtain ⟨pi, ci, hu2, hi1, hi2, hi3⟩ := hru.shape
          rw [List.length_map] at hu2 hi1 hi3
          rw [hu2] at hcu
          have hlow : go < w.heap.size := World.block_lt_of_cell? w _ hcu
          have fcu : ∀ x y z t : Int, (wO.alloc (.cells #[iv x, iv y, iv z, iv t] 64)).cell? ⟨go, oo + j, none⟩ = some (.slice pi xs.length ci) := by
            intro x y z t
            have h := ((HWB.out.alloc HWB.out.size (.cells #[iv x, iv y, iv z, iv t] 64)).cell (p := ⟨go, oo + j, none⟩) hlow)
            exact h.trans hcu
          have hi2' : xs.length ≤ 9223372036854775807 := by unfold maxLen at hi2; omega
          have Hi3 := Lib.hid hi3
          have Hwf : Hid (∀ x ∈ xs, Rg x) := Lib.hid (fun x hx => Rg.of_wf (hwf x hx))
          rw [hpo]
          have Hpo := Lib.hid hpo
          clear hj hco hxs hu hru hwf hcu hu2 hi3 hpo
          go_upto_block 2 with (fail)
          go_cut [21] (fun _ wq => ∃ x y z t : Int, wq = wO.alloc (.cells #[iv x, iv y, iv z, iv t] 64) ∧ Rg y ∧ Rg z)
          case first => as_aux_lemma =>
            go_wp2_with fail
            go_loopg [21] 4 (fun gq q wq => StepWRel wO gq q wq)
            case atStart => exact ⟨0, 0, 0, 0, 0, rfl, rfl, rfl, Rg.zero, Rg.zero⟩
            case round =>
              obtain ⟨q, x, y, z, t, hq, rfl, rfl, ry, rz⟩ := hrel
              have Ry := Lib.hid ry
              have Rz := Lib.hid rz
              clear ry rz
              have f1 := fcu x y z t
              by_cases hq0 : q < xs.length
              · have hui := List.getElem_mem hq0
                obtain ⟨gi, oi, rfl, hci⟩ := Hi3.out (by omega)
                obtain ⟨u, hu⟩ : ∃ u, u = xs[q] := ⟨_, rfl⟩
                have Ru := Lib.hid (Hwf.out _ hui)
                rw [← hu] at Ru
                have hcz := hci q hq0
                rw [List.getElem?_map, List.getElem?_eq_getElem hq0, ← hu] at hcz
                have hlz : gi < w.heap.size := World.block_lt_of_cell? w _ hcz
                have f2 : (wO.alloc (.cells #[iv x, iv y, iv z, iv t] 64)).cell? ⟨gi, oi + q, none⟩ = some (iv u) :=
                  ((HWB.out.alloc HWB.out.size (.cells #[iv x, iv y, iv z, iv t] 64)).cell (p := ⟨gi, oi + q, none⟩) hlz).trans hcz
                clear hci hcz fcu hu hui
                have hq3 : q = 0 ∨ q = 1 ∨ q = 2 ∨ q = 3 ∨ q = 4 := by omega
                rcases hq3 with rfl | rfl | rfl | rfl | rfl
                · rw [Nat.add_zero] at f2
                  go_wp2_with fail
                  go_roundg 3
                  case measure => omega
                  case rel => exact ⟨1, u, y, z, t, rfl, rfl, rfl, Ry.out, Rz.out⟩
                · go_wp2_with fail
                  go_roundg 2
                  case measure => omega
                  case rel => exact ⟨2, x, u, z, t, rfl, rfl, rfl, Ru.out, Rz.out⟩
                · go_wp2_with fail
                  go_roundg 1
                  case measure => omega
                  case rel => exact ⟨3, x, y, u, t, rfl, rfl, rfl, Ry.out, Ru.out⟩
                · go_wp2_with fail
                  go_roundg 0
                  case measure => omega
                  case rel => exact ⟨4, x, y, z, u, rfl, rfl, rfl, Ry.out, Rz.out⟩
                · go_wp2_with fail
                  go_meet
                  exact ⟨x, y, z, t, rfl, Ry.out, Rz.out⟩
              · clear fcu
                go_wp2_with fail
                go_meet
                exact ⟨x, y, z, t, rfl, Ry.out, Rz.out⟩
          case rest =>
            obtain ⟨cx, cy, cz, ct, rfl, ry, rz⟩ := hcut
            have Ry := Lib.hid ry
            clear fcu ry rz Hwf
            obtain ⟨D, hD⟩ : ∃ D : Nat, D = wO.heap.size := ⟨_, rfl⟩
            obtain ⟨wA, hwA⟩ : ∃ W : World, W = wO.alloc (.cells #[iv cx, iv cy, iv cz, iv ct] 64) := ⟨_, rfl⟩
            have c0 : wA.cell? ⟨D, 0, none⟩ = some (iv cx) := by rw [hwA, hD]; simp
            have c1 : wA.cell? ⟨D, 1, none⟩ = some (iv cy) := by rw [hwA, hD]; simp
            have c2 : wA.cell? ⟨D, 2, none⟩ = some (iv cz) := by rw [hwA, hD]; simp
            have c3 : wA.cell? ⟨D, 3, none⟩ = some (iv ct) := by rw [hwA, hD]; simp
            have hDE : Ey ≤ D := by rw [hD]; omega
            have HSA := Lib.hid (show SQ n rows size (2 * j) a Ea b Eb x Ex y Ey w s s s s wA by rw [hwA]; exact HSO.out.below ((Below.refl wO.heap.size wO).alloc (Nat.le_refl _) _))
            rw [← hwA, ← hD]
            clear hwA hD HSO HWB hoO
            have HBl := Lib.hid (block_law size h16 ct wA)
            have hDl : D < wA.heap.size := World.block_lt_of_cell? _ _ c1
            go_wp2_with fail
            refine HBl.out.mono ?_
            rintro e w7 ⟨q, rfl, hq17, hB7⟩
            have HS7 := Lib.hid (HSA.out.below hB7)
            have p0 := (hB7.cell (p := ⟨D, 0, none⟩) hDl).trans c0
            have p7 := (hB7.cell (p := ⟨D, 1, none⟩) hDl).trans c1
            have q7 := (hB7.cell (p := ⟨D, 2, none⟩) hDl).trans c2
            have hqm : q.size ≤ maxLen := by unfold maxLen; omega
            have Hqm := Lib.hid hqm
            clear hB7 c0 c1 c2 c3 HSA HBl hqm hDl
            obtain ⟨bx, hbx⟩ : ∃ bx : Bool, bx = decide (cx = 0 ∨ cx = 1) := ⟨_, rfl⟩
            have HBx := Lib.hid hbx
            clear hbx
            go_upto_if 166 with (fail)
            go_cut [166] (fun s wq => s = .bool bx ∧ w7 = wq)
            case first => as_aux_lemma =>
              by_cases h0 : cx = 0
              · have HX := Lib.hid (show bx = true by rw [HBx.out]; simp [h0])
                have t0 := beq_t h0
                clear h0
                go_wp2_with fail
                go_meet
                exact ⟨by rw [HX.out, t0], rfl⟩
              · have HX := Lib.hid (show bx = (cx == 1) by rw [HBx.out]; simp [h0]; rfl)
                have t0 := beq_f h0
                clear h0
                go_wp2_with fail
                go_meet
                exact ⟨by rw [HX.out], rfl⟩
            case rest =>
            obtain ⟨rfl, rfl⟩ := hcut
            cases bx with
            | true =>
              have HLk := Lib.hid (Ar.S.like_write HS7.out.la cy q)
              clear p0
              have HC8 := Lib.hid (aWrite HS7.out.A (by omega) cy Ry.out.2 Ry.out.1 q Hqm.out)
              go_wp2_with fail
              refine HC8.out.mono ?_
              rintro e w8 ⟨rfl, h1, h2⟩
              have p8 := h2.cell p7 (fun h => by have h3 : D < Ea := h.2; have o := HS7.out.o; omega)
              have q8 := h2.cell q7 (fun h => by have h3 : D < Ea := h.2; have o := HS7.out.o; omega)
              have HS8 := Lib.hid (HS7.out.stA HLk.out h1 h2 (by omega))
              clear h1 h2 p7 q7 HC8
              clear HS7
              have HC9 := Lib.hid (aWrite HS8.out.B (by omega) cy Ry.out.2 Ry.out.1 q Hqm.out)
              go_wp2_with fail
              refine HC9.out.mono ?_
              rintro e w9 ⟨rfl, h1, h2⟩
              have p9 := h2.cell p8 (fun h => by have h3 : D < Eb := h.2; have o := HS8.out.o; omega)
              have q9 := h2.cell q8 (fun h => by have h3 : D < Eb := h.2; have o := HS8.out.o; omega)
              have HS9 := Lib.hid (HS8.out.stB HLk.out h1 h2 (by omega))
              clear h1 h2 p8 q8 HC9
              clear HS8
              have HC10 := Lib.hid (rWrite HS9.out.X cy Ry.out.2 Ry.out.1 q Hqm.out)
              go_wp2_with fail
              refine HC10.out.mono ?_
              rintro e w10 ⟨rfl, h1, h2⟩
              have p10 := h2.cell p9 (fun h => by have h3 : D < Ex := h.2; have o := HS9.out.o; omega)
              have q10 := h2.cell q9 (fun h => by have h3 : D < Ex := h.2; have o := HS9.out.o; omega)
              have HS10 := Lib.hid (HS9.out.stX HLk.out h1 h2)
              clear h1 h2 p9 q9 HC10
              clear HS9
              have HC11 := Lib.hid (rWrite HS10.out.Y cy Ry.out.2 Ry.out.1 q Hqm.out)
              go_wp2_with fail
              refine HC11.out.mono ?_
              rintro e w11 ⟨rfl, h1, h2⟩
              have p11 := h2.cell p10 (fun h => by have h3 : D < Ey := h.2; have o := HS10.out.o; omega)
              have q11 := h2.cell q10 (fun h => by have h3 : D < Ey := h.2; have o := HS10.out.o; omega)
              have HS11 := Lib.hid (HS10.out.stY HLk.out h1 h2)
              clear h1 h2 p10 q10 HC11
              clear HS10
              have HS12 := Lib.hid (HS11.out.more (K' := 2 * (j + 1)) (by omega))
              clear HS11 p11 q11
              go_wp2_with fail
              rw [← Hpo.out]
              go_roundg (gO - 1)
              case measure => have := Hj.out; omega
              case rel => exact ⟨j + 1, _, by have := Hj.out; omega, by omega, by go_num, HS12.out⟩
            | false =>
              by_cases hx2 : cx = 2
              · have t3 := beq_t hx2
                clear hx2
                have HLk := Lib.hid (Ar.S.like_fail HS7.out.la cy)
                clear p0
                have HC8 := Lib.hid (aFail HS7.out.A cy)
                go_wp2_with fail
                refine HC8.out.mono ?_
                rintro e w8 ⟨rfl, h1, h2⟩
                have p8 := h2.cell p7 (fun h => by have h3 : D < Ea := h.2; have o := HS7.out.o; omega)
                have q8 := h2.cell q7 (fun h => by have h3 : D < Ea := h.2; have o := HS7.out.o; omega)
                have HS8 := Lib.hid (HS7.out.stA HLk.out h1 h2 (by omega))
                clear h1 h2 p7 q7 HC8
                clear HS7
                have HC9 := Lib.hid (aFail HS8.out.B cy)
                go_wp2_with fail
                refine HC9.out.mono ?_
                rintro e w9 ⟨rfl, h1, h2⟩
                have p9 := h2.cell p8 (fun h => by have h3 : D < Eb := h.2; have o := HS8.out.o; omega)
                have q9 := h2.cell q8 (fun h => by have h3 : D < Eb := h.2; have o := HS8.out.o; omega)
                have HS9 := Lib.hid (HS8.out.stB HLk.out h1 h2 (by omega))
                clear h1 h2 p8 q8 HC9
                clear HS8
                have HC10 := Lib.hid (rFail HS9.out.X cy)
                go_wp2_with fail
                refine HC10.out.mono ?_
                rintro e w10 ⟨rfl, h1, h2⟩
                have p10 := h2.cell p9 (fun h => by have h3 : D < Ex := h.2; have o := HS9.out.o; omega)
                have q10 := h2.cell q9 (fun h => by have h3 : D < Ex := h.2; have o := HS9.out.o; omega)
                have HS10 := Lib.hid (HS9.out.stX HLk.out h1 h2)
                clear h1 h2 p9 q9 HC10
                clear HS9
                have HC11 := Lib.hid (rFail HS10.out.Y cy)
                go_wp2_with fail
                refine HC11.out.mono ?_
                rintro e w11 ⟨rfl, h1, h2⟩
                have p11 := h2.cell p10 (fun h => by have h3 : D < Ey := h.2; have o := HS10.out.o; omega)
                have q11 := h2.cell q10 (fun h => by have h3 : D < Ey := h.2; have o := HS10.out.o; omega)
                have HS11 := Lib.hid (HS10.out.stY HLk.out h1 h2)
                clear h1 h2 p10 q10 HC11
                clear HS10
                have HS12 := Lib.hid (HS11.out.more (K' := 2 * (j + 1)) (by omega))
                clear HS11 p11 q11
                go_wp2_with fail
                rw [← Hpo.out]
                go_roundg (gO - 1)
                case measure => have := Hj.out; omega
                case rel => exact ⟨j + 1, _, by have := Hj.out; omega, by omega, by go_num, HS12.out⟩
              · have t2 := beq_f hx2
                clear hx2
                have HLk := Lib.hid (Ar.S.like_poke HS7.out.la cy cz q)
                clear p0
                have HC8 := Lib.hid (aPoke HS7.out.A (by omega) cy cz q Hqm.out)
                go_wp2_with fail
                refine HC8.out.mono ?_
                rintro e w8 ⟨rfl, h1, h2⟩
                have p8 := h2.cell p7 (fun h => by have h3 : D < Ea := h.2; have o := HS7.out.o; omega)
                have q8 := h2.cell q7 (fun h => by have h3 : D < Ea := h.2; have o := HS7.out.o; omega)
                have HS8 := Lib.hid (HS7.out.stA HLk.out h1 h2 (by omega))
                clear h1 h2 p7 q7 HC8
                clear HS7
                have HC9 := Lib.hid (aPoke HS8.out.B (by omega) cy cz q Hqm.out)
                go_wp2_with fail
                refine HC9.out.mono ?_
                rintro e w9 ⟨rfl, h1, h2⟩
                have p9 := h2.cell p8 (fun h => by have h3 : D < Eb := h.2; have o := HS8.out.o; omega)
                have q9 := h2.cell q8 (fun h => by have h3 : D < Eb := h.2; have o := HS8.out.o; omega)
                have HS9 := Lib.hid (HS8.out.stB HLk.out h1 h2 (by omega))
                clear h1 h2 p8 q8 HC9
                clear HS8
                have HC10 := Lib.hid (rPoke HS9.out.X cy cz q Hqm.out)
                go_wp2_with fail
                refine HC10.out.mono ?_
                rintro e w10 ⟨rfl, h1, h2⟩
                have p10 := h2.cell p9 (fun h => by have h3 : D < Ex := h.2; have o := HS9.out.o; omega)
                have q10 := h2.cell q9 (fun h => by have h3 : D < Ex := h.2; have o := HS9.out.o; omega)
                have HS10 := Lib.hid (HS9.out.stX HLk.out h1 h2)
                clear h1 h2 p9 q9 HC10
                clear HS9
                have HC11 := Lib.hid (rPoke HS10.out.Y cy cz q Hqm.out)
                go_wp2_with fail
                refine HC11.out.mono ?_
                rintro e w11 ⟨rfl, h1, h2⟩
                have p11 := h2.cell p10 (fun h => by have h3 : D < Ey := h.2; have o := HS10.out.o; omega)
                have q11 := h2.cell q10 (fun h => by have h3 : D < Ey := h.2; have o := HS10.out.o; omega)
                have HS11 := Lib.hid (HS10.out.stY HLk.out h1 h2)
                clear h1 h2 p10 q10 HC11
                clear HS10
                have HS12 := Lib.hid (HS11.out.more (K' := 2 * (j + 1)) (by omega))
                clear HS11 p11 q11
                go_wp2_with fail
                rw [← Hpo.out]
                go_roundg (gO - 1)
                case measure => have := Hj.out; omega
                case rel => exact ⟨j + 1, _, by have := Hj.out; omega, by omega, by go_num, HS12.out⟩
        · have b40 : decide ((j : Int) < 40) = false := dec_f (by omega)
          have HS1 := Lib.hid (HSO.out.more (K' := 80) (by omega))
          go_wp2_with fail
          go_meet
          exact ⟨_, s, rfl, HS1.out⟩
      · have hNj : j = N := by omega
        have HS1 := Lib.hid (HSO.out.more (K' := 80) (by omega))
        go_wp2_with fail
        go_meet
        exact ⟨_, s, rfl, HS1.out⟩
  case rest =>
    obtain ⟨wk, s, hwk, hS⟩ := hcut
    subst hwk
    clear HS0
    have HS0 := Lib.hid hS
    clear hS Hrows Hcells
    obtain ⟨sc, hsc⟩ : ∃ sc, sc = s.scrub m row := ⟨_, rfl⟩
    obtain ⟨fr, hfr⟩ : ∃ fr, fr = sc.1.2 := ⟨_, rfl⟩
    obtain ⟨wn, hwn⟩ : ∃ wn, wn = sc.1.1 := ⟨_, rfl⟩
    obtain ⟨t, ht⟩ : ∃ t, t = sc.2 := ⟨_, rfl⟩
    obtain ⟨bz, hbz⟩ : ∃ bz : Bool, bz = decide (m < 3 ∨ 10 < m ∨ row < 0 ∨ (rows : Int) ≤ row) := ⟨_, rfl⟩
    have Hsc := Lib.hid hsc
    have Hfr := Lib.hid hfr
    have Hwn := Lib.hid hwn
    have Ht := Lib.hid ht
    have Hbz := Lib.hid hbz
    clear hsc hfr hwn ht hbz
    go_upto_region 36 with (fail)
    go_cut [221] (fun z wq => z = .bool bz ∧ wk = wq)
    case first => as_aux_lemma =>
      by_cases c1 : m < 3
      · have HX := Lib.hid (show bz = true by rw [Hbz.out]; exact dec_t (.inl c1))
        have t1 := dec_t c1
        clear c1
        go_wp2_with fail
        go_meet
        exact ⟨by rw [HX.out], rfl⟩
      · by_cases c2 : 10 < m
        · have HX := Lib.hid (show bz = true by rw [Hbz.out]; exact dec_t (.inr (.inl c2)))
          have t1 := dec_f c1
          have t2 := dec_t c2
          clear c1 c2
          go_wp2_with fail
          go_meet
          exact ⟨by rw [HX.out], rfl⟩
        · by_cases c3 : row < 0
          · have HX := Lib.hid (show bz = true by rw [Hbz.out]; exact dec_t (.inr (.inr (.inl c3))))
            have t1 := dec_f c1
            have t2 := dec_f c2
            have t3 := dec_t c3
            clear c1 c2 c3
            go_wp2_with fail
            go_meet
            exact ⟨by rw [HX.out], rfl⟩
          · by_cases c4 : (rows : Int) ≤ row
            · have HX := Lib.hid (show bz = true by rw [Hbz.out]; exact dec_t (.inr (.inr (.inr c4))))
              have t1 := dec_f c1
              have t2 := dec_f c2
              have t3 := dec_f c3
              have t4 := dec_t c4
              clear c1 c2 c3 c4
              go_wp2_with fail
              go_meet
              exact ⟨by rw [HX.out], rfl⟩
            · have HX := Lib.hid (show bz = false by rw [Hbz.out]; exact dec_f (by omega))
              have t1 := dec_f c1
              have t2 := dec_f c2
              have t3 := dec_f c3
              have t4 := dec_f c4
              clear c1 c2 c3 c4
              go_wp2_with fail
              go_meet
              exact ⟨by rw [HX.out], rfl⟩
    case rest =>
    obtain ⟨rfl, rfl⟩ := hcut
    go_upto_if 221 with (fail)
    go_cut [23, 24] (fun v23 v24 wq => ∃ wk2, wk2 = wq ∧ v23 = iv fr ∧ v24 = iv wn ∧ SQ n rows size 80 a Ea b Eb x Ex y Ey w s s t s wk2)
    case first => as_aux_lemma =>
      have er := HS0.out.lx.2.1
      have en := HS0.out.lx.1
      cases bz with
      | true =>
        have hs : s.scrub m row = ((0, 1), s) := by
          have h1 := of_decide_eq_true Hbz.out.symm
          unfold Ar.S.scrub
          by_cases hn : m < 3 ∨ 10 < m
          · rw [if_pos hn]
          · rw [if_neg hn, if_pos]
            intro h
            unfold Ar.S.hasRow at h
            rw [er] at h
            omega
        have q1 : fr = 1 := by rw [Hfr.out, Hsc.out, hs]
        have q2 : wn = 0 := by rw [Hwn.out, Hsc.out, hs]
        have q3 : t = s := by rw [Ht.out, Hsc.out, hs]
        have Q := Lib.hid (And.intro q1 (And.intro q2 q3))
        clear hs q1 q2 q3 er en
        go_wp2_with fail
        go_meet
        exact ⟨_, rfl, by rw [Q.out.1], by rw [Q.out.2.1], by rw [Q.out.2.2]; exact HS0.out⟩
      | false =>
        have h1 := of_decide_eq_false Hbz.out.symm
        by_cases hmn : m = (n : Int)
        · obtain ⟨q, hq⟩ : ∃ q : Nat, row = q := ⟨row.toNat, by omega⟩
          have hqr : q < s.rows := by rw [er]; omega
          have hs : s.scrub m row = s.scrubAt q := by
            unfold Ar.S.scrub Ar.S.hasRow
            rw [if_neg (by omega), if_neg (fun hc => hc ⟨by omega, by rw [er]; omega⟩), if_neg (fun hc => hc (by rw [en, hmn])), hq, Int.toNat_natCast]
          have HR := Lib.hid (rScrub HS0.out.X q hqr)
          unfold RRbPost at HR
          have her := Ar.S.scrubAt_err s q
          have hze := Ar.S.scrubAt_zero s q
          have hli := Ar.S.like_scrubAt HS0.out.lx q
          rw [← hs, ← Hsc.out, ← Hfr.out, ← Hwn.out, ← Ht.out, ← hq] at HR
          rw [← hs, ← Hsc.out, ← Hfr.out] at her hze
          rw [← hs, ← Hsc.out, ← Ht.out] at hli
          rw [← Hwn.out] at hze
          have Hli := Lib.hid hli
          have Hze := Lib.hid hze
          have Her := Lib.hid her
          have tn := bne_f hmn
          clear h1 hmn hq hqr hs her hze hli er en
          rcases Her.out with h0 | h0
          · have tf := bne_f h0
            clear h0
            go_wp2_with fail
            refine HR.out.mono ?_
            rintro e w5 ⟨rfl, hX, hK⟩
            have HS1 := Lib.hid (HS0.out.stX Hli.out hX hK)
            clear hX hK
            go_wp2_with fail
            go_meet
            exact ⟨_, rfl, rfl, rfl, HS1.out⟩
          · have tf : (fr != 0) = true := bne_t (by omega)
            have Hw := Lib.hid (Hze.out (by omega))
            clear h0
            go_wp2_with fail
            refine HR.out.mono ?_
            rintro e w5 ⟨rfl, hX, hK⟩
            have HS1 := Lib.hid (HS0.out.stX Hli.out hX hK)
            clear hX hK
            go_wp2_with fail
            go_meet
            exact ⟨_, rfl, rfl, by rw [Hw.out], HS1.out⟩
        · have hs : s.scrub m row = ((0, 3), s) := by
            unfold Ar.S.scrub Ar.S.hasRow
            rw [if_neg (by omega), if_neg (fun hc => hc ⟨by omega, by rw [er]; omega⟩), if_pos (fun hc => hmn (by rw [← hc, en]))]
          have q1 : fr = 3 := by rw [Hfr.out, Hsc.out, hs]
          have q2 : wn = 0 := by rw [Hwn.out, Hsc.out, hs]
          have q3 : t = s := by rw [Ht.out, Hsc.out, hs]
          have Q := Lib.hid (And.intro q1 (And.intro q2 q3))
          have tn := bne_t hmn
          clear hs q1 q2 q3 er en h1 hmn
          go_wp2_with fail
          go_meet
          exact ⟨_, rfl, by rw [Q.out.1], by rw [Q.out.2.1], by rw [Q.out.2.2]; exact HS0.out⟩
    case rest =>
    obtain ⟨wk2, hwk, rfl, rfl, hS⟩ := hcut
    subst hwk
    clear HS0 Hbz
    have HS1 := Lib.hid hS
    clear hS
    have HRw := Lib.hid (sRow HS1.out.A (by omega) (fun k h => by have o := HS1.out.o; have h9 : k < Ea := h.2; omega) m row)
    unfold RbPost at HRw
    rw [← Hsc.out, ← Hfr.out, ← Hwn.out, ← Ht.out] at HRw
    obtain ⟨evf, hevf⟩ : ∃ evf, evf = errV fr := ⟨_, rfl⟩
    rw [← hevf] at HRw
    have Hevf := Lib.hid hevf
    clear hevf
    go_wp2_with fail
    refine HRw.out.mono ?_
    rintro e w5 ⟨rfl, hA5, hK5⟩
    have HS2 := Lib.hid ((HS1.out.stA (by rw [Ht.out, Hsc.out]; exact Ar.S.like_scrub HS1.out.la m row) hA5 hK5 (by omega)).more (K' := 100) (by omega))
    have HSm := Lib.hid (same_eq fr w5 (Hg.out.below (Nat.le_refl _) HS2.out.bel))
    rw [← Hevf.out] at HSm
    clear hA5 hK5 HS1 HRw
    go_wp2_with fail
    refine HSm.out.mono ?_
    rintro e w6 ⟨rfl, hB6⟩
    have HS3 := Lib.hid (HS2.out.below hB6)
    clear hB6 HS2 HSm Hevf
    go_upto_block 5 with (fail)
    go_cut [27] (fun v27 wq => ∃ wk D, wk = wq ∧ Ey ≤ D ∧ wk.ownsRow D 29 2 v27 (s.scrubTo rows).2.length (spc (s.scrubTo rows).2) ∧ SQ n rows size 100 a Ea b Eb x Ex y Ey w t s t (s.scrubTo rows).1 wk)
    case first => as_aux_lemma =>
      obtain ⟨D, hD⟩ : ∃ D, D = w6.heap.size := ⟨_, rfl⟩
      have hDy : Ey ≤ D := by have o := HS3.out.o; omega
      obtain ⟨i0, hi, hz0, hz1, hz2⟩ := info_parts info_spot
      have HI := Lib.hid hi
      have HD := Lib.hid hD
      clear hi hD
      go_wp2_with fail
      go_loopg [27, 28] rows (fun gk v27 v28 wr => URel n rows size a Ea b Eb x Ex y Ey D w t s gk v27 v28 wr)
      case atStart => exact ⟨0, by omega, rfl, World.ownsRow_nil _ _ _ _, HS3.out, by rw [HD.out]; omega⟩
      case round =>
        clear HS3 HD
        obtain ⟨k, hk, rfl, hO, hS, hDz⟩ := hrel
        have Hk := Lib.hid hk
        have HO := Lib.hid hO
        have HS3 := Lib.hid hS
        clear hk hO hS
        by_cases hlt : k < rows
        · have HR := Lib.hid (rScrub HS3.out.Y k (by rw [HS3.out.ly.2.1]; exact hlt))
          have hlen := s.scrubTo_len k
          have her := Ar.S.scrubAt_err (s.scrubTo k).1 k
          have hbd := Ar.S.scrubAt_bd (s.scrubTo k).1 k
          have hli := Ar.S.like_scrubAt HS3.out.ly k
          have hst : s.scrubTo (k + 1) = (((s.scrubTo k).1.scrubAt k).2, if ((s.scrubTo k).1.scrubAt k).1.2 = 0 ∧ 0 ≤ ((s.scrubTo k).1.scrubAt k).1.1 then (s.scrubTo k).2 ++ [(((s.scrubTo k).1.scrubAt k).1.1.toNat, k)] else (s.scrubTo k).2) := rfl
          obtain ⟨l, hl⟩ : ∃ l, l = (s.scrubTo k).2 := ⟨_, rfl⟩
          obtain ⟨t2, ht2⟩ : ∃ t2, t2 = ((s.scrubTo k).1.scrubAt k).2 := ⟨_, rfl⟩
          obtain ⟨rx, hrx⟩ : ∃ rx, rx = ((s.scrubTo k).1.scrubAt k).1.1 := ⟨_, rfl⟩
          obtain ⟨re, hre⟩ : ∃ re, re = ((s.scrubTo k).1.scrubAt k).1.2 := ⟨_, rfl⟩
          unfold RRbPost at HR
          rw [← hrx, ← hre, ← ht2] at HR
          rw [← ht2] at hli
          rw [← hrx, ← hre, ← ht2, ← hl] at hst
          rw [← hre] at her
          rw [← hre, ← hrx] at hbd
          rw [← hl] at hlen HO
          have Hst := Lib.hid hst
          have Hli := Lib.hid hli
          clear hl ht2 hrx hre hst hli
          obtain ⟨ml, hml⟩ : ∃ ml, ml = l.length := ⟨_, rfl⟩
          rw [← hml] at hlen HO
          have Hm := Lib.hid hml
          clear hml
          by_cases hre : re = 0
          · have hbd := hbd hre
            subst hre
            by_cases h0 : 0 ≤ rx
            · obtain ⟨d, rfl⟩ : ∃ d : Nat, rx = d := ⟨rx.toNat, by omega⟩
              have hst := Hst.out
              rw [if_pos ⟨rfl, h0⟩, Int.toNat_natCast] at hst
              have Hst2 := Lib.hid hst
              clear hst Hst h0 hbd her
              go_wp2_with fail
              refine HR.out.mono ?_
              rintro e w7 ⟨rfl, hY, hK⟩
              have HO4 := Lib.hid (Kept.owns HO.out hK (fun g hg h => by have h1 := (HO.out.lt g hg).1; have h2 : g < Ey := h.2; omega))
              have HS4 := Lib.hid (HS3.out.stY Hli.out hY hK)
              have hz7 := hK.size
              clear hY hK HR
              have hi := HI.out
              go_wp2_with (at_builtin; (refine wpList_append_own _ rfl _ _ 55 rfl D 29 i0 _ 2 16 Tryd.underlying55 hi hz0 hz1 hz2 rfl (by decide) _ ml _ rfl (HO4.out.alloc _) ⟨w7.heap.size, 0, none⟩ 1 1 [iv d, iv k] rfl rfl ?k1 ?k2 ?k3 ?k4 ?k5 ?_))
              case k1 =>
                intro j u hj
                have hj2 : j = 0 ∨ j = 1 := by have := (List.getElem?_eq_some_iff.1 hj).1; simp at this; omega
                rw [Addr.add_lit, Nat.zero_add, World.cell?_alloc_at _ _ _ _ rfl]
                rcases hj2 with rfl | rfl <;> exact hj
              case k2 => intro u hu; simp at hu; rcases hu with rfl | rfl <;> rfl
              case k3 => unfold maxLen; omega
              case k4 => omega
              case k5 => simp; omega
              intro v9 w9 hO9 hg9 _
              have hl9 : (l ++ [(d, k)]).length = ml + 1 := by rw [List.length_append, ← Hm.out]; rfl
              have hs9 : spc (l ++ [(d, k)]) = spc l ++ [iv d, iv k] := by unfold spc; rw [List.flatMap_append]; rfl
              have HO9 : Hid (w9.ownsRow D 29 2 v9 (s.scrubTo (k + 1)).2.length (spc (s.scrubTo (k + 1)).2)) := Lib.hid (by
                rw [Hst2.out]
                show w9.ownsRow _ _ 2 v9 (l ++ [(d, k)]).length (spc (l ++ [(d, k)]))
                rw [hl9, hs9]; exact hO9)
              have hkg : Kept (fun p => D ≤ p) w7 w9 := by
                refine Kept.trans (T := fun p => D ≤ p) (T' := fun p => D ≤ p) ((Kept.refl _ w7).alloc _) ((Kept.grown hg9).mono (fun p _ e => (HO4.out.lt p e.symm).1)) (fun _ _ h => h)
              have HS9 : Hid (SQ n rows size 100 a Ea b Eb x Ex y Ey w t s t (s.scrubTo (k + 1)).1 w9) := Lib.hid (by rw [Hst2.out]; exact HS4.out.kept hkg (fun p hp => by omega))
              have hz9 := hkg.size
              clear hO9 hg9 hkg hl9 hs9 hi
              go_wp2_with fail
              go_roundg (gk - 1)
              case measure => have := Hk.out; omega
              case rel => exact ⟨k + 1, by have := Hk.out; omega, by go_num, HO9.out, HS9.out, by omega⟩
            · have hst := Hst.out
              rw [if_neg (fun h => h0 h.2)] at hst
              have Hst2 := Lib.hid hst
              have hx0 := dec_f h0
              clear Hst hst h0 hbd her
              go_wp2_with fail
              refine HR.out.mono ?_
              rintro e w7 ⟨rfl, hY, hK⟩
              have HO4 := Lib.hid (Kept.owns HO.out hK (fun g hg h => by have h1 := (HO.out.lt g hg).1; have h2 : g < Ey := h.2; omega))
              have HS4 := Lib.hid (HS3.out.stY Hli.out hY hK)
              have hz7 := hK.size
              clear hY hK HR
              go_wp2_with fail
              go_roundg (gk - 1)
              case measure => have := Hk.out; omega
              case rel => exact ⟨k + 1, by have := Hk.out; omega, by go_num, by rw [Hst2.out]; show w7.ownsRow _ _ 2 _ l.length (spc l); rw [← Hm.out]; exact HO4.out, by rw [Hst2.out]; exact HS4.out, by omega⟩
          · have hst := Hst.out
            rw [if_neg (fun h => hre h.1)] at hst
            have Hst2 := Lib.hid hst
            have tr := beq_f hre
            clear Hst hst hbd her hre
            go_wp2_with fail
            refine HR.out.mono ?_
            rintro e w7 ⟨rfl, hY, hK⟩
            have HO4 := Lib.hid (Kept.owns HO.out hK (fun g hg h => by have h1 := (HO.out.lt g hg).1; have h2 : g < Ey := h.2; omega))
            have HS4 := Lib.hid (HS3.out.stY Hli.out hY hK)
            have hz7 := hK.size
            clear hY hK HR
            go_wp2_with fail
            go_roundg (gk - 1)
            case measure => have := Hk.out; omega
            case rel => exact ⟨k + 1, by have := Hk.out; omega, by go_num, by rw [Hst2.out]; show w7.ownsRow _ _ 2 _ l.length (spc l); rw [← Hm.out]; exact HO4.out, by rw [Hst2.out]; exact HS4.out, by omega⟩
        · have hkR : k = rows := by have := Hk.out; omega
          subst hkR
          go_wp2_with fail
          go_meet
          exact ⟨_, D, rfl, hDy, HO.out, HS3.out⟩
    case rest =>
    obtain ⟨wk3, D, hwk, hED, hO, hS⟩ := hcut
    subst hwk
    clear HS3
    have HO := Lib.hid hO
    have HS4 := Lib.hid hS
    clear hO hS
    have HAll := Lib.hid (sAll HS4.out.B (by omega) (fun k h => by have o := HS4.out.o; have h9 : k < Eb := h.2; omega) (fun w' hk => Hg.out.below (Nat.le_refl _) (HS4.out.bel.trans (hk.toBelow (B := w.heap.size) HS4.out.bel.size (fun q _ h => by have o := HS4.out.o; have h9 : b ≤ q := h.1; omega)))))
    rw [HS4.out.lb.1, HS4.out.lb.2.1] at HAll
    have hlen := s.scrubTo_len rows
    obtain ⟨l, hl⟩ : ∃ l, l = (s.scrubTo rows).2 := ⟨_, rfl⟩
    obtain ⟨u, hu⟩ : ∃ u, u = (s.scrubTo rows).1 := ⟨_, rfl⟩
    unfold SAllPost at HAll
    have hlu := Ar.S.like_scrubTo HS4.out.lb rows
    rw [← hu, ← hl] at HAll
    rw [← hl] at HO hlen
    rw [← hu] at hlu HS4
    have Hlu := Lib.hid hlu
    clear hl hu hlu
    go_wp2_with fail
    refine HAll.out.mono ?_
    rintro e w7 ⟨v7, rfl, hO7, hA7, hK7⟩
    have HS5 := Lib.hid ((HS4.out.stB Hlu.out hA7 hK7 (by omega)).more (K' := 200) (by omega))
    have hO5 := Kept.owns HO.out hK7 (fun g hg hh => by have h1 := (HO.out.lt g hg).1; have h9 : g < Eb := hh.2; have o := HS4.out.o; omega)
    have HSp := Lib.hid (spots_eq l v7 u27 w7 (rowSp_of hO7 rfl (by omega)) (rowSp_of hO5 rfl (by omega)))
    clear hO7 hA7 hK7 hO5 HS4 HO HAll hlen
    go_wp2_with fail
    refine HSp.out.mono ?_
    rintro e w8 ⟨rfl, hB8⟩
    have HS6 := Lib.hid (HS5.out.below hB8)
    clear hB8 HS5 HSp
    go_wp2_with fail
    go_loopg [33] rows (fun gk v33 wr => ∃ r : Nat, r + gk = rows ∧ v33 = iv r ∧ SQ n rows size 200 a Ea b Eb x Ex y Ey w t u t u wr)
    case atStart => exact ⟨0, by omega, rfl, HS6.out⟩
    case round =>
      clear HS6
      obtain ⟨r, hr, rfl, hS⟩ := hrel
      have Hr := Lib.hid hr
      have HS7 := Lib.hid hS
      clear hr hS
      by_cases hlt : r < rows
      · have ht := rawF_inT (s := t) (r := r) (by rw [HS7.out.la.2.1]; exact hlt)
        have hu := rawF_inT (s := u) (r := r) (by rw [HS7.out.lb.2.1]; exact hlt)
        have HRa := Lib.hid (aRaw HS7.out.A (r : Int))
        unfold RawPost at HRa
        rw [ht.1, ht.2, errV_0] at HRa
        obtain ⟨ps, hps⟩ : ∃ ps, ps = t.parts r := ⟨_, rfl⟩
        obtain ⟨qs, hqs⟩ : ∃ qs, qs = u.parts r := ⟨_, rfl⟩
        rw [← hps] at HRa
        have Hps := Lib.hid hps
        have Hqs := Lib.hid hqs
        have Hu := Lib.hid hu
        clear ht hu hps hqs
        go_wp2_with fail
        refine HRa.out.mono ?_
        rintro e w9 ⟨v1, v2, rfl, hP, hM, hB⟩
        have HS8 := Lib.hid (HS7.out.below hB)
        have HP1 := Lib.hid (row_of_owns hP).1
        have HRb := Lib.hid (aRaw HS8.out.B (r : Int))
        unfold RawPost at HRb
        rw [Hu.out.1, Hu.out.2, errV_0, ← Hqs.out] at HRb
        clear hP hM hB HS7 HRa
        go_wp2_with fail
        refine HRb.out.mono ?_
        rintro e w10 ⟨v3, v4, rfl, hP, hM, hB⟩
        have HS9 := Lib.hid (HS8.out.below hB)
        have HP2 := Lib.hid (Row.below HP1.out hB)
        have HQ1 := Lib.hid (row_of_owns hP).1
        have HRc := Lib.hid (rRaw HS9.out.X r (by rw [HS9.out.lx.2.1]; exact hlt))
        unfold RRawPost at HRc
        rw [← Hps.out] at HRc
        clear hP hM hB HS8 HRb HP1
        go_wp2_with fail
        refine HRc.out.mono ?_
        rintro e w11 ⟨v5, v6, rfl, hP, hM, hB⟩
        have HS10 := Lib.hid (HS9.out.below hB)
        have HP3 := Lib.hid (Row.below HP2.out hB)
        have HQ2 := Lib.hid (Row.below HQ1.out hB)
        have HU1 := Lib.hid (row_of_owns hP).1
        have HRd := Lib.hid (rRaw HS10.out.Y r (by rw [HS10.out.ly.2.1]; exact hlt))
        unfold RRawPost at HRd
        rw [← Hqs.out] at HRd
        clear hP hM hB HS9 HRc HP2 HQ1
        go_wp2_with fail
        refine HRd.out.mono ?_
        rintro e w12 ⟨v7, v8, rfl, hP, hM, hB⟩
        have HS11 := Lib.hid (HS10.out.below hB)
        have HP4 := Lib.hid (Row.below HP3.out hB)
        have HQ3 := Lib.hid (Row.below HQ2.out hB)
        have HU2 := Lib.hid (Row.below HU1.out hB)
        have HV1 := Lib.hid (row_of_owns hP).1
        have HT1 := Lib.hid (texts_eq ps v1 v5 w12 HP4.out HU2.out)
        have HT2 := Lib.hid (fun k => texts_eq qs v3 v7 (w12.drewN k) (Row.below HQ3.out (bdrew (Below.refl _ _) k)) (Row.below HV1.out (bdrew (Below.refl _ _) k)))
        clear hP hM hB HS10 HRd HP3 HQ2 HU1 HP4 HQ3 HU2 HV1
        go_wp2_with fail
        refine HT1.out.mono ?_
        rintro e w13 ⟨rfl, n13, rfl⟩
        go_wp2_with fail
        refine (HT2.out n13).mono ?_
        rintro e w14 ⟨rfl, n14, rfl⟩
        have HS12 := Lib.hid (HS11.out.below (bdrew (Below.refl _ _) (n13 + n14)))
        clear HS11 HT1 HT2
        go_wp2_with fail
        go_roundg (gk - 1)
        case measure => have := Hr.out; omega
        case rel => exact ⟨r + 1, by have := Hr.out; omega, by go_num, HS12.out⟩
      · have hre : r = rows := by have := Hr.out; omega
        go_wp2_with fail
        go_ret
        exact ⟨rfl, HS7.out.bel⟩
set_option maxRecDepth 100000 in
set_option maxHeartbeats 4000000 in
theorem scrubTells_no (n rows size m row : Int) (v : Value) (h : aNewF n rows size ≠ 0) (w : World) :
    Calls Tryd.prog 9 #[iv n, iv rows, iv size, v, iv m, iv row] w fun e w' => e = .returned (.bool true) ∧ Below w.heap.size w w' := by
  have HN := Lib.hid (fun w' => aNew_no n rows size h w')
  clear h
  go_enter Tryd.func9, Tryd.ntmps9
  go_wp2_with fail
  refine (HN.out w).mono ?_
  rintro e w1 ⟨rfl, hB⟩
  have HB := Lib.hid hB
  clear hB
  go_wp2_with fail
  refine (HN.out w1).mono ?_
  rintro e w2 ⟨rfl, hB2⟩
  have HB2 := Lib.hid (HB.out.trans (hB2.mono HB.out.size))
  clear hB2
  go_wp2_with fail
  go_ret
  exact ⟨rfl, HB2.out⟩
theorem scrubTells_walk (n rows size m row : Int) (v : Value) (hn : (Lit.int .i64 n).wf = true) (hr : (Lit.int .i64 rows).wf = true) (hs : (Lit.int .i64 size).wf = true) (hm : (Lit.int .i64 m).wf = true) (hrw : (Lit.int .i64 row).wf = true) (w : World) (hg : Handle w) (hx : ∃ xss, Rows2 w v xss) :
    Calls Tryd.prog 9 #[iv n, iv rows, iv size, v, iv m, iv row] w fun e w' => e = .returned (.bool true) ∧ Below w.heap.size w w' := by
  obtain ⟨xss, hx⟩ := hx
  by_cases h : aNewF n rows size = 0
  · have hc : 3 ≤ n ∧ n ≤ 10 ∧ 1 ≤ rows ∧ rows ≤ 20 ∧ 1 ≤ size ∧ size ≤ 16 := by
      unfold aNewF at h
      by_cases hc : n < 3 ∨ 10 < n ∨ rows < 1 ∨ 20 < rows ∨ size < 1 ∨ 16 < size
      · rw [if_pos hc] at h; exact absurd h (by decide)
      · omega
    obtain ⟨m', rfl⟩ : ∃ m : Nat, n = m := ⟨n.toNat, by omega⟩
    obtain ⟨r, rfl⟩ : ∃ r : Nat, rows = r := ⟨rows.toNat, by omega⟩
    obtain ⟨z, rfl⟩ : ∃ z : Nat, size = z := ⟨size.toNat, by omega⟩
    exact scrubTells_yes m' r z m row v xss (by omega) (by omega) (by omega) (by omega) (by omega) (by omega) w hx hg
  · exact scrubTells_no n rows size m row v h w
end Go.Proofs.YtcldioneiededaaDoor
