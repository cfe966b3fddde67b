/- The reference's array: Read. -/
import Derived.Test.YtcldioneiededaaDoorRArV
namespace Go.Proofs.YtcldioneiededaaDoor
open Go.ChangeShapes Go.WideShapes Go.ChangeAt Go.RowKit
set_option linter.unusedVariables false
variable {F : Nat → Prop} {w : World} {b : Nat} {s : Ar.S}
theorem not_hasBlock (s : Ar.S) {x : Int} {m : Nat} (hm : m = s.rows * (s.n - 2)) (h : ¬ s.hasBlock x) : x < 0 ∨ (0 ≤ x ∧ (m : Int) ≤ x) := by
  unfold Ar.S.hasBlock at h
  rw [← hm] at h
  by_cases h0 : x < 0
  · exact .inl h0
  · exact .inr ⟨by omega, by apply Classical.byContradiction; intro h1; exact h ⟨by omega, by omega⟩⟩
theorem quo_row {n y r j : Nat} (hn : 3 ≤ n) (hr : r = y / (n - 2)) (hj : j = y % (n - 2)) (hr9 : r < 100) : (y : Int) / ((n : Int) - 2) = (r : Int) ∧ wrap64 ((y : Int) / ((n : Int) - 2)) = (r : Int) ∧ IntKind.i64.wrap ((y : Int) / ((n : Int) - 2)) = (r : Int) ∧ ¬ ((n : Int) - 2 = 0) ∧ (y : Int) % ((n : Int) - 2) = (j : Int) := by
  have e : (n : Int) - 2 = ((n - 2 : Nat) : Int) := by omega
  have q : (y : Int) / ((n : Int) - 2) = (r : Int) := by rw [e, hr]; exact (Int.natCast_ediv _ _).symm
  refine ⟨q, by rw [q]; exact IntWalk.wrap64_in _ (by omega), by rw [q]; exact IntWalk.i64_in _ (by omega), by omega, by rw [e, hj]; exact (Int.natCast_emod _ _).symm⟩
theorem rem_row {n y j : Nat} (hn : 3 ≤ n) (hj : (y : Int) % ((n : Int) - 2) = (j : Int)) (hj9 : j < 100) : (y : Int).tmod ((n : Int) - 2) = (j : Int) ∧ IntKind.i64.wrap (j : Int) = (j : Int) ∧ (((n : Int) - 2) == 0) = false := by
  refine ⟨by rw [Int.tmod_eq_emod_of_nonneg (by omega)]; exact hj, IntWalk.i64_in _ (by omega), beq_f (by omega)⟩
set_option maxRecDepth 100000 in
set_option maxHeartbeats 2000000 in
theorem rRead (h : RAryOk F w b s) (x : Int) (hx : x ≤ 9223372036854775807) (hx0 : -9223372036854775808 ≤ x) :
    Calls Tryd.prog 34 #[.pointer (some ⟨b, 0, none⟩), iv x] w fun e w' => e = .returned (.tuple #[.string (s.read x).1, iv (s.read x).2]) ∧ Below w.heap.size w w' := by
  have HOK := Lib.hid h
  have c0 := h.n
  have c1 := h.r
  have ho := h.1
  have Ho := Lib.hid ho
  obtain ⟨res, hres⟩ : ∃ res, res = s.read x := ⟨_, rfl⟩
  rw [← hres]
  unfold Ar.S.read at hres
  have hn := ho.n3
  have hn10 := ho.n10
  have hr20 := ho.r20
  have hm9 : s.rows * (s.n - 2) ≤ 20 * 8 := Nat.mul_le_mul hr20 (by omega)
  obtain ⟨m, hm⟩ : ∃ m, m = s.rows * (s.n - 2) := ⟨_, rfl⟩
  have hmI : (s.rows : Int) * ((s.n : Int) - 2) = (m : Int) := by rw [hm, Int.natCast_mul, show ((s.n - 2 : Nat) : Int) = (s.n : Int) - 2 by omega]
  rw [← hm] at hm9
  have hw1 : IntKind.i64.wrap ((s.n : Int) - 2) = (s.n : Int) - 2 := IntWalk.i64_in _ (by omega)
  have hw2 : IntKind.i64.wrap ((s.rows : Int) * ((s.n : Int) - 2)) = (m : Int) := by rw [hmI]; exact IntWalk.i64_in _ (by omega)
  have Hm := Lib.hid hm
  clear hm hmI
  by_cases hb : s.hasBlock x
  · obtain ⟨y, rfl, hy⟩ := Ar.S.hasBlock_nat hb
    rw [if_pos hb, Int.toNat_natCast] at hres
    rw [← Hm.out] at hy
    have d1 : decide ((y : Int) < 0) = false := dec_f (by omega)
    have d2 : decide ((m : Int) ≤ (y : Int)) = false := dec_f (by omega)
    have hrow := Ar.S.row_lt ho (by rw [← Hm.out]; exact hy)
    have hj : y % (s.n - 2) < s.n := by have := Nat.mod_lt y (show s.n - 2 > 0 by omega); omega
    unfold Ar.S.readAt at hres
    obtain ⟨r, hr⟩ : ∃ r, r = y / (s.n - 2) := ⟨_, rfl⟩
    obtain ⟨j, hj0⟩ : ∃ j, j = y % (s.n - 2) := ⟨_, rfl⟩
    rw [← hr, ← hj0] at hres
    rw [← hr] at hrow
    rw [← hj0] at hj
    have hq := quo_row (n := s.n) (y := y) hn hr hj0 (by omega)
    have Hq := Lib.hid hq
    have Hres := Lib.hid hres
    have HRw := Lib.hid (rRaw h r hrow)
    clear hr hj0 hb h ho hres hq
    obtain ⟨_, q2, q3, q0, q1⟩ := Hq.out
    go_enter Tryd.func34, Tryd.ntmps34
    go_wp2_with fail
    refine HRw.out.mono ?_
    rintro e w2 ⟨v1, v2, rfl, hP, hL, hB2⟩
    have HHe := Lib.hid (fun (hm : ¬ 2 < s.many r) (w' : World) (hb : Below w2.heap.size w2 w') => rheal Ho.out hrow hm (v := v1) (vl := v2) (Row.below (row_of_owns hP).1 hb) (Row.below (row_of_owns hL).1 hb))
    obtain ⟨gl, cl, rfl, hl1, hl2, hl3, hl4, hl5, _⟩ := owns_pos hL (by omega)
    obtain ⟨gp, cp, rfl, hp1, hp2, hp3, hp4, hp5, _⟩ := owns_pos hP (by omega)
    have mk : w2.cell? ⟨gl, j, none⟩ = some (.bool (s.lost (Ar.dk s.n r j) r)) := (hl5 j hj).trans (by
      unfold Ar.S.marks
      rw [List.getElem?_map, List.getElem?_map, List.getElem?_range hj]; rfl)
    have pk : w2.cell? ⟨gp, j, none⟩ = some (.string (s.part r j)) := (hp5 j hj).trans (by
      unfold Ar.S.parts
      rw [List.getElem?_map, List.getElem?_map, List.getElem?_range hj]; rfl)
    have HB2 := Lib.hid hB2
    have hz2 := hB2.size
    have HO2 := Lib.hid (HOK.out.below hB2)
    have hps : s.part r j = if s.lost (Ar.dk s.n r j) r then ⟨#[]⟩ else s.c (Ar.dk s.n r j) r := rfl
    unfold maxLen at hl4 hp4
    clear hP hL hB2 HRw hl5 hp5 c0 c1
    obtain ⟨f, hf⟩ : ∃ f, f = s.lost (Ar.dk s.n r j) r := ⟨_, rfl⟩
    have hres := Hres.out
    rw [← hf] at mk hps hres
    cases f with
    | false =>
      rw [if_neg (by decide)] at hps
      rw [if_pos rfl, ← hps] at hres
      obtain ⟨x, hx9⟩ : ∃ x, x = s.part r j := ⟨_, rfl⟩
      rw [← hx9] at hres pk
      subst hres
      clear hx9 hps hf
      go_wp2_with fail
      go_ret2
      exact ⟨rfl, HB2.out⟩
    | true =>
      rw [if_neg (by decide)] at hres
      have HLo := Lib.hid (rLost HO2.out r hrow)
      have Hres := Lib.hid hres
      clear hres hps hf
      go_wp2_with fail
      refine HLo.out.mono ?_
      rintro e w' ⟨rfl, rfl⟩
      by_cases hm : 2 < s.many r
      · have hres : res = (⟨#[]⟩, 8) := by rw [Hres.out, if_pos hm]
        subst hres
        have t2 : decide (2 < (s.many r : Int)) = true := dec_t (by omega)
        clear hm
        go_wp2_with fail
        go_ret2
        exact ⟨rfl, HB2.out⟩
      · have hres : res = ((s.heal r).getD j ⟨#[]⟩, 0) := by rw [Hres.out, if_neg hm]
        have t2 : decide (2 < (s.many r : Int)) = false := dec_f (by omega)
        have HH := Lib.hid (HHe.out hm)
        have hlen : (s.heal r).length = s.n := by have := (Ar.S.heal_cw Ho.out hrow hm).len; omega
        have Hlen := Lib.hid hlen
        obtain ⟨x, hx9⟩ : ∃ x, x = (s.heal r).getD j ⟨#[]⟩ := ⟨_, rfl⟩
        rw [← hx9] at hres
        subst hres
        have Hx9 := Lib.hid hx9
        clear hm hlen hx9
        obtain ⟨hw2', hw3, hw4⟩ := rem_row (n := s.n) (y := y) hn q1 (by omega)
        have hjI : (j : Int) < (s.n : Int) := by omega
        go_wp2_with fail
        go_region_with (go_at_call 62; refine (HH.out _ (bdrew (Below.refl _ _) 1)).mono ?_; rintro e w3 ⟨vh, rfl, hOh, hB3⟩; obtain ⟨gh, oh, ch, rfl, hh0, hhz, hh1, hh2, hh3, hh4⟩ := hOh.at0 (by rw [List.length_map, Hlen.out]; omega); rw [List.length_map, Hlen.out] at hh1 hh3; rw [List.length_map, Hlen.out]; have e0 : w3.cell? ⟨gh, oh + j, none⟩ = some (.string x) := (by {rw [hh3 j hj, List.getElem?_map, List.getElem?_eq_getElem (by rw [Hlen.out]; omega), Hx9.out, List.getD_eq_getElem?_getD, List.getElem?_eq_getElem (by rw [Hlen.out]; omega)]; rfl}); unfold maxLen at hh2; have HB3 := Lib.hid (HB2.out.trans ((bdrew (Below.refl _ _) 1).trans (hB3.mono (Nat.le_refl _)) |>.mono hz2)); clear hOh hh3 hh4 hB3)
        all_goals
          go_wp2_with fail
          go_ret2
          exact ⟨rfl, HB3.out⟩
  · rw [if_neg hb] at hres
    subst hres
    rcases not_hasBlock s Hm.out hb with h0 | ⟨h0, h1⟩
    · have d1 : decide (x < 0) = true := dec_t h0
      clear h hb ho
      go_enter Tryd.func34, Tryd.ntmps34
      go_wp2_with fail
      go_ret2
      exact ⟨rfl, Below.refl _ _⟩
    · have d1 : decide (x < 0) = false := dec_f (by omega)
      have d2 : decide ((m : Int) ≤ x) = true := dec_t h1
      clear h hb ho
      go_enter Tryd.func34, Tryd.ntmps34
      go_wp2_with fail
      go_ret2
      exact ⟨rfl, Below.refl _ _⟩
end Go.Proofs.YtcldioneiededaaDoor
