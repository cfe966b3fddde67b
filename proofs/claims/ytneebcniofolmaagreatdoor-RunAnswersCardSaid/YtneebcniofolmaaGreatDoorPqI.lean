/- The walk of pq.healed. -/
import Derived.Test.YtneebcniofolmaaGreatDoorPqH
import Derived.Deep.RegionHeld3
import Derived.BigQuiet
namespace Go.Proofs.YtneebcniofolmaaGreatDoor
open Go.ChangeShapes Go.WideShapes Go.ChangeAt Go.RowKit
set_option linter.unusedVariables false
theorem set_take {α : Type} (xs : List α) (k i : Nat) (x : α) (h : i < k) : (xs.take k).set i x ++ xs.drop k = xs.set i x := by
  by_cases hk : i < (xs.take k).length
  · rw [← List.set_append_left _ _ hk, List.take_append_drop]
  · rw [List.set_eq_of_length_le (by omega), List.set_eq_of_length_le (by rw [List.length_take] at hk; omega), List.take_append_drop]
theorem OwnR.head0 {w : World} {base : Nat} {E : TypeId} {g o n cap : Nat} {xs : List Value} (h : OwnR w base E (.slice (some ⟨g, o, none⟩) n cap) xs) {k : Nat} (hk : k ≤ xs.length) : OwnR w base E (.slice (some ⟨g, o, none⟩) k cap) (xs.take k) := by
  rcases h with ⟨hv, _⟩ | ⟨g', o', cap', cur, hv, hb, hg, h1, h2, h3, h4⟩
  · cases hv
  · injection hv with e1 e2 e3
    injection e1 with e1
    injection e1 with e4 e5
    subst e4 e5 e3
    refine .inr ⟨g, o, cap, cur, by rw [List.length_take, Nat.min_eq_left hk], hb, hg, by rw [List.length_take]; omega, h2, h3, fun j hj => ?_⟩
    rw [List.length_take] at hj
    rw [h4 j (by omega), List.getElem?_take, if_pos (by omega)]
def HealdPost (base g o n cap k : Nat) (xs : List ByteArray) (gone : List Nat) (p q : ByteArray) (lp lq : Bool) (w : World) (e : Ending) (w' : World) : Prop :=
  e = .returned (.tuple #[]) ∧ OwnR w' base 9 (.slice (some ⟨g, o, none⟩) n cap) ((Gv.healed (xs.take k) gone p q lp lq ++ xs.drop k).map Value.string) ∧ Kept (· = g) w w'
structure HPre (w : World) (base g o n cap k sz : Nat) (xs : List ByteArray) (gone : List Nat) (vg : Value) (p q : ByteArray) : Prop where
  own : OwnR w base 9 (.slice (some ⟨g, o, none⟩) n cap) (xs.map Value.string)
  len : xs.length = n
  kn : k ≤ n
  k1 : 1 ≤ k
  k250 : k ≤ 250
  szs : ∀ s ∈ xs, s.size = sz
  sz9 : sz ≤ 1000000
  low : ∀ j ∈ gone, j < k
  row : Row w vg (gone.map (fun j => iv (j : Nat)))
  off : ∀ g', vg.ownBlock = some g' → g' ≠ g
  ps : p.size = sz
  qs : q.size = sz
set_option maxRecDepth 100000 in
set_option maxHeartbeats 1000000 in
theorem healed2_any {base g o n cap k sz : Nat} {xs : List ByteArray} {i j : Nat} {vg : Value} {p q : ByteArray} {w : World} (h : HPre w base g o n cap k sz xs [i, j] vg p q) (hij : i ≠ j) (lp lq : Bool) :
    Calls Tryz.prog 145 #[.slice (some ⟨g, o, none⟩) k cap, vg, .string p, .string q, .bool lp, .bool lq] w (HealdPost base g o n cap k xs [i, j] p q lp lq w) := by
  have hik := h.low i (by simp)
  have hjk := h.low j (by simp)
  obtain ⟨gg, og, gc, rfl, g1, g2, g3⟩ := h.row.pos (by simp)
  have hvl : ([i, j].map (fun j => iv (j : Nat))).length = 2 := rfl
  rw [hvl] at g1 h ⊢
  have cg0 : w.cell? ⟨gg, og, none⟩ = some (iv i) := g3 0 (by simp)
  have cg1 : w.cell? ⟨gg, og + 1, none⟩ = some (iv j) := g3 1 (by simp)
  have hgg := World.block_lt_of_cell? w _ cg0
  have hne : gg ≠ g := h.off gg rfl
  unfold maxLen at g2
  clear g3 hvl
  obtain ⟨hO, hlen, hkn, hk1, hk250, hsz, hsz9, hlow, hrow, hoff, hps, hqs⟩ := h
  have hT : OwnR w base 9 (.slice (some ⟨g, o, none⟩) k cap) ((xs.take k).map Value.string) := by
    rw [List.map_take]; exact hO.head0 (by rw [List.length_map]; omega)
  have htl : (xs.take k).length = k := by rw [List.length_take]; omega
  have hts : ∀ s ∈ xs.take k, s.size = sz := fun s hs => hsz s (List.mem_of_mem_take hs)
  have hs0 : size0 (xs.take k) = sz := Gv.size0_of hts (by omega)
  have HOf := Lib.hid (of_any (xs.take k) (fun s hs => by rw [hs0]; exact hts s hs) (by omega) (by omega) _ w hT.row)
  have hPs : (Gv.P (xs.take k)).size = sz := by rw [Gv.P_size, hs0]
  have hQs : (Gv.Q (xs.take k)).size = sz := by rw [Gv.Q_size, hs0]
  obtain ⟨P, hP⟩ : ∃ P, P = Gv.P (xs.take k) := ⟨_, rfl⟩
  obtain ⟨Q, hQ⟩ : ∃ Q, Q = Gv.Q (xs.take k) := ⟨_, rfl⟩
  unfold OfPost at HOf
  rw [← hP, ← hQ] at HOf
  rw [← hP] at hPs
  rw [← hQ] at hQs
  have HP := Lib.hid hP
  have HQ := Lib.hid hQ
  have HO := Lib.hid hO
  have Hts := Lib.hid htl
  clear hO hT hts hs0 hP hQ htl
  go_enter Tryz.func145, Tryz.ntmps145
  go_wp2_with fail
  refine HOf.out.mono ?_
  rintro e w1 ⟨rfl, hb1⟩
  have HB1 := Lib.hid hb1
  have hz1 := hb1.size
  clear hb1 HOf
  have HP1 := Lib.hid (plus_any P p (by omega) (by omega) w1)
  go_wp2_with fail
  refine HP1.out.mono ?_
  rintro e w2 ⟨rfl, hb2⟩
  have HB2 := Lib.hid (HB1.out.trans (hb2.mono hz1))
  have hz2 := HB2.out.size
  clear hb2 HP1
  have HP1 := Lib.hid (plus_any Q q (by omega) (by omega) w2)
  go_wp2_with fail
  refine HP1.out.mono ?_
  rintro e w3 ⟨rfl, hb3⟩
  have HB3 := Lib.hid (HB2.out.trans (hb3.mono hz2))
  have hz3 := HB3.out.size
  have HO3 := Lib.hid (HO.out.below HB3.out)
  have HR3 := Lib.hid (Row.below hrow HB3.out)
  have hdp : (Gv.plusS P p).size = sz := by rw [Gv.plus_size, hPs]
  have hdq : (Gv.plusS Q q).size = sz := by rw [Gv.plus_size, hQs]
  obtain ⟨dp, hdpe⟩ : ∃ x, x = Gv.plusS P p := ⟨_, rfl⟩
  obtain ⟨dq, hdqe⟩ : ∃ x, x = Gv.plusS Q q := ⟨_, rfl⟩
  rw [← hdpe, ← hdqe]
  rw [← hdpe] at hdp
  rw [← hdqe] at hdq
  rw [HP.out] at hdpe
  rw [HQ.out] at hdqe
  have Hdp := Lib.hid hdpe
  have Hdq := Lib.hid hdqe
  clear hb3 HP1 hdpe hdqe HP HQ hrow HO hPs hQs HB1 HB2
  have d0 : w3.cell? ⟨gg, og, none⟩ = some (iv i) := (HB3.out.cell (p := ⟨gg, og, none⟩) hgg).trans cg0
  have d1 : w3.cell? ⟨gg, og + 1, none⟩ = some (iv j) := (HB3.out.cell (p := ⟨gg, og + 1, none⟩) hgg).trans cg1
  have hiI : (i : Int) < (k : Int) := by omega
  have hjI : (j : Int) < (k : Int) := by omega
  clear cg0 cg1
  go_wp2_with fail
  go_quiet (fail)
  obtain ⟨w4, hw4⟩ : ∃ w4, w4 = w3.drewN nq := ⟨_, rfl⟩
  have hb4 : Below w3.heap.size w3 w4 := by rw [hw4]; exact bdrew (Below.refl _ _) nq
  have HO4 := Lib.hid (HO3.out.below hb4)
  have HB4 := Lib.hid (HB3.out.trans (hb4.mono hz3))
  have hz4 := HB4.out.size
  rw [← hw4]
  clear hw4 hb4 HB3 HO3 HR3 d0 d1
  go_wp2_with fail
  refine (power_any 2 i _ _ rfl rfl (by omega) w4).mono ?_
  rintro e w' ⟨rfl, rfl⟩
  go_wp2_with fail
  refine (power_any 2 j _ _ rfl rfl (by omega) w4).mono ?_
  rintro e w' ⟨rfl, rfl⟩
  obtain ⟨a, ha⟩ : ∃ a, a = Gf.pow 2 i := ⟨_, rfl⟩
  obtain ⟨b, hb⟩ : ∃ b, b = Gf.pow 2 j := ⟨_, rfl⟩
  rw [← ha, ← hb]
  have Ha := Lib.hid ha
  have Hb := Lib.hid hb
  clear ha hb
  have HT1 := Lib.hid (times_any dp b (by omega) w4)
  go_wp2_with fail
  refine HT1.out.mono ?_
  rintro e w5 ⟨rfl, hb5⟩
  have HB5 := Lib.hid (HB4.out.trans (hb5.mono hz4))
  have HO5 := Lib.hid (HO4.out.below hb5)
  have hz5 := HB5.out.size
  have s5 : (Gv.timesS dp b).size = sz := by rw [Gv.times_size, hdp]
  have HP5 := Lib.hid (plus_any (Gv.timesS dp b) dq (by omega) (by omega) w5)
  clear hb5 HT1 HB4 HO4
  go_wp2_with fail
  refine HP5.out.mono ?_
  rintro e w6 ⟨rfl, hb6⟩
  have HB6 := Lib.hid (HB5.out.trans (hb6.mono hz5))
  have HO6 := Lib.hid (HO5.out.below hb6)
  have hz6 := HB6.out.size
  have Hxor := Lib.hid (show bits .xor .u8 (a.toNat : Int) (b.toNat : Int) = ((a ^^^ b).toNat : Int) by have h := bv_xor a b; injection h)
  clear hb6 HP5 HB5 HO5
  go_wp2_with fail
  refine (inverse_any (a ^^^ b) _ Hxor.out w6).mono ?_
  rintro e w' ⟨rfl, rfl⟩
  have s6 : (Gv.plusS (Gv.timesS dp b) dq).size = sz := by rw [Gv.plus_size, s5]
  have HT6 := Lib.hid (times_any (Gv.plusS (Gv.timesS dp b) dq) (Gf.inv (a ^^^ b)) (by omega) w6)
  go_wp2_with fail
  refine HT6.out.mono ?_
  rintro e w7 ⟨rfl, hb7⟩
  have HB7 := Lib.hid (HB6.out.trans (hb7.mono hz6))
  have HO7 := Lib.hid (HO6.out.below hb7)
  have hz7 := HB7.out.size
  obtain ⟨x, hx⟩ : ∃ x, x = Gv.timesS (Gv.plusS (Gv.timesS dp b) dq) (Gf.inv (a ^^^ b)) := ⟨_, rfl⟩
  have hxs : x.size = sz := by rw [hx, Gv.times_size, s6]
  rw [← hx]
  have Hx := Lib.hid hx
  clear hb7 HT6 HB6 HO6 hx s5 s6 Hxor
  obtain ⟨gx, ox, cx, hvx, hbg, hgx, _, _, hcx, hfx⟩ := HO7.out.at0 (by rw [List.length_map]; omega)
  injection hvx with e1 e2 e3
  injection e1 with e1
  injection e1 with e4 e5
  subst e4 e5 e3
  have ci : ∃ s0 : ByteArray, w7.cell? ⟨g, o + i, none⟩ = some (.string s0) := by
    rw [hcx i (by rw [List.length_map]; omega), List.getElem?_map, List.getElem?_eq_getElem (by omega)]; exact ⟨_, rfl⟩
  obtain ⟨s0, ci⟩ := ci
  have cj : ∃ s0 : ByteArray, w7.cell? ⟨g, o + j, none⟩ = some (.string s0) := by
    rw [hcx j (by rw [List.length_map]; omega), List.getElem?_map, List.getElem?_eq_getElem (by omega)]; exact ⟨_, rfl⟩
  obtain ⟨s1, cj⟩ := cj
  have fi := hfx (o + i)
  have fj := hfx (o + j)
  clear hcx hfx e2
  go_wp2_with fail
  obtain ⟨w8, hw8⟩ : ∃ w8, w8 = w7.setCell ⟨g, o + i, none⟩ (.string x) := ⟨_, rfl⟩
  have HO8 : Hid (OwnR w8 base 9 (.slice (some ⟨g, o, none⟩) n cap) ((xs.set i x).map Value.string)) := Lib.hid (by
    rw [hw8]; exact HO7.out.setStr (by omega) x)
  have hb8 : Kept (· = g) w w8 := by rw [hw8]; exact (Kept.new _ HB7.out).set1 _ _
  have HK8 := Lib.hid hb8
  have cj8 : ∃ s0 : ByteArray, w8.cell? ⟨g, o + j, none⟩ = some (.string s0) := by
    obtain ⟨gx, ox, cx, hvx, _, _, _, _, hcx, _⟩ := HO8.out.at0 (by rw [List.length_map, List.length_set]; omega)
    injection hvx with e1 e2 e3
    injection e1 with e1
    injection e1 with e4 e5
    subst e4 e5
    rw [hcx j (by rw [List.length_map, List.length_set]; omega), List.getElem?_map, List.getElem?_eq_getElem (by rw [List.length_set]; omega)]; exact ⟨_, rfl⟩
  obtain ⟨s2, cj8⟩ := cj8
  have HP8 := Lib.hid (plus_any dp x (by omega) (by omega) w8)
  have hz8 : g < w8.heap.size := by
    have := HO8.out.lt (g := g) rfl
    exact this.2
  rw [← hw8]
  clear hw8 hb8 HO7 HB7 ci cj fi fj
  refine HP8.out.mono ?_
  rintro e w9 ⟨rfl, hb9⟩
  have cj9 : w9.cell? ⟨g, o + j, none⟩ = some (.string s2) := (hb9.cell (p := ⟨g, o + j, none⟩) hz8).trans cj8
  have HO9 := Lib.hid (HO8.out.below hb9)
  have HK9 := Lib.hid (HK8.out.also (Kept.new _ hb9))
  have fj : w9.frozen? ⟨g, o + j, none⟩ = false := HO9.out.fz rfl _
  clear hb9 HP8 HO8 HK8 cj8
  go_wp2_with fail
  go_end0
  refine ⟨rfl, ?_, HK9.out.set1 _ _⟩
  have e1 : Gv.healed (xs.take k) [i, j] p q lp lq = ((xs.take k).set i x).set j (Gv.plusS dp x) := by
    show ((xs.take k).set i _).set j _ = _
    rw [Hx.out, Ha.out, Hb.out, Hdp.out, Hdq.out]
  have e2 : ((xs.take k).set i x).set j (Gv.plusS dp x) ++ xs.drop k = (xs.set i x).set j (Gv.plusS dp x) := by
    have h1 := set_take (xs.set i x) k j (Gv.plusS dp x) hjk
    rw [List.take_set, List.drop_set] at h1
    rw [if_pos (by omega)] at h1
    exact h1
  rw [e1, e2]
  exact HO9.out.setStr (by rw [List.length_set]; omega) _
set_option maxRecDepth 100000 in
set_option maxHeartbeats 1000000 in
theorem healed1p_any {base g o n cap k sz : Nat} {xs : List ByteArray} {i : Nat} {vg : Value} {p q : ByteArray} {w : World} (h : HPre w base g o n cap k sz xs [i] vg p q) (lq : Bool) :
    Calls Tryz.prog 145 #[.slice (some ⟨g, o, none⟩) k cap, vg, .string p, .string q, .bool false, .bool lq] w (HealdPost base g o n cap k xs [i] p q false lq w) := by
  have hik := h.low i (by simp)
  obtain ⟨gg, og, gc, rfl, g1, g2, g3⟩ := h.row.pos (by simp)
  have hvl : ([i].map (fun j => iv (j : Nat))).length = 1 := rfl
  rw [hvl] at g1 h ⊢
  have cg0 : w.cell? ⟨gg, og, none⟩ = some (iv i) := g3 0 (by simp)
  have hgg := World.block_lt_of_cell? w _ cg0
  have hne : gg ≠ g := h.off gg rfl
  unfold maxLen at g2
  clear g3 hvl
  obtain ⟨hO, hlen, hkn, hk1, hk250, hsz, hsz9, hlow, hrow, hoff, hps, hqs⟩ := h
  have hT : OwnR w base 9 (.slice (some ⟨g, o, none⟩) k cap) ((xs.take k).map Value.string) := by
    rw [List.map_take]; exact hO.head0 (by rw [List.length_map]; omega)
  have htl : (xs.take k).length = k := by rw [List.length_take]; omega
  have hts : ∀ s ∈ xs.take k, s.size = sz := fun s hs => hsz s (List.mem_of_mem_take hs)
  have hs0 : size0 (xs.take k) = sz := Gv.size0_of hts (by omega)
  have HOf := Lib.hid (of_any (xs.take k) (fun s hs => by rw [hs0]; exact hts s hs) (by omega) (by omega) _ w hT.row)
  have hPs : (Gv.P (xs.take k)).size = sz := by rw [Gv.P_size, hs0]
  have hQs : (Gv.Q (xs.take k)).size = sz := by rw [Gv.Q_size, hs0]
  obtain ⟨P, hP⟩ : ∃ P, P = Gv.P (xs.take k) := ⟨_, rfl⟩
  obtain ⟨Q, hQ⟩ : ∃ Q, Q = Gv.Q (xs.take k) := ⟨_, rfl⟩
  unfold OfPost at HOf
  rw [← hP, ← hQ] at HOf
  rw [← hP] at hPs
  rw [← hQ] at hQs
  have HP := Lib.hid hP
  have HQ := Lib.hid hQ
  have HO := Lib.hid hO
  have Hts := Lib.hid htl
  clear hO hT hts hs0 hP hQ htl
  go_enter Tryz.func145, Tryz.ntmps145
  go_wp2_with fail
  refine HOf.out.mono ?_
  rintro e w1 ⟨rfl, hb1⟩
  have HB1 := Lib.hid hb1
  have hz1 := hb1.size
  clear hb1 HOf
  have HP1 := Lib.hid (plus_any P p (by omega) (by omega) w1)
  go_wp2_with fail
  refine HP1.out.mono ?_
  rintro e w2 ⟨rfl, hb2⟩
  have HB2 := Lib.hid (HB1.out.trans (hb2.mono hz1))
  have hz2 := HB2.out.size
  clear hb2 HP1
  have HP1 := Lib.hid (plus_any Q q (by omega) (by omega) w2)
  go_wp2_with fail
  refine HP1.out.mono ?_
  rintro e w3 ⟨rfl, hb3⟩
  have HB3 := Lib.hid (HB2.out.trans (hb3.mono hz2))
  have hz3 := HB3.out.size
  have HO3 := Lib.hid (HO.out.below HB3.out)
  have HR3 := Lib.hid (Row.below hrow HB3.out)
  have hdp : (Gv.plusS P p).size = sz := by rw [Gv.plus_size, hPs]
  have hdq : (Gv.plusS Q q).size = sz := by rw [Gv.plus_size, hQs]
  obtain ⟨dp, hdpe⟩ : ∃ x, x = Gv.plusS P p := ⟨_, rfl⟩
  obtain ⟨dq, hdqe⟩ : ∃ x, x = Gv.plusS Q q := ⟨_, rfl⟩
  rw [← hdpe, ← hdqe]
  rw [← hdpe] at hdp
  rw [← hdqe] at hdq
  rw [HP.out] at hdpe
  rw [HQ.out] at hdqe
  have Hdp := Lib.hid hdpe
  have Hdq := Lib.hid hdqe
  clear hb3 HP1 hdpe hdqe HP HQ hrow HO hPs hQs HB1 HB2
  have d0 : w3.cell? ⟨gg, og, none⟩ = some (iv i) := (HB3.out.cell (p := ⟨gg, og, none⟩) hgg).trans cg0
  have hiI : (i : Int) < (k : Int) := by omega
  have HK3 : Hid (Kept (· = g) w w3) := Lib.hid (Kept.new _ HB3.out)
  have ci : ∃ s0 : ByteArray, w3.cell? ⟨g, o + i, none⟩ = some (.string s0) := by
    obtain ⟨gx, ox, cx, hvx, _, _, _, _, hcx, _⟩ := HO3.out.at0 (by rw [List.length_map]; omega)
    injection hvx with e1 e2 e3
    injection e1 with e1
    injection e1 with e4 e5
    subst e4 e5
    rw [hcx i (by rw [List.length_map]; omega), List.getElem?_map, List.getElem?_eq_getElem (by omega)]; exact ⟨_, rfl⟩
  obtain ⟨s0, ci⟩ := ci
  have fi : w3.frozen? ⟨g, o + i, none⟩ = false := HO3.out.fz rfl _
  clear cg0
  go_wp2_with fail
  go_end0
  refine ⟨rfl, ?_, HK3.out.set1 _ _⟩
  have e1 : Gv.healed (xs.take k) [i] p q false lq = (xs.take k).set i dp := by
    show (xs.take k).set i _ = _
    rw [Hdp.out]
  rw [e1, set_take _ _ _ _ hik]
  exact HO3.out.setStr (by omega) _
set_option maxRecDepth 100000 in
set_option maxHeartbeats 2000000 in
theorem healed1q_any {base g o n cap k sz : Nat} {xs : List ByteArray} {i : Nat} {vg : Value} {p q : ByteArray} {w : World} (h : HPre w base g o n cap k sz xs [i] vg p q) :
    Calls Tryz.prog 145 #[.slice (some ⟨g, o, none⟩) k cap, vg, .string p, .string q, .bool true, .bool false] w (HealdPost base g o n cap k xs [i] p q true false w) := by
  have hik := h.low i (by simp)
  obtain ⟨gg, og, gc, rfl, g1, g2, g3⟩ := h.row.pos (by simp)
  have hvl : ([i].map (fun j => iv (j : Nat))).length = 1 := rfl
  rw [hvl] at g1 h ⊢
  have cg0 : w.cell? ⟨gg, og, none⟩ = some (iv i) := g3 0 (by simp)
  have hgg := World.block_lt_of_cell? w _ cg0
  have hne : gg ≠ g := h.off gg rfl
  unfold maxLen at g2
  clear g3 hvl
  obtain ⟨hO, hlen, hkn, hk1, hk250, hsz, hsz9, hlow, hrow, hoff, hps, hqs⟩ := h
  have hT : OwnR w base 9 (.slice (some ⟨g, o, none⟩) k cap) ((xs.take k).map Value.string) := by
    rw [List.map_take]; exact hO.head0 (by rw [List.length_map]; omega)
  have htl : (xs.take k).length = k := by rw [List.length_take]; omega
  have hts : ∀ s ∈ xs.take k, s.size = sz := fun s hs => hsz s (List.mem_of_mem_take hs)
  have hs0 : size0 (xs.take k) = sz := Gv.size0_of hts (by omega)
  have HOf := Lib.hid (of_any (xs.take k) (fun s hs => by rw [hs0]; exact hts s hs) (by omega) (by omega) _ w hT.row)
  have hPs : (Gv.P (xs.take k)).size = sz := by rw [Gv.P_size, hs0]
  have hQs : (Gv.Q (xs.take k)).size = sz := by rw [Gv.Q_size, hs0]
  obtain ⟨P, hP⟩ : ∃ P, P = Gv.P (xs.take k) := ⟨_, rfl⟩
  obtain ⟨Q, hQ⟩ : ∃ Q, Q = Gv.Q (xs.take k) := ⟨_, rfl⟩
  unfold OfPost at HOf
  rw [← hP, ← hQ] at HOf
  rw [← hP] at hPs
  rw [← hQ] at hQs
  have HP := Lib.hid hP
  have HQ := Lib.hid hQ
  have HO := Lib.hid hO
  have Hts := Lib.hid htl
  clear hO hT hts hs0 hP hQ htl
  go_enter Tryz.func145, Tryz.ntmps145
  go_wp2_with fail
  refine HOf.out.mono ?_
  rintro e w1 ⟨rfl, hb1⟩
  have HB1 := Lib.hid hb1
  have hz1 := hb1.size
  clear hb1 HOf
  have HP1 := Lib.hid (plus_any P p (by omega) (by omega) w1)
  go_wp2_with fail
  refine HP1.out.mono ?_
  rintro e w2 ⟨rfl, hb2⟩
  have HB2 := Lib.hid (HB1.out.trans (hb2.mono hz1))
  have hz2 := HB2.out.size
  clear hb2 HP1
  have HP1 := Lib.hid (plus_any Q q (by omega) (by omega) w2)
  go_wp2_with fail
  refine HP1.out.mono ?_
  rintro e w3 ⟨rfl, hb3⟩
  have HB3 := Lib.hid (HB2.out.trans (hb3.mono hz2))
  have hz3 := HB3.out.size
  have HO3 := Lib.hid (HO.out.below HB3.out)
  have HR3 := Lib.hid (Row.below hrow HB3.out)
  have hdp : (Gv.plusS P p).size = sz := by rw [Gv.plus_size, hPs]
  have hdq : (Gv.plusS Q q).size = sz := by rw [Gv.plus_size, hQs]
  obtain ⟨dp, hdpe⟩ : ∃ x, x = Gv.plusS P p := ⟨_, rfl⟩
  obtain ⟨dq, hdqe⟩ : ∃ x, x = Gv.plusS Q q := ⟨_, rfl⟩
  rw [← hdpe, ← hdqe]
  rw [← hdpe] at hdp
  rw [← hdqe] at hdq
  rw [HP.out] at hdpe
  rw [HQ.out] at hdqe
  have Hdp := Lib.hid hdpe
  have Hdq := Lib.hid hdqe
  clear hb3 HP1 hdpe hdqe HP HQ hrow HO hPs hQs HB1 HB2
  have d0 : w3.cell? ⟨gg, og, none⟩ = some (iv i) := (HB3.out.cell (p := ⟨gg, og, none⟩) hgg).trans cg0
  have hiI : (i : Int) < (k : Int) := by omega
  have HK3 : Hid (Kept (· = g) w w3) := Lib.hid (Kept.new _ HB3.out)
  have ci : ∃ s0 : ByteArray, w3.cell? ⟨g, o + i, none⟩ = some (.string s0) := by
    obtain ⟨gx, ox, cx, hvx, _, _, _, _, hcx, _⟩ := HO3.out.at0 (by rw [List.length_map]; omega)
    injection hvx with e1 e2 e3
    injection e1 with e1
    injection e1 with e4 e5
    subst e4 e5
    rw [hcx i (by rw [List.length_map]; omega), List.getElem?_map, List.getElem?_eq_getElem (by omega)]; exact ⟨_, rfl⟩
  obtain ⟨s0, ci⟩ := ci
  have fi : w3.frozen? ⟨g, o + i, none⟩ = false := HO3.out.fz rfl _
  clear cg0
  have HPw := Lib.hid (fun W => power_any 2 i 2 i rfl rfl (by omega) W)
  obtain ⟨a, ha⟩ : ∃ a, a = Gf.pow 2 i := ⟨_, rfl⟩
  rw [← ha] at HPw
  have HIn := Lib.hid (fun W => inverse_any a (a.toNat : Int) rfl W)
  have hgl : g < w3.heap.size := (HO3.out.lt (g := g) rfl).2
  have hgl2 : gg < w3.heap.size := World.block_lt_of_cell? w3 _ d0
  have HT := Lib.hid (fun W => times_any dq (Gf.inv a) (by omega) W)
  have Ha := Lib.hid ha
  clear ha
  go_wp2_with fail
  go_region_held3 (fun w' => w'.cell? ⟨gg, og, none⟩ = some (iv i))
    (first
      | exact d0
      | exact kT
      | exact kS
      | go_keep)
    (first
      | (go_at_call 146; (with_reducible refine (HPw.out _).mono ?_); rintro e wA ⟨rfl, rfl⟩)
      | (go_at_call 162; (with_reducible refine (HIn.out _).mono ?_); rintro e wA ⟨rfl, rfl⟩)
      | (go_at_call 161; (with_reducible refine (HT.out _).mono ?_); rintro e wT ⟨rfl, hbT⟩; have HBT := Lib.hid ((bdrew (Below.refl w3.heap.size w3) _).trans hbT); have kT := (HBT.out.cell (p := ⟨gg, og, none⟩) hgl2).trans d0; have cT := (HBT.out.cell (p := ⟨g, o + i, none⟩) hgl).trans ci; have fT := (HBT.out.frozen (p := ⟨g, o + i, none⟩) hgl).trans fi; have kS : (wT.setCell ⟨g, o + i, none⟩ (.string (Gv.timesS dq (Gf.inv a)))).cell? ⟨gg, og, none⟩ = some (iv i) := (((Kept.self g wT).set1 (o + i) (.string (Gv.timesS dq (Gf.inv a)))).cell kT hne); clear hbT))
  have HOT := Lib.hid (HO3.out.below HBT.out)
  have HKT := Lib.hid (HK3.out.also (Kept.new _ HBT.out))
  go_wp2_with fail
  go_end0
  refine ⟨rfl, ?_, HKT.out.set1 _ _⟩
  have e1 : Gv.healed (xs.take k) [i] p q true false = (xs.take k).set i (Gv.timesS dq (Gf.inv a)) := by
    show (xs.take k).set i _ = _
    rw [Hdq.out, Ha.out]
  rw [e1, set_take _ _ _ _ hik]
  exact HOT.out.setStr (by omega) _
set_option maxRecDepth 100000 in
set_option maxHeartbeats 1000000 in
theorem healed0_any {base g o n cap k sz : Nat} {xs : List ByteArray} {vg : Value} {p q : ByteArray} {w : World} (h : HPre w base g o n cap k sz xs [] vg p q) (lp lq : Bool) :
    Calls Tryz.prog 145 #[.slice (some ⟨g, o, none⟩) k cap, vg, .string p, .string q, .bool lp, .bool lq] w (HealdPost base g o n cap k xs [] p q lp lq w) := by
  obtain ⟨pg, gc, rfl, g1, g2, _⟩ := h.row.shape
  have hvl : (([] : List Nat).map (fun j => iv (j : Nat))).length = 0 := rfl
  rw [hvl] at g1 h ⊢
  clear hvl
  obtain ⟨hO, hlen, hkn, hk1, hk250, hsz, hsz9, hlow, hrow, hoff, hps, hqs⟩ := h
  have hT : OwnR w base 9 (.slice (some ⟨g, o, none⟩) k cap) ((xs.take k).map Value.string) := by
    rw [List.map_take]; exact hO.head0 (by rw [List.length_map]; omega)
  have htl : (xs.take k).length = k := by rw [List.length_take]; omega
  have hts : ∀ s ∈ xs.take k, s.size = sz := fun s hs => hsz s (List.mem_of_mem_take hs)
  have hs0 : size0 (xs.take k) = sz := Gv.size0_of hts (by omega)
  have HOf := Lib.hid (of_any (xs.take k) (fun s hs => by rw [hs0]; exact hts s hs) (by omega) (by omega) _ w hT.row)
  have hPs : (Gv.P (xs.take k)).size = sz := by rw [Gv.P_size, hs0]
  have hQs : (Gv.Q (xs.take k)).size = sz := by rw [Gv.Q_size, hs0]
  obtain ⟨P, hP⟩ : ∃ P, P = Gv.P (xs.take k) := ⟨_, rfl⟩
  obtain ⟨Q, hQ⟩ : ∃ Q, Q = Gv.Q (xs.take k) := ⟨_, rfl⟩
  unfold OfPost at HOf
  rw [← hP, ← hQ] at HOf
  rw [← hP] at hPs
  rw [← hQ] at hQs
  have HP := Lib.hid hP
  have HQ := Lib.hid hQ
  have HO := Lib.hid hO
  have Hts := Lib.hid htl
  clear hO hT hts hs0 hP hQ htl
  go_enter Tryz.func145, Tryz.ntmps145
  go_wp2_with fail
  refine HOf.out.mono ?_
  rintro e w1 ⟨rfl, hb1⟩
  have HB1 := Lib.hid hb1
  have hz1 := hb1.size
  clear hb1 HOf
  have HP1 := Lib.hid (plus_any P p (by omega) (by omega) w1)
  go_wp2_with fail
  refine HP1.out.mono ?_
  rintro e w2 ⟨rfl, hb2⟩
  have HB2 := Lib.hid (HB1.out.trans (hb2.mono hz1))
  have hz2 := HB2.out.size
  clear hb2 HP1
  have HP1 := Lib.hid (plus_any Q q (by omega) (by omega) w2)
  go_wp2_with fail
  refine HP1.out.mono ?_
  rintro e w3 ⟨rfl, hb3⟩
  have HB3 := Lib.hid (HB2.out.trans (hb3.mono hz2))
  have hz3 := HB3.out.size
  have HO3 := Lib.hid (HO.out.below HB3.out)
  have HR3 := Lib.hid (Row.below hrow HB3.out)
  have hdp : (Gv.plusS P p).size = sz := by rw [Gv.plus_size, hPs]
  have hdq : (Gv.plusS Q q).size = sz := by rw [Gv.plus_size, hQs]
  obtain ⟨dp, hdpe⟩ : ∃ x, x = Gv.plusS P p := ⟨_, rfl⟩
  obtain ⟨dq, hdqe⟩ : ∃ x, x = Gv.plusS Q q := ⟨_, rfl⟩
  rw [← hdpe, ← hdqe]
  rw [← hdpe] at hdp
  rw [← hdqe] at hdq
  rw [HP.out] at hdpe
  rw [HQ.out] at hdqe
  have Hdp := Lib.hid hdpe
  have Hdq := Lib.hid hdqe
  clear hb3 HP1 hdpe hdqe HP HQ hrow HO hPs hQs HB1 HB2
  have HK3 : Hid (Kept (· = g) w w3) := Lib.hid (Kept.new _ HB3.out)
  go_wp2_with fail
  go_end0
  refine ⟨rfl, ?_, HK3.out⟩
  have e1 : Gv.healed (xs.take k) [] p q lp lq ++ xs.drop k = xs := List.take_append_drop k xs
  rw [e1]
  exact HO3.out
set_option maxRecDepth 100000 in
set_option maxHeartbeats 1000000 in
theorem healed1n_any {base g o n cap k sz : Nat} {xs : List ByteArray} {i : Nat} {vg : Value} {p q : ByteArray} {w : World} (h : HPre w base g o n cap k sz xs [i] vg p q) :
    Calls Tryz.prog 145 #[.slice (some ⟨g, o, none⟩) k cap, vg, .string p, .string q, .bool true, .bool true] w (HealdPost base g o n cap k xs [i] p q true true w) := by
  have hik := h.low i (by simp)
  obtain ⟨gg, og, gc, rfl, g1, g2, g3⟩ := h.row.pos (by simp)
  have hvl : ([i].map (fun j => iv (j : Nat))).length = 1 := rfl
  rw [hvl] at g1 h ⊢
  have cg0 : w.cell? ⟨gg, og, none⟩ = some (iv i) := g3 0 (by simp)
  have hgg := World.block_lt_of_cell? w _ cg0
  have hne : gg ≠ g := h.off gg rfl
  unfold maxLen at g2
  clear g3 hvl
  obtain ⟨hO, hlen, hkn, hk1, hk250, hsz, hsz9, hlow, hrow, hoff, hps, hqs⟩ := h
  have hT : OwnR w base 9 (.slice (some ⟨g, o, none⟩) k cap) ((xs.take k).map Value.string) := by
    rw [List.map_take]; exact hO.head0 (by rw [List.length_map]; omega)
  have htl : (xs.take k).length = k := by rw [List.length_take]; omega
  have hts : ∀ s ∈ xs.take k, s.size = sz := fun s hs => hsz s (List.mem_of_mem_take hs)
  have hs0 : size0 (xs.take k) = sz := Gv.size0_of hts (by omega)
  have HOf := Lib.hid (of_any (xs.take k) (fun s hs => by rw [hs0]; exact hts s hs) (by omega) (by omega) _ w hT.row)
  have hPs : (Gv.P (xs.take k)).size = sz := by rw [Gv.P_size, hs0]
  have hQs : (Gv.Q (xs.take k)).size = sz := by rw [Gv.Q_size, hs0]
  obtain ⟨P, hP⟩ : ∃ P, P = Gv.P (xs.take k) := ⟨_, rfl⟩
  obtain ⟨Q, hQ⟩ : ∃ Q, Q = Gv.Q (xs.take k) := ⟨_, rfl⟩
  unfold OfPost at HOf
  rw [← hP, ← hQ] at HOf
  rw [← hP] at hPs
  rw [← hQ] at hQs
  have HP := Lib.hid hP
  have HQ := Lib.hid hQ
  have HO := Lib.hid hO
  have Hts := Lib.hid htl
  clear hO hT hts hs0 hP hQ htl
  go_enter Tryz.func145, Tryz.ntmps145
  go_wp2_with fail
  refine HOf.out.mono ?_
  rintro e w1 ⟨rfl, hb1⟩
  have HB1 := Lib.hid hb1
  have hz1 := hb1.size
  clear hb1 HOf
  have HP1 := Lib.hid (plus_any P p (by omega) (by omega) w1)
  go_wp2_with fail
  refine HP1.out.mono ?_
  rintro e w2 ⟨rfl, hb2⟩
  have HB2 := Lib.hid (HB1.out.trans (hb2.mono hz1))
  have hz2 := HB2.out.size
  clear hb2 HP1
  have HP1 := Lib.hid (plus_any Q q (by omega) (by omega) w2)
  go_wp2_with fail
  refine HP1.out.mono ?_
  rintro e w3 ⟨rfl, hb3⟩
  have HB3 := Lib.hid (HB2.out.trans (hb3.mono hz2))
  have hz3 := HB3.out.size
  have HO3 := Lib.hid (HO.out.below HB3.out)
  have HR3 := Lib.hid (Row.below hrow HB3.out)
  have hdp : (Gv.plusS P p).size = sz := by rw [Gv.plus_size, hPs]
  have hdq : (Gv.plusS Q q).size = sz := by rw [Gv.plus_size, hQs]
  obtain ⟨dp, hdpe⟩ : ∃ x, x = Gv.plusS P p := ⟨_, rfl⟩
  obtain ⟨dq, hdqe⟩ : ∃ x, x = Gv.plusS Q q := ⟨_, rfl⟩
  rw [← hdpe, ← hdqe]
  rw [← hdpe] at hdp
  rw [← hdqe] at hdq
  rw [HP.out] at hdpe
  rw [HQ.out] at hdqe
  have Hdp := Lib.hid hdpe
  have Hdq := Lib.hid hdqe
  clear hb3 HP1 hdpe hdqe HP HQ hrow HO hPs hQs HB1 HB2
  have HK3 : Hid (Kept (· = g) w w3) := Lib.hid (Kept.new _ HB3.out)
  go_wp2_with fail
  go_end0
  refine ⟨rfl, ?_, HK3.out⟩
  have e1 : Gv.healed (xs.take k) [i] p q true true ++ xs.drop k = xs := List.take_append_drop k xs
  rw [e1]
  exact HO3.out
/-- all of it, of two at most -/
theorem healed_any {base g o n cap k sz : Nat} {xs : List ByteArray} {gone : List Nat} {vg : Value} {p q : ByteArray} {w : World} (h : HPre w base g o n cap k sz xs gone vg p q) (hnd : gone.Nodup) (h2 : gone.length ≤ 2) (lp lq : Bool) :
    Calls Tryz.prog 145 #[.slice (some ⟨g, o, none⟩) k cap, vg, .string p, .string q, .bool lp, .bool lq] w (HealdPost base g o n cap k xs gone p q lp lq w) := by
  match gone, h, hnd, h2 with
  | [], h, _, _ => exact healed0_any h lp lq
  | [i], h, _, _ =>
    cases lp with
    | false => exact healed1p_any h lq
    | true =>
      cases lq with
      | false => exact healed1q_any h
      | true => exact healed1n_any h
  | [i, j], h, hnd, _ => exact healed2_any h (by simp at hnd; exact hnd) lp lq
  | _ :: _ :: _ :: _, _, _, h2 => simp at h2
end Go.Proofs.YtneebcniofolmaaGreatDoor
