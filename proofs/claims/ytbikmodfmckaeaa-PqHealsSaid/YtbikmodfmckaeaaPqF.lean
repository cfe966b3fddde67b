/- The walk of the law PqHeals, all asked for: it returns true. -/
import Derived.Test.YtbikmodfmckaeaaPqG
namespace Go.Proofs.Ytbikmodfmckaeaa
open Go.ChangeShapes Go.WideShapes Go.ChangeAt Go.RowKit
set_option linter.unusedVariables false
theorem owns_bools (N : Nat) (hN : N ≤ 1000000) (w : World) : OwnR (w.alloc (.cells (madeCells #[.bool false] N) 4)) w.heap.size 4 (.slice (some ⟨w.heap.size, 0, none⟩) N N) (List.replicate N (.bool false)) := by
  have hl : (madeCells #[Value.bool false] N).toList = List.replicate N (.bool false) := toList_madeCells_one _ _
  have hs : (madeCells #[Value.bool false] N).size = N := by rw [← Array.length_toList, hl, List.length_replicate]
  refine .inr ⟨w.heap.size, 0, N, _, by rw [List.length_replicate], Nat.le_refl _, heap_alloc_new w _, by rw [List.length_replicate]; exact Nat.le_refl _, by unfold maxLen; omega, by rw [hs]; omega, fun j hj => ?_⟩
  rw [Nat.zero_add, ← Array.getElem?_toList, hl]
theorem OwnR.cellS {w : World} {base g n cap : Nat} {l : List ByteArray} (h : OwnR w base 9 (.slice (some ⟨g, 0, none⟩) n cap) (l.map Value.string)) {j : Nat} (hj : j < l.length) : w.cell? ⟨g, j, none⟩ = some (.string (l.getD j ⟨#[]⟩)) := by
  obtain ⟨gx, ox, cx, hvx, _, _, _, _, hcx, _⟩ := h.at0 (by rw [List.length_map]; omega)
  injection hvx with e1 e2 e3
  injection e1 with e1
  injection e1 with e4 e5
  subst e4 e5
  have h := hcx j (by rw [List.length_map]; exact hj)
  rw [Nat.zero_add] at h
  rw [h, List.getElem?_map, List.getElem?_eq_getElem hj, List.getD_eq_getElem?_getD, List.getElem?_eq_getElem hj]; rfl
theorem OwnR.storeS {w : World} {base g n cap j : Nat} {l : List ByteArray} (h : OwnR w base 9 (.slice (some ⟨g, 0, none⟩) n cap) (l.map Value.string)) (hj : j < l.length) (x : ByteArray) : OwnR (w.setCell ⟨g, j, none⟩ (.string x)) base 9 (.slice (some ⟨g, 0, none⟩) n cap) ((l.set j x).map Value.string) := by
  have h1 := h.setStr hj x
  rw [Nat.zero_add] at h1; exact h1
theorem OwnR.apart {w : World} {base : Nat} {E : TypeId} {v : Value} {xs : List Value} (h : OwnR w base E v xs) {g j : Nat} {u : Value} (hne : ∀ g', v.ownBlock = some g' → g' ≠ g) : OwnR (w.setCell ⟨g, j, none⟩ u) base E v xs :=
  h.kept ((Kept.self g w).set1 j u) (fun g' hg e => hne g' hg e)
theorem cells_two (w : World) (a b : Value) (E : TypeId) : ∀ j u, [a, b][j]? = some u → (w.alloc (.cells #[a, b] E)).cell? ((⟨w.heap.size, 0, none⟩ : Addr).add j) = some u := by
  intro j u hj
  have hj2 : j = 0 ∨ j = 1 := by have := (List.getElem?_eq_some_iff.1 hj).1; simp at this; omega
  rw [Addr.add_lit, Nat.zero_add, World.cell?_alloc_at _ _ _ _ rfl]
  rcases hj2 with rfl | rfl <;> exact hj
set_option maxRecDepth 100000 in
set_option maxHeartbeats 8000000 in
theorem pqHeals_core (ds : List ByteArray) (hF : Gv.pqF ds = 0) (va : Value) (i j : Nat) (hi : i < ds.length + 2) (hj : j < ds.length + 2) (junk now : ByteArray) (w : World) (ha : Strs w va ds) :
    Calls Try.prog 8 #[va, iv i, iv j, .string junk, .string now] w fun e w' => e = .returned (.bool true) ∧ Below w.heap.size w w' := by
  have Ha := Lib.hid ha
  have hz := pqF_zero hF
  have HF := Lib.hid hF
  obtain ⟨ga, oa, ca, rfl, a1, a2, a3⟩ := Row.pos ha (by rw [List.length_map]; omega)
  rw [List.length_map] at a1
  simp only [List.length_map] at Ha ⊢
  have hca : ∀ q, q < ds.length → w.cell? ⟨ga, oa + q, none⟩ = some (.string (ds.getD q ⟨#[]⟩)) := by
    intro q hq
    have := a3 q (by rw [List.length_map]; exact hq)
    rw [this, List.getElem?_map, List.getElem?_eq_getElem hq, List.getD_eq_getElem?_getD, List.getElem?_eq_getElem hq]; rfl
  have hga : ga < w.heap.size := World.block_lt_of_cell? w _ (hca 0 (by omega))
  obtain ⟨m, hm⟩ : ∃ m, m = ds.length := ⟨_, rfl⟩
  obtain ⟨n0, hn0⟩ : ∃ n, n = size0 ds := ⟨_, rfl⟩
  rw [← hm] at hz Ha a1 hi hj hca ⊢
  rw [← hn0] at hz
  have hm1 := hz.1
  have hm10 := hz.2.1
  have h16 := hz.2.2.2
  have Hsz := Lib.hid hz.2.2.1
  obtain ⟨N, hN⟩ : ∃ N, N = m + 2 := ⟨_, rfl⟩
  rw [← hN] at hi hj
  have hw : IntKind.i64.wrap ((m : Int) + 2) = (N : Int) := (IntWalk.i64_in _ (by omega)).trans (by omega)
  have t0 : decide ((N : Int) < 3) = false := dec_f (by omega)
  have t1 : (N : Int) ≤ 12 := by omega
  have t2 : decide ((i : Int) < 0) = false := dec_f (by omega)
  have t3 : decide ((N : Int) ≤ (i : Int)) = false := dec_f (by omega)
  have t4 : decide ((j : Int) < 0) = false := dec_f (by omega)
  have t5 : decide ((N : Int) ≤ (j : Int)) = false := dec_f (by omega)
  have tiI : (i : Int) < (N : Int) := by omega
  have tjI : (j : Int) < (N : Int) := by omega
  have hmN : m < N := by omega
  have hN3 : 3 ≤ N := by omega
  have hN12 : N ≤ 12 := by omega
  obtain ⟨P, hP⟩ : ∃ P, P = Gv.P ds := ⟨_, rfl⟩
  obtain ⟨Q, hQ⟩ : ∃ Q, Q = Gv.Q ds := ⟨_, rfl⟩
  obtain ⟨cc, hcc⟩ : ∃ cc, cc = ds ++ [P, Q] := ⟨_, rfl⟩
  have Hcw : Hid (Gv.Cw n0 m cc) := Lib.hid ⟨ds, hm.symm, hz.2.2.1, by rw [hcc, hP, hQ]⟩
  have Hcl : Hid (cc.length = N) := Lib.hid (by rw [Hcw.out.len, hN])
  have HN := Lib.hid hN
  have Hm := Lib.hid hm
  have HP := Lib.hid hP
  have HQ := Lib.hid hQ
  have Hcc := Lib.hid hcc
  have Hca := Lib.hid hca
  obtain ⟨i0, hinf, hi1, hi2, hi3⟩ := info_parts info_strG
  have HI := Lib.hid hinf
  unfold maxLen at a2
  clear ha hF hz hm hn0 hN hP hQ hcc hca a3 hinf
  have HE0 := Lib.hid (encode_any q56 _ _ (q56_row w))
  unfold EncPost at HE0
  simp only [q56_f, q56_p, q56_q, if_true] at HE0
  have hb0 : Below w.heap.size w (w.alloc (.cells #[.string ⟨#[5]⟩, .string ⟨#[6]⟩] 9)) := (Below.refl _ _).alloc (Nat.le_refl _) _
  have HB0 := Lib.hid hb0
  have hz0 := hb0.size
  clear hb0
  go_enter Try.func8, Try.ntmps8
  go_wp2_with fail
  refine HE0.out.mono ?_
  rintro e w1 ⟨rfl, hb1⟩
  have HB1 := Lib.hid (HB0.out.trans (hb1.mono hz0))
  have hz1 := HB1.out.size
  have HE := Lib.hid (encode_any ds _ w1 (Ha.out.low (Nat.le_refl _) HB1.out))
  unfold EncPost at HE
  clear hb1 HE0 HB0
  go_wp2_with fail
  simp only [HF.out, if_true] at HE
  rw [← HP.out, ← HQ.out] at HE
  refine HE.out.mono ?_
  rintro e w2 ⟨rfl, hb2⟩
  have HB2 := Lib.hid (HB1.out.trans (hb2.mono hz1))
  have hz2 := HB2.out.size
  have HA2 := Lib.hid (Ha.out.low (Nat.le_refl _) HB2.out)
  have hinf := HI.out
  clear hb2 HE HB1 hz1
  go_wp2_with (at_builtin; refine wpList_append_lies _ rfl _ _ 47 rfl w.heap.size 9 i0 (.string ⟨#[]⟩) 1 16 Try.underlying47 hinf hi1 hi2 hi3 rfl (by decide) _ 0 [] rfl (World.ownsRow_nil _ _ _ _) ⟨ga, oa, none⟩ m ca (ds.map Value.string) rfl ?x1 ?x2 ?x3 ?x4 ?x5 ?x6 ?x7 _ rfl ?_)
  case x1 => rw [List.length_map, ← Hm.out, Nat.mul_one]
  case x2 =>
    intro q u hq
    have hqm := (List.getElem?_eq_some_iff.1 hq).1
    rw [List.length_map, ← Hm.out] at hqm
    have h := (HB2.out.cell (p := ⟨ga, oa + q, none⟩) hga).trans (Hca.out q hqm)
    rw [Addr.add_lit, h, ← hq, List.getElem?_map, List.getElem?_eq_getElem (by rw [← Hm.out]; exact hqm), List.getD_eq_getElem?_getD, List.getElem?_eq_getElem (by rw [← Hm.out]; exact hqm)]; rfl
  case x3 => intro u hu; obtain ⟨x, _, rfl⟩ := List.mem_map.1 hu; rfl
  case x4 => exact hm1
  case x5 => unfold maxLen; omega
  case x6 => omega
  case x7 => omega
  intro g1 c1 w3 hown3 hgr3 hat3 hlt3
  try simp only [Nat.zero_add, List.nil_append] at hown3
  try simp only [Nat.zero_add]
  have HB3 := Lib.hid (HB2.out.grown hgr3 hz2 (fun g e => by cases e))
  have hz3 := HB3.out.size
  have HO3 := Lib.hid hown3
  have HOa := Lib.hid (hown3.alloc (.cells #[.string P, .string Q] 9))
  clear hown3 hgr3 hat3 HB2 hz2 HA2
  go_wp2_with (at_builtin; refine wpList_append_lies _ rfl _ _ 47 rfl w.heap.size 9 i0 (.string ⟨#[]⟩) 1 16 Try.underlying47 hinf hi1 hi2 hi3 rfl (by decide) _ m _ rfl HOa.out ⟨w3.heap.size, 0, none⟩ 2 2 [.string P, .string Q] rfl rfl ?y2 ?y3 ?y4 ?y5 ?y6 ?y7 _ rfl ?_)
  case y2 => exact cells_two _ _ _ _
  case y3 => intro u hu; simp at hu; rcases hu with rfl | rfl <;> rfl
  case y4 => decide
  case y5 => unfold maxLen; omega
  case y6 => omega
  case y7 => simp; omega
  intro g2 c2 w4 hown4 hgr4 hat4 hlt4
  rw [← HN.out] at hown4 ⊢
  have hO4 : w4.ownsRow w.heap.size 9 1 (.slice (some ⟨g2, 0, none⟩) N c2) N (cc.map Value.string) := by
    rw [Hcc.out, List.map_append]; exact hown4
  have hgb1 := (HO3.out.lt g1 rfl).1
  have HB4 := Lib.hid ((HB3.out.alloc hz3 (.cells #[.string P, .string Q] 9)).grown hgr4 (by simp; omega) (fun g e => by have : g1 = g := Option.some.inj e; omega))
  have hz4 := HB4.out.size
  have HO4 := Lib.hid hO4
  have hgb2 := (hO4.lt g2 rfl).1
  clear hown4 hgr4 hat4 HB3 hz3 hO4 HOa HO3 hgb1 hlt3
  go_wp2_with (at_builtin; refine wpList_append_lies _ rfl _ _ 47 rfl w.heap.size 9 i0 (.string ⟨#[]⟩) 1 16 Try.underlying47 hinf hi1 hi2 hi3 rfl (by decide) _ 0 [] rfl (World.ownsRow_nil _ _ _ _) ⟨g2, 0, none⟩ N c2 (cc.map Value.string) rfl ?z1 ?z2 ?z3 ?z4 ?z5 ?z6 ?z7 _ rfl ?_)
  case z1 => rw [List.length_map, Hcl.out, Nat.mul_one]
  case z2 =>
    intro q u hq
    have hqm := (List.getElem?_eq_some_iff.1 hq).1
    rw [List.length_map] at hqm
    rw [Addr.add_lit, Nat.zero_add, (OwnR.of_owns HO4.out).cellS hqm, ← hq, List.getElem?_map, List.getElem?_eq_getElem hqm, List.getD_eq_getElem?_getD, List.getElem?_eq_getElem hqm]; rfl
  case z3 => intro u hu; obtain ⟨x, _, rfl⟩ := List.mem_map.1 hu; rfl
  case z4 => omega
  case z5 => unfold maxLen; omega
  case z6 => omega
  case z7 => omega
  intro g3 c3 w5 hown5 hgr5 hat5 hlt5
  try simp only [Nat.zero_add, List.nil_append] at hown5
  try simp only [Nat.zero_add]
  have hg3 : g3 = w4.heap.size := by rcases hat5 with h | h; cases h; exact h
  have hb5 : Below w4.heap.size w4 w5 := (Below.refl _ _).grown hgr5 (Nat.le_refl _) (fun g e => by cases e)
  have HB5 := Lib.hid (HB4.out.trans (hb5.mono hz4))
  have hz5 := HB5.out.size
  have HC5 := Lib.hid (OwnR.of_owns (owns_below HO4.out hb5))
  have HT5 := Lib.hid (OwnR.of_owns hown5)
  have hg23 : g2 < g3 := by omega
  have hgb3 := (hown5.lt g3 rfl).1
  have mk := make_bools N (by omega) w5
  clear hown5 hgr5 hat5 hb5 HO4 HB4 hg3 hz4 hlt4 hinf
  go_upto_region 16 with (fail)
  obtain ⟨gL, hgL⟩ : ∃ gL, gL = w5.heap.size := ⟨_, rfl⟩
  obtain ⟨w6, hw6⟩ : ∃ w6, w6 = w5.alloc (.cells (madeCells #[.bool false] N) 4) := ⟨_, rfl⟩
  have hb6 : Below w5.heap.size w5 w6 := by rw [hw6]; exact (Below.refl _ _).alloc (Nat.le_refl _) _
  have HL6 : Hid (OwnR w6 w.heap.size 4 (.slice (some ⟨gL, 0, none⟩) N N) (List.replicate N (.bool false))) := Lib.hid (by rw [hw6, hgL]; exact (owns_bools N (by omega) w5).mono hz5)
  have HB6 := Lib.hid (HB5.out.trans (hb6.mono hz5))
  have HC6 := Lib.hid (HC5.out.below hb6)
  have HT6 := Lib.hid (HT5.out.below hb6)
  have hg3L : g3 < gL := by omega
  have hgbL : w.heap.size ≤ gL := by omega
  have ci6 : w6.cell? ⟨gL, i, none⟩ = some (.bool false) := by
    rw [hw6, hgL, cell_of_row _ _ _ _ _ _ (heap_alloc_new w5 _), ← Array.getElem?_toList, toList_madeCells_one, List.getElem?_replicate, if_pos hi]
  have cj6 : w6.cell? ⟨gL, j, none⟩ = some (.bool false) := by
    rw [hw6, hgL, cell_of_row _ _ _ _ _ _ (heap_alloc_new w5 _), ← Array.getElem?_toList, toList_madeCells_one, List.getElem?_replicate, if_pos hj]
  have f6 : ∀ k, w6.frozen? ⟨gL, k, none⟩ = false := fun k => by
    rw [hw6, hgL]; exact frozen_of_row _ _ _ _ _ (heap_alloc_new w5 _)
  have fi6 := f6 i
  rw [← hw6, ← hgL]
  clear hb6 HB5 HC5 HT5 hw6 hgL mk hz5 hlt5
  go_upto_region 17 with (fail)
  obtain ⟨w7, hw7⟩ : ∃ w7, w7 = w6.setCell ⟨gL, i, none⟩ (.bool true) := ⟨_, rfl⟩
  have HL7 : Hid (OwnR w7 w.heap.size 4 (.slice (some ⟨gL, 0, none⟩) N N) ((List.replicate N (.bool false)).set i (.bool true))) := Lib.hid (by
    have h := HL6.out.setAt (k := i) (by rw [List.length_replicate]; exact hi) (.bool true)
    rw [Nat.zero_add] at h
    rw [hw7]; exact h)
  have cj7 : ∃ b7, w7.cell? ⟨gL, j, none⟩ = some (.bool b7) := by
    obtain ⟨gx, ox, cx, hvx, _, _, _, _, hcx, _⟩ := HL7.out.at0 (by rw [List.length_set, List.length_replicate]; omega)
    injection hvx with e1 e2 e3
    injection e1 with e1
    injection e1 with e4 e5
    subst e4 e5
    have h := hcx j (by rw [List.length_set, List.length_replicate]; exact hj)
    rw [Nat.zero_add, List.getElem?_set, List.length_replicate, List.getElem?_replicate] at h
    by_cases e : i = j
    · rw [if_pos e, if_pos hi] at h; exact ⟨_, h⟩
    · rw [if_neg e, if_pos hj] at h; exact ⟨_, h⟩
  obtain ⟨b7, cj7⟩ := cj7
  have HC7 : Hid (OwnR w7 w.heap.size 9 (.slice (some ⟨g2, 0, none⟩) N c2) (cc.map Value.string)) := Lib.hid (by rw [hw7]; exact HC6.out.apart (fun g' e => by have : g2 = g' := Option.some.inj e; omega))
  have HT7 : Hid (OwnR w7 w.heap.size 9 (.slice (some ⟨g3, 0, none⟩) N c3) (cc.map Value.string)) := Lib.hid (by rw [hw7]; exact HT6.out.apart (fun g' e => by have : g3 = g' := Option.some.inj e; omega))
  have HB7 : Hid (Below w.heap.size w w7) := Lib.hid (by rw [hw7]; exact HB6.out.setCell (p := ⟨gL, i, none⟩) hgbL _)
  have fj7 : w7.frozen? ⟨gL, j, none⟩ = false := HL7.out.fz rfl _
  rw [← hw7]
  clear hw7 HL6 HC6 HT6 HB6 ci6 cj6 f6 fi6
  go_upto_region 18 with (fail)
  obtain ⟨w8, hw8⟩ : ∃ w8, w8 = w7.setCell ⟨gL, j, none⟩ (.bool true) := ⟨_, rfl⟩
  have HL8 : Hid (BoolR w8 (.slice (some ⟨gL, 0, none⟩) N N) (Gv.marks2 N i j)) := Lib.hid (by
    have h := HL7.out.setAt (k := j) (by rw [List.length_set, List.length_replicate]; exact hj) (.bool true)
    rw [Nat.zero_add] at h
    have e : (Gv.marks2 N i j).map Value.bool = ((List.replicate N (Value.bool false)).set i (.bool true)).set j (.bool true) := by
      rw [← Gv.marks_set hi hj, List.map_set, List.map_set, List.map_replicate]
    show Row w8 _ ((Gv.marks2 N i j).map Value.bool)
    rw [e, hw8]; exact h.row)
  have HC8 : Hid (OwnR w8 w.heap.size 9 (.slice (some ⟨g2, 0, none⟩) N c2) (cc.map Value.string)) := Lib.hid (by rw [hw8]; exact HC7.out.apart (fun g' e => by have : g2 = g' := Option.some.inj e; omega))
  have HT8 : Hid (OwnR w8 w.heap.size 9 (.slice (some ⟨g3, 0, none⟩) N c3) (cc.map Value.string)) := Lib.hid (by rw [hw8]; exact HT7.out.apart (fun g' e => by have : g3 = g' := Option.some.inj e; omega))
  have HB8 : Hid (Below w.heap.size w w8) := Lib.hid (by rw [hw8]; exact HB7.out.setCell (p := ⟨gL, j, none⟩) hgbL _)
  have ci8 := HT8.out.cellS (j := i) (by rw [Hcl.out]; exact hi)
  have fi8 : w8.frozen? ⟨g3, i, none⟩ = false := HT8.out.fz rfl _
  generalize cc.getD i ⟨#[]⟩ = ci at ci8
  rw [← hw8]
  clear hw8 HL7 HC7 HT7 HB7 cj7 fj7
  go_upto_region 19 with (fail)
  obtain ⟨w9, hw9⟩ : ∃ w9, w9 = w8.setCell ⟨g3, i, none⟩ (.string junk) := ⟨_, rfl⟩
  have HL9 : Hid (BoolR w9 (.slice (some ⟨gL, 0, none⟩) N N) (Gv.marks2 N i j)) := Lib.hid (by
    rw [hw9]; exact Kept.row HL8.out ((Kept.self g3 w8).set1 i _) (fun g o n c e _ h => by
      injection e with e1 _ _
      injection e1 with e1
      injection e1 with e1 _
      omega))
  have HC9 : Hid (OwnR w9 w.heap.size 9 (.slice (some ⟨g2, 0, none⟩) N c2) (cc.map Value.string)) := Lib.hid (by rw [hw9]; exact HC8.out.apart (fun g' e => by have : g2 = g' := Option.some.inj e; omega))
  have HT9 : Hid (OwnR w9 w.heap.size 9 (.slice (some ⟨g3, 0, none⟩) N c3) ((cc.set i junk).map Value.string)) := Lib.hid (by rw [hw9]; exact HT8.out.storeS (by rw [Hcl.out]; exact hi) junk)
  have HB9 : Hid (Below w.heap.size w w9) := Lib.hid (by rw [hw9]; exact HB8.out.setCell (p := ⟨g3, i, none⟩) hgb3 _)
  have cj9 := HT9.out.cellS (j := j) (by rw [List.length_set, Hcl.out]; exact hj)
  have fj9 : w9.frozen? ⟨g3, j, none⟩ = false := HT9.out.fz rfl _
  generalize (cc.set i junk).getD j ⟨#[]⟩ = cj at cj9
  rw [← hw9]
  clear hw9 HL8 HC8 HT8 HB8 ci8 fi8
  go_upto_region 20 with (fail)
  obtain ⟨wA, hwA⟩ : ∃ wA, wA = w9.setCell ⟨g3, j, none⟩ (.string junk) := ⟨_, rfl⟩
  have HLA : Hid (BoolR wA (.slice (some ⟨gL, 0, none⟩) N N) (Gv.marks2 N i j)) := Lib.hid (by
    rw [hwA]; exact Kept.row HL9.out ((Kept.self g3 w9).set1 j _) (fun g o n c e _ h => by
      injection e with e1 _ _
      injection e1 with e1
      injection e1 with e1 _
      omega))
  have HCA : Hid (OwnR wA w.heap.size 9 (.slice (some ⟨g2, 0, none⟩) N c2) (cc.map Value.string)) := Lib.hid (by rw [hwA]; exact HC9.out.apart (fun g' e => by have : g2 = g' := Option.some.inj e; omega))
  have HTA : Hid (OwnR wA w.heap.size 9 (.slice (some ⟨g3, 0, none⟩) N c3) (((cc.set i junk).set j junk).map Value.string)) := Lib.hid (by rw [hwA]; exact HT9.out.storeS (by rw [List.length_set, Hcl.out]; exact hj) junk)
  have HBA : Hid (Below w.heap.size w wA) := Lib.hid (by rw [hwA]; exact HB9.out.setCell (p := ⟨g3, j, none⟩) hgb3 _)
  rw [← hwA]
  clear hwA HL9 HC9 HT9 HB9 cj9 fj9
  have htn : ((cc.set i junk).set j junk).length = N := by rw [List.length_set, List.length_set, Hcl.out]
  have hth := Gv.torn_heal (ps := (cc.set i junk).set j junk) (x := i) (y := j) Hcw.out hm1 hm10 h16 (by rw [htn]; exact HN.out) (fun q hq h1 h2 => by
    rw [Gv.set_getD (by rw [List.length_set, Hcl.out]; exact hj), if_neg h2, Gv.set_getD (by rw [Hcl.out]; exact hi), if_neg h1])
  rw [← HN.out] at hth
  obtain ⟨tt, htt⟩ : ∃ tt, tt = (cc.set i junk).set j junk := ⟨_, rfl⟩
  rw [← htt] at hth htn HTA
  have hnn : tt.length = N := htn
  have HH := Lib.hid (Heal_any tt (Gv.marks2 N i j) (by rw [htn]; unfold Gv.marks2; simp) (by omega) (by omega) _ _ wA (by have h := HTA.out.row; exact h) HLA.out)
  have Hth := Lib.hid hth
  have Htt := Lib.hid htt
  have hzA := HBA.out.size
  clear hth htt htn hnn HLA
  go_wp2_with fail
  refine HH.out.mono ?_
  rintro e wB ⟨hok, _, hbB⟩
  obtain ⟨vB, rfl, hOB⟩ := hok Hth.out.1
  rw [Hth.out.2] at hOB
  have HBB := Lib.hid (HBA.out.trans (hbB.mono hzA))
  have hzB := HBB.out.size
  have HCB := Lib.hid (HCA.out.below hbB)
  have HTB := Lib.hid (HTA.out.below hbB)
  have HTx := Lib.hid (texts_eq cc vB (.slice (some ⟨g2, 0, none⟩) N c2) wB hOB.row HCB.out.row)
  clear hok hbB hOB HH HBA HCA HTA hzA Hth
  go_wp2_with fail
  refine HTx.out.mono ?_
  rintro e wC ⟨rfl, nd, rfl⟩
  have hbC : Below wB.heap.size wB (wB.drewN nd) := bdrew (Below.refl _ _) nd
  obtain ⟨wC, hwC⟩ : ∃ wC, wC = wB.drewN nd := ⟨_, rfl⟩
  rw [← hwC] at hbC
  have HBC := Lib.hid (HBB.out.trans (hbC.mono hzB))
  have hzC := HBC.out.size
  have HCC := Lib.hid (HCB.out.below hbC)
  have HTC := Lib.hid (HTB.out.below hbC)
  rw [← hwC]
  have HLo := Lib.hid (locate_ok cc n0 (by rw [Hcl.out]; omega) (by rw [Hcl.out]; omega) (Hcw.out.sz hm1) h16 _ wC HCC.out.row)
  unfold LocPost at HLo
  rw [Gv.locate_clean Hcw.out] at HLo
  clear hwC hbC HTx HBB HCB HTB hzB
  go_wp2_with fail
  refine HLo.out.mono ?_
  rintro e wD ⟨rfl, hbD⟩
  have HBD := Lib.hid (HBC.out.trans (hbD.mono hzC))
  have hzD := HBD.out.size
  have HCD := Lib.hid (HCC.out.below hbD)
  have HTD := Lib.hid (HTC.out.below hbD)
  have cD0 := (HBD.out.cell (p := ⟨ga, oa + 0, none⟩) hga).trans (Hca.out 0 (by omega))
  rw [Nat.add_zero] at cD0
  have hd0 : (ds.getD 0 ⟨#[]⟩).size = n0 := Hsz.out _ (Gv.getD_mem (by rw [← Hm.out]; omega))
  obtain ⟨d0, hd0e⟩ : ∃ d0, d0 = ds.getD 0 ⟨#[]⟩ := ⟨_, rfl⟩
  rw [← hd0e] at cD0 hd0
  have Hd0 := Lib.hid hd0
  have maI : (0 : Int) < (m : Int) := by omega
  clear hbD HLo HBC HCC HTC hzC hd0e hd0
  by_cases hnow : now.size = n0
  · have tn : ((now.size : Int) == (d0.size : Int)) = true := beq_t (by rw [Hd0.out, hnow])
    have Hnow := Lib.hid hnow
    clear hnow
    rw [show errV 0 = Value.nilIface from rfl]
    have pj := HCD.out.cellS (j := j) (by rw [Hcl.out]; exact hj)
    have ttl : tt.length = N := by rw [Htt.out, List.length_set, List.length_set, Hcl.out]
    have sj := HTD.out.cellS (j := j) (by rw [ttl]; exact hj)
    have fj : wD.frozen? ⟨g3, j, none⟩ = false := HTD.out.fz rfl _
    have Ttl := Lib.hid ttl
    obtain ⟨cj0, hcj0⟩ : ∃ x, x = cc.getD j ⟨#[]⟩ := ⟨_, rfl⟩
    rw [← hcj0] at pj
    have Hcj0 := Lib.hid hcj0
    generalize tt.getD j ⟨#[]⟩ = sj0 at sj
    clear ttl hcj0
    go_upto_region 29 with (fail)
    obtain ⟨wE, hwE⟩ : ∃ wE, wE = wD.setCell ⟨g3, j, none⟩ (.string cj0) := ⟨_, rfl⟩
    have HCE : Hid (OwnR wE w.heap.size 9 (.slice (some ⟨g2, 0, none⟩) N c2) (cc.map Value.string)) := Lib.hid (by rw [hwE]; exact HCD.out.apart (fun g' e => by have : g2 = g' := Option.some.inj e; omega))
    have HTE : Hid (OwnR wE w.heap.size 9 (.slice (some ⟨g3, 0, none⟩) N c3) ((tt.set j cj0).map Value.string)) := Lib.hid (by rw [hwE]; exact HTD.out.storeS (by rw [Ttl.out]; exact hj) cj0)
    have HBE : Hid (Below w.heap.size w wE) := Lib.hid (by rw [hwE]; exact HBD.out.setCell (p := ⟨g3, j, none⟩) hgb3 _)
    have si := HTE.out.cellS (j := i) (by rw [List.length_set, Ttl.out]; exact hi)
    have fi : wE.frozen? ⟨g3, i, none⟩ = false := HTE.out.fz rfl _
    generalize (tt.set j cj0).getD i ⟨#[]⟩ = si0 at si
    rw [← hwE]
    clear hwE HCD HTD HBD hzD pj sj fj cD0
    go_upto_region 30 with (fail)
    obtain ⟨wF, hwF⟩ : ∃ wF, wF = wE.setCell ⟨g3, i, none⟩ (.string now) := ⟨_, rfl⟩
    have HCF : Hid (OwnR wF w.heap.size 9 (.slice (some ⟨g2, 0, none⟩) N c2) (cc.map Value.string)) := Lib.hid (by rw [hwF]; exact HCE.out.apart (fun g' e => by have : g2 = g' := Option.some.inj e; omega))
    have HTF : Hid (OwnR wF w.heap.size 9 (.slice (some ⟨g3, 0, none⟩) N c3) ((cc.set i now).map Value.string)) := Lib.hid (by
      have h := HTE.out.storeS (j := i) (by rw [List.length_set, Ttl.out]; exact hi) now
      rw [Htt.out, Hcj0.out, Gv.torn_two (by rw [Hcl.out]; exact hi) (by rw [Hcl.out]; exact hj)] at h
      rw [hwF]
      exact h)
    have HBF : Hid (Below w.heap.size w wF) := Lib.hid (by rw [hwF]; exact HBE.out.setCell (p := ⟨g3, i, none⟩) hgb3 _)
    rw [← hwF]
    have hzF := HBF.out.size
    have hszi : ∀ s ∈ cc.set i now, s.size = n0 := by
      intro s hs
      rcases List.mem_or_eq_of_mem_set hs with h | h
      · exact Hcw.out.sz hm1 s h
      · rw [h]; exact Hnow.out
    have HLo := Lib.hid (locate_ok (cc.set i now) n0 (by rw [List.length_set, Hcl.out]; omega) (by rw [List.length_set, Hcl.out]; omega) hszi h16 _ wF HTF.out.row)
    unfold LocPost at HLo
    rw [Gv.locate_set Hcw.out hm1 hm10 (by rw [← HN.out]; exact hi) Hnow.out] at HLo
    clear hwF HCE HTE HBE si fi hszi Ttl Htt
    obtain ⟨ci0, hci0⟩ : ∃ x, x = cc.getD i ⟨#[]⟩ := ⟨_, rfl⟩
    rw [← hci0] at HLo
    have Hci0 := Lib.hid hci0
    clear hci0
    by_cases hnc : now = ci0
    · simp only [if_pos hnc] at HLo
      have ts : (now.toList == ci0.toList) = true := by rw [strq]; exact dec_t hnc
      clear hnc
      go_wp2_with fail
      refine HLo.out.mono ?_
      rintro e wG ⟨rfl, hbG⟩
      have HBG := Lib.hid (HBF.out.trans (hbG.mono hzF))
      have HCG := Lib.hid (HCF.out.below hbG)
      have hzG := HBG.out.size
      have pi := HCG.out.cellS (j := i) (by rw [Hcl.out]; exact hi)
      rw [← Hci0.out] at pi
      rw [show errV 0 = Value.nilIface from rfl]
      clear hbG HBF HCF HTF HLo hzF
      by_cases him : i < m
      · have tm : decide ((m : Int) ≤ (i : Int)) = false := dec_f (by omega)
        have tmI : (i : Int) < (m : Int) := by omega
        have hinf := HI.out
        have cA := fun q (hq : q < m) => (HBG.out.cell (p := ⟨ga, oa + q, none⟩) hga).trans (Hca.out q hq)
        have HcA := Lib.hid cA
        clear cA
        go_wp2_with (at_builtin; refine wpList_append_lies _ rfl _ _ 47 rfl w.heap.size 9 i0 (.string ⟨#[]⟩) 1 16 Try.underlying47 hinf hi1 hi2 hi3 rfl (by decide) _ 0 [] rfl (World.ownsRow_nil _ _ _ _) ⟨ga, oa, none⟩ m ca (ds.map Value.string) rfl ?u1 ?u2 ?u3 ?u4 ?u5 ?u6 ?u7 _ rfl ?_)
        case u1 => rw [List.length_map, ← Hm.out, Nat.mul_one]
        case u2 =>
          intro q u hq
          have hqm := (List.getElem?_eq_some_iff.1 hq).1
          rw [List.length_map, ← Hm.out] at hqm
          rw [Addr.add_lit, HcA.out q hqm, ← hq, List.getElem?_map, List.getElem?_eq_getElem (by rw [← Hm.out]; exact hqm), List.getD_eq_getElem?_getD, List.getElem?_eq_getElem (by rw [← Hm.out]; exact hqm)]; rfl
        case u3 => intro u hu; obtain ⟨x, _, rfl⟩ := List.mem_map.1 hu; rfl
        case u4 => exact hm1
        case u5 => unfold maxLen; omega
        case u6 => omega
        case u7 => omega
        intro g8 c8 wH hownH hgrH hatH hltH
        try simp only [Nat.zero_add, List.nil_append] at hownH
        try simp only [Nat.zero_add]
        have HBH := Lib.hid (HBG.out.grown hgrH hzG (fun g e => by cases e))
        have HOH := Lib.hid (OwnR.of_owns hownH)
        have hgb8 := (hownH.lt g8 rfl).1
        have sH := HOH.out.cellS (j := i) (by rw [← Hm.out]; exact him)
        have fH : wH.frozen? ⟨g8, i, none⟩ = false := HOH.out.fz rfl _
        obtain ⟨di, hdi⟩ : ∃ x, x = ds.getD i ⟨#[]⟩ := ⟨_, rfl⟩
        rw [← hdi] at sH
        have Hdi := Lib.hid hdi
        clear hownH hgrH hatH hltH HBG HCG hzG pi HcA hinf hdi
        go_wp2_with fail
        obtain ⟨wI, hwI⟩ : ∃ wI, wI = wH.setCell ⟨g8, i, none⟩ (.string now) := ⟨_, rfl⟩
        have HOI : Hid (OwnR wI w.heap.size 9 (.slice (some ⟨g8, 0, none⟩) m c8) ((ds.set i now).map Value.string)) := Lib.hid (by rw [hwI]; exact HOH.out.storeS (by rw [← Hm.out]; exact him) now)
        have HBI : Hid (Below w.heap.size w wI) := Lib.hid (by rw [hwI]; exact HBH.out.setCell (p := ⟨g8, i, none⟩) hgb8 _)
        have hzI := HBI.out.size
        rw [← hwI]
        have hszn : ∀ s ∈ ds.set i now, s.size = n0 := by
          intro s hs
          rcases List.mem_or_eq_of_mem_set hs with h | h
          · exact Hsz.out s h
          · rw [h]; exact Hnow.out
        have hpf : Gv.pqF (ds.set i now) = 0 := by
          unfold Gv.pqF
          rw [List.length_set, ← Hm.out, if_pos (by unfold manyB; rw [dec_t (by omega), dec_t (by omega)]; rfl)]
          exact blk_same hszn h16
        have HEn := Lib.hid (encode_any (ds.set i now) _ wI HOI.out.row)
        unfold EncPost at HEn
        simp only [hpf, if_true] at HEn
        have hdel := Gv.delta_right (i := i) Hsz.out (by rw [← Hm.out]; exact him) Hnow.out
        rw [← Hdi.out, ← HP.out, ← HQ.out] at hdel
        rw [hdel.1, hdel.2] at HEn
        have cI := (HBI.out.cell (p := ⟨ga, oa + i, none⟩) hga).trans (Hca.out i him)
        rw [← Hdi.out] at cI
        have hps : P.size = n0 := by rw [HP.out, Gv.P_size, Gv.size0_of Hsz.out (by rw [← Hm.out]; omega)]
        have hqs : Q.size = n0 := by rw [HQ.out, Gv.Q_size, Gv.size0_of Hsz.out (by rw [← Hm.out]; omega)]
        have hdis : di.size = n0 := by rw [Hdi.out]; exact Hsz.out _ (Gv.getD_mem (by rw [← Hm.out]; exact him))
        have HDl := Lib.hid (fun W => delta_ok i n0 (by omega) di now P Q hdis Hnow.out hps hqs h16 W)
        obtain ⟨A1, hA1⟩ : ∃ x, x = Gv.plusS P (Gv.plusS di now) := ⟨_, rfl⟩
        obtain ⟨A2, hA2⟩ : ∃ x, x = Gv.plusS Q (Gv.timesS (Gv.plusS di now) (Gf.pow 2 i)) := ⟨_, rfl⟩
        rw [← hA1, ← hA2] at HEn HDl
        clear hwI hszn hpf hdel hps hqs hdis hA1 hA2 HOH HBH sH fH
        refine HEn.out.mono ?_
        rintro e wJ ⟨rfl, hbJ⟩
        have HBJ := Lib.hid (HBI.out.trans (hbJ.mono hzI))
        have hzJ := HBJ.out.size
        have cJ := (hbJ.cell (p := ⟨ga, oa + i, none⟩) (Nat.lt_of_lt_of_le hga hzI)).trans cI
        clear hbJ HEn HBI HOI cI hzI
        go_wp2_with fail
        refine (HDl.out wJ).mono ?_
        rintro e wK ⟨rfl, hbK⟩
        have HBK := Lib.hid (HBJ.out.trans (hbK.mono hzJ))
        clear hbK HDl HBJ cJ hzJ
        go_wp2_with fail
        go_ret
        exact ⟨rfl, HBK.out⟩
      · have tm : decide ((m : Int) ≤ (i : Int)) = true := dec_t (by omega)
        have tmI : (m : Int) ≤ (i : Int) := by omega
        go_wp2_with fail
        go_ret
        exact ⟨rfl, HBG.out⟩
    · simp only [if_neg hnc] at HLo
      have ts : (now.toList == ci0.toList) = false := by rw [strq]; exact dec_f hnc
      clear hnc
      go_wp2_with fail
      refine HLo.out.mono ?_
      rintro e wG ⟨rfl, hbG⟩
      have HBG := Lib.hid (HBF.out.trans (hbG.mono hzF))
      have HCG := Lib.hid (HCF.out.below hbG)
      have hzG := HBG.out.size
      have pi := HCG.out.cellS (j := i) (by rw [Hcl.out]; exact hi)
      rw [← Hci0.out] at pi
      rw [show errV 0 = Value.nilIface from rfl]
      clear hbG HBF HCF HTF HLo hzF
      by_cases him : i < m
      · have tm : decide ((m : Int) ≤ (i : Int)) = false := dec_f (by omega)
        have tmI : (i : Int) < (m : Int) := by omega
        have hinf := HI.out
        have cA := fun q (hq : q < m) => (HBG.out.cell (p := ⟨ga, oa + q, none⟩) hga).trans (Hca.out q hq)
        have HcA := Lib.hid cA
        clear cA
        go_wp2_with (at_builtin; refine wpList_append_lies _ rfl _ _ 47 rfl w.heap.size 9 i0 (.string ⟨#[]⟩) 1 16 Try.underlying47 hinf hi1 hi2 hi3 rfl (by decide) _ 0 [] rfl (World.ownsRow_nil _ _ _ _) ⟨ga, oa, none⟩ m ca (ds.map Value.string) rfl ?u1 ?u2 ?u3 ?u4 ?u5 ?u6 ?u7 _ rfl ?_)
        case u1 => rw [List.length_map, ← Hm.out, Nat.mul_one]
        case u2 =>
          intro q u hq
          have hqm := (List.getElem?_eq_some_iff.1 hq).1
          rw [List.length_map, ← Hm.out] at hqm
          rw [Addr.add_lit, HcA.out q hqm, ← hq, List.getElem?_map, List.getElem?_eq_getElem (by rw [← Hm.out]; exact hqm), List.getD_eq_getElem?_getD, List.getElem?_eq_getElem (by rw [← Hm.out]; exact hqm)]; rfl
        case u3 => intro u hu; obtain ⟨x, _, rfl⟩ := List.mem_map.1 hu; rfl
        case u4 => exact hm1
        case u5 => unfold maxLen; omega
        case u6 => omega
        case u7 => omega
        intro g8 c8 wH hownH hgrH hatH hltH
        try simp only [Nat.zero_add, List.nil_append] at hownH
        try simp only [Nat.zero_add]
        have HBH := Lib.hid (HBG.out.grown hgrH hzG (fun g e => by cases e))
        have HOH := Lib.hid (OwnR.of_owns hownH)
        have hgb8 := (hownH.lt g8 rfl).1
        have sH := HOH.out.cellS (j := i) (by rw [← Hm.out]; exact him)
        have fH : wH.frozen? ⟨g8, i, none⟩ = false := HOH.out.fz rfl _
        obtain ⟨di, hdi⟩ : ∃ x, x = ds.getD i ⟨#[]⟩ := ⟨_, rfl⟩
        rw [← hdi] at sH
        have Hdi := Lib.hid hdi
        clear hownH hgrH hatH hltH HBG HCG hzG pi HcA hinf hdi
        go_wp2_with fail
        obtain ⟨wI, hwI⟩ : ∃ wI, wI = wH.setCell ⟨g8, i, none⟩ (.string now) := ⟨_, rfl⟩
        have HOI : Hid (OwnR wI w.heap.size 9 (.slice (some ⟨g8, 0, none⟩) m c8) ((ds.set i now).map Value.string)) := Lib.hid (by rw [hwI]; exact HOH.out.storeS (by rw [← Hm.out]; exact him) now)
        have HBI : Hid (Below w.heap.size w wI) := Lib.hid (by rw [hwI]; exact HBH.out.setCell (p := ⟨g8, i, none⟩) hgb8 _)
        have hzI := HBI.out.size
        rw [← hwI]
        have hszn : ∀ s ∈ ds.set i now, s.size = n0 := by
          intro s hs
          rcases List.mem_or_eq_of_mem_set hs with h | h
          · exact Hsz.out s h
          · rw [h]; exact Hnow.out
        have hpf : Gv.pqF (ds.set i now) = 0 := by
          unfold Gv.pqF
          rw [List.length_set, ← Hm.out, if_pos (by unfold manyB; rw [dec_t (by omega), dec_t (by omega)]; rfl)]
          exact blk_same hszn h16
        have HEn := Lib.hid (encode_any (ds.set i now) _ wI HOI.out.row)
        unfold EncPost at HEn
        simp only [hpf, if_true] at HEn
        have hdel := Gv.delta_right (i := i) Hsz.out (by rw [← Hm.out]; exact him) Hnow.out
        rw [← Hdi.out, ← HP.out, ← HQ.out] at hdel
        rw [hdel.1, hdel.2] at HEn
        have cI := (HBI.out.cell (p := ⟨ga, oa + i, none⟩) hga).trans (Hca.out i him)
        rw [← Hdi.out] at cI
        have hps : P.size = n0 := by rw [HP.out, Gv.P_size, Gv.size0_of Hsz.out (by rw [← Hm.out]; omega)]
        have hqs : Q.size = n0 := by rw [HQ.out, Gv.Q_size, Gv.size0_of Hsz.out (by rw [← Hm.out]; omega)]
        have hdis : di.size = n0 := by rw [Hdi.out]; exact Hsz.out _ (Gv.getD_mem (by rw [← Hm.out]; exact him))
        have HDl := Lib.hid (fun W => delta_ok i n0 (by omega) di now P Q hdis Hnow.out hps hqs h16 W)
        obtain ⟨A1, hA1⟩ : ∃ x, x = Gv.plusS P (Gv.plusS di now) := ⟨_, rfl⟩
        obtain ⟨A2, hA2⟩ : ∃ x, x = Gv.plusS Q (Gv.timesS (Gv.plusS di now) (Gf.pow 2 i)) := ⟨_, rfl⟩
        rw [← hA1, ← hA2] at HEn HDl
        clear hwI hszn hpf hdel hps hqs hdis hA1 hA2 HOH HBH sH fH
        refine HEn.out.mono ?_
        rintro e wJ ⟨rfl, hbJ⟩
        have HBJ := Lib.hid (HBI.out.trans (hbJ.mono hzI))
        have hzJ := HBJ.out.size
        have cJ := (hbJ.cell (p := ⟨ga, oa + i, none⟩) (Nat.lt_of_lt_of_le hga hzI)).trans cI
        clear hbJ HEn HBI HOI cI hzI
        go_wp2_with fail
        refine (HDl.out wJ).mono ?_
        rintro e wK ⟨rfl, hbK⟩
        have HBK := Lib.hid (HBJ.out.trans (hbK.mono hzJ))
        clear hbK HDl HBJ cJ hzJ
        go_wp2_with fail
        go_ret
        exact ⟨rfl, HBK.out⟩
      · have tm : decide ((m : Int) ≤ (i : Int)) = true := dec_t (by omega)
        have tmI : (m : Int) ≤ (i : Int) := by omega
        go_wp2_with fail
        go_ret
        exact ⟨rfl, HBG.out⟩
  · have tn : ((now.size : Int) == (d0.size : Int)) = false := beq_f (by rw [Hd0.out]; omega)
    clear hnow
    rw [show errV 0 = Value.nilIface from rfl]
    go_wp2_with fail
    go_ret
    exact ⟨rfl, HBD.out⟩
theorem pqHeals_walk (va : Value) (i k : Int) (junk now : ByteArray) (hi : (Lit.int .i64 i).wf = true) (hk : (Lit.int .i64 k).wf = true) (hj : junk.size ≤ maxLen) (hn : now.size ≤ maxLen) (w : World) (ha : ∃ ss, Strs w va ss ∧ ∀ s ∈ ss, s.size ≤ maxLen) :
    Calls Try.prog 8 #[va, iv i, iv k, .string junk, .string now] w fun e w' => e = .returned (.bool true) ∧ Below w.heap.size w w' := by
  obtain ⟨ds, ha, _⟩ := ha
  by_cases hF : Gv.pqF ds = 0
  · by_cases h : (0 ≤ i ∧ i < (ds.length : Int) + 2) ∧ (0 ≤ k ∧ k < (ds.length : Int) + 2)
    · obtain ⟨i', rfl⟩ : ∃ q : Nat, i = q := ⟨i.toNat, by omega⟩
      obtain ⟨k', rfl⟩ : ∃ q : Nat, k = q := ⟨k.toNat, by omega⟩
      exact pqHeals_core ds hF va i' k' (by omega) (by omega) junk now w ha
    · exact pqHeals_out ds hF va i k (by omega) junk now w ha
  · exact pqHeals_err ds hF va i k junk now w ha
end Go.Proofs.Ytbikmodfmckaeaa
