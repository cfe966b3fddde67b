/- The walk of the law PqTells: it returns true. -/
import Derived.Test.YtbikmodfmckaeaaDoorRPqZ
import Derived.Test.YtbikmodfmckaeaaDoorPqT
import Derived.Test.YtbikmodfmckaeaaDoorRPqU
import Derived.Test.YtbikmodfmckaeaaDoorBlk
import Derived.Test.YtbikmodfmckaeaaDoorOpen
namespace Go.Proofs.YtbikmodfmckaeaaDoor
open Go.ChangeShapes Go.WideShapes Go.ChangeAt Go.RowKit
set_option linter.unusedVariables false
def pR (ds : List ByteArray) : ByteArray := if Gv.pqF ds = 0 then Gv.P ds else ⟨#[]⟩
def qR (ds : List ByteArray) : ByteArray := if Gv.pqF ds = 0 then Gv.Q ds else ⟨#[]⟩
theorem enc_tot (ds : List ByteArray) (v : Value) (w : World) (hv : Strs w v ds) :
    Calls Tryd.prog 47 #[v] w fun e w' => e = .returned (.tuple #[.string (pR ds), .string (qR ds), errV (Gv.pqF ds)]) ∧ Below w.heap.size w w' :=
  (encode_any ds v w hv).mono (by
    rintro e w' ⟨h, hb⟩
    refine ⟨?_, hb⟩
    by_cases h0 : Gv.pqF ds = 0
    · rw [if_pos h0] at h; rw [h]; unfold pR qR; rw [if_pos h0, if_pos h0, h0]; rfl
    · rw [if_neg h0] at h; rw [h]; unfold pR qR; rw [if_neg h0, if_neg h0])
theorem pq_zero {ds : List ByteArray} (h : Gv.pqF ds = 0) : (∀ s ∈ ds, s.size = size0 ds) ∧ size0 ds ≤ 16 ∧ ds.length ≤ 10 := by
  unfold Gv.pqF at h
  by_cases hb : manyB ((ds.length : Int) + 2) = true
  · rw [if_pos hb] at h
    have := blkF_zero h
    refine ⟨this.1, this.2, ?_⟩
    unfold manyB at hb; simp at hb; omega
  · rw [if_neg hb] at h; cases h
def hvR (ps : List ByteArray) (ls : List Bool) (f : Int) (n : Nat) : List ByteArray := if f = 0 then Gv.have' ps ls n else []
def PqHv (ps : List ByteArray) (ls : List Bool) (w : World) (n : Nat) (f : Int) (gk : Nat) (v i : Value) (wr : World) : Prop :=
  ∃ k : Nat, k + gk = n ∧ i = iv k ∧ (f ≠ 0 → k = 0) ∧ wr.ownsRow w.heap.size 9 1 v (Gv.have' ps ls k).length ((Gv.have' ps ls k).map Value.string) ∧ Below w.heap.size w wr
def wantR (ps : List ByteArray) (ls : List Bool) : List ByteArray := if Gv.healF ps ls = 0 then Gv.heal ps ls else []
theorem heal_tot2 (ps : List ByteArray) (ls : List Bool) (v vl : Value) (w : World) (hv : Strs w v ps) (hl : BoolR w vl ls) :
    Calls Tryd.prog 49 #[v, vl] w fun e w' => ∃ u, e = .returned (.tuple #[u, errV (Gv.healF ps ls)]) ∧ OwnR w' w.heap.size 9 u ((wantR ps ls).map Value.string) ∧ Below w.heap.size w w' :=
  (heal_tot ps ls v vl w hv hl).mono (by
    rintro e w' ⟨h1, h2, hb⟩
    by_cases h0 : Gv.healF ps ls = 0
    · obtain ⟨u, rfl, hO⟩ := h1 h0
      exact ⟨u, by rw [h0]; rfl, by unfold wantR; rw [if_pos h0]; exact hO, hb⟩
    · exact ⟨_, h2 h0, by unfold wantR; rw [if_neg h0]; exact OwnR.nil _ _ _, hb⟩)
theorem healF_zero {ps : List ByteArray} {ls : List Bool} (h : Gv.healF ps ls = 0) :
    3 ≤ ps.length ∧ ps.length ≤ 12 ∧ ls.length = ps.length ∧ (∀ i, i < ps.length → Gv.lo ls i = false → (ps.getD i ⟨#[]⟩).size = size0 (Gv.have' ps ls ps.length)) ∧ size0 (Gv.have' ps ls ps.length) ≤ 16 ∧ (∃ i, i < ps.length ∧ Gv.lo ls i = false) ∧ (Gv.goneL ls ps.length).length ≤ 2 := by
  unfold Gv.healF at h
  cases hb : manyB (ps.length : Int) with
  | false => rw [hb, if_pos rfl] at h; cases h
  | true =>
    have h12 := many_len.1 hb
    rw [hb, if_neg (by decide)] at h
    by_cases hll : ls.length = ps.length
    · rw [if_neg (fun x => x hll)] at h
      by_cases h8 : (Gv.have' ps ls ps.length).length + 2 < ps.length
      · rw [if_pos h8] at h; cases h
      · rw [if_neg h8] at h
        have hz := blkF_zero h
        have hl := Gv.have_len ps ls ps.length
        exact ⟨h12.1, h12.2, hll, fun i hi h0 => hz.1 _ (Gv.have_mem _ hi h0), hz.2, Gv.have_ex (ps := ps) ps.length (by omega), by omega⟩
    · rw [if_pos hll] at h; cases h
theorem loc_two (ps : List ByteArray) : (Gv.locate ps).2 = 0 ∨ (Gv.locate ps).2 = 8 := by
  unfold Gv.locate
  split
  · exact .inl rfl
  · split
    · exact .inl rfl
    · exact .inr rfl
set_option maxRecDepth 100000 in
set_option maxHeartbeats 8000000 in
theorem pqTells_walk (vd vp vl : Value) (i : Int) (was now q : ByteArray) (hi : (Lit.int .i64 i).wf = true) (hwz : was.size ≤ maxLen) (hnz : now.size ≤ maxLen) (hqz : q.size ≤ maxLen) (w : World) (hg : Handle w)
    (fd : ∃ ss, Strs w vd ss ∧ ∀ s ∈ ss, s.size ≤ maxLen) (fp : ∃ ss, Strs w vp ss ∧ ∀ s ∈ ss, s.size ≤ maxLen) (fl : ∃ ls : List Bool, Row w vl (ls.map Value.bool)) :
    Calls Tryd.prog 8 #[vd, vp, vl, iv i, .string was, .string now, .string q] w fun e w' => e = .returned (.bool true) ∧ Below w.heap.size w w' := by
  obtain ⟨ds, hd, hdz⟩ := fd
  obtain ⟨ps, hp, hpz⟩ := fp
  obtain ⟨ls, hl⟩ := fl
  have hib := bounds_i64 hi
  have HD := Lib.hid hd
  have HP := Lib.hid hp
  have HL := Lib.hid hl
  obtain ⟨pd, cd, rfl, _⟩ := hd.get
  obtain ⟨pp, cp, rfl, _⟩ := hp.get
  obtain ⟨pl, cl, rfl, hl1, hl2, _⟩ := hl
  rw [List.length_map] at hl1
  simp only [List.length_map] at HL ⊢
  obtain ⟨nd, hnd⟩ : ∃ n, n = ds.length := ⟨_, rfl⟩
  obtain ⟨np, hnp⟩ : ∃ n, n = ps.length := ⟨_, rfl⟩
  obtain ⟨nl, hnl⟩ : ∃ n, n = ls.length := ⟨_, rfl⟩
  rw [← hnd] at HD ⊢
  rw [← hnp] at HP ⊢
  rw [← hnl] at HL hl1 ⊢
  have Hnd := Lib.hid hnd
  have Hnp := Lib.hid hnp
  have Hnl := Lib.hid hnl
  have Hdz := Lib.hid hdz
  have Hpz := Lib.hid hpz
  have Hg0 := Lib.hid hg
  unfold maxLen at hl2
  obtain ⟨bm, hbm⟩ : ∃ b, b = manyB ((nd : Int) + 2) := ⟨_, rfl⟩
  have Hbm := Lib.hid hbm
  obtain ⟨e0, he0⟩ : ∃ e : Int, e = if bm then 0 else 1 := ⟨_, rfl⟩
  have He0 := Lib.hid he0
  obtain ⟨e1, he1⟩ : ∃ e : Int, e = Gv.pqF ds := ⟨_, rfl⟩
  have He1 := Lib.hid he1
  obtain ⟨P1, hP1⟩ : ∃ e, e = pR ds := ⟨_, rfl⟩
  have HP1 := Lib.hid hP1
  obtain ⟨Q1, hQ1⟩ : ∃ e, e = qR ds := ⟨_, rfl⟩
  have HQ1 := Lib.hid hQ1
  clear hd hp hi hdz hpz hg hnd hnp hnl hbm he0 he1 hP1 hQ1
  go_enter Tryd.func8, Tryd.ntmps8
  go_upto_region 2 with (fail)
  go_cut [43] (fun z wq => z = .bool (!bm) ∧ w = wq)
  case first => as_aux_lemma =>
    by_cases h1 : nd < 1
    · obtain rfl : nd = 0 := by omega
      obtain rfl : bm = false := by rw [Hbm.out]; rfl
      go_wp2_with fail
      go_meet
      exact ⟨rfl, rfl⟩
    · have t1 : decide ((nd : Int) < 1) = false := dec_f (by omega)
      have t1' : ¬ (nd : Int) < 1 := by omega
      by_cases h2 : 10 < nd
      · have hb : bm = false := by rw [Hbm.out]; unfold manyB; rw [dec_f (p := (nd : Int) + 2 ≤ 12) (by omega)]; simp
        subst hb
        have t2 : decide (10 < (nd : Int)) = true := dec_t (by omega)
        go_wp2_with fail
        go_meet
        exact ⟨rfl, rfl⟩
      · have hb : bm = true := by rw [Hbm.out]; unfold manyB; rw [dec_t (by omega), dec_t (by omega)]; rfl
        subst hb
        have t2 : decide (10 < (nd : Int)) = false := dec_f (by omega)
        go_wp2_with fail
        go_meet
        exact ⟨rfl, rfl⟩
  case rest =>
  obtain ⟨rfl, rfl⟩ := hcut
  go_upto_if 43 with (fail)
  go_cut [15] (fun z wq => z = iv e0 ∧ w = wq)
  case first => as_aux_lemma =>
    cases bm with
    | true =>
      obtain rfl : e0 = 0 := by rw [He0.out]; rfl
      go_wp2_with fail
      go_meet
      exact ⟨rfl, rfl⟩
    | false =>
      obtain rfl : e0 = 1 := by rw [He0.out]; rfl
      go_wp2_with fail
      go_meet
      exact ⟨rfl, rfl⟩
  case rest =>
  obtain ⟨rfl, rfl⟩ := hcut
  go_upto_if 45 with (fail)
  go_cut [15] (fun z wq => z = iv e1 ∧ ∃ wk, wk = wq ∧ Below w.heap.size w wk)
  case first => as_aux_lemma =>
    cases bm with
    | true =>
      obtain rfl : e0 = 0 := by rw [He0.out]; rfl
      have h1 : e1 = blkF ds := by rw [He1.out]; unfold Gv.pqF; rw [← Hnd.out, ← Hbm.out, if_pos rfl]
      have H1 := Lib.hid h1
      have HB := Lib.hid (rblocks_any ds Hdz.out _ w HD.out)
      clear h1
      go_wp2_with fail
      refine HB.out.mono ?_
      rintro e w' ⟨rfl, n1, rfl⟩
      rw [← H1.out]
      go_wp2_with fail
      go_meet
      exact ⟨rfl, _, rfl, bdrew (Below.refl _ _) n1⟩
    | false =>
      obtain rfl : e0 = 1 := by rw [He0.out]; rfl
      obtain rfl : e1 = 1 := by rw [He1.out]; unfold Gv.pqF; rw [← Hnd.out, ← Hbm.out, if_neg (by decide)]
      go_wp2_with fail
      go_meet
      exact ⟨rfl, _, rfl, Below.refl _ _⟩
  case rest =>
  obtain ⟨rfl, w1, rfl, hb1⟩ := hcut
  have HB1 := Lib.hid hb1
  have hz1 := hb1.size
  have Hg1 := Lib.hid (Hg0.out.below (Nat.le_refl _) hb1)
  clear hb1 Hg0
  go_upto_if 49 with (fail)
  go_cut [16, 17] (fun z u wq => z = .string P1 ∧ u = .string Q1 ∧ ∃ wk, wk = wq ∧ Below w1.heap.size w1 wk)
  case first => as_aux_lemma =>
    by_cases h0 : e1 = 0
    · have hq := He1.out.symm.trans h0
      have hz := pq_zero hq
      subst h0
      have HPQ := Lib.hid (rpq_any ds hz.1 (by omega) (by omega) _ w1 (HD.out.below HB1.out))
      unfold OfPost at HPQ
      have H1 : Hid (P1 = Gv.P ds) := Lib.hid (by rw [HP1.out]; unfold pR; rw [if_pos hq])
      have H2 : Hid (Q1 = Gv.Q ds) := Lib.hid (by rw [HQ1.out]; unfold qR; rw [if_pos hq])
      rw [← H1.out, ← H2.out] at HPQ
      clear hq hz
      go_wp2_with fail
      refine HPQ.out.mono ?_
      rintro e w2 ⟨rfl, hb2⟩
      have Hb2 := Lib.hid hb2
      clear hb2 HPQ
      go_wp2_with fail
      go_meet
      exact ⟨rfl, rfl, _, rfl, Hb2.out⟩
    · have t1 : (e1 == 0) = false := beq_f h0
      have hq : ¬ Gv.pqF ds = 0 := by rw [← He1.out]; exact h0
      obtain rfl : P1 = ⟨#[]⟩ := by rw [HP1.out]; unfold pR; rw [if_neg hq]
      obtain rfl : Q1 = ⟨#[]⟩ := by rw [HQ1.out]; unfold qR; rw [if_neg hq]
      clear hq h0
      go_wp2_with fail
      go_meet
      exact ⟨rfl, rfl, _, rfl, Below.refl _ _⟩
  case rest =>
  obtain ⟨rfl, rfl, w2, rfl, hb2⟩ := hcut
  have Hg2 := Lib.hid (Hg1.out.below (Nat.le_refl _) hb2)
  have HB2 := Lib.hid (HB1.out.trans (hb2.mono hz1))
  have hz2 := HB2.out.size
  have HE := Lib.hid (enc_tot ds _ w2 (HD.out.below HB2.out))
  rw [← HP1.out, ← HQ1.out, ← He1.out] at HE
  clear hb2 Hg1 HB1
  go_wp2_with fail
  refine HE.out.mono ?_
  rintro e w3 ⟨rfl, hb3⟩
  have Hg3 := Lib.hid (Hg2.out.below (Nat.le_refl _) hb3)
  have HB3 := Lib.hid (HB2.out.trans (hb3.mono hz2))
  have hz3 := HB3.out.size
  clear hb3 Hg2 HB2 HE
  go_wp2_with fail
  refine (same_eq _ _ Hg3.out).mono ?_
  rintro e w4 ⟨rfl, hb4⟩
  have Hg4 := Lib.hid (Hg3.out.below (Nat.le_refl _) hb4)
  have HB4 := Lib.hid (HB3.out.trans (hb4.mono hz3))
  have hz4 := HB4.out.size
  clear hb4 Hg3 HB3
  obtain ⟨bp, hbp⟩ : ∃ b, b = manyB (np : Int) := ⟨_, rfl⟩
  have Hbp := Lib.hid hbp
  obtain ⟨e2, he2⟩ : ∃ e : Int, e = if bp then 0 else 1 := ⟨_, rfl⟩
  have He2 := Lib.hid he2
  clear hbp he2
  go_upto_region 13 with (fail)
  go_cut [81] (fun z wq => z = .bool (!bp) ∧ w4 = wq)
  case first => as_aux_lemma =>
    by_cases h1 : np < 3
    · have t1 : decide ((np : Int) < 3) = true := dec_t (by omega)
      have t1' : (np : Int) < 3 := by omega
      obtain rfl : bp = false := by rw [Hbp.out]; unfold manyB; rw [dec_f (p := 2 < (np : Int)) (by omega)]; rfl
      go_wp2_with fail
      go_meet
      exact ⟨rfl, rfl⟩
    · have t1 : decide ((np : Int) < 3) = false := dec_f (by omega)
      have t1' : ¬ (np : Int) < 3 := by omega
      by_cases h2 : 12 < np
      · have hb : bp = false := by rw [Hbp.out]; unfold manyB; rw [dec_f (p := (np : Int) ≤ 12) (by omega)]; simp
        subst hb
        have t2 : decide (12 < (np : Int)) = true := dec_t (by omega)
        go_wp2_with fail
        go_meet
        exact ⟨rfl, rfl⟩
      · have hb : bp = true := by rw [Hbp.out]; exact many_len.2 ⟨by omega, by omega⟩
        subst hb
        have t2 : decide (12 < (np : Int)) = false := dec_f (by omega)
        go_wp2_with fail
        go_meet
        exact ⟨rfl, rfl⟩
  case rest =>
  obtain ⟨rfl, rfl⟩ := hcut
  go_upto_if 81 with (fail)
  go_cut [15] (fun z wq => z = iv e2 ∧ w4 = wq)
  case first => as_aux_lemma =>
    cases bp with
    | true =>
      obtain rfl : e2 = 0 := by rw [He2.out]; rfl
      go_wp2_with fail
      go_meet
      exact ⟨rfl, rfl⟩
    | false =>
      obtain rfl : e2 = 1 := by rw [He2.out]; rfl
      go_wp2_with fail
      go_meet
      exact ⟨rfl, rfl⟩
  case rest =>
  obtain ⟨rfl, rfl⟩ := hcut
  obtain ⟨bs, hbs⟩ : ∃ b, b = (bp && decide (nl ≠ np)) := ⟨_, rfl⟩
  have Hbs := Lib.hid hbs
  obtain ⟨f0, hf0⟩ : ∃ f : Int, f = if bp then (if nl = np then 0 else 3) else 1 := ⟨_, rfl⟩
  have Hf0 := Lib.hid hf0
  clear hbs hf0
  go_upto_region 16 with (fail)
  go_cut [91] (fun z wq => z = .bool bs ∧ w4 = wq)
  case first => as_aux_lemma =>
    cases bp with
    | false =>
      obtain rfl : e2 = 1 := by rw [He2.out]; rfl
      obtain rfl : bs = false := by rw [Hbs.out]; rfl
      go_wp2_with fail
      go_meet
      exact ⟨rfl, rfl⟩
    | true =>
      obtain rfl : e2 = 0 := by rw [He2.out]; rfl
      by_cases hn : nl = np
      · obtain rfl : bs = false := by rw [Hbs.out, dec_f (fun h => h hn)]; rfl
        have t1 : ((nl : Int) != (np : Int)) = false := bne_f (by omega)
        clear hn
        go_wp2_with fail
        go_meet
        exact ⟨rfl, rfl⟩
      · obtain rfl : bs = true := by rw [Hbs.out, dec_t hn]; rfl
        have t1 : ((nl : Int) != (np : Int)) = true := bne_t (by omega)
        go_wp2_with fail
        go_meet
        exact ⟨rfl, rfl⟩
  case rest =>
  obtain ⟨rfl, rfl⟩ := hcut
  go_upto_if 91 with (fail)
  go_cut [22] (fun z wq => z = iv f0 ∧ w4 = wq)
  case first => as_aux_lemma =>
    by_cases hn : nl = np
    · have hbs : bs = false := by rw [Hbs.out, dec_f (fun h => h hn)]; cases bp <;> rfl
      have h : f0 = e2 := by rw [Hf0.out, He2.out, if_pos hn]
      subst hbs h
      clear hn
      go_wp2_with fail
      go_meet
      exact ⟨rfl, rfl⟩
    · cases bp with
      | true =>
        obtain rfl : bs = true := by rw [Hbs.out, dec_t hn]; rfl
        obtain rfl : f0 = 3 := by rw [Hf0.out, if_neg hn]; rfl
        go_wp2_with fail
        go_meet
        exact ⟨rfl, rfl⟩
      | false =>
        obtain rfl : bs = false := by rw [Hbs.out]; rfl
        obtain rfl : f0 = 1 := by rw [Hf0.out]; rfl
        obtain rfl : e2 = 1 := by rw [He2.out]; rfl
        go_wp2_with fail
        go_meet
        exact ⟨rfl, rfl⟩
  case rest => as_aux_lemma =>
  obtain ⟨rfl, rfl⟩ := hcut
  obtain ⟨hv, hhv⟩ : ∃ h, h = hvR ps ls f0 np := ⟨_, rfl⟩
  have Hhv := Lib.hid hhv
  clear hhv
  go_upto_block 0 with (fail)
  go_cut [23] (fun z wq => ∃ wk, wk = wq ∧ wk.ownsRow w4.heap.size 9 1 z hv.length (hv.map Value.string) ∧ Below w4.heap.size w4 wk)
  case first => as_aux_lemma =>
    go_wp2_with fail
    go_loopg [23, 24] np (fun gk v23 v24 wr => PqHv ps ls w4 np f0 gk v23 v24 wr)
    case atStart => exact ⟨0, by omega, rfl, fun _ => rfl, World.ownsRow_nil _ _ _ _, Below.refl _ _⟩
    case round =>
      obtain ⟨k, hk, rfl, hk0, hO, hB⟩ := hrel
      have Hk := Lib.hid hk
      have HO := Lib.hid hO
      have HB := Lib.hid hB
      have hzr := hB.size
      clear hk hO hB
      by_cases hf : f0 = 0
      · subst hf
        have hbt : bp = true := by
          cases bp with
          | true => rfl
          | false => have h := Hf0.out; rw [if_neg (by decide)] at h; cases h
        have hnn : nl = np := by
          by_cases hn : nl = np
          · exact hn
          · have h := Hf0.out; rw [hbt, if_pos rfl, if_neg hn] at h; cases h
        have Hhe : Hid (hv = Gv.have' ps ls np) := Lib.hid (by rw [Hhv.out]; exact if_pos rfl)
        clear hk0
        by_cases hlt : k < np
        · obtain ⟨gp, op, cp', hvp, hgp, c0⟩ := Strs.at' (HP.out.below (HB4.out.trans (HB.out.mono hz4))) (j := k) (by rw [← Hnp.out]; exact hlt)
          obtain ⟨gl, ol, cl', hvl, hgl, c1⟩ := BoolR.get (HL.out.below (HB4.out.trans (HB.out.mono hz4))) (j := k) (by rw [← Hnl.out]; omega)
          injection hvp with p1 p2 p3
          injection hvl with q1 q2 q3
          subst p1 p3 q1 q3
          have hlI : (k : Int) < (nl : Int) := by omega
          have hstep : Gv.have' ps ls (k + 1) = if Gv.lo ls k then Gv.have' ps ls k else Gv.have' ps ls k ++ [ps.getD k ⟨#[]⟩] := rfl
          have Hst := Lib.hid hstep
          have hlen := Gv.have_len0 ps ls k
          have h12 : np ≤ 12 := (many_len.1 (Hbp.out.symm.trans hbt)).2
          have hl9 : (Gv.have' ps ls k).length + 1 ≤ 1000000 := by omega
          generalize ps.getD k ⟨#[]⟩ = x at *
          cases hb : Gv.lo ls k with
          | true =>
            rw [hb] at c1 Hst
            clear hstep hb p2 q2 hbt hnn
            go_wp2_with fail
            go_roundg (gk - 1)
            case measure => have := Hk.out; omega
            case rel => exact ⟨k + 1, by have := Hk.out; omega, by go_num, fun h => absurd rfl h, by rw [Hst.out]; exact HO.out, HB.out⟩
          | false =>
            rw [hb] at c1 Hst
            clear hstep hb p2 q2 hbt hnn
            go_wp2_with (at_builtin; refine app1 w4 wr (.string x) 9 65 rfl _ _ rfl w4.heap.size Tryd.underlying65 info_strL rfl _ (Gv.have' ps ls k).length _ rfl _ rfl rfl HO.out rfl hl9 (by decide) hzr HB.out ?_)
            intro v9 w9 hown9 hb9 _ _
            have HO9 : Hid (w9.ownsRow w4.heap.size 9 1 v9 (Gv.have' ps ls (k + 1)).length ((Gv.have' ps ls (k + 1)).map Value.string)) := Lib.hid (by
              rw [Hst.out]
              show w9.ownsRow _ _ _ _ (Gv.have' ps ls k ++ [x]).length ((Gv.have' ps ls k ++ [x]).map Value.string)
              rw [List.length_append, List.length_singleton, List.map_append]; exact hown9)
            have HB9 := Lib.hid hb9
            clear hown9 hb9 HO HB
            go_wp2_with fail
            go_roundg (gk - 1)
            case measure => have := Hk.out; omega
            case rel => exact ⟨k + 1, by have := Hk.out; omega, by go_num, fun h => absurd rfl h, HO9.out, HB9.out⟩
        · obtain rfl : k = np := by have := Hk.out; omega
          clear hbt hnn
          go_wp2_with fail
          go_meet
          exact ⟨_, rfl, by rw [Hhe.out]; exact HO.out, HB.out⟩
      · obtain rfl : k = 0 := hk0 hf
        have t1 : (f0 == 0) = false := beq_f hf
        have Hhe : Hid (hv = []) := Lib.hid (by rw [Hhv.out]; exact if_neg hf)
        clear hf hk0
        by_cases hz : np = 0
        · subst hz
          go_wp2_with fail
          go_meet
          exact ⟨_, rfl, by rw [Hhe.out]; exact HO.out, HB.out⟩
        · have t2 : (0 : Int) < (np : Int) := by omega
          go_wp2_with fail
          go_meet
          exact ⟨_, rfl, by rw [Hhe.out]; exact HO.out, HB.out⟩
  case rest =>
  obtain ⟨w5, rfl, hO5, hb5⟩ := hcut
  have Hg5 := Lib.hid (Hg4.out.below (Nat.le_refl _) hb5)
  have HB5 := Lib.hid (HB4.out.trans (hb5.mono hz4))
  have hz5 := HB5.out.size
  have HO5 := Lib.hid hO5
  obtain ⟨p5, c5, hv5, _⟩ := (row_of_owns hO5).1.shape
  rw [List.length_map] at hv5
  subst hv5
  obtain ⟨nh, hnh⟩ : ∃ n, n = hv.length := ⟨_, rfl⟩
  rw [← hnh] at HO5 ⊢
  have Hnh := Lib.hid hnh
  have hnp9 : nh ≤ 12 := by
    rw [hnh, Hhv.out]
    unfold hvR
    by_cases hf : f0 = 0
    · rw [if_pos hf]
      have hbt : bp = true := by
        cases bp with
        | true => rfl
        | false => have h := Hf0.out; rw [if_neg (by decide), hf] at h; cases h
      have := (many_len.1 (Hbp.out.symm.trans hbt)).2
      have := Gv.have_len0 ps ls np
      omega
    · rw [if_neg hf]; simp
  obtain ⟨bh, hbh⟩ : ∃ b, b = (decide (f0 = 0) && decide (nh + 2 < np)) := ⟨_, rfl⟩
  have Hbh := Lib.hid hbh
  obtain ⟨f1, hf1⟩ : ∃ f : Int, f = if bh then 8 else f0 := ⟨_, rfl⟩
  have Hf1 := Lib.hid hf1
  obtain ⟨f2, hf2⟩ : ∃ f : Int, f = Gv.healF ps ls := ⟨_, rfl⟩
  have Hf2 := Lib.hid hf2
  clear hO5 hb5 hnh hbh hf1 hf2 HB4 Hg4
  go_upto_region 24 with (fail)
  go_cut [123] (fun z wq => z = .bool bh ∧ w5 = wq)
  case first => as_aux_lemma =>
    by_cases hf : f0 = 0
    · have hb : bh = decide (nh + 2 < np) := by rw [Hbh.out, dec_t hf]; rfl
      subst hf
      have tw : IntKind.i64.wrap ((nh : Int) + 2) = (nh : Int) + 2 := IntWalk.i64_in _ (by omega)
      by_cases h8 : nh + 2 < np
      · obtain rfl : bh = true := by rw [hb]; exact dec_t h8
        have t1 : decide ((nh : Int) + 2 < (np : Int)) = true := dec_t (by omega)
        have t1' : (nh : Int) + 2 < (np : Int) := by omega
        clear hb
        go_wp2_with fail
        go_meet
        exact ⟨rfl, rfl⟩
      · obtain rfl : bh = false := by rw [hb]; exact dec_f h8
        have t1 : decide ((nh : Int) + 2 < (np : Int)) = false := dec_f (by omega)
        have t1' : ¬ (nh : Int) + 2 < (np : Int) := by omega
        clear hb
        go_wp2_with fail
        go_meet
        exact ⟨rfl, rfl⟩
    · obtain rfl : bh = false := by rw [Hbh.out, dec_f hf]; rfl
      have t1 : (f0 == 0) = false := beq_f hf
      go_wp2_with fail
      go_meet
      exact ⟨rfl, rfl⟩
  case rest =>
  obtain ⟨rfl, rfl⟩ := hcut
  go_upto_if 123 with (fail)
  go_cut [22] (fun z wq => z = iv f1 ∧ w5 = wq)
  case first => as_aux_lemma =>
    cases bh with
    | true =>
      obtain rfl : f1 = 8 := by rw [Hf1.out]; rfl
      go_wp2_with fail
      go_meet
      exact ⟨rfl, rfl⟩
    | false =>
      obtain rfl : f1 = f0 := by rw [Hf1.out]; rfl
      go_wp2_with fail
      go_meet
      exact ⟨rfl, rfl⟩
  case rest =>
  obtain ⟨rfl, rfl⟩ := hcut
  have hrow5 : Hid (Strs w5 (.slice p5 nh c5) hv) := Lib.hid (row_of_owns HO5.out).1
  go_upto_if 125 with (fail)
  go_cut [22] (fun z wq => z = iv f2 ∧ ∃ wk, wk = wq ∧ Below w5.heap.size w5 wk)
  case first => as_aux_lemma =>
    by_cases hf : f1 = 0
    · have hbh : bh = false := by
        cases bh with
        | false => rfl
        | true => have h := Hf1.out; rw [if_pos rfl, hf] at h; cases h
      have hf0 : f0 = 0 := by have h := Hf1.out; rw [hbh, if_neg (by decide), hf] at h; exact h.symm
      have hbt : bp = true := by
        cases bp with
        | true => rfl
        | false => have h := Hf0.out; rw [if_neg (by decide), hf0] at h; cases h
      have hnn : nl = np := by
        by_cases hn : nl = np
        · exact hn
        · have h := Hf0.out; rw [hbt, if_pos rfl, if_neg hn, hf0] at h; cases h
      have hhe : hv = Gv.have' ps ls np := by rw [Hhv.out, hf0]; exact if_pos rfl
      have h8 : ¬ nh + 2 < np := by
        intro h
        have hh := Hbh.out
        rw [hbh, hf0, dec_t rfl, dec_t h] at hh
        cases hh
      have h2 : f2 = blkF hv := by
        rw [Hf2.out, hhe]
        unfold Gv.healF
        rw [← Hnp.out, ← Hbp.out, hbt, if_neg (by decide), ← Hnl.out, if_neg (fun h => h hnn), if_neg (by rw [← hhe, ← Hnh.out]; exact h8)]
      have H2 := Lib.hid h2
      have HB := Lib.hid (rblocks_any hv (by
        rw [hhe]
        intro s hs
        have hm : ∀ m, ∀ s ∈ Gv.have' ps ls m, s ∈ ps ∨ s = ⟨#[]⟩ := by
          intro m
          induction m with
          | zero => intro s hs; cases hs
          | succ m ih =>
            intro s hs
            unfold Gv.have' at hs
            split at hs
            · exact ih s hs
            · rcases List.mem_append.1 hs with h | h
              · exact ih s h
              · rw [List.mem_singleton] at h
                by_cases hm : m < ps.length
                · exact .inl (by rw [h]; exact Gv.getD_mem hm)
                · exact .inr (by rw [h, List.getD_eq_getElem?_getD, List.getElem?_eq_none (by omega)]; rfl)
        rcases hm np s hs with h | h
        · exact Hpz.out s h
        · rw [h]; unfold maxLen; exact Nat.zero_le _) _ w5 hrow5.out)
      subst hf
      clear h2 hbh hf0 hbt hnn hhe h8
      go_wp2_with fail
      refine HB.out.mono ?_
      rintro e w' ⟨rfl, n1, rfl⟩
      rw [← H2.out]
      go_wp2_with fail
      go_meet
      exact ⟨rfl, _, rfl, bdrew (Below.refl _ _) n1⟩
    · have h2 : f2 = f1 := by
        rw [Hf2.out]
        unfold Gv.healF
        rw [← Hnp.out, ← Hbp.out, ← Hnl.out]
        have h1 := Hf1.out
        have h0 := Hf0.out
        cases bp with
        | false =>
          rw [if_neg (by decide)] at h0
          have hb : bh = false := by rw [Hbh.out, dec_f (by rw [h0]; decide)]; rfl
          rw [hb, if_neg (by decide)] at h1
          rw [if_pos rfl, h1, h0]
        | true =>
          rw [if_pos rfl] at h0
          rw [if_neg (by decide)]
          by_cases hn : nl = np
          · rw [if_pos hn] at h0
            have hhe : hv = Gv.have' ps ls np := by rw [Hhv.out, h0]; exact if_pos rfl
            rw [if_neg (fun h => h hn), ← hhe, ← Hnh.out]
            by_cases h8 : nh + 2 < np
            · have hb : bh = true := by rw [Hbh.out, dec_t h0, dec_t h8]; rfl
              rw [if_pos h8, h1, hb]; rfl
            · have hb : bh = false := by rw [Hbh.out, dec_f h8, dec_t h0]; rfl
              rw [hb, if_neg (by decide), h0] at h1
              exact absurd h1 hf
          · rw [if_neg hn] at h0
            have hb : bh = false := by rw [Hbh.out, dec_f (by rw [h0]; decide)]; rfl
            rw [hb, if_neg (by decide)] at h1
            rw [if_pos hn, h1, h0]
      have t1 : (f1 == 0) = false := beq_f hf
      subst h2
      clear hf
      go_wp2_with fail
      go_meet
      exact ⟨rfl, _, rfl, Below.refl _ _⟩
  case rest =>
  obtain ⟨rfl, w6, rfl, hb6⟩ := hcut
  have Hg6 := Lib.hid (Hg5.out.below (Nat.le_refl _) hb6)
  have HB6 := Lib.hid (HB5.out.trans (hb6.mono hz5))
  have hz6 := HB6.out.size
  clear hb6 Hg5 HO5 hrow5
  go_upto_if 129 with (fail)
  go_cut [25] (fun z wq => ∃ wk, wk = wq ∧ OwnR wk w.heap.size 9 z ((wantR ps ls).map Value.string) ∧ Below w6.heap.size w6 wk)
  case first => as_aux_lemma =>
    by_cases hf : f2 = 0
    · have hz := healF_zero (Hf2.out.symm.trans hf)
      have Hw : Hid (wantR ps ls = Gv.heal ps ls) := Lib.hid (if_pos (Hf2.out.symm.trans hf))
      have HH := Lib.hid (rheal_any ps ls _ hz.1 (by omega) hz.2.2.1 hz.2.2.2.1 (by omega) hz.2.2.2.2.2.1 hz.2.2.2.2.2.2 _ _ w6 (HP.out.below HB6.out) (HL.out.below HB6.out))
      unfold HealPost at HH
      subst hf
      clear hz
      go_wp2_with fail
      refine HH.out.mono ?_
      rintro e w7 ⟨u, rfl, hO, hb⟩
      have HO7 := Lib.hid hO
      have HB7 := Lib.hid hb
      clear hO hb HH
      go_wp2_with fail
      go_meet
      exact ⟨_, rfl, by rw [Hw.out]; exact OwnR.mono HO7.out hz6, HB7.out⟩
    · have Hw : Hid (wantR ps ls = []) := Lib.hid (if_neg (fun h => hf (Hf2.out.trans h)))
      have t1 : (f2 == 0) = false := beq_f hf
      clear hf
      go_wp2_with fail
      go_meet
      exact ⟨_, rfl, by rw [Hw.out]; exact OwnR.nil _ _ _, Below.refl _ _⟩
  case rest =>
  obtain ⟨w7, rfl, hO7, hb7⟩ := hcut
  have Hg7 := Lib.hid (Hg6.out.below (Nat.le_refl _) hb7)
  have HB7 := Lib.hid (HB6.out.trans (hb7.mono hz6))
  have hz7 := HB7.out.size
  have HO7 := Lib.hid hO7
  have HE := Lib.hid (heal_tot2 ps ls _ _ w7 (HP.out.below HB7.out) (HL.out.below HB7.out))
  rw [← Hf2.out] at HE
  clear hO7 hb7 Hg6
  go_wp2_with fail
  refine HE.out.mono ?_
  rintro e w8 ⟨v8, rfl, hO8, hb8⟩
  have Hg8 := Lib.hid (Hg7.out.below (Nat.le_refl _) hb8)
  have HB8 := Lib.hid (HB7.out.trans (hb8.mono hz7))
  have hz8 := HB8.out.size
  have HO8 := Lib.hid hO8
  have HW8 := Lib.hid (OwnR.below HO7.out hb8)
  clear hO8 hb8 HE Hg7 HO7
  go_wp2_with fail
  refine (same_eq _ _ Hg8.out).mono ?_
  rintro e w9 ⟨rfl, hb9⟩
  have Hg9 := Lib.hid (Hg8.out.below (Nat.le_refl _) hb9)
  have HB9 := Lib.hid (HB8.out.trans (hb9.mono hz8))
  have hz9 := HB9.out.size
  have HTx := Lib.hid (texts_eq (wantR ps ls) v8 u25 w9 (OwnR.below HO8.out hb9).row (OwnR.below HW8.out hb9).row)
  clear hb9 Hg8 HO8 HW8
  go_wp2_with fail
  refine HTx.out.mono ?_
  rintro e w' ⟨rfl, n9, rfl⟩
  have hb10 : Below w9.heap.size w9 (w9.drewN n9) := bdrew (Below.refl _ _) n9
  obtain ⟨w10, hw10⟩ : ∃ x, x = w9.drewN n9 := ⟨_, rfl⟩
  rw [← hw10] at hb10 ⊢
  have Hg10 := Lib.hid (Hg9.out.below (Nat.le_refl _) hb10)
  have HB10 := Lib.hid (HB9.out.trans (hb10.mono hz9))
  have hz10 := HB10.out.size
  clear hb10 hw10 HTx Hg9
  obtain ⟨e3, he3⟩ : ∃ e : Int, e = if bp then blkF ps else 1 := ⟨_, rfl⟩
  have He3 := Lib.hid he3
  obtain ⟨at3, hat3⟩ : ∃ e : Int, e = (locT ps).1 := ⟨_, rfl⟩
  have Hat := Lib.hid hat3
  obtain ⟨e4, he4⟩ : ∃ e : Int, e = (locT ps).2 := ⟨_, rfl⟩
  have He4 := Lib.hid he4
  clear he3 hat3 he4
  go_upto_if 148 with (fail)
  go_cut [15] (fun z wq => z = iv e3 ∧ ∃ wk, wk = wq ∧ Below w10.heap.size w10 wk)
  case first => as_aux_lemma =>
    cases bp with
    | true =>
      obtain rfl : e2 = 0 := by rw [He2.out]; rfl
      have h1 : e3 = blkF ps := by rw [He3.out]; rfl
      have H1 := Lib.hid h1
      have HB := Lib.hid (rblocks_any ps Hpz.out _ w10 (HP.out.below HB10.out))
      clear h1
      go_wp2_with fail
      refine HB.out.mono ?_
      rintro e w' ⟨rfl, n1, rfl⟩
      rw [← H1.out]
      go_wp2_with fail
      go_meet
      exact ⟨rfl, _, rfl, bdrew (Below.refl _ _) n1⟩
    | false =>
      obtain rfl : e2 = 1 := by rw [He2.out]; rfl
      obtain rfl : e3 = 1 := by rw [He3.out]; rfl
      go_wp2_with fail
      go_meet
      exact ⟨rfl, _, rfl, Below.refl _ _⟩
  case rest =>
  obtain ⟨rfl, w11, rfl, hb11⟩ := hcut
  have Hg11 := Lib.hid (Hg10.out.below (Nat.le_refl _) hb11)
  have HB11 := Lib.hid (HB10.out.trans (hb11.mono hz10))
  have hz11 := HB11.out.size
  clear hb11 Hg10
  go_upto_if 152 with (fail)
  go_cut [15, 28] (fun u z wq => u = iv e4 ∧ z = iv at3 ∧ ∃ wk, wk = wq ∧ Below w11.heap.size w11 wk)
  case first => as_aux_lemma =>
    by_cases h0 : e3 = 0
    · have hbt : bp = true := by
        cases bp with
        | true => rfl
        | false => have h := He3.out; rw [if_neg (by decide), h0] at h; cases h
      have hb0 : blkF ps = 0 := by have h := He3.out; rw [hbt, if_pos rfl, h0] at h; exact h.symm
      have hz := blkF_zero hb0
      have h12 := many_len.1 (Hbp.out.symm.trans hbt)
      rw [Hnp.out] at h12
      have hl : locT ps = Gv.locate ps := by unfold locT; rw [← Hnp.out, ← Hbp.out, hbt, if_neg (by decide), if_neg (by rw [hb0]; simp)]
      have HLc := Lib.hid (rlocate_ok ps (size0 ps) h12.1 h12.2 hz.1 hz.2 _ w11 (HP.out.below HB11.out))
      unfold RLocPost at HLc
      rw [← hl, ← Hat.out, ← He4.out] at HLc
      have h2 := loc_two ps
      rw [← hl, ← He4.out] at h2
      subst h0
      clear hbt hb0 hz h12 hl
      rcases h2 with rfl | rfl
      · rw [dec_t (p := (0 : Int) = 0) rfl] at HLc
        go_wp2_with fail
        refine HLc.out.mono ?_
        rintro e w12 ⟨rfl, hb⟩
        have Hb := Lib.hid hb
        clear hb HLc
        go_wp2_with fail
        go_meet
        exact ⟨rfl, rfl, _, rfl, Hb.out⟩
      · rw [dec_f (p := (8 : Int) = 0) (by decide)] at HLc
        go_wp2_with fail
        refine HLc.out.mono ?_
        rintro e w12 ⟨rfl, hb⟩
        have Hb := Lib.hid hb
        clear hb HLc
        go_wp2_with fail
        go_meet
        exact ⟨rfl, rfl, _, rfl, Hb.out⟩
    · have hl : locT ps = (0, e3) := by
        unfold locT
        rw [← Hnp.out, ← Hbp.out, He3.out]
        cases bp with
        | false => rfl
        | true =>
          have h := He3.out
          rw [if_pos rfl] at h
          rw [if_neg (by decide), if_pos (by rw [← h]; exact h0), if_pos rfl]
      obtain rfl : at3 = 0 := by rw [Hat.out, hl]
      obtain rfl : e4 = e3 := by rw [He4.out, hl]
      have t1 : (e4 == 0) = false := beq_f h0
      clear hl h0
      go_wp2_with fail
      go_meet
      exact ⟨rfl, rfl, _, rfl, Below.refl _ _⟩
  case rest =>
  obtain ⟨rfl, rfl, w12, rfl, hb12⟩ := hcut
  have Hg12 := Lib.hid (Hg11.out.below (Nat.le_refl _) hb12)
  have HB12 := Lib.hid (HB11.out.trans (hb12.mono hz11))
  have hz12 := HB12.out.size
  have HE := Lib.hid (locate_tot ps _ w12 (HP.out.below HB12.out))
  rw [← Hat.out, ← He4.out] at HE
  clear hb12 Hg11
  go_wp2_with fail
  refine HE.out.mono ?_
  rintro e w13 ⟨rfl, hb13⟩
  have Hg13 := Lib.hid (Hg12.out.below (Nat.le_refl _) hb13)
  have HB13 := Lib.hid (HB12.out.trans (hb13.mono hz12))
  have hz13 := HB13.out.size
  clear hb13 Hg12 HE
  go_wp2_with fail
  refine (same_eq _ _ Hg13.out).mono ?_
  rintro e w14 ⟨rfl, hb14⟩
  have Hg14 := Lib.hid (Hg13.out.below (Nat.le_refl _) hb14)
  have HB14 := Lib.hid (HB13.out.trans (hb14.mono hz13))
  have hz14 := HB14.out.size
  clear hb14 Hg13
  obtain ⟨bi, hbi⟩ : ∃ b, b = (decide (i < 0) || decide (9 < i)) := ⟨_, rfl⟩
  have Hbi := Lib.hid hbi
  obtain ⟨e5, he5⟩ : ∃ e : Int, e = if bi then 1 else 0 := ⟨_, rfl⟩
  have He5 := Lib.hid he5
  obtain ⟨e6, he6⟩ : ∃ e : Int, e = dltF i was now was q := ⟨_, rfl⟩
  have He6 := Lib.hid he6
  obtain ⟨P4, hP4⟩ : ∃ e, e = if e6 = 0 then Gv.plusS was (Gv.plusS was now) else ⟨#[]⟩ := ⟨_, rfl⟩
  have HP4 := Lib.hid hP4
  obtain ⟨Q4, hQ4⟩ : ∃ e, e = if e6 = 0 then Gv.plusS q (Gv.timesS (Gv.plusS was now) (Gf.pow 2 i.toNat)) else ⟨#[]⟩ := ⟨_, rfl⟩
  have HQ4 := Lib.hid hQ4
  clear hbi he5 he6 hP4 hQ4
  go_upto_region 44 with (fail)
  go_cut [179] (fun z wq => z = .bool bi ∧ w14 = wq)
  case first => as_aux_lemma =>
    by_cases h1 : i < 0
    · obtain rfl : bi = true := by rw [Hbi.out, dec_t h1]; rfl
      go_wp2_with fail
      go_meet
      exact ⟨rfl, rfl⟩
    · by_cases h2 : 9 < i
      · obtain rfl : bi = true := by rw [Hbi.out, dec_t h2, dec_f h1]; rfl
        go_wp2_with fail
        go_meet
        exact ⟨rfl, rfl⟩
      · obtain rfl : bi = false := by rw [Hbi.out, dec_f h2, dec_f h1]; rfl
        go_wp2_with fail
        go_meet
        exact ⟨rfl, rfl⟩
  case rest => as_aux_lemma =>
  obtain ⟨rfl, rfl⟩ := hcut
  go_upto_if 179 with (fail)
  go_cut [15] (fun z wq => z = iv e5 ∧ w14 = wq)
  case first => as_aux_lemma =>
    cases bi with
    | true =>
      obtain rfl : e5 = 1 := by rw [He5.out]; rfl
      go_wp2_with fail
      go_meet
      exact ⟨rfl, rfl⟩
    | false =>
      obtain rfl : e5 = 0 := by rw [He5.out]; rfl
      go_wp2_with fail
      go_meet
      exact ⟨rfl, rfl⟩
  case rest =>
  obtain ⟨rfl, rfl⟩ := hcut
  have hbi0 : bi = false → 0 ≤ i ∧ i ≤ 9 := by
    intro h
    have h' := Hbi.out
    rw [h] at h'
    have h2 := h'.symm
    simp at h2
    omega
  have Hbi0 := Lib.hid hbi0
  clear hbi0
  go_upto_if 182 with (fail)
  go_cut [15] (fun z wq => z = iv e6 ∧ ∃ wk, wk = wq ∧ Below w14.heap.size w14 wk)
  case first => as_aux_lemma =>
    cases bi with
    | true =>
      obtain rfl : e5 = 1 := by rw [He5.out]; rfl
      have hor : i < 0 ∨ 9 < i := by
        have h := Hbi.out.symm
        simp at h
        exact h
      obtain rfl : e6 = 1 := by rw [He6.out]; exact if_pos hor
      go_wp2_with fail
      go_meet
      exact ⟨rfl, _, rfl, Below.refl _ _⟩
    | false =>
      obtain rfl : e5 = 0 := by rw [He5.out]; rfl
      have hin := Hbi0.out rfl
      have h6 : e6 = blkF [was, now, was, q] := by rw [He6.out]; exact if_neg (by omega)
      have H6 := Lib.hid h6
      have hb0 : Below w14.heap.size w14 (w14.alloc (.cells #[.string was, .string now, .string was, .string q] 9)) := (Below.refl _ _).alloc (Nat.le_refl _) _
      have r0 : Strs (w14.alloc (.cells #[.string was, .string now, .string was, .string q] 9)) (.slice (some ⟨w14.heap.size, 0, none⟩) 4 4) [was, now, was, q] := alloc_row w14 [.string was, .string now, .string was, .string q] _ (by simp [maxLen])
      have HB := Lib.hid (rblocks_any [was, now, was, q] (by intro s hs; simp at hs; rcases hs with rfl | rfl | rfl | rfl <;> assumption) _ _ r0)
      have Hb0 := Lib.hid hb0
      clear h6 hb0 r0
      go_wp2_with fail
      refine HB.out.mono ?_
      rintro e w' ⟨rfl, n1, rfl⟩
      rw [← H6.out]
      go_wp2_with fail
      go_meet
      exact ⟨rfl, _, rfl, bdrew Hb0.out n1⟩
  case rest =>
  obtain ⟨rfl, w15, rfl, hb15⟩ := hcut
  have Hg15 := Lib.hid (Hg14.out.below (Nat.le_refl _) hb15)
  have HB15 := Lib.hid (HB14.out.trans (hb15.mono hz14))
  have hz15 := HB15.out.size
  clear hb15 Hg14
  go_upto_if 190 with (fail)
  go_cut [16, 17] (fun z u wq => z = .string P4 ∧ u = .string Q4 ∧ ∃ wk, wk = wq ∧ Below w15.heap.size w15 wk)
  case first => as_aux_lemma =>
    by_cases h0 : e6 = 0
    · have hd := He6.out.symm.trans h0
      have hin : ¬ (i < 0 ∨ 9 < i) := by
        intro h
        rw [show dltF i was now was q = 1 from if_pos h] at hd
        cases hd
      have hbk : blkF [was, now, was, q] = 0 := by rw [← show dltF i was now was q = blkF [was, now, was, q] from if_neg hin]; exact hd
      have hz := blkF_zero hbk
      obtain ⟨k, rfl⟩ : ∃ k : Nat, i = k := ⟨i.toNat, by omega⟩
      have s1 : now.size = was.size := hz.1 now (by simp)
      have s2 : q.size = was.size := hz.1 q (by simp)
      have s3 : was.size ≤ 16 := hz.2
      obtain ⟨c, hc⟩ : ∃ c, c = Gf.pow 2 k := ⟨_, rfl⟩
      have h1 : P4 = Gv.sumS [was, was, now] (Gv.at' [1, 1, 1]) := by rw [HP4.out, if_pos h0, Gv.mix3_1 _ _ _ rfl]
      have h2 : Q4 = Gv.sumS [q, was, now] (Gv.at' [1, c, c]) := by rw [HQ4.out, if_pos h0, Gv.mix3_c _ _ _ _ s2.symm, hc]; rfl
      have H1 := Lib.hid h1
      have H2 := Lib.hid h2
      have Hc := Lib.hid hc
      have HM := Lib.hid (mix3_any was was now 1 1 1 rfl s1 (by omega) w15)
      have hk9 : k ≤ 9 := by omega
      subst h0
      clear hd hin hbk hz h1 h2 hc
      go_wp2_with fail
      refine HM.out.mono ?_
      rintro e w16 ⟨rfl, hb16⟩
      have HB16' := Lib.hid hb16
      have hz16 := hb16.size
      rw [← H1.out]
      have HPw := Lib.hid (rpow_any 2 k _ _ rfl rfl (by omega) w16)
      rw [← Hc.out] at HPw
      clear hb16 HM
      go_wp2_with fail
      refine HPw.out.mono ?_
      rintro e w' ⟨rfl, n1, rfl⟩
      obtain ⟨w17, hw17⟩ : ∃ x, x = w16.drewN n1 := ⟨_, rfl⟩
      rw [← hw17]
      have HB17' : Hid (Below w15.heap.size w15 w17) := Lib.hid (by rw [hw17]; exact bdrew HB16'.out n1)
      have hz17 := HB17'.out.size
      have HM2 := Lib.hid (mix3_any q was now 1 c c s2.symm (by omega) (by omega) w17)
      clear hw17 HPw
      go_wp2_with fail
      refine HM2.out.mono ?_
      rintro e w18 ⟨rfl, hb18⟩
      have HB18' := Lib.hid (HB17'.out.trans (hb18.mono hz17))
      rw [← H2.out]
      clear hb18 HM2
      go_wp2_with fail
      go_meet
      exact ⟨rfl, rfl, _, rfl, HB18'.out⟩
    · have t1 : (e6 == 0) = false := beq_f h0
      obtain rfl : P4 = ⟨#[]⟩ := by rw [HP4.out, if_neg h0]
      obtain rfl : Q4 = ⟨#[]⟩ := by rw [HQ4.out, if_neg h0]
      clear h0
      go_wp2_with fail
      go_meet
      exact ⟨rfl, rfl, _, rfl, Below.refl _ _⟩
  case rest =>
  obtain ⟨rfl, rfl, w16, rfl, hb16⟩ := hcut
  have Hg16 := Lib.hid (Hg15.out.below (Nat.le_refl _) hb16)
  have HB16 := Lib.hid (HB15.out.trans (hb16.mono hz15))
  have hz16 := HB16.out.size
  have HE : Hid (Calls Tryd.prog 54 #[iv i, .string was, .string now, .string was, .string q] w16 fun e w' => e = .returned (.tuple #[.string P4, .string Q4, errV e6]) ∧ Below w16.heap.size w16 w') := Lib.hid ((delta_tot i was now was q w16).mono (by
    rintro e w' ⟨h, hb⟩
    refine ⟨?_, hb⟩
    rw [← He6.out] at h
    by_cases h0 : e6 = 0
    · rw [if_pos h0] at h; rw [h, HP4.out, HQ4.out, if_pos h0, if_pos h0, h0]; rfl
    · rw [if_neg h0] at h; rw [h, HP4.out, HQ4.out, if_neg h0, if_neg h0]))
  clear hb16 Hg15
  go_wp2_with fail
  refine HE.out.mono ?_
  rintro e w17 ⟨rfl, hb17⟩
  have Hg17 := Lib.hid (Hg16.out.below (Nat.le_refl _) hb17)
  have HB17 := Lib.hid (HB16.out.trans (hb17.mono hz16))
  have hz17 := HB17.out.size
  clear hb17 Hg16 HE
  go_wp2_with fail
  refine (same_eq _ _ Hg17.out).mono ?_
  rintro e w18 ⟨rfl, hb18⟩
  have Hg18 := Lib.hid (Hg17.out.below (Nat.le_refl _) hb18)
  have HB18 := Lib.hid (HB17.out.trans (hb18.mono hz17))
  have hz18 := HB18.out.size
  clear hb18 Hg17
  go_wp2_with fail
  go_ret
  exact ⟨rfl, HB18.out⟩
end Go.Proofs.YtbikmodfmckaeaaDoor
