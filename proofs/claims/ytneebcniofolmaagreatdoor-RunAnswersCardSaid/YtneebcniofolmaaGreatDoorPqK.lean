/- The walks of pq.Locate (blocks of one length) and pq.Delta. -/
import Derived.Test.YtneebcniofolmaaGreatDoorAryP
namespace Go.Proofs.YtneebcniofolmaaGreatDoor
open Go.ChangeShapes Go.WideShapes Go.ChangeAt Go.RowKit
set_option linter.unusedVariables false
theorem strq (a b : ByteArray) [Decidable (a = b)] : (a.toList == b.toList) = decide (a = b) := by
  rw [ByteArray.toList_eq, ByteArray.toList_eq]
  by_cases h : a = b
  · subst h; simp
  · rw [decide_eq_false h]
    exact beq_eq_false_iff_ne.2 (fun e => h (ByteArray.ext (Array.toList_inj.1 e)))
theorem row_head {w : World} {p : Option Addr} {n cap : Nat} {xs : List Value} (h : Row w (.slice p n cap) xs) {k : Nat} (hk : k ≤ xs.length) : Row w (.slice p k cap) (xs.take k) := by
  obtain ⟨p', cap', hv, h1, h2, h3, h4⟩ := h
  injection hv with e1 e2 e3
  subst e1 e3
  have hl : (xs.take k).length = k := by rw [List.length_take]; omega
  refine ⟨p, cap, by rw [hl], by rw [hl]; omega, h2, h3, fun h0 => ?_⟩
  rw [hl] at h0
  obtain ⟨g, off, hp, hc⟩ := h4 (by omega)
  refine ⟨g, off, hp, fun j hj => ?_⟩
  rw [hl] at hj
  rw [hc j (by omega), List.getElem?_take, if_pos hj]
theorem info_boolK : (Tryz.prog.info? 4).map (fun i => (i.zero, i.size, i.bytes)) = some (some (.bool false), 1, 1) := by kernel_rfl
theorem make_bools (n : Nat) (h : n ≤ 1000000) (w : World) : (Instr.makeSlice 55 (.int .i64 (n : Int)) (.int .i64 (n : Int))).run Tryz.prog w = .ok (.slice (some ⟨w.heap.size, 0, none⟩) n n) (w.alloc (.cells (madeCells #[.bool false] n) 4)) :=
  run_make_row' 55 4 (.bool false) 1 Tryz.underlying55 info_boolK rfl .i64 .i64 n (by omega) (by omega) w
theorem marked_row {n i : Nat} (hn : n ≤ 1000000) (hi : i < n) (w : World) : BoolR ((w.alloc (.cells (madeCells #[.bool false] n) 4)).setCell ⟨w.heap.size, i, none⟩ (.bool true)) (.slice (some ⟨w.heap.size, 0, none⟩) n n) (Gv.marks2 n i i) := by
  have hl : (madeCells #[Value.bool false] n).toList = List.replicate n (.bool false) := toList_madeCells_one _ _
  have hs : (madeCells #[Value.bool false] n).size = n := by rw [← Array.length_toList, hl, List.length_replicate]
  have hb := heap_setCell_same (w.alloc (.cells (madeCells #[.bool false] n) 4)) w.heap.size i _ _ (.bool true) (heap_alloc_new w _)
  have hml : ((Gv.marks2 n i i).map Value.bool).length = n := by unfold Gv.marks2; simp
  refine ⟨some ⟨w.heap.size, 0, none⟩, n, by rw [hml], by rw [hml]; exact Nat.le_refl _, by unfold maxLen; omega, (fun h => by cases h), fun _ => ⟨w.heap.size, 0, rfl, fun j hj => ?_⟩⟩
  rw [hml] at hj
  rw [cell_of_row _ _ _ _ _ _ hb, Nat.zero_add]
  unfold Gv.marks2
  rw [List.getElem?_map, List.getElem?_map, List.getElem?_range hj]
  by_cases e : i = j
  · subst e
    rw [Array.getElem?_setIfInBounds_self_of_lt (by omega)]
    simp
  · rw [Array.getElem?_setIfInBounds_ne (by omega), ← Array.getElem?_toList, hl, List.getElem?_replicate, if_pos hj]
    have e' : ¬ j = i := fun h => e h.symm
    simp [e']
/-- the first q parts are what was healed, but i -/
def sameP (ps hs : List ByteArray) (i q : Nat) : Bool := (List.range q).all (fun j => j == i || decide (hs.getD j ⟨#[]⟩ = ps.getD j ⟨#[]⟩))
theorem sameP_succ (ps hs : List ByteArray) (i q : Nat) : sameP ps hs i (q + 1) = (sameP ps hs i q && (q == i || decide (hs.getD q ⟨#[]⟩ = ps.getD q ⟨#[]⟩))) := by
  unfold sameP; rw [List.range_succ, List.all_append]; simp
def LcRel (ps : List ByteArray) (w : World) (n gk : Nat) (i : Value) (wr : World) : Prop :=
  ∃ k : Nat, k + gk = n ∧ i = iv k ∧ (∀ q, q < k → Gv.sameB ps q = false) ∧ Below w.heap.size w wr
def LcIn (ps hs : List ByteArray) (i : Nat) (w1 : World) (n gk : Nat) (v10 v : Value) (wr : World) : Prop :=
  ∃ q : Nat, q + gk = n ∧ v = iv q ∧ v10 = .bool (sameP ps hs i q) ∧ wr = w1
def LocPost (ps : List ByteArray) (w : World) (e : Ending) (w' : World) : Prop := e = .returned (.tuple #[iv (Gv.locate ps).1, errV (Gv.locate ps).2]) ∧ Below w.heap.size w w'
set_option maxRecDepth 100000 in
set_option maxHeartbeats 2000000 in
theorem locate_ok (ps : List ByteArray) (n0 : Nat) (h3 : 3 ≤ ps.length) (h12 : ps.length ≤ 12) (hsz : ∀ s ∈ ps, s.size = n0) (h16 : n0 ≤ 16) (v : Value) (w : World) (hv : Strs w v ps) :
    Calls Tryz.prog 150 #[v] w (LocPost ps w) := by
  have HV := Lib.hid hv
  have hF : blkF ps = 0 := by
    have h0 : ps[0]? = some (ps[0]'(by omega)) := List.getElem?_eq_getElem (by omega)
    rw [blkF_good h0 (fun j s hs => by rw [hsz s (List.mem_of_getElem? hs), hsz _ (List.getElem_mem (by omega))]), if_neg (by rw [hsz _ (List.getElem_mem (by omega))]; omega)]
  have HBl := Lib.hid (blocks_any ps v w hv)
  rw [hF] at HBl
  obtain ⟨gv, ov, cv, rfl, v1, v2, v3⟩ := Row.pos hv (by rw [List.length_map]; omega)
  rw [List.length_map] at v1
  simp only [List.length_map] at HV HBl ⊢
  have hzv := World.block_lt_of_cell? w _ (v3 0 (by rw [List.length_map]; omega) |>.trans (List.getElem?_eq_getElem (by rw [List.length_map]; omega)))
  obtain ⟨n, hn⟩ : ∃ n, n = ps.length := ⟨_, rfl⟩
  rw [← hn] at h3 h12 v1 HV HBl ⊢
  have hcs : ∀ j, j < n → w.cell? ⟨gv, ov + j, none⟩ = some (.string (ps.getD j ⟨#[]⟩)) := by
    intro j hj
    have := v3 j (by rw [List.length_map]; omega)
    rw [this, List.getElem?_map, List.getElem?_eq_getElem (by omega), List.getD_eq_getElem?_getD, List.getElem?_eq_getElem (by omega)]; rfl
  have hmany : manyB (n : Int) = true := by unfold manyB; rw [dec_t (by omega), dec_t (by omega)]; rfl
  have HM := Lib.hid (many_any (n : Int) w)
  rw [hmany] at HM
  have hw2 : IntKind.i64.wrap ((n : Int) - 2) = ((n - 2 : Nat) : Int) := (IntWalk.i64_in _ (by omega)).trans (by omega)
  obtain ⟨kk, hkk⟩ : ∃ kk, kk = n - 2 := ⟨_, rfl⟩
  rw [← hkk] at hw2
  have Hkn := Lib.hid (show kk + 2 = n by omega)
  have hkn1 : kk < n := by omega
  have hkc : (kk : Int) ≤ (cv : Int) := by omega
  have hw3 : IntKind.i64.wrap ((kk : Int) + 1) = (kk : Int) + 1 := IntWalk.i64_in _ (by omega)
  have hk3 : (kk : Int) + 1 < (n : Int) := by omega
  have hk4 : (0 : Int) ≤ (kk : Int) + 1 := by omega
  have hT : Strs w (.slice (some ⟨gv, ov, none⟩) kk cv) (ps.take kk) := by
    have h := row_head (k := kk) HV.out (by rw [List.length_map]; omega)
    rw [← List.map_take] at h; exact h
  have htl : (ps.take kk).length = kk := by rw [List.length_take]; omega
  have hts : ∀ s ∈ ps.take kk, s.size = n0 := fun s hs => hsz s (List.mem_of_mem_take hs)
  have hs0 : size0 (ps.take kk) = n0 := Gv.size0_of hts (by omega)
  have HOf := Lib.hid (of_any (ps.take kk) (fun s hs => by rw [hs0]; exact hts s hs) (by omega) (by omega) _ w hT)
  unfold OfPost at HOf
  obtain ⟨P, hP⟩ : ∃ P, P = Gv.P (ps.take kk) := ⟨_, rfl⟩
  obtain ⟨Q, hQ⟩ : ∃ Q, Q = Gv.Q (ps.take kk) := ⟨_, rfl⟩
  rw [← hP, ← hQ] at HOf
  have hcl : Gv.cleanB ps = (decide (P = ps.getD kk ⟨#[]⟩) && decide (Q = ps.getD (kk + 1) ⟨#[]⟩)) := by
    unfold Gv.cleanB
    rw [← hn, ← hkk, hP, hQ]
  have k0 := hcs kk (by omega)
  have k1 := hcs (kk + 1) (by omega)
  obtain ⟨p0, hp0⟩ : ∃ p0, p0 = ps.getD kk ⟨#[]⟩ := ⟨_, rfl⟩
  obtain ⟨q0, hq0⟩ : ∃ q0, q0 = ps.getD (kk + 1) ⟨#[]⟩ := ⟨_, rfl⟩
  rw [← hp0] at k0 hcl
  rw [← hq0] at k1 hcl
  have Hcl := Lib.hid hcl
  have Hcs := Lib.hid hcs
  have Hn := Lib.hid hn
  have Hsz := Lib.hid hsz
  unfold maxLen at v2
  clear hv v3 hcs hn hmany hF hkk hT htl hts hs0 hP hQ hcl hp0 hq0 hsz
  go_enter Tryz.func150, Tryz.ntmps150
  go_wp2_with fail
  refine HM.out.mono ?_
  rintro e w' ⟨rfl, rfl⟩
  go_wp2_with fail
  refine HBl.out.mono ?_
  rintro e w' ⟨he, rfl⟩
  obtain rfl : e = .returned .nilIface := he
  go_wp2_with fail
  refine HOf.out.mono ?_
  rintro e w1 ⟨rfl, hb1⟩
  have HB1 := Lib.hid hb1
  have hz1 := hb1.size
  have d0 := (hb1.cell (p := ⟨gv, ov + kk, none⟩) hzv).trans k0
  have d1 := (hb1.cell (p := ⟨gv, ov + (kk + 1), none⟩) hzv).trans k1
  clear hb1 HOf HBl HM k0 k1
  go_upto_region 8 with (fail)
  go_cut [47] (fun z wq => z = .bool (Gv.cleanB ps) ∧ w1 = wq)
  case first => as_aux_lemma =>
    by_cases h1 : P = p0
    · by_cases h2 : Q = q0
      · have t1 : (P.toList == p0.toList) = true := by rw [strq]; exact dec_t h1
        have t2 : (Q.toList == q0.toList) = true := by rw [strq]; exact dec_t h2
        have hc : Gv.cleanB ps = true := by rw [Hcl.out, dec_t h1, dec_t h2]; rfl
        have Hc := Lib.hid hc
        clear h1 h2 hc
        go_wp2_with fail
        go_meet
        exact ⟨by rw [Hc.out], rfl⟩
      · have t1 : (P.toList == p0.toList) = true := by rw [strq]; exact dec_t h1
        have t2 : (Q.toList == q0.toList) = false := by rw [strq]; exact dec_f h2
        have hc : Gv.cleanB ps = false := by rw [Hcl.out, dec_t h1, dec_f h2]; rfl
        have Hc := Lib.hid hc
        clear h1 h2 hc
        go_wp2_with fail
        go_meet
        exact ⟨by rw [Hc.out], rfl⟩
    · have t1 : (P.toList == p0.toList) = false := by rw [strq]; exact dec_f h1
      have hc : Gv.cleanB ps = false := by rw [Hcl.out, dec_f h1]; rfl
      have Hc := Lib.hid hc
      clear h1 hc
      go_wp2_with fail
      go_meet
      exact ⟨by rw [Hc.out], rfl⟩
  case rest =>
    obtain ⟨rfl, rfl⟩ := hcut
    clear d0 d1 Hcl
    cases hcb : Gv.cleanB ps with
    | true =>
      have hl : Gv.locate ps = (-1, 0) := by unfold Gv.locate; rw [if_pos hcb]
      have Hl := Lib.hid hl
      clear hcb hl
      go_wp2_with fail
      go_ret2
      exact ⟨by rw [Hl.out]; rfl, HB1.out⟩
    | false =>
      have hl : Gv.locate ps = match Gv.findF ps n 0 with | some i => ((i : Int), 0) | none => (0, 8) := by unfold Gv.locate; rw [hcb, if_neg (by decide), ← Hn.out]; cases Gv.findF ps n 0 <;> rfl
      have Hl := Lib.hid hl
      clear hcb hl
      have mk := fun W => make_bools n (by omega) W
      have HMk := Lib.hid mk
      clear mk
      go_wp2_with fail
      go_loopg [8, 9, 10, 11, 12, 50] n (fun gk v8 v9 v10 v11 v12 v50 wr => LcRel ps w n gk v50 wr)
      case atStart => exact ⟨0, by omega, rfl, fun q hq => by omega, HB1.out⟩
      case round =>
        obtain ⟨wO, hwO⟩ : ∃ x : World, x = wr := ⟨_, rfl⟩
        obtain ⟨gO, hgO⟩ : ∃ x : Nat, x = gk := ⟨_, rfl⟩
        subst hwO hgO
        obtain ⟨i, hi, rfl, hno, hB⟩ := hrel
        have Hi := Lib.hid hi
        have Hno := Lib.hid hno
        have HB := Lib.hid hB
        have hzO := hB.size
        clear hi hno hB
        by_cases hin : i < n
        · have mk := HMk.out wO
          have hin6 : n ≤ 1000000 := by omega
          obtain ⟨wM, hwM⟩ : ∃ wM, wM = wO.alloc (.cells (madeCells #[.bool false] n) 4) := ⟨_, rfl⟩
          have hbM : Below wO.heap.size wO wM := by rw [hwM]; exact (Below.refl _ _).alloc (Nat.le_refl _) _
          have hrow := marked_row (n := n) (i := i) hin6 hin wO
          have hzM : wM.heap.size = wO.heap.size + 1 := by rw [hwM]; simp
          have cM : wM.cell? ⟨wO.heap.size, i, none⟩ = some (.bool false) := by
            rw [hwM, cell_of_row _ _ _ _ _ _ (heap_alloc_new wO _), ← Array.getElem?_toList, toList_madeCells_one, List.getElem?_replicate, if_pos hin]
          have fM : wM.frozen? ⟨wO.heap.size, i, none⟩ = false := by
            rw [hwM]; exact frozen_of_row _ _ _ _ _ (heap_alloc_new wO _)
          rw [← hwM] at mk hrow
          have hbS : Below wO.heap.size wO (wM.setCell ⟨wO.heap.size, i, none⟩ (.bool true)) := hbM.setCell (p := ⟨wO.heap.size, i, none⟩) (Nat.le_refl _) _
          have HBS := Lib.hid (HB.out.trans (hbS.mono hzO))
          have HVS := HV.out.below HBS.out
          have HHl := Lib.hid (heal_any ps (Gv.marks2 n i i) n0 (by rw [← Hn.out]; exact h3) (by rw [← Hn.out]; omega) (by rw [← Hn.out]; unfold Gv.marks2; simp) (fun q hq _ => Hsz.out _ (Gv.getD_mem hq)) (by omega)
            (by
              by_cases e : i = 0
              · refine ⟨1, by rw [← Hn.out]; omega, ?_⟩
                cases h9 : Gv.lo (Gv.marks2 n i i) 1 with
                | false => rfl
                | true => have := (Gv.marks2_at.1 h9).2; omega
              · refine ⟨0, by rw [← Hn.out]; omega, ?_⟩
                cases h9 : Gv.lo (Gv.marks2 n i i) 0 with
                | false => rfl
                | true => have := (Gv.marks2_at.1 h9).2; omega)
            (by
              have hnd := Gv.gone_nodup (Gv.marks2 n i i) (ps.length - 2)
              have hm : ∀ j ∈ Gv.goneL (Gv.marks2 n i i) (ps.length - 2), j = i := fun j hj => by
                have := (Gv.marks2_at.1 (Gv.gone_mem.1 hj).2).2; omega
              generalize Gv.goneL (Gv.marks2 n i i) (ps.length - 2) = g at *
              match g, hnd, hm with
              | [], _, _ => simp
              | [a], _, _ => simp
              | a :: b :: t, hnd, hm =>
                exfalso
                have ha := hm a (by simp)
                have hb := hm b (by simp)
                simp at hnd
                omega) _ _ _ HVS hrow)
          clear hwM hbM hrow hbS HVS
          go_wp2_with fail
          refine HHl.out.mono ?_
          rintro e w5 ⟨v5, rfl, hO5, hb5⟩
          have HB5 := Lib.hid (HBS.out.trans (hb5.mono (by have := HBS.out.size; exact this)))
          obtain ⟨hs, hhs⟩ : ∃ hs, hs = Gv.heal ps (Gv.marks2 n i i) := ⟨_, rfl⟩
          rw [← hhs] at hO5
          have hsl : hs.length = n := by
            have hcw := Gv.heal_cw (n := n0) (k := kk) (ps := ps) (ls := Gv.marks2 n i i) (by rw [← Hn.out]; exact Hkn.out.symm) (by have := Hkn.out; omega) Hsz.out (by
              by_cases e : i = 0
              · refine ⟨1, by have := Hkn.out; omega, ?_⟩
                cases h9 : Gv.lo (Gv.marks2 n i i) 1 with
                | false => rfl
                | true => have := (Gv.marks2_at.1 h9).2; omega
              · refine ⟨0, by omega, ?_⟩
                cases h9 : Gv.lo (Gv.marks2 n i i) 0 with
                | false => rfl
                | true => have := (Gv.marks2_at.1 h9).2; omega)
            rw [hhs, hcw.len]; exact Hkn.out
          obtain ⟨g5, o5, c5, rfl, _, _, h51, h52, hc5, _⟩ := hO5.at0 (by rw [List.length_map]; omega)
          rw [List.length_map] at h51
          simp only [List.length_map]
          have hch : ∀ j, j < n → w5.cell? ⟨g5, o5 + j, none⟩ = some (.string (hs.getD j ⟨#[]⟩)) := by
            intro j hj
            rw [hc5 j (by rw [List.length_map]; omega), List.getElem?_map, List.getElem?_eq_getElem (by omega), List.getD_eq_getElem?_getD, List.getElem?_eq_getElem (by omega)]; rfl
          have hcp : ∀ j, j < n → w5.cell? ⟨gv, ov + j, none⟩ = some (.string (ps.getD j ⟨#[]⟩)) := fun j hj => (HB5.out.cell (p := ⟨gv, ov + j, none⟩) hzv).trans (Hcs.out j hj)
          have hsb : Gv.sameB ps i = sameP ps hs i n := by unfold Gv.sameB sameP; rw [← Hn.out, hhs]
          have Hsb := Lib.hid hsb
          have Hch := Lib.hid hch
          have Hcp := Lib.hid hcp
          rw [hsl] at h51 ⊢
          unfold maxLen at h52
          clear hb5 hO5 hhs hsl hc5 hch hcp hsb HHl HBS cM fM mk HB
          go_wp2_with fail
          go_loopg [10, 11, 12, 63] n (fun gk v10 v11 v12 v63 wr => LcIn ps hs i w5 n gk v10 v63 wr)
          case atStart => exact ⟨0, by omega, rfl, rfl, rfl⟩
          case round =>
            obtain ⟨q, hq, rfl, rfl, hwr⟩ := hrel
            subst hwr
            have Hq := Lib.hid hq
            clear hq
            by_cases hqn : q < n
            · have e0 := Hch.out q hqn
              have e1 := Hcp.out q hqn
              have hstep := sameP_succ ps hs i q
              generalize sameP ps hs i q = b0 at *
              obtain ⟨x, hx⟩ : ∃ x, x = hs.getD q ⟨#[]⟩ := ⟨_, rfl⟩
              obtain ⟨y, hy⟩ : ∃ y, y = ps.getD q ⟨#[]⟩ := ⟨_, rfl⟩
              rw [← hx] at e0 hstep
              rw [← hy] at e1 hstep
              have Hstep := Lib.hid hstep
              clear hstep hx hy
              have hfin : ∀ r, (b0 && (q == i || decide (x = y))) = r → ((b0 = false ∧ r = false) ∨ (b0 = true ∧ ((q : Int) == (i : Int)) = true ∧ r = true) ∨ (b0 = true ∧ ((q : Int) == (i : Int)) = false ∧ (x.toList == y.toList) = r)) := by
                intro r hr
                cases b0 with
                | false => exact .inl ⟨rfl, hr.symm⟩
                | true =>
                  by_cases e : q = i
                  · exact .inr (.inl ⟨rfl, beq_t (by omega), by rw [← hr]; simp [e]⟩)
                  · refine .inr (.inr ⟨rfl, beq_f (by omega), ?_⟩)
                    rw [strq, ← hr]; simp [e]
              have Hfin := Lib.hid (hfin _ rfl)
              clear hfin
              rcases Hfin.out with ⟨rfl, hr⟩ | ⟨rfl, t1, hr⟩ | ⟨rfl, t1, t2⟩
              · have Hr := Lib.hid (Hstep.out.trans hr)
                clear hr
                go_wp2_with fail
                go_roundg (gk - 1)
                case measure => have := Hq.out; omega
                case rel => exact ⟨q + 1, by have := Hq.out; omega, by go_num, by rw [Hr.out], rfl⟩
              · have Hr := Lib.hid (Hstep.out.trans hr)
                clear hr
                go_wp2_with fail
                go_roundg (gk - 1)
                case measure => have := Hq.out; omega
                case rel => exact ⟨q + 1, by have := Hq.out; omega, by go_num, by rw [Hr.out], rfl⟩
              · have Hr := Hstep
                cases hxy : (x.toList == y.toList) with
                | true =>
                  have Hr := Lib.hid (Hstep.out.trans (t2.symm.trans hxy))
                  clear t2
                  go_wp2_with fail
                  go_roundg (gk - 1)
                  case measure => have := Hq.out; omega
                  case rel => exact ⟨q + 1, by have := Hq.out; omega, by go_num, by rw [Hr.out], rfl⟩
                | false =>
                  have Hr := Lib.hid (Hstep.out.trans (t2.symm.trans hxy))
                  clear t2
                  go_wp2_with fail
                  go_roundg (gk - 1)
                  case measure => have := Hq.out; omega
                  case rel => exact ⟨q + 1, by have := Hq.out; omega, by go_num, by rw [Hr.out], rfl⟩
            · have hqn' : q = n := by have := Hq.out; omega
              have hsb : Gv.sameB ps i = sameP ps hs i q := by rw [Hsb.out, hqn']
              cases hsp : sameP ps hs i q with
              | true =>
                rw [hsp] at hsb
                have hl2 : Gv.locate ps = ((i : Int), 0) := by
                  rw [Hl.out, Gv.findF_at ps n 0 i (Nat.zero_le _) (by omega) hsb (fun j _ hj => Hno.out j hj)]
                have Hl2 := Lib.hid hl2
                clear hl2 hsp hsb hqn'
                go_wp2_with fail
                go_ret2
                exact ⟨by rw [Hl2.out]; rfl, HB5.out⟩
              | false =>
                rw [hsp] at hsb
                have hno2 : ∀ j, j < i + 1 → Gv.sameB ps j = false := by
                  intro j hj
                  by_cases e : j = i
                  · rw [e]; exact hsb
                  · exact Hno.out j (by omega)
                have Hno2 := Lib.hid hno2
                clear hno2 hsp hsb hqn'
                go_wp2_with fail
                go_roundg (gO - 1)
                case measure => have := Hi.out; omega
                case rel => exact ⟨i + 1, by have := Hi.out; omega, by go_num, Hno2.out, HB5.out⟩
        · have hi9 : i = n := by have := Hi.out; omega
          have hnone : ∀ m j, (∀ q, j ≤ q → q < j + m → Gv.sameB ps q = false) → Gv.findF ps m j = none := by
            intro m
            induction m with
            | zero => intro j _; rfl
            | succ m ih =>
              intro j h
              unfold Gv.findF
              rw [if_neg (by rw [h j (Nat.le_refl _) (by omega)]; decide)]
              exact ih (j + 1) (fun q h1 h2 => h q (by omega) (by omega))
          have hl2 : Gv.locate ps = (0, 8) := by
            rw [Hl.out, hnone n 0 (fun q _ hq => Hno.out q (by omega))]
          have Hl2 := Lib.hid hl2
          clear hl2 hnone hi9
          go_wp2_with fail
          go_ret2
          exact ⟨by rw [Hl2.out]; rfl, HB.out⟩
end Go.Proofs.YtneebcniofolmaaGreatDoor
