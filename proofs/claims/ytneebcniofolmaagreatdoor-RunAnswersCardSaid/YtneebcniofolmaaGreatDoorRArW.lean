/- The walk of the references' Locate. · The reference's array in memory. -/
import Derived.Test.YtneebcniofolmaaGreatDoorRPqY
import Derived.Test.YtneebcniofolmaaGreatDoorPqK
import Derived.BigQuiet
import Derived.Test.YtneebcniofolmaaGreatDoorScrC
import Derived.Test.YtneebcniofolmaaGreatDoorLayR
namespace Go.Proofs.YtneebcniofolmaaGreatDoor
open Go.ChangeShapes Go.WideShapes Go.ChangeAt Go.RowKit
set_option linter.unusedVariables false
def RLcIn (ps hs : List ByteArray) (i : Nat) (w1 : World) (n gk : Nat) (v10 v : Value) (wr : World) : Prop :=
  ∃ q nd : Nat, q + gk = n ∧ v = iv q ∧ v10 = .bool (sameP ps hs i q) ∧ wr = w1.drewN nd
def RLocPost (ps : List ByteArray) (w : World) (e : Ending) (w' : World) : Prop := e = .returned (.tuple #[iv (Gv.locate ps).1, .bool (decide ((Gv.locate ps).2 = 0))]) ∧ Below w.heap.size w w'
set_option maxRecDepth 100000 in
set_option maxHeartbeats 2000000 in
theorem rlocate_ok (ps : List ByteArray) (n0 : Nat) (h3 : 3 ≤ ps.length) (h12 : ps.length ≤ 12) (hsz : ∀ s ∈ ps, s.size = n0) (h16 : n0 ≤ 16) (v : Value) (w : World) (hv : Strs w v ps) :
    Calls Tryz.prog 44 #[v] w (RLocPost ps w) := by
  have HV := Lib.hid hv
  obtain ⟨gv, ov, cv, rfl, v1, v2, v3⟩ := Row.pos hv (by rw [List.length_map]; omega)
  rw [List.length_map] at v1
  simp only [List.length_map] at HV ⊢
  have hzv := World.block_lt_of_cell? w _ (v3 0 (by rw [List.length_map]; omega) |>.trans (List.getElem?_eq_getElem (by rw [List.length_map]; omega)))
  obtain ⟨n, hn⟩ : ∃ n, n = ps.length := ⟨_, rfl⟩
  rw [← hn] at h3 h12 v1 HV ⊢
  have hcs : ∀ j, j < n → w.cell? ⟨gv, ov + j, none⟩ = some (.string (ps.getD j ⟨#[]⟩)) := by
    intro j hj
    have := v3 j (by rw [List.length_map]; omega)
    rw [this, List.getElem?_map, List.getElem?_eq_getElem (by omega), List.getD_eq_getElem?_getD, List.getElem?_eq_getElem (by omega)]; rfl
  have hw2 : IntKind.i64.wrap ((n : Int) - 2) = ((n - 2 : Nat) : Int) := (IntWalk.i64_in _ (by omega)).trans (by omega)
  obtain ⟨kk, hkk⟩ : ∃ kk, kk = n - 2 := ⟨_, rfl⟩
  rw [← hkk] at hw2
  have Hkn := Lib.hid (show kk + 2 = n by omega)
  have hkn1 : kk < n := by omega
  have hkc : (kk : Int) ≤ (cv : Int) := by omega
  have hw3 : IntKind.i64.wrap ((kk : Int) + 1) = (kk : Int) + 1 := IntWalk.i64_in _ (by omega)
  have hk3 : (kk : Int) + 1 < (n : Int) := by omega
  have hk4 : (0 : Int) ≤ (kk : Int) + 1 := by omega
  have hT : Strs w (.slice (some ⟨gv, ov, none⟩) kk cv) (ps.take kk) := by
    have h := row_head (k := kk) HV.out (by rw [List.length_map]; omega)
    rw [← List.map_take] at h; exact h
  have htl : (ps.take kk).length = kk := by rw [List.length_take]; omega
  have hts : ∀ s ∈ ps.take kk, s.size = n0 := fun s hs => hsz s (List.mem_of_mem_take hs)
  have hs0 : size0 (ps.take kk) = n0 := Gv.size0_of hts (by omega)
  have HOf := Lib.hid (rpq_any (ps.take kk) (fun s hs => by rw [hs0]; exact hts s hs) (by omega) (by omega) _ w hT)
  unfold OfPost at HOf
  obtain ⟨P, hP⟩ : ∃ P, P = Gv.P (ps.take kk) := ⟨_, rfl⟩
  obtain ⟨Q, hQ⟩ : ∃ Q, Q = Gv.Q (ps.take kk) := ⟨_, rfl⟩
  rw [← hP, ← hQ] at HOf
  have hcl : Gv.cleanB ps = (decide (P = ps.getD kk ⟨#[]⟩) && decide (Q = ps.getD (kk + 1) ⟨#[]⟩)) := by
    unfold Gv.cleanB
    rw [← hn, ← hkk, hP, hQ]
  have k0 := hcs kk (by omega)
  have k1 := hcs (kk + 1) (by omega)
  obtain ⟨p0, hp0⟩ : ∃ p0, p0 = ps.getD kk ⟨#[]⟩ := ⟨_, rfl⟩
  obtain ⟨q0, hq0⟩ : ∃ q0, q0 = ps.getD (kk + 1) ⟨#[]⟩ := ⟨_, rfl⟩
  rw [← hp0] at k0 hcl
  rw [← hq0] at k1 hcl
  have Hcl := Lib.hid hcl
  have Hcs := Lib.hid hcs
  have Hn := Lib.hid hn
  have Hsz := Lib.hid hsz
  unfold maxLen at v2
  clear hv v3 hcs hn hkk hT htl hts hs0 hP hQ hcl hp0 hq0 hsz
  go_enter Tryz.func44, Tryz.ntmps44
  go_wp2_with fail
  refine HOf.out.mono ?_
  rintro e w1 ⟨rfl, hb1⟩
  have HB1 := Lib.hid hb1
  have hz1 := hb1.size
  have d0 := (hb1.cell (p := ⟨gv, ov + kk, none⟩) hzv).trans k0
  have d1 := (hb1.cell (p := ⟨gv, ov + (kk + 1), none⟩) hzv).trans k1
  clear hb1 HOf k0 k1
  go_upto_region 3 with (fail)
  go_cut [36] (fun z wq => z = .bool (Gv.cleanB ps) ∧ w1 = wq)
  case first => as_aux_lemma =>
    by_cases h1 : P = p0
    · by_cases h2 : Q = q0
      · have t1 : (P.toList == p0.toList) = true := by rw [strq]; exact dec_t h1
        have t2 : (Q.toList == q0.toList) = true := by rw [strq]; exact dec_t h2
        have hc : Gv.cleanB ps = true := by rw [Hcl.out, dec_t h1, dec_t h2]; rfl
        have Hc := Lib.hid hc
        clear h1 h2 hc
        go_wp2_with fail
        go_meet
        exact ⟨by rw [Hc.out], rfl⟩
      · have t1 : (P.toList == p0.toList) = true := by rw [strq]; exact dec_t h1
        have t2 : (Q.toList == q0.toList) = false := by rw [strq]; exact dec_f h2
        have hc : Gv.cleanB ps = false := by rw [Hcl.out, dec_t h1, dec_f h2]; rfl
        have Hc := Lib.hid hc
        clear h1 h2 hc
        go_wp2_with fail
        go_meet
        exact ⟨by rw [Hc.out], rfl⟩
    · have t1 : (P.toList == p0.toList) = false := by rw [strq]; exact dec_f h1
      have hc : Gv.cleanB ps = false := by rw [Hcl.out, dec_f h1]; rfl
      have Hc := Lib.hid hc
      clear h1 hc
      go_wp2_with fail
      go_meet
      exact ⟨by rw [Hc.out], rfl⟩
  case rest =>
    obtain ⟨rfl, rfl⟩ := hcut
    clear d0 d1 Hcl
    cases hcb : Gv.cleanB ps with
    | true =>
      have hl : Gv.locate ps = (-1, 0) := by unfold Gv.locate; rw [if_pos hcb]
      have Hl := Lib.hid hl
      clear hcb hl
      go_wp2_with fail
      go_ret2
      exact ⟨by rw [Hl.out]; rfl, HB1.out⟩
    | false =>
      have hl : Gv.locate ps = match Gv.findF ps n 0 with | some i => ((i : Int), 0) | none => (0, 8) := by unfold Gv.locate; rw [hcb, if_neg (by decide), ← Hn.out]; cases Gv.findF ps n 0 <;> rfl
      have Hl := Lib.hid hl
      clear hcb hl
      have mk := fun W => make_bools n (by omega) W
      have HMk := Lib.hid mk
      clear mk
      go_wp2_with fail
      go_loopg [7, 8, 9, 10, 11] n (fun gk v7 v8 v9 v10 v11 wr => LcRel ps w n gk v7 wr)
      case atStart => exact ⟨0, by omega, rfl, fun q hq => by omega, HB1.out⟩
      case round =>
        obtain ⟨wO, hwO⟩ : ∃ x : World, x = wr := ⟨_, rfl⟩
        obtain ⟨gO, hgO⟩ : ∃ x : Nat, x = gk := ⟨_, rfl⟩
        subst hwO hgO
        obtain ⟨i, hi, rfl, hno, hB⟩ := hrel
        have Hi := Lib.hid hi
        have Hno := Lib.hid hno
        have HB := Lib.hid hB
        have hzO := hB.size
        clear hi hno hB
        by_cases hin : i < n
        · have mk := HMk.out wO
          have hin6 : n ≤ 1000000 := by omega
          obtain ⟨wM, hwM⟩ : ∃ wM, wM = wO.alloc (.cells (madeCells #[.bool false] n) 4) := ⟨_, rfl⟩
          have hbM : Below wO.heap.size wO wM := by rw [hwM]; exact (Below.refl _ _).alloc (Nat.le_refl _) _
          have hrow := marked_row (n := n) (i := i) hin6 hin wO
          have hzM : wM.heap.size = wO.heap.size + 1 := by rw [hwM]; simp
          have cM : wM.cell? ⟨wO.heap.size, i, none⟩ = some (.bool false) := by
            rw [hwM, cell_of_row _ _ _ _ _ _ (heap_alloc_new wO _), ← Array.getElem?_toList, toList_madeCells_one, List.getElem?_replicate, if_pos hin]
          have fM : wM.frozen? ⟨wO.heap.size, i, none⟩ = false := by
            rw [hwM]; exact frozen_of_row _ _ _ _ _ (heap_alloc_new wO _)
          rw [← hwM] at mk hrow
          have hbS : Below wO.heap.size wO (wM.setCell ⟨wO.heap.size, i, none⟩ (.bool true)) := hbM.setCell (p := ⟨wO.heap.size, i, none⟩) (Nat.le_refl _) _
          have HBS := Lib.hid (HB.out.trans (hbS.mono hzO))
          have HVS := HV.out.below HBS.out
          have HHl := Lib.hid (rheal_any ps (Gv.marks2 n i i) n0 (by rw [← Hn.out]; exact h3) (by rw [← Hn.out]; omega) (by rw [← Hn.out]; unfold Gv.marks2; simp) (fun q hq _ => Hsz.out _ (Gv.getD_mem hq)) (by omega)
            (by
              by_cases e : i = 0
              · refine ⟨1, by rw [← Hn.out]; omega, ?_⟩
                cases h9 : Gv.lo (Gv.marks2 n i i) 1 with
                | false => rfl
                | true => have := (Gv.marks2_at.1 h9).2; omega
              · refine ⟨0, by rw [← Hn.out]; omega, ?_⟩
                cases h9 : Gv.lo (Gv.marks2 n i i) 0 with
                | false => rfl
                | true => have := (Gv.marks2_at.1 h9).2; omega)
            (by
              have hnd := Gv.gone_nodup (Gv.marks2 n i i) ps.length
              have hm : ∀ j ∈ Gv.goneL (Gv.marks2 n i i) ps.length, j = i := fun j hj => by
                have := (Gv.marks2_at.1 (Gv.gone_mem.1 hj).2).2; omega
              generalize Gv.goneL (Gv.marks2 n i i) ps.length = g at *
              match g, hnd, hm with
              | [], _, _ => simp
              | [a], _, _ => simp
              | a :: b :: t, hnd, hm =>
                exfalso
                have ha := hm a (by simp)
                have hb := hm b (by simp)
                simp at hnd
                omega) _ _ _ HVS hrow)
          clear hwM hbM hrow hbS HVS
          go_wp2_with fail
          refine HHl.out.mono ?_
          rintro e w5 ⟨v5, rfl, hO5, hb5⟩
          have HB5 := Lib.hid (HBS.out.trans (hb5.mono (by have := HBS.out.size; exact this)))
          obtain ⟨hs, hhs⟩ : ∃ hs, hs = Gv.heal ps (Gv.marks2 n i i) := ⟨_, rfl⟩
          rw [← hhs] at hO5
          have hsl : hs.length = n := by
            have hcw := Gv.heal_cw (n := n0) (k := kk) (ps := ps) (ls := Gv.marks2 n i i) (by rw [← Hn.out]; exact Hkn.out.symm) (by have := Hkn.out; omega) Hsz.out (by
              by_cases e : i = 0
              · refine ⟨1, by have := Hkn.out; omega, ?_⟩
                cases h9 : Gv.lo (Gv.marks2 n i i) 1 with
                | false => rfl
                | true => have := (Gv.marks2_at.1 h9).2; omega
              · refine ⟨0, by omega, ?_⟩
                cases h9 : Gv.lo (Gv.marks2 n i i) 0 with
                | false => rfl
                | true => have := (Gv.marks2_at.1 h9).2; omega)
            rw [hhs, hcw.len]; exact Hkn.out
          obtain ⟨g5, o5, c5, rfl, _, _, h51, h52, hc5, _⟩ := hO5.at0 (by rw [List.length_map]; omega)
          rw [List.length_map] at h51
          simp only [List.length_map]
          have hch : ∀ j, j < n → w5.cell? ⟨g5, o5 + j, none⟩ = some (.string (hs.getD j ⟨#[]⟩)) := by
            intro j hj
            rw [hc5 j (by rw [List.length_map]; omega), List.getElem?_map, List.getElem?_eq_getElem (by omega), List.getD_eq_getElem?_getD, List.getElem?_eq_getElem (by omega)]; rfl
          have hcp : ∀ j, j < n → w5.cell? ⟨gv, ov + j, none⟩ = some (.string (ps.getD j ⟨#[]⟩)) := fun j hj => (HB5.out.cell (p := ⟨gv, ov + j, none⟩) hzv).trans (Hcs.out j hj)
          have hsb : Gv.sameB ps i = sameP ps hs i n := by unfold Gv.sameB sameP; rw [← Hn.out, hhs]
          have Hsb := Lib.hid hsb
          have Hch := Lib.hid hch
          have Hcp := Lib.hid hcp
          rw [hsl] at h51 ⊢
          unfold maxLen at h52
          clear hb5 hO5 hhs hsl hc5 hch hcp hsb HHl HBS cM fM mk HB
          go_wp2_with fail
          go_loopg [10, 11] n (fun gk v10 v11 wr => RLcIn ps hs i w5 n gk v10 v11 wr)
          case atStart => exact ⟨0, 0, by omega, rfl, rfl, rfl⟩
          case round =>
            obtain ⟨q, nd, hq, rfl, rfl, hwr⟩ := hrel
            have Hwr := Lib.hid hwr
            have Hq := Lib.hid hq
            clear hq
            by_cases hqn : q < n
            · have e0 := Hch.out q hqn
              have e1 := Hcp.out q hqn
              have hstep := sameP_succ ps hs i q
              generalize sameP ps hs i q = b0 at *
              obtain ⟨x, hx⟩ : ∃ x, x = hs.getD q ⟨#[]⟩ := ⟨_, rfl⟩
              obtain ⟨y, hy⟩ : ∃ y, y = ps.getD q ⟨#[]⟩ := ⟨_, rfl⟩
              rw [← hx] at e0 hstep
              rw [← hy] at e1 hstep
              have Hstep := Lib.hid hstep
              clear hstep hx hy
              have hfin : ∀ r, (b0 && (q == i || decide (x = y))) = r → ((b0 = false ∧ r = false) ∨ (b0 = true ∧ ((q : Int) == (i : Int)) = true ∧ r = true) ∨ (b0 = true ∧ ((q : Int) == (i : Int)) = false ∧ (x.toList == y.toList) = r)) := by
                intro r hr
                cases b0 with
                | false => exact .inl ⟨rfl, hr.symm⟩
                | true =>
                  by_cases e : q = i
                  · exact .inr (.inl ⟨rfl, beq_t (by omega), by rw [← hr]; simp [e]⟩)
                  · refine .inr (.inr ⟨rfl, beq_f (by omega), ?_⟩)
                    rw [strq, ← hr]; simp [e]
              have Hfin := Lib.hid (hfin _ rfl)
              clear hfin
              rcases Hfin.out with ⟨rfl, hr⟩ | ⟨rfl, t1, hr⟩ | ⟨rfl, t1, t2⟩
              · have Hr := Lib.hid (Hstep.out.trans hr)
                clear hr
                go_wp2_with fail
                go_quiet (fail)
                go_wp2_with fail
                go_roundg (gk - 1)
                case measure => have := Hq.out; omega
                case rel => exact ⟨q + 1, nd + nq, by have := Hq.out; omega, by go_num, by rw [Hr.out], by first | rfl | rw [Hwr.out, World.drewN_drewN]⟩
              · have Hr := Lib.hid (Hstep.out.trans hr)
                clear hr
                go_wp2_with fail
                go_quiet (fail)
                go_wp2_with fail
                go_roundg (gk - 1)
                case measure => have := Hq.out; omega
                case rel => exact ⟨q + 1, nd + nq, by have := Hq.out; omega, by go_num, by rw [Hr.out], by first | rfl | rw [Hwr.out, World.drewN_drewN]⟩
              · have Hr := Hstep
                cases hxy : (x.toList == y.toList) with
                | true =>
                  have Hr := Lib.hid (Hstep.out.trans (t2.symm.trans hxy))
                  clear t2
                  go_wp2_with fail
                  go_quiet (fail)
                  go_wp2_with fail
                  go_roundg (gk - 1)
                  case measure => have := Hq.out; omega
                  case rel => exact ⟨q + 1, nd + nq, by have := Hq.out; omega, by go_num, by rw [Hr.out], by first | rfl | rw [Hwr.out, World.drewN_drewN]⟩
                | false =>
                  have Hr := Lib.hid (Hstep.out.trans (t2.symm.trans hxy))
                  clear t2
                  go_wp2_with fail
                  go_quiet (fail)
                  go_wp2_with fail
                  go_roundg (gk - 1)
                  case measure => have := Hq.out; omega
                  case rel => exact ⟨q + 1, nd + nq, by have := Hq.out; omega, by go_num, by rw [Hr.out], by first | rfl | rw [Hwr.out, World.drewN_drewN]⟩
            · have hqn' : q = n := by have := Hq.out; omega
              have hsb : Gv.sameB ps i = sameP ps hs i q := by rw [Hsb.out, hqn']
              have HB6 : Hid (Below w.heap.size w wr) := Lib.hid (by rw [hwr]; exact bdrew HB5.out nd)
              clear hwr
              cases hsp : sameP ps hs i q with
              | true =>
                rw [hsp] at hsb
                have hl2 : Gv.locate ps = ((i : Int), 0) := by
                  rw [Hl.out, Gv.findF_at ps n 0 i (Nat.zero_le _) (by omega) hsb (fun j _ hj => Hno.out j hj)]
                have Hl2 := Lib.hid hl2
                clear hl2 hsp hsb hqn'
                go_wp2_with fail
                go_ret2
                exact ⟨by rw [Hl2.out]; rfl, HB6.out⟩
              | false =>
                rw [hsp] at hsb
                have hno2 : ∀ j, j < i + 1 → Gv.sameB ps j = false := by
                  intro j hj
                  by_cases e : j = i
                  · rw [e]; exact hsb
                  · exact Hno.out j (by omega)
                have Hno2 := Lib.hid hno2
                clear hno2 hsp hsb hqn'
                go_wp2_with fail
                go_roundg (gO - 1)
                case measure => have := Hi.out; omega
                case rel => exact ⟨i + 1, by have := Hi.out; omega, by go_num, Hno2.out, HB6.out⟩
        · have hi9 : i = n := by have := Hi.out; omega
          have hnone : ∀ m j, (∀ q, j ≤ q → q < j + m → Gv.sameB ps q = false) → Gv.findF ps m j = none := by
            intro m
            induction m with
            | zero => intro j _; rfl
            | succ m ih =>
              intro j h
              unfold Gv.findF
              rw [if_neg (by rw [h j (Nat.le_refl _) (by omega)]; decide)]
              exact ih (j + 1) (fun q h1 h2 => h q (by omega) (by omega))
          have hl2 : Gv.locate ps = (0, 8) := by
            rw [Hl.out, hnone n 0 (fun q _ hq => Hno.out q (by omega))]
          have Hl2 := Lib.hid hl2
          clear hl2 hnone hi9
          go_wp2_with fail
          go_ret2
          exact ⟨by rw [Hl2.out]; rfl, HB.out⟩
end Go.Proofs.YtneebcniofolmaaGreatDoor
namespace Go.Proofs.YtneebcniofolmaaGreatDoor
open Go.ChangeShapes Go.WideShapes Go.ChangeAt Go.RowKit
set_option linter.unusedVariables false
/-- a block whose first n cells are known -/
def CellsAt (w : World) (g : Nat) (E : TypeId) (n : Nat) (f : Nat → Value) : Prop := ∃ cur, w.heap[g]? = some (.cells cur E (0, 0)) ∧ ∀ j, j < n → cur[j]? = some (f j)
namespace CellsAt
variable {w w1 : World} {g : Nat} {E : TypeId} {n : Nat} {f : Nat → Value}
theorem lt (h : CellsAt w g E n f) : g < w.heap.size := by obtain ⟨_, h, _⟩ := h; exact (Array.getElem?_eq_some_iff.1 h).1
theorem cell (h : CellsAt w g E n f) {j : Nat} (hj : j < n) : w.cell? ⟨g, j, none⟩ = some (f j) := by obtain ⟨_, h, h2⟩ := h; rw [cell_of_row _ _ _ _ _ _ h]; exact h2 j hj
theorem fz (h : CellsAt w g E n f) (j : Nat) : w.frozen? ⟨g, j, none⟩ = false := by obtain ⟨_, h, h2⟩ := h; exact frozen_of_row _ _ _ _ _ h
theorem kept {T : Nat → Prop} (h : CellsAt w g E n f) (hk : Kept T w w1) (hg : ¬ T g) : CellsAt w1 g E n f := by obtain ⟨c, h, h2⟩ := h; exact ⟨c, hk.heap h hg, h2⟩
theorem below (h : CellsAt w g E n f) (hb : Below w.heap.size w w1) : CellsAt w1 g E n f := h.kept (Kept.new (fun _ => False) hb) (fun h => h)
theorem set (h : CellsAt w g E n f) {j : Nat} (hj : j < n) (x : Value) : CellsAt (w.setCell ⟨g, j, none⟩ x) g E n (Ar.up f j x) := by
  obtain ⟨c, h, h2⟩ := h
  refine ⟨c.setIfInBounds j x, heap_setCell_same _ _ _ _ _ _ h, fun i hi => ?_⟩
  have hjs : j < c.size := by have := h2 j hj; exact (Array.getElem?_eq_some_iff.1 this).1
  by_cases e : i = j
  · subst e; rw [Array.getElem?_setIfInBounds_self_of_lt hjs, Ar.up_self]
  · rw [Array.getElem?_setIfInBounds_ne (by omega), Ar.up_ne _ _ e]; exact h2 i hi
theorem ext {f' : Nat → Value} (h : CellsAt w g E n f) (he : ∀ j, j < n → f' j = f j) : CellsAt w g E n f' := by obtain ⟨c, h, h2⟩ := h; exact ⟨c, h, fun j hj => by rw [he j hj]; exact h2 j hj⟩
theorem ne {g' : Nat} {E' : TypeId} {n' : Nat} {f' : Nat → Value} (h : CellsAt w g E n f) (h' : CellsAt w g' E' n' f') (he : E ≠ E') : g ≠ g' := by
  obtain ⟨_, h, _⟩ := h; obtain ⟨_, h', _⟩ := h'
  exact at_apart h h' he
theorem of_own {base cap : Nat} {xs : List Value} (h : w.ownsRow base E 1 (.slice (some ⟨g, 0, none⟩) n cap) n xs) (hx : ∀ j, j < n → xs[j]? = some (f j)) : CellsAt w g E n f := by
  rcases h.2 with ⟨hv, _⟩ | ⟨g', cap', cur, hv, hb, hg, hnc, hcm, hcs, ht⟩
  · cases hv
  · cases hv
    refine ⟨cur, hg, fun j hj => ?_⟩
    have h3 := h.cellAt j (by omega)
    rw [cell_of_row _ _ _ _ _ _ hg] at h3
    rw [h3]; exact hx j hj
end CellsAt
structure RAryAt (w : World) (b gc gf gb cc cf cb : Nat) (gr cr : Nat → Nat) (n rows size : Nat) (fl : Nat → Bool) (bt : Nat → Nat) (C : Nat → Nat → ByteArray) : Prop where
  blk : w.heap[b]? = some (.cells #[iv n, iv rows, iv size, .slice (some ⟨gc, 0, none⟩) (n : Nat) cc, .slice (some ⟨gf, 0, none⟩) (n : Nat) cf, .slice (some ⟨gb, 0, none⟩) (n : Nat) cb] 57 (0, 0))
  caps : n ≤ cc ∧ cc ≤ maxLen ∧ n ≤ cf ∧ cf ≤ maxLen ∧ n ≤ cb ∧ cb ≤ maxLen
  lst : CellsAt w gc 23 n (fun d => .slice (some ⟨gr d, 0, none⟩) (rows : Nat) (cr d))
  rcap : ∀ d, d < n → rows ≤ cr d ∧ cr d ≤ maxLen
  row : ∀ d, d < n → CellsAt w (gr d) 9 rows (fun r => .string (C d r))
  fls : CellsAt w gf 4 n (fun d => .bool (fl d))
  bts : CellsAt w gb 3 n (fun d => iv (bt d))
  inj : ∀ i j, i < n → j < n → gr i = gr j → i = j
namespace RAryAt
variable {w w1 : World} {b gc gf gb cc cf cb : Nat} {gr cr : Nat → Nat} {n rows size : Nat} {fl : Nat → Bool} {bt : Nat → Nat} {C : Nat → Nat → ByteArray}
theorem lt (h : RAryAt w b gc gf gb cc cf cb gr cr n rows size fl bt C) : b < w.heap.size := (Array.getElem?_eq_some_iff.1 h.blk).1
theorem cell (h : RAryAt w b gc gf gb cc cf cb gr cr n rows size fl bt C) (j : Nat) : w.cell? ⟨b, j, none⟩ = #[iv n, iv rows, iv size, Value.slice (some ⟨gc, 0, none⟩) (n : Nat) cc, Value.slice (some ⟨gf, 0, none⟩) (n : Nat) cf, Value.slice (some ⟨gb, 0, none⟩) (n : Nat) cb][j]? := by rw [cell_of_row _ _ _ _ _ _ h.blk]
theorem c0 (h : RAryAt w b gc gf gb cc cf cb gr cr n rows size fl bt C) : w.cell? ⟨b, 0, none⟩ = some (iv n) := by rw [h.cell]; rfl
theorem c1 (h : RAryAt w b gc gf gb cc cf cb gr cr n rows size fl bt C) : w.cell? ⟨b, 1, none⟩ = some (iv rows) := by rw [h.cell]; rfl
theorem c2 (h : RAryAt w b gc gf gb cc cf cb gr cr n rows size fl bt C) : w.cell? ⟨b, 2, none⟩ = some (iv size) := by rw [h.cell]; rfl
theorem c3 (h : RAryAt w b gc gf gb cc cf cb gr cr n rows size fl bt C) : w.cell? ⟨b, 3, none⟩ = some (.slice (some ⟨gc, 0, none⟩) (n : Nat) cc) := by rw [h.cell]; rfl
theorem c4 (h : RAryAt w b gc gf gb cc cf cb gr cr n rows size fl bt C) : w.cell? ⟨b, 4, none⟩ = some (.slice (some ⟨gf, 0, none⟩) (n : Nat) cf) := by rw [h.cell]; rfl
theorem c5 (h : RAryAt w b gc gf gb cc cf cb gr cr n rows size fl bt C) : w.cell? ⟨b, 5, none⟩ = some (.slice (some ⟨gb, 0, none⟩) (n : Nat) cb) := by rw [h.cell]; rfl
theorem kept {T : Nat → Prop} (h : RAryAt w b gc gf gb cc cf cb gr cr n rows size fl bt C) (hk : Kept T w w1) (hb : ¬ T b) (hgc : ¬ T gc) (hgf : ¬ T gf) (hgb : ¬ T gb) (hr : ∀ d, d < n → ¬ T (gr d)) : RAryAt w1 b gc gf gb cc cf cb gr cr n rows size fl bt C :=
  ⟨hk.heap h.blk hb, h.caps, h.lst.kept hk hgc, h.rcap, fun d hd => (h.row d hd).kept hk (hr d hd), h.fls.kept hk hgf, h.bts.kept hk hgb, h.inj⟩
theorem below (h : RAryAt w b gc gf gb cc cf cb gr cr n rows size fl bt C) (hb : Below w.heap.size w w1) : RAryAt w1 b gc gf gb cc cf cb gr cr n rows size fl bt C :=
  h.kept (Kept.new (fun _ => False) hb) (fun h => h) (fun h => h) (fun h => h) (fun h => h) (fun _ _ h => h)
theorem nb {g : Nat} {E : TypeId} {m : Nat} {f : Nat → Value} (h : RAryAt w b gc gf gb cc cf cb gr cr n rows size fl bt C) (h' : CellsAt w g E m f) (hE : 57 ≠ E) : b ≠ g := by
  obtain ⟨_, h', _⟩ := h'; exact at_apart h.blk h' hE
theorem setF {d : Nat} (h : RAryAt w b gc gf gb cc cf cb gr cr n rows size fl bt C) (hd : d < n) (x : Bool) : RAryAt (w.setCell ⟨gf, d, none⟩ (.bool x)) b gc gf gb cc cf cb gr cr n rows size (Ar.up fl d x) bt C := by
  have hk : Kept (· = gf) w (w.setCell ⟨gf, d, none⟩ (.bool x)) := (Kept.self gf w).set1 _ _
  refine ⟨hk.heap h.blk (h.nb h.fls (by decide)), h.caps, h.lst.kept hk (h.lst.ne h.fls (by decide)), h.rcap, fun e he => (h.row e he).kept hk ((h.row e he).ne h.fls (by decide)), (h.fls.set hd _).ext (fun j _ => ?_), h.bts.kept hk (h.bts.ne h.fls (by decide)), h.inj⟩
  by_cases e : j = d
  · subst e; rw [Ar.up_self, Ar.up_self]
  · rw [Ar.up_ne _ _ e, Ar.up_ne _ _ e]
theorem setB {d : Nat} (h : RAryAt w b gc gf gb cc cf cb gr cr n rows size fl bt C) (hd : d < n) (x : Nat) : RAryAt (w.setCell ⟨gb, d, none⟩ (iv x)) b gc gf gb cc cf cb gr cr n rows size fl (Ar.up bt d x) C := by
  have hk : Kept (· = gb) w (w.setCell ⟨gb, d, none⟩ (iv x)) := (Kept.self gb w).set1 _ _
  refine ⟨hk.heap h.blk (h.nb h.bts (by decide)), h.caps, h.lst.kept hk (h.lst.ne h.bts (by decide)), h.rcap, fun e he => (h.row e he).kept hk ((h.row e he).ne h.bts (by decide)), h.fls.kept hk (h.fls.ne h.bts (by decide)), (h.bts.set hd _).ext (fun j _ => ?_), h.inj⟩
  by_cases e : j = d
  · subst e; rw [Ar.up_self, Ar.up_self]
  · rw [Ar.up_ne _ _ e, Ar.up_ne _ _ e]
theorem setC {d r : Nat} (h : RAryAt w b gc gf gb cc cf cb gr cr n rows size fl bt C) (hd : d < n) (hr : r < rows) (x : ByteArray) : RAryAt (w.setCell ⟨gr d, r, none⟩ (.string x)) b gc gf gb cc cf cb gr cr n rows size fl bt (Ar.up C d (Ar.up (C d) r x)) := by
  have hk : Kept (· = gr d) w (w.setCell ⟨gr d, r, none⟩ (.string x)) := (Kept.self (gr d) w).set1 _ _
  refine ⟨hk.heap h.blk (h.nb (h.row d hd) (by decide)), h.caps, h.lst.kept hk (h.lst.ne (h.row d hd) (by decide)), h.rcap, fun e he => ?_, h.fls.kept hk (h.fls.ne (h.row d hd) (by decide)), h.bts.kept hk (h.bts.ne (h.row d hd) (by decide)), h.inj⟩
  by_cases e2 : e = d
  · subst e2
    refine ((h.row e he).set hr _).ext (fun j _ => ?_)
    rw [Ar.up_self]
    by_cases e3 : j = r
    · subst e3; rw [Ar.up_self, Ar.up_self]
    · rw [Ar.up_ne _ _ e3, Ar.up_ne _ _ e3]
  · rw [Ar.up_ne _ _ e2]
    exact (h.row e he).kept hk (fun e3 => e2 (h.inj e d he hd e3))
end RAryAt
def RAryOk (F : Nat → Prop) (w : World) (b : Nat) (s : Ar.S) : Prop :=
  s.Ok ∧ ∃ gc gf gb cc cf cb gr cr C, RAryAt w b gc gf gb cc cf cb gr cr s.n s.rows s.size s.fl s.bt C ∧ (F b ∧ F gc ∧ F gf ∧ F gb ∧ ∀ d, d < s.n → F (gr d)) ∧ ∀ d r, d < s.n → r < s.rows → s.lost d r = false → C d r = s.c d r
theorem RAryOk.kept {F T : Nat → Prop} {w w1 : World} {b : Nat} {s : Ar.S} (h : RAryOk F w b s) (hk : Kept T w w1) (hT : ∀ k, F k → ¬ T k) : RAryOk F w1 b s := by
  obtain ⟨ho, gc, gf, gb, cc, cf, cb, gr, cr, C, h1, ⟨f1, f2, f3, f4, f5⟩, h3⟩ := h
  exact ⟨ho, gc, gf, gb, cc, cf, cb, gr, cr, C, h1.kept hk (hT _ f1) (hT _ f2) (hT _ f3) (hT _ f4) (fun d hd => hT _ (f5 d hd)), ⟨f1, f2, f3, f4, f5⟩, h3⟩
theorem RAryOk.below {F : Nat → Prop} {w w1 : World} {b : Nat} {s : Ar.S} (h : RAryOk F w b s) (hb : Below w.heap.size w w1) : RAryOk F w1 b s := h.kept (Kept.new (fun _ => False) hb) (fun _ _ h => h)
theorem RAryOk.wide {F F' : Nat → Prop} {w : World} {b : Nat} {s : Ar.S} (h : RAryOk F w b s) (hF : ∀ k, k < w.heap.size → F k → F' k) : RAryOk F' w b s := by
  obtain ⟨ho, gc, gf, gb, cc, cf, cb, gr, cr, C, h1, ⟨f1, f2, f3, f4, f5⟩, h3⟩ := h
  exact ⟨ho, gc, gf, gb, cc, cf, cb, gr, cr, C, h1, ⟨hF _ h1.lt f1, hF _ h1.lst.lt f2, hF _ h1.fls.lt f3, hF _ h1.bts.lt f4, fun d hd => hF _ (h1.row d hd).lt (f5 d hd)⟩, h3⟩
def RPost (F : Nat → Prop) (b : Nat) (k : Int) (s : Ar.S) (w : World) (e : Ending) (w' : World) : Prop := e = .returned (iv k) ∧ RAryOk F w' b s ∧ Kept F w w'
variable {F : Nat → Prop} {w : World} {b : Nat} {s : Ar.S}
set_option maxRecDepth 100000 in
theorem rGone (h : RAryOk F w b s) {d : Nat} (hd : d < s.n) (row : Nat) (hr : row ≤ 1000) :
    Calls Tryz.prog 48 #[.pointer (some ⟨b, 0, none⟩), iv d, iv row] w fun e w' => e = .returned (.bool (s.lost d row)) ∧ w = w' := by
  obtain ⟨ho, gc, gf, gb, cc, cf, cb, gr, cr, C, hA, hI, hS⟩ := h
  have hcaps := hA.caps
  obtain ⟨k1, k2, k3, k4, k5, k6⟩ := hcaps
  unfold maxLen at k2 k4 k6
  have c4 := hA.c4
  have c5 := hA.c5
  have e4 := hA.fls.cell hd
  have e5 := hA.bts.cell hd
  have hbt := ho.bt d hd
  have hr20 := ho.r20
  unfold Ar.S.lost
  generalize s.bt d = btd at *
  generalize s.fl d = f at *
  clear hA hI hS ho
  cases f with
  | true =>
    go_enter Tryz.func48, Tryz.ntmps48
    go_wp2_with fail
    go_ret
    exact ⟨rfl, rfl⟩
  | false =>
    by_cases hlt : btd ≤ row
    · have d1 : decide (btd ≤ row) = true := dec_t hlt
      rw [d1]
      clear d1
      go_enter Tryz.func48, Tryz.ntmps48
      go_wp2_with fail
      go_ret
      exact ⟨rfl, rfl⟩
    · have d1 : decide (btd ≤ row) = false := dec_f hlt
      rw [d1]
      clear d1
      go_enter Tryz.func48, Tryz.ntmps48
      go_wp2_with fail
      go_ret
      exact ⟨rfl, rfl⟩
end Go.Proofs.YtneebcniofolmaaGreatDoor
