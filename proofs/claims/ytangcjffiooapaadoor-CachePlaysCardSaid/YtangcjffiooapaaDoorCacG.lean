/- The walk of the law CachePlays: it returns true. -/
import Derived.Test.YtangcjffiooapaaDoorCacI
import Derived.Test.YtangcjffiooapaaDoorRCells
import Derived.Test.YtangcjffiooapaaDoorInts
import Derived.Test.YtangcjffiooapaaDoorSame
import Derived.Test.YtangcjffiooapaaDoorSteps
import Derived.Test.YtangcjffiooapaaDoorTexts
import Derived.Test.YtangcjffiooapaaDoorOpen
namespace Go.Proofs.YtangcjffiooapaaDoor
open Go.ChangeShapes Go.WideShapes Go.ChangeAt Go.RowKit Go.Maps
set_option linter.unusedVariables false
structure CDuo (w : World) (b c D : Nat) (y : Int) (n : Nat) (s1 s2 : Cc.C) (F : Nat → Prop) (wr : World) : Prop where
  obj : CacOk F wr b n s1
  ref : RcOk (fun k => w.heap.size ≤ k ∧ ¬ F k ∧ k ≠ D) wr c s2
  lo : ∀ k, F k → w.heap.size ≤ k ∧ k < wr.heap.size ∧ k ≠ D
  wD : w.heap.size ≤ D
  y1 : wr.cell? ⟨D, 1, none⟩ = some (iv y)
  bel : Below w.heap.size w wr
namespace CDuo
variable {w wr w1 : World} {b c D n n' : Nat} {y : Int} {s1 s2 s' : Cc.C} {F : Nat → Prop}
theorem Dlt (h : CDuo w b c D y n s1 s2 F wr) : D < wr.heap.size := World.block_lt_of_cell? wr _ h.y1
theorem objW (h : CDuo w b c D y n s1 s2 F wr) : CacOk (fun k => F k ∨ wr.heap.size ≤ k) wr b n s1 := h.obj.wide (fun k _ hk => .inl hk)
theorem refW (h : CDuo w b c D y n s1 s2 F wr) : ∀ k, wr.heap.size ≤ k → w.heap.size ≤ k ∧ ¬ F k ∧ k ≠ D :=
  fun k hk => ⟨Nat.le_trans h.bel.size hk, fun hF => by have := (h.lo k hF).2.1; omega, by have := h.Dlt; omega⟩
theorem below (h : CDuo w b c D y n s1 s2 F wr) (hb : Below wr.heap.size wr w1) : CDuo w b c D y n s1 s2 F w1 :=
  ⟨h.obj.below hb, h.ref.below hb, fun k hk => ⟨(h.lo k hk).1, Nat.lt_of_lt_of_le (h.lo k hk).2.1 hb.size, (h.lo k hk).2.2⟩, h.wD, (hb.cell (p := ⟨D, 1, none⟩) h.Dlt).trans h.y1, h.bel.trans (hb.mono h.bel.size)⟩
theorem objT (h : CDuo w b c D y n s1 s2 F wr) (ho : CacOk (fun k => F k ∨ wr.heap.size ≤ k) w1 b n' s') (hk : Kept (fun k => F k ∨ wr.heap.size ≤ k) wr w1) :
    CDuo w b c D y n' s' s2 (fun k => (F k ∨ wr.heap.size ≤ k) ∧ k < w1.heap.size) w1 := by
  have hD := h.Dlt
  refine ⟨ho.wide (fun k h1 h2 => ⟨h2, h1⟩), ?_, ?_, h.wD, hk.cell h.y1 ?_, h.bel.trans (hk.toBelow h.bel.size ?_)⟩
  · refine ((h.ref.wide (F' := fun k => (w.heap.size ≤ k ∧ ¬ F k ∧ k ≠ D) ∧ k < wr.heap.size) (fun k hk hF => ⟨hF, hk⟩)).kept hk ?_).wide ?_
    · rintro g (hg | hg) ⟨⟨_, h2, _⟩, h3⟩
      · exact h2 hg
      · omega
    · rintro k _ ⟨⟨h1, h2, h3⟩, h4⟩
      refine ⟨h1, ?_, h3⟩
      rintro ⟨hF | hF, _⟩
      · exact h2 hF
      · omega
  · rintro k ⟨hF | hF, h2⟩
    · exact ⟨(h.lo k hF).1, h2, (h.lo k hF).2.2⟩
    · exact ⟨Nat.le_trans h.bel.size hF, h2, by omega⟩
  · rintro (hF | hF)
    · exact (h.lo _ hF).2.2 rfl
    · omega
  · rintro k _ (hF | hF)
    · exact (h.lo k hF).1
    · exact Nat.le_trans h.bel.size hF
theorem refT (h : CDuo w b c D y n s1 s2 F wr) (hr : RcOk (fun k => w.heap.size ≤ k ∧ ¬ F k ∧ k ≠ D) w1 c s') (hk : Kept (fun k => w.heap.size ≤ k ∧ ¬ F k ∧ k ≠ D) wr w1) : CDuo w b c D y n s1 s' F w1 := by
  refine ⟨?_, hr, fun k hF => ⟨(h.lo k hF).1, Nat.lt_of_lt_of_le (h.lo k hF).2.1 hk.size, (h.lo k hF).2.2⟩, h.wD, hk.cell h.y1 (fun e => e.2.2 rfl), h.bel.trans (hk.toBelow h.bel.size (fun k _ e => e.1))⟩
  obtain ⟨mb, vb, vr, vd, DD, h1, h2⟩ := h.obj
  exact ⟨mb, vb, vr, vd, DD, h1.kept hk (fun e => e.2.1 h2.b) (fun e => e.2.1 h2.m) (fun g hg e => e.2.1 (h2.v1 g hg)) (fun g hg e => e.2.1 (h2.v2 g hg)) (fun g hg e => e.2.1 (h2.v3 g hg)), h2⟩
theorem more (h : CDuo w b c D y n s1 s2 F wr) (hn : n ≤ n') : CDuo w b c D y n' s1 s2 F wr := { h with obj := h.obj.more hn }
end CDuo
/-- the reference's row and dirty are struck -/
theorem RcOk.crash {F : Nat → Prop} {w : World} {c : Nat} {s : Cc.C} (h : RcOk F w c s) : RcOk F ((w.setCell ⟨c, 2, none⟩ (.slice none 0 0)).setCell ⟨c, 4, none⟩ (.slice none 0 0)) c (Cc.crash s) ∧ Kept F w ((w.setCell ⟨c, 2, none⟩ (.slice none 0 0)).setCell ⟨c, 4, none⟩ (.slice none 0 0)) := by
  obtain ⟨vb, vr, vv, vd, vals, h1, h2⟩ := h
  have h3 := h1.rowT (v' := .slice none 0 0) (r' := []) (Kept.refl (fun _ => False) _) (fun g hm t => t.elim) (OwnR.nil _ _ _) (.inr (fun g e => by cases e)) (fun g e => by cases e)
  have h4 := h3.dirtyT (v' := .slice none 0 0) (r' := []) (Kept.refl (fun _ => False) _) (fun g hm t => t.elim) (OwnR.nil _ _ _) (.inr (fun g e => by cases e)) (fun g e => by cases e)
  exact ⟨⟨_, _, _, _, _, h4, (fun x hx => by cases hx)⟩, (((Kept.refl F w).setCell (p := ⟨c, 2, none⟩) (fun _ => h1.inF c Rc.m0) _).setCell (p := ⟨c, 4, none⟩) (fun _ => h1.inF c Rc.m0) _)⟩
theorem RcOk.cells {F : Nat → Prop} {w : World} {c : Nat} {s : Cc.C} (h : RcOk F w c s) : ∃ vb vr vd, (w.cell? ⟨c, 0, none⟩ = some vb ∧ w.cell? ⟨c, 2, none⟩ = some vr ∧ w.cell? ⟨c, 4, none⟩ = some vd ∧ w.cell? ⟨c, 5, none⟩ = some (iv s.hits)) ∧
    Row w vb (s.below.map Value.string) ∧ Row w vr (s.row.map iv) ∧ Row w vd (s.dirty.map iv) ∧ ∀ k, w.frozen? ⟨c, k, none⟩ = false := by
  obtain ⟨vb, vr, vv, vd, vals, h1, h2⟩ := h
  exact ⟨vb, vr, vd, ⟨h1.c0, h1.c2, h1.c4, h1.c5⟩, h1.below.row, h1.row.row, h1.dirty.row, h1.f⟩
set_option maxRecDepth 100000 in
theorem cachePlays_bad (cells : List ByteArray) (room : Int) (k : Int) (hk : k ≠ 0) (hbad : k = cellsF cells ∨ cellsF cells = 0 ∧ k = 1 ∧ (room < 1 ∨ 1 ≤ room ∧ 12 < room)) (va vs vl : Value) (w : World) (ha : Row w va (cells.map Value.string)) (hg : Handle w) :
    Calls Tryd.prog 3 #[va, iv room, vs, vl] w fun e w' => e = .returned (.bool true) ∧ Below w.heap.size w w' := by
  have Hg := Lib.hid hg
  have HC := Lib.hid (rcells_any cells va w ha)
  have HS := Lib.hid (same_ev k k w hg)
  rw [beq_t rfl] at HS
  have kb : (k != 0) = true := bne_t hk
  have kb0 : (k == 0) = false := beq_f hk
  clear hg
  rcases hbad with h | ⟨h0, rfl, h⟩
  · have HN := Lib.hid (cacNew_bad cells room (by rw [← h]; exact hk) va w ha)
    rw [← h] at HN HC
    clear ha h hk
    go_enter Tryd.func3, Tryd.ntmps3
    go_wp2_with fail
    refine HC.out.mono ?_
    rintro e w' ⟨rfl, rfl⟩
    go_wp2_with fail
    refine HN.out.mono ?_
    rintro e w' ⟨rfl, rfl⟩
    go_wp2_with fail
    refine HS.out.mono ?_
    rintro e w' ⟨rfl, hb⟩
    go_wp2_with fail
    go_ret
    exact ⟨rfl, hb⟩
  · have HN := Lib.hid (cacNew_no cells room h h0 va w ha)
    rw [h0] at HC
    clear ha h0 hk
    rcases h with h | ⟨h1, h2⟩
    all_goals
      go_enter Tryd.func3, Tryd.ntmps3
      go_wp2_with fail
      refine HC.out.mono ?_
      rintro e w' ⟨rfl, rfl⟩
      go_wp2_with fail
      refine HN.out.mono ?_
      rintro e w' ⟨rfl, rfl⟩
      go_wp2_with fail
      refine HS.out.mono ?_
      rintro e w' ⟨rfl, hb⟩
      go_wp2_with fail
      go_ret
      exact ⟨rfl, hb⟩
theorem cells4 {w w' : World} {c : Nat} {vb vr vd vh : Value} (hb : Below w.heap.size w w') (h : w.cell? ⟨c, 0, none⟩ = some vb ∧ w.cell? ⟨c, 2, none⟩ = some vr ∧ w.cell? ⟨c, 4, none⟩ = some vd ∧ w.cell? ⟨c, 5, none⟩ = some vh) :
    w'.cell? ⟨c, 0, none⟩ = some vb ∧ w'.cell? ⟨c, 2, none⟩ = some vr ∧ w'.cell? ⟨c, 4, none⟩ = some vd ∧ w'.cell? ⟨c, 5, none⟩ = some vh :=
  have hl := World.block_lt_of_cell? w _ h.1
  ⟨(hb.cell (p := ⟨c, 0, none⟩) hl).trans h.1, (hb.cell (p := ⟨c, 2, none⟩) hl).trans h.2.1, (hb.cell (p := ⟨c, 4, none⟩) hl).trans h.2.2.1, (hb.cell (p := ⟨c, 5, none⟩) hl).trans h.2.2.2⟩
theorem there_of {s : Cc.C} {m : Nat} {y : Int} {bi : Bool} (hl : s.below.length = m) (hb : bi = (decide (0 ≤ y) && decide (y < (m : Int)))) : Cc.there s y = bi := by
  unfold Cc.there; rw [hl]; exact hb.symm
theorem read_yes' {s : Cc.C} {q : Int} (h : Cc.there s q = true) : Cc.read s q = ((Cc.get s q, 0), Cc.put (Cc.hit s q) q (Cc.get s q)) := by unfold Cc.read; rw [if_pos h]
theorem read_no' {s : Cc.C} {q : Int} (h : Cc.there s q = false) : Cc.read s q = ((⟨#[]⟩, 1), s) := by unfold Cc.read; rw [h, if_neg (by simp)]
theorem write_yes' {s : Cc.C} {q : Int} {b : ByteArray} (h : Cc.there s q = true) (hb : b.size ≤ 16) : Cc.write s q b = (0, Cc.mark (Cc.put s q b) q) := by
  unfold Cc.write; rw [if_neg]; rintro (e | e)
  · rw [h] at e; cases e
  · omega
theorem write_no' {s : Cc.C} {q : Int} {b : ByteArray} (h : Cc.there s q = false ∨ 16 < b.size) : Cc.write s q b = (1, s) := by unfold Cc.write; rw [if_pos h]
theorem flush_yes' (s : Cc.C) (q : Nat) : Cc.flush s q = ((s.dirty.take q, 0), Cc.cleans s (s.dirty.take q)) := by unfold Cc.flush; rw [if_neg (by omega), Int.toNat_natCast]
theorem flush_no' {s : Cc.C} {y : Int} (h : y < 0) : Cc.flush s y = (([], 1), s) := by unfold Cc.flush; rw [if_pos h]
theorem write_len (s : Cc.C) (i : Int) (b : ByteArray) : (Cc.write s i b).2.below.length = s.below.length := by
  have h1 : (Cc.mid s i).below.length = s.below.length := by
    unfold Cc.mid Cc.drop
    by_cases hl : (Cc.wo s.row i).length = s.room
    · simp only [hl, if_true]
      by_cases hd : s.dirty.contains ((Cc.wo s.row i).headD 0) = true
      · rw [if_pos hd]; exact (Cc.clean_row s _).2.2.2.2
      · rw [if_neg hd]
    · rw [if_neg hl]
  unfold Cc.write; split
  · rfl
  · show (Cc.mark (Cc.put s i b) i).below.length = _
    unfold Cc.mark; split <;> exact h1
def eN (b : Bool) : Int := if b then 0 else 1
def CPRel (w : World) (b c room m N : Nat) (gk : Nat) (i : Value) (wr : World) : Prop :=
  ∃ (j : Nat) (s : Cc.C) (F : Nat → Prop), j + gk = N ∧ j ≤ 80 ∧ i = iv j ∧ Cc.Inv s ∧ s.below.length = m ∧ s.room = room ∧ s.hits ≤ j ∧
    CacOk F wr b j s ∧ RcOk (fun k => w.heap.size ≤ k ∧ ¬ F k) wr c s ∧ (∀ k, F k → w.heap.size ≤ k ∧ k < wr.heap.size) ∧ Below w.heap.size w wr
structure CPMid (w : World) (b c D : Nat) (y : Int) (j room m : Nat) (wq : World) (s : Cc.C) : Prop where
  duo : ∃ F, CDuo w b c D y (j + 1) s s F wq
  inv : Cc.Inv s
  len : s.below.length = m
  rm : s.room = room
  hits : s.hits ≤ j + 1
set_option maxRecDepth 100000 in
set_option maxHeartbeats 8000000 in
theorem cachePlays_core (cells : List ByteArray) (room : Nat) (h1 : 1 ≤ room) (h2 : room ≤ 12) (h0 : cellsF cells = 0) (ls : List ByteArray) (hls : ∀ s ∈ ls, s.size ≤ maxLen) (xss : List (List Int)) (va v vl : Value) (w : World) (ha : Row w va (cells.map Value.string)) (hx : Rows2 w v xss) (hl : Strs w vl ls) (hg : Handle w) :
    Calls Tryd.prog 3 #[va, iv room, v, vl] w fun e w' => e = .returned (.bool true) ∧ Below w.heap.size w w' := by
  have hzi2 := zero_int2
  obtain ⟨us, hus, hlen, hrows⟩ := hx
  obtain ⟨po, co, rfl, hc1, hc2, hcells⟩ := hus.shape
  rw [hlen] at *
  have Hrows := Lib.hid hrows
  have Hcells := Lib.hid hcells
  unfold maxLen at hc2
  have hNN : xss.length ≤ 9223372036854775807 := by omega
  generalize hN : xss.length = N at *
  have HN := Lib.hid hN
  clear hus hrows hcells hN
  have Hg := Lib.hid hg
  have hc40 := (cellsF_0 h0).1
  have Hc0 := Lib.hid h0
  have Ha := Lib.hid ha
  obtain ⟨pl, cl, rfl, hl1, hl2⟩ := hl.get
  have HRC := Lib.hid (rcells_any cells va w ha)
  rw [h0] at HRC
  have HCN := Lib.hid (cacNew_any cells room h1 h2 h0 va w ha)
  obtain ⟨pa, ca, rfl, ha1, ha2, ha3, ha4⟩ := ha
  rw [List.length_map] at *
  unfold maxLen at ha2
  have hm9 : cells.length ≤ 9223372036854775807 := by omega
  have Hl2 := Lib.hid hl2
  generalize hm : cells.length = m at *
  have Hm := Lib.hid hm
  clear h0 hl hg hl2 ha4 hm ha3
  go_enter Tryd.func3, Tryd.ntmps3
  go_wp2_with fail
  refine HRC.out.mono ?_
  rintro e w' ⟨rfl, rfl⟩
  have nb1 : ¬ (room : Int) < 1 := by omega
  have nb2 : (room : Int) ≤ 12 := by omega
  clear HRC
  go_wp2_with fail
  refine HCN.out.mono ?_
  rintro e w1 ⟨b, rfl, hO1, hb1⟩
  have HO1 := Lib.hid hO1
  have HB1 := Lib.hid hb1
  have hz1 := hb1.size
  clear hO1 hb1 HCN
  go_wp2_with fail
  refine (same_nil 0 _).mono ?_
  rintro e w2 ⟨rfl, hb2⟩
  have HO2 := Lib.hid (HO1.out.below hb2)
  have HB2 := Lib.hid (HB1.out.trans (hb2.mono hz1))
  have hz2 := HB2.out.size
  clear hb2 HO1 HB1
  have HRN := Lib.hid (rnew_any cells room (by rw [Hm.out]; exact hc40) _ w2 (Ha.out.low (Nat.le_refl _) HB2.out))
  go_wp2_with fail
  refine HRN.out.mono ?_
  rintro e w3 ⟨c, rfl, hR3, hb3⟩
  have hst : CPRel w b c room m N N (iv 0) w3 := by
    refine ⟨0, Cc.new cells room, fun k => w.heap.size ≤ k ∧ k < w2.heap.size, by omega, by omega, rfl, Cc.Inv.new h1 h2 (by rw [Hm.out]; exact hc40) (cellsF_0 Hc0.out).2, Hm.out, rfl, Nat.zero_le _, (CacOk.below (HO2.out.wide (fun k hk h => ⟨h, hk⟩)) hb3), hR3.wide (fun k _ hk => ⟨Nat.le_trans hz2 hk, fun e => by have := e.2; omega⟩), fun k hk => ⟨hk.1, Nat.lt_of_lt_of_le hk.2 hb3.size⟩, HB2.out.trans (hb3.mono hz2)⟩
  have Hst := Lib.hid hst
  clear hst hR3 hb3 HRN HO2 HB2 nb1 nb2
  go_wp2_with fail
  go_loopg [14] N (fun gk i wr => CPRel w b c room m N gk i wr)
  case atStart => exact Hst.out
  case round =>
    obtain ⟨wO, hwO⟩ : ∃ x : World, x = wr := ⟨_, rfl⟩
    obtain ⟨gO, hgO⟩ : ∃ x : Nat, x = gk := ⟨_, rfl⟩
    subst hwO hgO
    obtain ⟨j, s, F, hj, hj80, rfl, hinv, hlen, hrm, hhits, hO, hR, hlo, hB⟩ := hrel
    have HInv := Lib.hid hinv
    have HLen := Lib.hid hlen
    have HRm := Lib.hid hrm
    have HO := Lib.hid hO
    have HR := Lib.hid hR
    have HLo := Lib.hid hlo
    have HWB := Lib.hid hB
    have Hj := Lib.hid hj
    clear hinv hlen hrm hO hR hlo hB Hst
    by_cases hlt : j < N
    · by_cases hlt80 : j < 80
      · have b80 : decide ((j : Int) < 80) = true := dec_t (by omega)
        obtain ⟨go, oo, hpo, hco⟩ := Hcells.out (by omega)
        obtain ⟨xs, hxs⟩ : ∃ xs, xss[j]? = some xs := ⟨xss[j]'(by rw [HN.out]; exact hlt), List.getElem?_eq_getElem _⟩
        obtain ⟨u, hu, hru, hwf⟩ := Hrows.out j xs hxs
        have hcu := hco j hlt
        rw [hu] at hcu
        obtain ⟨pi, ci, hu2, hi1, hi2, hi3⟩ := hru.shape
        rw [List.length_map] at hu2 hi1 hi3
        rw [hu2] at hcu
        have hlow : go < w.heap.size := World.block_lt_of_cell? w _ hcu
        have fcu : ∀ x y : Int, (wO.alloc (.cells #[iv x, iv y] 33)).cell? ⟨go, oo + j, none⟩ = some (.slice pi xs.length ci) := by
          intro x y
          have h := ((HWB.out.alloc HWB.out.size (.cells #[iv x, iv y] 33)).cell (p := ⟨go, oo + j, none⟩) hlow)
          exact h.trans hcu
        have hi2' : xs.length ≤ 9223372036854775807 := by unfold maxLen at hi2; omega
        have Hi3 := Lib.hid hi3
        rw [hpo]
        have Hpo := Lib.hid hpo
        clear hj hco hxs hu hru hwf hcu hu2 hi3 hpo
        go_upto_block 2 with (fail)
        go_cut [16] (fun _ wq => ∃ x y : Int, wq = wO.alloc (.cells #[iv x, iv y] 33))
        case first => as_aux_lemma =>
          go_wp2_with fail
          go_loopg [16] 2 (fun gq q wq => Step2Rel wO gq q wq)
          case atStart => exact ⟨0, 0, 0, rfl, rfl, rfl⟩
          case round =>
            obtain ⟨q, x, y, hq, rfl, rfl⟩ := hrel
            have f1 := fcu x y
            by_cases hq0 : q < xs.length
            · obtain ⟨gi, oi, rfl, hci⟩ := Hi3.out (by omega)
              obtain ⟨u, hz⟩ : ∃ z, xs[q]? = some z := ⟨xs[q], List.getElem?_eq_getElem hq0⟩
              have hcz := hci q hq0
              rw [List.getElem?_map, hz] at hcz
              have hlz : gi < w.heap.size := World.block_lt_of_cell? w _ hcz
              have f2 : (wO.alloc (.cells #[iv x, iv y] 33)).cell? ⟨gi, oi + q, none⟩ = some (iv u) :=
                ((HWB.out.alloc HWB.out.size (.cells #[iv x, iv y] 33)).cell (p := ⟨gi, oi + q, none⟩) hlz).trans hcz
              clear hci hz hcz fcu
              have hq3 : q = 0 ∨ q = 1 ∨ q = 2 := by omega
              rcases hq3 with rfl | rfl | rfl
              · rw [Nat.add_zero] at f2
                go_wp2_with fail
                go_roundg 1
                case measure => omega
                case rel => exact ⟨1, u, y, rfl, rfl, rfl⟩
              · go_wp2_with fail
                go_roundg 0
                case measure => omega
                case rel => exact ⟨2, x, u, rfl, rfl, rfl⟩
              · go_wp2_with fail
                go_meet
                exact ⟨x, y, rfl⟩
            · clear fcu
              go_wp2_with fail
              go_meet
              exact ⟨x, y, rfl⟩
        case rest =>
          obtain ⟨x, y, rfl⟩ := hcut
          clear fcu
          obtain ⟨D, hD⟩ : ∃ D : Nat, D = wO.heap.size := ⟨_, rfl⟩
          obtain ⟨wA, hwA⟩ : ∃ W : World, W = wO.alloc (.cells #[iv x, iv y] 33) := ⟨_, rfl⟩
          have c0 : wA.cell? ⟨D, 0, none⟩ = some (iv x) := by rw [hwA, hD]; simp
          have c1 : wA.cell? ⟨D, 1, none⟩ = some (iv y) := by rw [hwA, hD]; simp
          have hbA : Below wO.heap.size wO wA := by rw [hwA]; exact (Below.refl _ _).alloc (Nat.le_refl _) _
          have hwD : w.heap.size ≤ D := by rw [hD]; exact HWB.out.size
          have HS : Hid (CDuo w b c D y j s s F wA) := Lib.hid ⟨HO.out.below hbA, (HR.out.wide (F' := fun k => w.heap.size ≤ k ∧ ¬ F k ∧ k ≠ D) (fun k hk h => ⟨h.1, h.2, by omega⟩)).below hbA, fun k hk => ⟨(HLo.out k hk).1, Nat.lt_of_lt_of_le (HLo.out k hk).2 hbA.size, by have := (HLo.out k hk).2; omega⟩, hwD, c1, HWB.out.trans (hbA.mono HWB.out.size)⟩
          have HG := Lib.hid (Hg.out.below (Nat.le_refl _) HS.out.bel)
          rw [← hwA, ← hD]
          clear hwA hD hbA HWB HO HR HLo
          obtain ⟨bi, hbi⟩ : ∃ bi : Bool, bi = (decide (0 ≤ y) && decide (y < m)) := ⟨_, rfl⟩
          have Hbi := Lib.hid hbi
          clear hbi
          go_upto_region 18 with (fail)
          go_cut [96] (fun e wq => e = .bool (!bi) ∧ wA = wq)
          case first => as_aux_lemma =>
            by_cases h0 : 0 ≤ y
            · by_cases h9 : y < m
              · have HX := Lib.hid (show bi = true by rw [Hbi.out, dec_t h0, dec_t h9]; rfl)
                have t1 : ¬ y < 0 := by omega
                have t2 : ¬ (m : Int) ≤ y := by omega
                go_wp2_with fail
                go_meet
                exact ⟨by rw [HX.out]; rfl, rfl⟩
              · have HX := Lib.hid (show bi = false by rw [Hbi.out, dec_f h9, Bool.and_false])
                have t1 : ¬ y < 0 := by omega
                have t2 : (m : Int) ≤ y := by omega
                go_wp2_with fail
                go_meet
                exact ⟨by rw [HX.out]; rfl, rfl⟩
            · have HX := Lib.hid (show bi = false by rw [Hbi.out, dec_f h0]; rfl)
              have t1 : y < 0 := by omega
              go_wp2_with fail
              go_meet
              exact ⟨by rw [HX.out]; rfl, rfl⟩
          case rest =>
          obtain ⟨rfl, rfl⟩ := hcut
          go_upto_if 96 with (fail)
          go_cut [9] (fun e wq => e = iv (eN bi) ∧ wA = wq)
          case first => as_aux_lemma =>
            cases bi
            all_goals
              go_wp2_with fail
              go_meet
              exact ⟨rfl, rfl⟩
          case rest =>
          obtain ⟨rfl, rfl⟩ := hcut
          go_upto_block 4 with (fail)
          go_cut [12] (fun told wq => told = .bool true ∧ ∃ wk s', wk = wq ∧ CPMid w b c D y j room m wk s')
          case first => as_aux_lemma =>
            obtain ⟨bx, hbx⟩ : ∃ bx : Bool, bx = decide (x = 0 ∨ x = 1) := ⟨_, rfl⟩
            have HBx := Lib.hid hbx
            have HTh := Lib.hid (there_of (y := y) HLen.out Hbi.out)
            clear hbx c0
            go_upto_if 107 with (fail)
            go_cut [107] (fun s wq => s = .bool bx ∧ wA = wq)
            case first => as_aux_lemma =>
              by_cases h0 : x = 0
              · have HX := Lib.hid (show bx = true by rw [HBx.out]; simp [h0])
                have t0 := beq_t h0
                clear h0
                go_wp2_with fail
                go_meet
                exact ⟨by rw [HX.out, t0], rfl⟩
              · have HX := Lib.hid (show bx = (x == 1) by rw [HBx.out]; simp [h0]; rfl)
                have t0 := beq_f h0
                clear h0
                go_wp2_with fail
                go_meet
                exact ⟨by rw [HX.out], rfl⟩
            case rest =>
            obtain ⟨rfl, rfl⟩ := hcut
            cases bx with
            | true =>
              cases bi with
              | false =>
                rw [show eN false = 1 from rfl]
                have hrd := read_no' HTh.out
                have HRd := Lib.hid (cread_any HS.out.objW HInv.out (fun k hk => .inr hk) (by omega) (by omega) y)
                rw [hrd] at HRd
                clear hrd
                go_wp2_with fail
                refine HRd.out.mono ?_
                rintro e w12 ⟨he, hok, hk⟩
                obtain rfl : e = .returned (.tuple #[.string ⟨#[]⟩, ev 1]) := he
                have HS12 := Lib.hid (HS.out.objT hok hk)
                have HG2 := Lib.hid (Hg.out.below (Nat.le_refl _) HS12.out.bel)
                clear hok hk HRd
                go_wp2_with fail
                refine (same_ev 1 1 _ HG2.out).mono ?_
                rintro e w13 ⟨rfl, hb⟩
                have HS13 := Lib.hid (HS12.out.below hb)
                clear hb
                go_wp2_with fail
                go_meet
                exact ⟨rfl, _, s, rfl, ⟨_, HS13.out⟩, HInv.out, HLen.out, HRm.out, by omega⟩
              | true =>
                rw [show eN true = 0 from rfl]
                have hin := Cc.there_iff.1 HTh.out
                obtain ⟨q, rfl⟩ : ∃ q : Nat, y = q := ⟨y.toNat, by omega⟩
                have hqb : q < s.below.length := by omega
                have hrd := read_yes' HTh.out
                have HR1 := Lib.hid (rread_any HS.out.ref HInv.out HS.out.refW (by omega) q hqb)
                have hi2 := HInv.out.read q
                have hr2 := Cc.room_read s q
                have hh2 := Cc.hits_read s q
                rw [hrd] at hi2 hr2 hh2
                obtain ⟨g0, hg0⟩ : ∃ g0, g0 = Cc.get s q := ⟨_, rfl⟩
                obtain ⟨s2, hs2⟩ : ∃ s2, s2 = Cc.put (Cc.hit s q) q (Cc.get s q) := ⟨_, rfl⟩
                rw [← hs2] at HR1 hrd hi2 hr2 hh2
                rw [← hg0] at HR1 hrd
                have Hi2 := Lib.hid hi2
                have Hr2 := Lib.hid hr2
                have Hrd := Lib.hid hrd
                have hh2' : s2.hits ≤ s.hits + 1 := hh2
                clear hin hqb hrd hi2 hr2 hh2 hg0 hs2
                go_wp2_with fail
                refine HR1.out.mono ?_
                rintro e w11 ⟨rfl, hok, hk⟩
                have HS11 := Lib.hid (HS.out.refT hok hk)
                have y11 := HS11.out.y1
                have HRd := Lib.hid (cread_any HS11.out.objW HInv.out (fun k hk => .inr hk) (by omega) (by omega) (q : Int))
                rw [Hrd.out] at HRd
                clear hok hk HR1
                go_wp2_with fail
                refine HRd.out.mono ?_
                rintro e w12 ⟨he, hok, hk⟩
                obtain rfl : e = .returned (.tuple #[.string g0, .nilIface]) := he
                have HS12 := Lib.hid (HS11.out.objT hok hk)
                clear hok hk HRd
                go_wp2_with fail
                refine (same_nil 0 _).mono ?_
                rintro e w13 ⟨rfl, hb⟩
                have HS13 := Lib.hid (HS12.out.below hb)
                clear hb
                go_wp2_with fail
                go_meet
                exact ⟨by simp, _, s2, rfl, ⟨_, HS13.out⟩, Hi2.out, Hr2.out.2.trans HLen.out, Hr2.out.1.trans HRm.out, by omega⟩
            | false =>
              obtain ⟨bz, hbz⟩ : ∃ bz : Bool, bz = decide (x = 2 ∨ x = 3) := ⟨_, rfl⟩
              have HBz := Lib.hid hbz
              clear hbz
              go_upto_if 131 with (fail)
              go_cut [131] (fun s wq => s = .bool bz ∧ wA = wq)
              case first => as_aux_lemma =>
                by_cases h0 : x = 2
                · have HX := Lib.hid (show bz = true by rw [HBz.out]; simp [h0])
                  have t0 := beq_t h0
                  clear h0
                  go_wp2_with fail
                  go_meet
                  exact ⟨by rw [HX.out, t0], rfl⟩
                · have HX := Lib.hid (show bz = (x == 3) by rw [HBz.out]; simp [h0]; rfl)
                  have t0 := beq_f h0
                  clear h0
                  go_wp2_with fail
                  go_meet
                  exact ⟨by rw [HX.out], rfl⟩
              case rest =>
              obtain ⟨rfl, rfl⟩ := hcut
              cases bz with
              | true =>
                go_upto_if 136 with (fail)
                go_cut [20] (fun z wq => ∃ s : ByteArray, z = .string s ∧ s.size ≤ maxLen ∧ wA = wq)
                case first => as_aux_lemma =>
                  by_cases hl0 : 0 < ls.length
                  · have hrl : j % ls.length < ls.length := Nat.mod_lt _ hl0
                    obtain ⟨gl, ol, hpl, hcl, hgl⟩ := Hl2.out (j % ls.length) ls[j % ls.length] (List.getElem?_eq_getElem hrl)
                    have cl0 := (HS.out.bel.cell (p := ⟨gl, ol + j % ls.length, none⟩) hgl).trans hcl
                    have hsz := hls ls[j % ls.length] (List.getElem_mem hrl)
                    generalize ls[j % ls.length] = s0 at *
                    have Hsz := Lib.hid hsz
                    have Hpl := Lib.hid hpl
                    obtain ⟨n, hn⟩ : ∃ n, n = ls.length := ⟨_, rfl⟩
                    rw [← hn] at hl1 hrl hl0 cl0
                    have hnI : (0 : Int) < (n : Int) := by omega
                    have hnz : ¬ (n : Int) = 0 := by omega
                    have hr0 : 0 ≤ (j : Int) % (n : Int) := Int.emod_nonneg _ hnz
                    have hr1 : (j : Int) % (n : Int) < (n : Int) := Int.emod_lt_of_pos _ hnI
                    rw [hpl, ← hn]
                    have Hn := Lib.hid hn
                    clear hcl hsz hpl hn
                    go_wp2_with fail
                    rw [← Hpl.out, show n = ls.length from Hn.out]
                    go_meet
                    exact ⟨_, rfl, Hsz.out, rfl⟩
                  · obtain ⟨n, hn⟩ : ∃ n, n = ls.length := ⟨_, rfl⟩
                    rw [← hn] at hl1 hl0
                    have t0 : decide ((0 : Int) < (n : Int)) = false := dec_f (by omega)
                    have t0' : decide (0 < n) = false := dec_f hl0
                    have hn0 : (n : Int) ≤ 0 := by omega
                    rw [← hn]
                    have Hn := Lib.hid hn
                    clear hl0 hn
                    go_wp2_with fail
                    rw [show n = ls.length from Hn.out]
                    go_meet
                    exact ⟨⟨#[]⟩, rfl, Nat.zero_le _, rfl⟩
                case rest =>
                obtain ⟨s0, rfl, hsz, rfl⟩ := hcut
                have hsz' := hsz
                unfold maxLen at hsz'
                obtain ⟨be, hbe⟩ : ∃ be : Bool, be = (bi && decide (s0.size ≤ 16)) := ⟨_, rfl⟩
                have Hbe := Lib.hid hbe
                clear hbe
                go_upto_if 146 with (fail)
                go_cut [9] (fun z wq => z = iv (eN be) ∧ wA = wq)
                case first => as_aux_lemma =>
                  by_cases h16 : s0.size ≤ 16
                  · have HX := Lib.hid (show be = bi by rw [Hbe.out, dec_t h16, Bool.and_true])
                    have t0 : ¬ (16 : Int) < (s0.size : Int) := by omega
                    go_wp2_with fail
                    go_meet
                    exact ⟨by rw [HX.out], rfl⟩
                  · have HX := Lib.hid (show be = false by rw [Hbe.out, dec_f h16, Bool.and_false])
                    have t0 : (16 : Int) < (s0.size : Int) := by omega
                    go_wp2_with fail
                    go_meet
                    exact ⟨by rw [HX.out]; rfl, rfl⟩
                case rest =>
                obtain ⟨rfl, rfl⟩ := hcut
                cases be with
                | false =>
                  rw [show eN false = 1 from rfl]
                  have hwr : Cc.write s y s0 = (1, s) := write_no' (by
                    have h := Hbe.out
                    rw [← HTh.out] at h
                    cases ht : Cc.there s y with
                    | false => exact .inl rfl
                    | true =>
                      rw [ht, Bool.true_and] at h
                      right
                      have := of_decide_eq_false h.symm
                      omega)
                  have HW := Lib.hid (cwrite_any HS.out.objW HInv.out (fun k hk => .inr hk) (by omega) y s0 hsz)
                  rw [hwr] at HW
                  clear hwr
                  go_wp2_with fail
                  refine HW.out.mono ?_
                  rintro e w12 ⟨he, hok, hk⟩
                  obtain rfl : e = .returned (ev 1) := he
                  have HS12 := Lib.hid (HS.out.objT hok hk)
                  have HG2 := Lib.hid (Hg.out.below (Nat.le_refl _) HS12.out.bel)
                  clear hok hk HW
                  go_wp2_with fail
                  refine (same_ev 1 1 _ HG2.out).mono ?_
                  rintro e w13 ⟨rfl, hb⟩
                  have HS13 := Lib.hid (HS12.out.below hb)
                  clear hb
                  go_wp2_with fail
                  go_meet
                  exact ⟨rfl, _, s, rfl, ⟨_, HS13.out⟩, HInv.out, HLen.out, HRm.out, by omega⟩
                | true =>
                  rw [show eN true = 0 from rfl]
                  have hbe := Hbe.out
                  rw [eq_comm, Bool.and_eq_true] at hbe
                  have h16 : s0.size ≤ 16 := of_decide_eq_true hbe.2
                  have hth : Cc.there s y = true := HTh.out.trans hbe.1
                  have hin := Cc.there_iff.1 hth
                  obtain ⟨q, rfl⟩ : ∃ q : Nat, y = q := ⟨y.toNat, by omega⟩
                  have hqb : q < s.below.length := by omega
                  have hwr := write_yes' hth h16
                  have HR1 := Lib.hid (rwrite_any HS.out.ref HInv.out HS.out.refW q hqb s0 h16)
                  have hi2 := HInv.out.write q s0
                  have hr2 := Cc.room_write s q s0
                  have hh2 := Cc.hits_write s q s0
                  have hl2 := write_len s q s0
                  rw [hwr] at hi2 hr2 hh2 hl2
                  obtain ⟨s2, hs2⟩ : ∃ s2, s2 = Cc.mark (Cc.put s q s0) q := ⟨_, rfl⟩
                  rw [← hs2] at HR1 hwr hi2 hr2 hh2 hl2
                  have Hi2 := Lib.hid hi2
                  have Hr2 := Lib.hid hr2
                  have Hl2' := Lib.hid hl2
                  have Hwr := Lib.hid hwr
                  have hh2' : s2.hits ≤ s.hits := Nat.le_of_eq hh2
                  clear hin hqb hwr hi2 hr2 hh2 hl2 hs2 hbe hth h16
                  go_wp2_with fail
                  refine HR1.out.mono ?_
                  rintro e w11 ⟨rfl, hok, hk⟩
                  have HS11 := Lib.hid (HS.out.refT hok hk)
                  have y11 := HS11.out.y1
                  have HW := Lib.hid (cwrite_any HS11.out.objW HInv.out (fun k hk => .inr hk) (by omega) (q : Int) s0 hsz)
                  rw [Hwr.out] at HW
                  clear hok hk HR1
                  go_wp2_with fail
                  refine HW.out.mono ?_
                  rintro e w12 ⟨he, hok, hk⟩
                  obtain rfl : e = .returned .nilIface := he
                  have HS12 := Lib.hid (HS11.out.objT hok hk)
                  clear hok hk HW
                  go_wp2_with fail
                  refine (same_nil 0 _).mono ?_
                  rintro e w13 ⟨rfl, hb⟩
                  have HS13 := Lib.hid (HS12.out.below hb)
                  clear hb
                  go_wp2_with fail
                  go_meet
                  exact ⟨by simp, _, s2, rfl, ⟨_, HS13.out⟩, Hi2.out, Hl2'.out.trans HLen.out, Hr2.out.trans HRm.out, by omega⟩
              | false =>
                by_cases hx4 : x = 4
                · subst hx4
                  by_cases hy0 : y < 0
                  · have hfl := flush_no' (s := s) hy0
                    have HL := Lib.hid (cflush_any HS.out.objW HInv.out (fun k hk => .inr hk) y)
                    rw [hfl] at HL
                    clear hfl
                    go_wp2_with fail
                    refine HL.out.mono ?_
                    rintro e w12 ⟨v7, he, hO7, hok, hk⟩
                    obtain rfl : e = .returned (.tuple #[v7, ev 1]) := he
                    have HS12 := Lib.hid (HS.out.objT (CacOk.wide hok (fun k _ hk => hk.1)) hk)
                    have HG2 := Lib.hid (Hg.out.below (Nat.le_refl _) HS12.out.bel)
                    have HO7 := Lib.hid hO7
                    clear hok hk HL hO7
                    go_wp2_with fail
                    refine (same_ev 1 1 _ HG2.out).mono ?_
                    rintro e w13 ⟨rfl, hb⟩
                    have HS13 := Lib.hid (HS12.out.below hb)
                    have HI := Lib.hid (ints_eq [] v7 (.slice none 0 0) w13 ((HO7.out.below hb).row) (OwnR.nil _ 0 3).row)
                    clear hb
                    go_wp2_with fail
                    refine HI.out.mono ?_
                    rintro e w14 ⟨rfl, nd, rfl⟩
                    have HS14 := Lib.hid ((HS13.out.below (bdrew (Below.refl _ _) nd)).more (Nat.le_succ j))
                    go_wp2_with fail
                    go_meet
                    exact ⟨rfl, _, s, rfl, ⟨_, HS14.out⟩, HInv.out, HLen.out, HRm.out, by omega⟩
                  · obtain ⟨q, rfl⟩ : ∃ q : Nat, y = q := ⟨y.toNat, by omega⟩
                    have hfl := flush_yes' s q
                    have HR1 := Lib.hid (rflush_any HS.out.ref HInv.out HS.out.refW q)
                    have hi2 := HInv.out.flush q
                    have hr2 := Cc.flush_room s q
                    have hl2 := (Cc.cleans_val s (s.dirty.take q)).2.2
                    rw [hfl] at hi2 hr2
                    obtain ⟨l, hl⟩ : ∃ l, l = s.dirty.take q := ⟨_, rfl⟩
                    obtain ⟨s2, hs2⟩ : ∃ s2, s2 = Cc.cleans s (s.dirty.take q) := ⟨_, rfl⟩
                    rw [← hs2] at HR1 hfl hi2 hr2 hl2
                    rw [← hl] at HR1 hfl
                    have Hi2 := Lib.hid hi2
                    have Hr2 := Lib.hid hr2
                    have Hl2' := Lib.hid hl2
                    have Hfl := Lib.hid hfl
                    have hh2' : s2.hits ≤ s.hits := Nat.le_of_eq hr2.2
                    have HLo := Lib.hid HS.out.lo
                    clear hfl hi2 hr2 hl2 hl hs2
                    go_wp2_with fail
                    refine HR1.out.mono ?_
                    rintro e w11 ⟨vw, rfl, hOw, hok, hk⟩
                    have HS11 := Lib.hid (HS.out.refT hok hk)
                    have y11 := HS11.out.y1
                    have HL := Lib.hid (cflush_any HS11.out.objW HInv.out (fun k hk => .inr hk) (q : Int))
                    rw [Hfl.out] at HL
                    have HOw := Lib.hid hOw
                    clear hok hk HR1 hOw
                    go_wp2_with fail
                    refine HL.out.mono ?_
                    rintro e w12 ⟨v7, he, hO7, hok, hk⟩
                    obtain rfl : e = .returned (.tuple #[v7, .nilIface]) := he
                    have HS12 := Lib.hid (HS11.out.objT (CacOk.wide hok (fun k _ hk => hk.1)) hk)
                    have HO7 := Lib.hid hO7
                    have HOw2 := Lib.hid (HOw.out.kept hk (fun g e hF => by
                      have h1 := HOw.out.lt e
                      rcases hF with h | h
                      · have := (HLo.out g h).2.1; omega
                      · omega))
                    clear hok hk HL hO7
                    go_wp2_with fail
                    refine (same_nil 0 _).mono ?_
                    rintro e w13 ⟨rfl, hb⟩
                    have HS13 := Lib.hid (HS12.out.below hb)
                    have HI := Lib.hid (ints_eq l v7 vw w13 ((HO7.out.below hb).row) ((HOw2.out.below hb).row))
                    clear hb
                    go_wp2_with fail
                    refine HI.out.mono ?_
                    rintro e w14 ⟨rfl, nd, rfl⟩
                    have HS14 := Lib.hid ((HS13.out.below (bdrew (Below.refl _ _) nd)).more (Nat.le_succ j))
                    go_wp2_with fail
                    go_meet
                    exact ⟨rfl, _, s2, rfl, ⟨_, HS14.out⟩, Hi2.out, Hl2'.out.trans HLen.out, Hr2.out.1.trans HRm.out, by omega⟩
                · have b4 := beq_f hx4
                  clear hx4
                  obtain ⟨vb, vr, vd, ⟨k0, k2, k4, k5⟩, _, _, _, kf⟩ := HS.out.ref.cells
                  have hcr := HS.out.ref.crash
                  have HS11 := Lib.hid (HS.out.refT hcr.1 hcr.2)
                  have HCr := Lib.hid (ccrash_any HS11.out.objW (fun k hk => .inr hk))
                  clear hcr k0 k5
                  go_wp2_with fail
                  refine HCr.out.mono ?_
                  rintro e w12 ⟨rfl, hok, hk⟩
                  have HS12 := Lib.hid ((HS11.out.objT hok hk).more (Nat.le_succ j))
                  clear hok hk HCr
                  go_wp2_with fail
                  go_meet
                  exact ⟨rfl, _, Cc.crash s, rfl, ⟨_, HS12.out⟩, HInv.out.crash, HLen.out, HRm.out, Nat.le_succ_of_le hhits⟩
          case rest =>
            obtain ⟨rfl, wq, s', hwq, hM⟩ := hcut
            subst hwq
            obtain ⟨F', hD'⟩ := hM.duo
            have HD := Lib.hid hD'
            have HI' := Lib.hid hM.inv
            have HL' := Lib.hid hM.len
            have HR' := Lib.hid hM.rm
            have hh' := hM.hits
            have hrl : s'.row.length ≤ 1000 := by have := hM.inv.fit; have := hM.inv.room12; omega
            have hdl : s'.dirty.length ≤ 1000 := by have := Cc.dirty12 hM.inv; omega
            have hbl : s'.below.length ≤ 1000 := by have := hM.inv.len; omega
            obtain ⟨vb, vr, vd, kk, rb, rr, rd, _⟩ := hD'.ref.cells
            have RB := Lib.hid rb
            have RR := Lib.hid rr
            have RD := Lib.hid rd
            clear hM hD' rb rr rd HS c0 c1
            go_upto_region 50 with (fail)
            go_cut [225] (fun z wq' => z = .bool false ∧ Below wq.heap.size wq wq')
            case first => as_aux_lemma =>
              obtain ⟨k0, k2, k4, k5⟩ := kk
              clear hls hl1 Hl2 Ha ha1 hm9 hc40 HInv HLen HRm hhits b80 Hi3 HG HI' HL' HR' hi1 hi2 hi2' Hj hlt hlt80 hlow Hbi hz1 hz2 hwD hh'
              go_region_held3 (fun w' => w'.cell? ⟨c, 0, none⟩ = some vb ∧ w'.cell? ⟨c, 2, none⟩ = some vr ∧ w'.cell? ⟨c, 4, none⟩ = some vd ∧ w'.cell? ⟨c, 5, none⟩ = some (iv s'.hits))
                (first
                  | exact ⟨k0, k2, k4, k5⟩
                  | exact kS
                  | exact kL
                  | exact kT
                  | fail)
                (first
                  | (go_at_call 22; refine (cHas_any (HD.out.obj.below (bdrew (Below.refl _ _) _)) hrl).mono ?_; rintro e wS ⟨v1, rfl, hown, hb⟩; have HBs := Lib.hid ((bdrew (Below.refl wq.heap.size wq) _).trans hb); have rowA := Lib.hid (row_of_owns hown).1; have RR1 := Lib.hid (RR.out.below HBs.out); have kS := cells4 HBs.out ⟨k0, k2, k4, k5⟩; clear hown hb)
                  | (go_at_call 23; refine (cDirty_any ((HD.out.obj.below HBs.out).below (bdrew (Below.refl _ _) _)) hdl).mono ?_; rintro e wL ⟨v2, rfl, hown2, hb2⟩; have HBl := Lib.hid (HBs.out.trans (((bdrew (Below.refl wS.heap.size wS) _).trans hb2).mono HBs.out.size)); have rowB := Lib.hid (row_of_owns hown2).1; have RD1 := Lib.hid (RD.out.below HBl.out); have kL := cells4 HBl.out ⟨k0, k2, k4, k5⟩; clear hown2 hb2)
                  | (go_at_call 25; refine (cbelow_any ((HD.out.obj.below HBl.out).below (bdrew (Below.refl _ _) _)) hbl).mono ?_; rintro e wT ⟨v3, rfl, hown3, hb3⟩; have HBt := Lib.hid (HBl.out.trans (((bdrew (Below.refl wL.heap.size wL) _).trans hb3).mono HBl.out.size)); have rowC : Hid (Strs wT v3 s'.below) := Lib.hid (row_of_owns hown3).1; have RB1 : Hid (Strs wT vb s'.below) := Lib.hid (RB.out.below HBt.out); have kT := cells4 HBt.out ⟨k0, k2, k4, k5⟩; clear hown3 hb3)
                  | (go_at_call 26; refine (chits_any ((HD.out.obj.below HBt.out).below (bdrew (Below.refl _ _) _))).mono ?_; rintro e wH ⟨rfl, rfl⟩)
                  | (go_at_call 24; with_reducible refine (texts_eq s'.below _ _ _ rowC.out RB1.out).mono ?_; rintro e wI ⟨rfl, nd3, rfl⟩)
                  | (go_at_call 20; with_reducible refine (ints_eq s'.row _ _ _ rowA.out RR1.out).mono ?_; rintro e wI ⟨rfl, nd, rfl⟩)
                  | (go_at_call 20; with_reducible refine (ints_eq s'.dirty _ _ _ rowB.out RD1.out).mono ?_; rintro e wI ⟨rfl, nd2, rfl⟩))
              go_wp2_with fail
              go_meet
              exact ⟨rfl, bdrew HBt.out nd3⟩
            case rest =>
              obtain ⟨rfl, hb⟩ := hcut
              have HD2 := Lib.hid (HD.out.below hb)
              clear hb HD kk
              go_wp2_with fail
              rw [show (some ({ block := go, off := oo, spot := none } : Addr)) = po from Hpo.out.symm]
              go_roundg (gO - 1)
              case measure => have := Hj.out; omega
              case rel => exact ⟨j + 1, s', F', by have := Hj.out; omega, by omega, by go_num, HI'.out, HL'.out, HR'.out, hh', HD2.out.obj, HD2.out.ref.wide (fun k _ hk => ⟨hk.1, hk.2.1⟩), fun k hk => ⟨(HD2.out.lo k hk).1, (HD2.out.lo k hk).2.1⟩, HD2.out.bel⟩
      · obtain rfl : j = 80 := by omega
        go_wp2_with fail
        go_ret
        exact ⟨rfl, HWB.out⟩
    · obtain rfl : j = N := by omega
      go_wp2_with fail
      go_ret
      exact ⟨rfl, HWB.out⟩
end Go.Proofs.YtangcjffiooapaaDoor
