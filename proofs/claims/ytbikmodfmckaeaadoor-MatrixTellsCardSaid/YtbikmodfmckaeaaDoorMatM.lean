/- The walks of matrix.Row, Mul, paritysame.Rows. -/
import Derived.Test.YtbikmodfmckaeaaDoorMatC
import Derived.Deep.QuietTactic
import Derived.BigQuiet
namespace Go.Proofs.YtbikmodfmckaeaaDoor
open Go.ChangeShapes Go.WideShapes Go.ChangeAt Go.RowKit
set_option linter.unusedVariables false
namespace Mx
open Gv
def rsum (r : List UInt8) (b : Mt) (i : Nat) : Nat → UInt8 := fun j => xsum i (fun q => Gf.mul (at' r q) (b q j))
def rin (r : List UInt8) (b : Mt) (i q : Nat) : Nat → UInt8 := fun j => rsum r b i j ^^^ (if j < q then Gf.mul (at' r i) (b i j) else 0)
theorem rin_zero (r : List UInt8) (b : Mt) (i : Nat) : rin r b i 0 = rsum r b i := by funext j; unfold rin; rw [if_neg (by omega), Gf.add_zero]
theorem rin_at (r : List UInt8) (b : Mt) (i q : Nat) : rin r b i q q = rsum r b i q := by unfold rin; rw [if_neg (by omega), Gf.add_zero]
theorem rin_full (r : List UInt8) (b : Mt) (i L : Nat) : tab L (rin r b i L) = tab L (rsum r b (i + 1)) := tab_ext (fun j hj => by unfold rin; rw [if_pos hj]; rfl)
theorem rin_set {L : Nat} (r : List UInt8) (b : Mt) (i q : Nat) : (tab L (rin r b i q)).set q (rin r b i q q ^^^ Gf.mul (at' r i) (b i q)) = tab L (rin r b i (q + 1)) := by
  rw [tab_set]
  refine tab_ext (fun j _ => ?_)
  by_cases e : j = q
  · subst e; rw [if_pos rfl, rin_at]; unfold rin; rw [if_pos (by omega)]
  · rw [if_neg e]; unfold rin
    by_cases c : j < q
    · rw [if_pos c, if_pos (by omega)]
    · rw [if_neg c, if_neg (by omega)]
end Mx
def RwRel (r : List UInt8) (b : Mx.Mt) (w : World) (k L gk : Nat) (i : Value) (wr : World) : Prop :=
  ∃ q : Nat, q + gk = k ∧ i = iv q ∧ OwnB wr w.heap.size (.slice (some ⟨w.heap.size, 0, none⟩) L L) (Gv.tab L (Mx.rsum r b q)) ∧ Below w.heap.size w wr
def RwIn (r : List UInt8) (b : Mx.Mt) (w : World) (i L gk : Nat) (idx : Value) (wr : World) : Prop :=
  ∃ q : Nat, q + gk = L ∧ idx = iv q ∧ OwnB wr w.heap.size (.slice (some ⟨w.heap.size, 0, none⟩) L L) (Gv.tab L (Mx.rin r b i q)) ∧ Below w.heap.size w wr
def RwPost (l : List UInt8) (w : World) (e : Ending) (w' : World) : Prop := ∃ v, e = .returned v ∧ OwnB w' w.heap.size v l ∧ Below w.heap.size w w'
set_option maxRecDepth 100000 in
set_option maxHeartbeats 1000000 in
theorem row_any (r : List UInt8) (b : Mx.Mt) (k L : Nat) (hk : r.length = k) (h0 : 0 < k) (hk9 : k ≤ 1000) (hL9 : L ≤ 1000) (vr vm : Value) (w : World) (hr : RowB w vr r) (hm : RowsM w vm (lt k L b)) :
    Calls Tryd.prog 69 #[vr, vm] w (RwPost (Gv.tab L (Mx.rsum r b k)) w) := by
  have HR := Lib.hid hr
  obtain ⟨pr, cr, rfl, hr1, hr2⟩ := hr.shape
  obtain ⟨vs, hrow, hlen, hrows⟩ := hm
  rw [lt_len] at hlen
  obtain ⟨g, o, cm, rfl, hm1, hm2, hcc⟩ := hrow.pos (by omega)
  rw [hlen] at hm1 hcc ⊢
  rw [hk] at hr1 HR ⊢
  have Hcc := Lib.hid hcc
  have Hrows := Lib.hid hrows
  have Hk := Lib.hid hk
  have HL := Lib.hid hlen
  obtain ⟨u0, hu0, hb0⟩ := hrows 0 _ (lt_get L b h0)
  obtain ⟨p0, c0, rfl, _, _⟩ := RowB.shape hb0
  rw [Gv.tab_len] at hu0
  have d0 : w.cell? ⟨g, o, none⟩ = some (.slice p0 L c0) := by
    have h := hcc 0 h0
    rw [hu0, Nat.add_zero] at h; exact h
  have t1 : ((k : Int) == 0) = false := beq_f (by omega)
  unfold maxLen at hr2 hm2
  have mk := make_bytesV L (by omega) w
  have HO0 := Lib.hid (owns_made L (by omega) w)
  have HB0 : Hid (Below w.heap.size w (w.alloc (.cells (madeCells #[.int .u8 0] L) 5))) := Lib.hid ((Below.refl _ _).alloc (Nat.le_refl _) _)
  clear hr hk hcc hrows hlen hrow hu0 hb0
  go_enter Tryd.func69, Tryd.ntmps69
  go_wp2_with fail
  go_loopg [6, 7, 8, 9, 20] k (fun gk v6 v7 v8 v9 v20 wr => RwRel r b w k L gk v20 wr)
  case atStart => exact ⟨0, by omega, rfl, HO0.out, HB0.out⟩
  case round =>
    clear HO0 HB0 mk d0
    obtain ⟨wO, hwO⟩ : ∃ x : World, x = wr := ⟨_, rfl⟩
    obtain ⟨gO, hgO⟩ : ∃ x : Nat, x = gk := ⟨_, rfl⟩
    subst hwO hgO
    obtain ⟨i, hi, rfl, hO, hB⟩ := hrel
    have Hi := Lib.hid hi
    have HO := Lib.hid hO
    have HB := Lib.hid hB
    clear hi hO hB
    by_cases hik : i < k
    · obtain ⟨g1, o1, cc1, hv1, hg1, _, _, hc1⟩ := HR.out.cellAt (j := i) (by rw [Hk.out]; exact hik)
      injection hv1 with e1 e2 e3
      have He1 := Lib.hid e1
      have d1 : wO.cell? ⟨g1, o1 + i, none⟩ = some (bv (Gv.at' r i)) := (HB.out.cell (p := ⟨g1, o1 + i, none⟩) hg1).trans hc1
      obtain ⟨x, hx⟩ : ∃ x, x = Gv.at' r i := ⟨_, rfl⟩
      rw [← hx] at d1
      have Hx := Lib.hid hx
      obtain ⟨ui, hui, hbi⟩ := Hrows.out i _ (lt_get L b hik)
      have d2 := Hcc.out i hik
      rw [hui] at d2
      have hg2 := World.block_lt_of_cell? w _ d2
      have HBi := Lib.hid (RowB.below hbi HB.out)
      obtain ⟨pi, ci, rfl, _, _⟩ := RowB.shape hbi
      rw [Gv.tab_len] at d2 HBi
      have d3 : wO.cell? ⟨g, o + i, none⟩ = some (.slice pi L ci) := (HB.out.cell (p := ⟨g, o + i, none⟩) hg2).trans d2
      have HWi := Lib.hid hbi
      rw [Gv.tab_len] at HWi
      rw [e1]
      clear e1 e2 e3 hc1 hx hui hbi d2 HBi
      go_wp2_with fail
      go_loopg [8, 9, 30] L (fun gk v8 v9 v30 wr => RwIn r b w i L gk v30 wr)
      case atStart => exact ⟨0, by omega, rfl, by rw [Mx.rin_zero]; exact HO.out, HB.out⟩
      case round =>
        clear d1 d3 HO HB
        obtain ⟨q, hq, rfl, hO, hB⟩ := hrel
        have Hq := Lib.hid hq
        have HO := Lib.hid hO
        have HB := Lib.hid hB
        clear hq hO hB
        by_cases hqL : q < L
        · obtain ⟨g3, o3, cc3, hv3, hg3, _, _, hc3⟩ := HWi.out.cellAt (j := q) (by rw [Gv.tab_len]; exact hqL)
          injection hv3 with e1 e2 e3
          have He3 := Lib.hid e1
          have d4 : wr.cell? ⟨g3, o3 + q, none⟩ = some (bv (b i q)) := by
            have h := (HB.out.cell (p := ⟨g3, o3 + q, none⟩) hg3).trans hc3
            rw [show Gv.at' (Gv.tab L (b i)) q = b i q by show List.getD _ _ _ = _; rw [Gv.tab_at _ hqL]] at h
            exact h
          obtain ⟨_, hgo, hx2, _, _, hco, hfo⟩ := OwnB.cells HO.out (by rw [Gv.tab_len]; omega)
          have d5 := hco q hqL
          rw [show Gv.at' (Gv.tab L (Mx.rin r b i q)) q = Mx.rin r b i q q by show List.getD _ _ _ = _; rw [Gv.tab_at _ hqL], Nat.zero_add] at d5
          obtain ⟨y, hy⟩ : ∃ y, y = b i q := ⟨_, rfl⟩
          obtain ⟨z, hz⟩ : ∃ z, z = Mx.rin r b i q q := ⟨_, rfl⟩
          rw [← hy] at d4
          rw [← hz] at d5
          have HO2 : Hid (OwnB (wr.drew.setCell ⟨w.heap.size, q, none⟩ (bv (z ^^^ Gf.mul x y))) w.heap.size (.slice (some ⟨w.heap.size, 0, none⟩) L L) (Gv.tab L (Mx.rin r b i (q + 1)))) := Lib.hid (by
            have h1 := OwnB.setAt (OwnR.below HO.out (Below.refl _ _).drew) (k := q) (by rw [Gv.tab_len]; exact hqL) (z ^^^ Gf.mul x y)
            rw [hz, Hx.out, hy, Mx.rin_set, Nat.zero_add] at h1
            rw [hz, Hx.out, hy]
            exact h1)
          have HB3 : Hid (Below w.heap.size w (wr.drew.setCell ⟨w.heap.size, q, none⟩ (bv (z ^^^ Gf.mul x y)))) := Lib.hid ((HB.out.drew).setCell (p := ⟨w.heap.size, q, none⟩) (Nat.le_refl _) _)
          have fo := hfo q
          have hqI : (q : Int) < (L : Int) := by omega
          rw [e1]
          clear e1 e2 e3 hc3 hx2 hco hfo hy hz
          go_wp2_with fail
          go_still_tail 9, (by kernel_rfl)
          still_call (mul_st x y _)
          repeat still_step
          refine wpStill_nil ?_
          clear d4
          go_wp2_with fail
          rw [← He3.out]
          go_roundg (gk - 1)
          case measure => have := Hq.out; omega
          case rel => exact ⟨q + 1, by have := Hq.out; omega, by go_num, by rw [bv_xor]; exact HO2.out, by rw [bv_xor]; exact HB3.out⟩
        · have hqL' : q = L := by have := Hq.out; omega
          have hO9 : OwnB wr w.heap.size (.slice (some ⟨w.heap.size, 0, none⟩) L L) (Gv.tab L (Mx.rsum r b (i + 1))) := by
            have h := HO.out
            rw [hqL', Mx.rin_full] at h; exact h
          have HO9 := Lib.hid hO9
          clear hO9
          go_wp2_with fail
          rw [← He1.out]
          go_roundg (gO - 1)
          case measure => have := Hi.out; omega
          case rel => exact ⟨i + 1, by have := Hi.out; omega, by go_num, HO9.out, HB.out⟩
    · have hik' : i = k := by have := Hi.out; omega
      subst hik'
      go_wp2_with fail
      go_ret
      exact ⟨_, rfl, HO.out, HB.out⟩
theorem mrow_nil (r : List UInt8) (p : Option Addr) (c : Nat) (vr : Value) (w : World) : Calls Tryd.prog 69 #[vr, .slice p 0 c] w (RwPost [] w) := by
  go_enter Tryd.func69, Tryd.ntmps69
  go_wp2_with fail
  go_ret
  exact ⟨_, rfl, OwnR.nil _ _ _, Below.refl _ _⟩
/-- two matrices: are they the same? -/
def RsRel (A B : List (List UInt8)) (va vb : Value) (w : World) (n gk : Nat) (i : Value) (wr : World) : Prop :=
  ∃ q : Nat, q + gk = n ∧ i = iv q ∧ A.take q = B.take q ∧ RowsM wr va A ∧ RowsM wr vb B ∧ Below w.heap.size w wr
set_option maxRecDepth 100000 in
theorem conv_rowB (w : World) (v : Value) (l : List UInt8) (h : RowB w v l) : (convert 22 9 v).run Tryd.prog w = .ok (.string ⟨l.toArray⟩) w := by
  obtain ⟨p, cap, rfl, h1, h2, h0, h3⟩ := h
  rw [List.length_map] at *
  cases p with
  | none =>
    obtain rfl : cap = 0 := h0 rfl
    obtain rfl : l = [] := List.eq_nil_of_length_eq_zero (by omega)
    exact conv_nilB w
  | some a =>
    by_cases hl : 0 < l.length
    · obtain ⟨g, off, hp, hc⟩ := h3 hl
      injection hp with hp
      subst hp
      exact run_convert_bytes_back (P := Tryd.prog) w 22 9 5 ⟨g, off, none⟩ cap l Tryd.underlying22 Tryd.underlying5 Tryd.underlying9 (fun j hj => by
        rw [Addr.add_lit, hc j hj, List.getElem?_map, List.getElem?_eq_getElem hj]; rfl)
    · obtain rfl : l = [] := List.eq_nil_of_length_eq_zero (by omega)
      exact run_convert_bytes_back (P := Tryd.prog) w 22 9 5 a cap [] Tryd.underlying22 Tryd.underlying5 Tryd.underlying9 (fun j hj => by simp at hj)
theorem bytes_row (a b : List UInt8) (va vb : Value) (w : World) (ha : RowB w va a) (hb : RowB w vb b) :
    Calls Tryd.prog 9 #[va, vb] w fun e w' => e = .returned (.bool (a == b)) ∧ w' = w := by
  have h1 := conv_rowB w va a ha
  have h2 := conv_rowB w vb b hb
  clear ha hb
  go_enter Tryd.func9, Tryd.ntmps9
  go_wp2_with fail
  go_ret
  exact ⟨rfl, rfl⟩
theorem RowsM.at {w : World} {v : Value} {M : List (List UInt8)} (h : RowsM w v M) {i : Nat} {l : List UInt8} (hl : M[i]? = some l) :
    ∃ g o c p2 c2, v = .slice (some ⟨g, o, none⟩) M.length c ∧ g < w.heap.size ∧ w.cell? ⟨g, o + i, none⟩ = some (.slice p2 l.length c2) ∧ RowB w (.slice p2 l.length c2) l := by
  obtain ⟨vs, hr, hlen, hrow⟩ := h
  have hi := (List.getElem?_eq_some_iff.1 hl).1
  obtain ⟨g, o, c, hv, h1, h2, h3⟩ := hr.pos (by omega)
  obtain ⟨u, hu, hb⟩ := hrow i l hl
  obtain ⟨p2, c2, rfl, _⟩ := RowB.shape hb
  have h4 := h3 i (by omega)
  rw [hu] at h4
  exact ⟨g, o, c, p2, c2, by rw [hv, hlen], World.block_lt_of_cell? w _ h4, h4, hb⟩
theorem RowsM.drewN {w : World} {v : Value} {M : List (List UInt8)} (h : RowsM w v M) (d : Nat) : RowsM (w.drewN d) v M := h.below (bdrew (Below.refl _ _) d)
def SameM (q : Bool) (w : World) (e : Ending) (w' : World) : Prop := e = .returned (.bool q) ∧ Below w.heap.size w w'
set_option maxRecDepth 100000 in
set_option maxHeartbeats 1000000 in
theorem same_rows (A B : List (List UInt8)) (va vb : Value) (w : World) (ha : RowsM w va A) (hb : RowsM w vb B) :
    Calls Tryd.prog 27 #[va, vb] w (SameM (A == B) w) := by
  have HA := Lib.hid ha
  have HB := Lib.hid hb
  obtain ⟨pa, ca, rfl, ha1, ha2, _⟩ := ha.shape
  obtain ⟨pb, cb, rfl, hb1, hb2, _⟩ := hb.shape
  unfold maxLen at ha2 hb2
  obtain ⟨n, hn⟩ : ∃ n, n = A.length := ⟨_, rfl⟩
  obtain ⟨m, hm⟩ : ∃ m, m = B.length := ⟨_, rfl⟩
  rw [← hn] at HA ha1 ⊢
  rw [← hm] at HB hb1 ⊢
  have Hn := Lib.hid hn
  have Hm := Lib.hid hm
  obtain ⟨q, hq⟩ : ∃ q, q = (A == B) := ⟨_, rfl⟩
  rw [← hq]
  have Hq := Lib.hid hq
  clear ha hb hn hm hq
  by_cases hnm : n = m
  · subst hnm
    have t1 : ((n : Int) != (n : Int)) = false := bne_f rfl
    go_enter Tryd.func27, Tryd.ntmps27
    go_wp2_with fail
    go_loopg [5, 6] n (fun gk v5 v6 wr => RsRel A B (.slice pa n ca) (.slice pb n cb) w n gk v5 wr)
    case atStart => exact ⟨0, by omega, rfl, rfl, HA.out, HB.out, Below.refl _ _⟩
    case round =>
      clear HA HB
      obtain ⟨k, hk, rfl, ht, hA, hB, hBw⟩ := hrel
      have Hk := Lib.hid hk
      have Ht := Lib.hid ht
      have HA := Lib.hid hA
      have HB := Lib.hid hB
      have HBw := Lib.hid hBw
      have hz := hBw.size
      clear hk ht hA hB hBw
      by_cases hkn : k < n
      · obtain ⟨la, hla⟩ : ∃ l, A[k]? = some l := ⟨A[k]'(by rw [← Hn.out]; exact hkn), List.getElem?_eq_getElem _⟩
        obtain ⟨lb, hlb⟩ : ∃ l, B[k]? = some l := ⟨B[k]'(by rw [← Hm.out]; exact hkn), List.getElem?_eq_getElem _⟩
        obtain ⟨g, o, c, p2, c2, hv, hg, hcl, hrb⟩ := HA.out.at hla
        obtain ⟨g', o', c', p2', c2', hv', hg', hcl', hrb'⟩ := HB.out.at hlb
        injection hv with e1 e2 e3
        injection hv' with e1' e2' e3'
        have He1 := Lib.hid e1
        have He1' := Lib.hid e1'
        obtain ⟨b, hb⟩ : ∃ b, b = (la == lb) := ⟨_, rfl⟩
        have hby := fun a => bytes_row la lb (.slice p2 la.length c2) (.slice p2' lb.length c2') (wr.drewN a) (RowB.below hrb (bdrew (Below.refl _ _) a)) (RowB.below hrb' (bdrew (Below.refl _ _) a))
        rw [← hb] at hby
        have HBy := Lib.hid hby
        have hnx : b = true → A.take (k + 1) = B.take (k + 1) := fun h => by
          rw [List.take_add_one, List.take_add_one, hla, hlb, Ht.out, eq_of_beq (hb.symm.trans h)]
        have hno : b = false → q = false := fun h => by
          rw [Hq.out]
          refine beq_false_of_ne (fun e => ?_)
          rw [e, hlb] at hla
          rw [Option.some.inj hla, beq_self_eq_true] at hb
          rw [hb] at h; cases h
        have Hnx := Lib.hid hnx
        have Hno := Lib.hid hno
        have hkI : (k : Int) < (n : Int) := by omega
        generalize la.length = l1 at *
        generalize lb.length = l2 at *
        rw [e1, e1']
        clear e1 e2 e3 e1' e2' e3' hla hlb hrb hrb' hby hb hnx hno
        go_wp2_with fail
        go_quiet ((go_at_call 9; exact Calls.quiet_of_same (HBy.out _)))
        obtain ⟨w5, hw5⟩ : ∃ w5, w5 = wr.drewN nq := ⟨_, rfl⟩
        have hb5 : Below wr.heap.size wr w5 := by rw [hw5]; exact bdrew (Below.refl _ _) nq
        rw [← hw5]
        have HA5 := Lib.hid (HA.out.below hb5)
        have HB5 := Lib.hid (HB.out.below hb5)
        have HBw5 := Lib.hid (HBw.out.trans (hb5.mono hz))
        clear hw5 hb5 HBy hcl hcl' HA HB HBw
        cases b with
        | true =>
          have HT := Lib.hid (Hnx.out rfl)
          go_wp2_with fail
          rw [← He1.out, ← He1'.out]
          go_roundg (gk - 1)
          case measure => have := Hk.out; omega
          case rel => exact ⟨k + 1, by have := Hk.out; omega, by go_num, HT.out, HA5.out, HB5.out, HBw5.out⟩
        | false =>
          obtain rfl := Hno.out rfl
          go_wp2_with fail
          go_ret
          exact ⟨rfl, HBw5.out⟩
      · have hkn' : k = n := by have := Hk.out; omega
        have hqt : q = true := by
          rw [Hq.out]
          have h := Ht.out
          rw [hkn', List.take_of_length_le (by rw [← Hn.out]; exact Nat.le_refl _), List.take_of_length_le (by rw [← Hm.out]; exact Nat.le_refl _)] at h
          rw [h]; exact beq_self_eq_true _
        clear Hq
        subst hqt
        go_wp2_with fail
        go_ret
        exact ⟨rfl, HBw.out⟩
  · have hqf : q = false := by
      rw [Hq.out]
      exact beq_false_of_ne (fun e => hnm (by rw [Hn.out, Hm.out, e]))
    have t1 : ((n : Int) != (m : Int)) = true := bne_t (by omega)
    have t2 : ((n : Int) == (m : Int)) = false := beq_f (by omega)
    clear Hq
    subst hqf
    go_enter Tryd.func27, Tryd.ntmps27
    go_wp2_with fail
    go_ret
    exact ⟨rfl, Below.refl _ _⟩
/-- a product's row -/
def rowR (r : List UInt8) (B : List (List UInt8)) : List UInt8 := if B.length = 0 then [] else Gv.tab (len0 B) (Mx.rsum r (en B) B.length)
def mmF (A B : List (List UInt8)) : Int := if chkF A ≠ 0 then chkF A else if chkF B ≠ 0 then chkF B else if A.length ≠ 0 ∧ len0 A ≠ B.length then 3 else 0
def mmR (A B : List (List UInt8)) : List (List UInt8) := if mmF A B = 0 then A.map (fun r => rowR r B) else []
def MmA (A B : List (List UInt8)) (w1 : World) (gk : Nat) (idx : Value) (wr : World) : Prop :=
  ∃ k : Nat, k + gk = 2 ∧ idx = iv k ∧ (0 < k → chkF A = 0) ∧ (1 < k → chkF B = 0) ∧ Below w1.heap.size w1 wr
def MmB (A B : List (List UInt8)) (w : World) (n gk : Nat) (v9 idx : Value) (wr : World) : Prop :=
  ∃ (k : Nat) (vs : List Value), k + gk = n ∧ idx = iv k ∧ wr.ownsRow w.heap.size 22 1 v9 k vs ∧
    (∀ (i : Nat) u r, vs[i]? = some u → A[i]? = some r → OwnB wr w.heap.size u (rowR r B) ∧ ∀ g, u.ownBlock = some g → v9.ownBlock ≠ some g) ∧ Below w.heap.size w wr
def MmPost (A B : List (List UInt8)) (w : World) (e : Ending) (w' : World) : Prop :=
  ∃ v, e = .returned (.tuple #[v, errV (mmF A B)]) ∧ RowsM w' v (mmR A B) ∧ Below w.heap.size w w'
theorem OwnB.one {w : World} {base : Nat} {v : Value} {l : List UInt8} (h : OwnB w base v l) : v.oneCell' = true := by
  obtain ⟨p, c, rfl, _⟩ := RowB.shape (OwnB.row h); rfl
/-- the row of a product, whatever there is below -/
theorem row_tot (r : List UInt8) (B : List (List UInt8)) (hB : chkF B = 0) (hr : B.length ≠ 0 → r.length = B.length) (vr vm : Value) (w : World) (hvr : RowB w vr r) (hvm : RowsM w vm B) :
    Calls Tryd.prog 69 #[vr, vm] w (RwPost (rowR r B) w) := by
  have hk := chkF_0 hB
  unfold rowR
  by_cases h0 : B.length = 0
  · rw [if_pos h0]
    obtain ⟨p, c, rfl, _⟩ := hvm.shape
    rw [h0]
    exact mrow_nil r p c vr w
  · rw [if_neg h0]
    have hM := lt_en (M := B) (L := len0 B) hk.2.2
    exact row_any r (en B) B.length (len0 B) (hr h0) (Nat.pos_of_ne_zero h0) (Nat.le_trans hk.1 (by decide)) (Nat.le_trans hk.2.1 (by decide)) vr vm w hvr (by rw [← hM]; exact hvm)
set_option maxRecDepth 100000 in
set_option maxHeartbeats 2000000 in
theorem mmul_tot (A B : List (List UInt8)) (va vb : Value) (w : World) (ha : RowsM w va A) (hb : RowsM w vb B) :
    Calls Tryd.prog 26 #[va, vb] w (MmPost A B w) := by
  obtain ⟨i0, hi, hz0, hz1, hz2⟩ := info_parts info_rowC
  have HInf := Lib.hid hi
  have HA := Lib.hid ha
  have HB := Lib.hid hb
  obtain ⟨pa, ca, rfl, ha1, ha2, ha3⟩ := ha.shape
  obtain ⟨pb, cb, rfl, hb1, hb2, _⟩ := hb.shape
  unfold maxLen at ha2 hb2
  obtain ⟨n, hn⟩ : ∃ n, n = A.length := ⟨_, rfl⟩
  obtain ⟨m, hm⟩ : ∃ m, m = B.length := ⟨_, rfl⟩
  rw [← hn] at HA ha1 ha3 ⊢
  rw [← hm] at HB hb1 ⊢
  have Hn := Lib.hid hn
  have Hm := Lib.hid hm
  have Ha3 := Lib.hid ha3
  obtain ⟨w1, hw1⟩ : ∃ w1, w1 = w.alloc (.cells #[.slice pa n ca, .slice pb m cb] 44) := ⟨_, rfl⟩
  have hbw1 : Below w.heap.size w w1 := by rw [hw1]; exact (Below.refl _ _).alloc (Nat.le_refl _) _
  have q0 : w1.cell? ⟨w.heap.size, 0, none⟩ = some (.slice pa n ca) := by rw [hw1, cell_of_row _ _ _ _ _ _ (heap_alloc_new w _)]; rfl
  have q1 : w1.cell? ⟨w.heap.size, 1, none⟩ = some (.slice pb m cb) := by rw [hw1, cell_of_row _ _ _ _ _ _ (heap_alloc_new w _)]; rfl
  have hs1 : w1.heap.size = w.heap.size + 1 := by rw [hw1]; simp
  have HB1 := Lib.hid hbw1
  have Q0 := Lib.hid q0
  have Q1 := Lib.hid q1
  have hlt : w.heap.size < w1.heap.size := by omega
  have hle : w.heap.size ≤ w1.heap.size := by omega
  obtain ⟨b0, hb0⟩ : ∃ b0, b0 = w.heap.size := ⟨_, rfl⟩
  rw [← hb0] at Q0 Q1 hlt
  clear ha hb hn hm ha3 hbw1 q0 q1 hs1 hi
  unfold MmPost
  obtain ⟨F, hF⟩ : ∃ F, F = mmF A B := ⟨_, rfl⟩
  obtain ⟨R, hR⟩ : ∃ R, R = mmR A B := ⟨_, rfl⟩
  rw [← hF, ← hR]
  have hRn : F ≠ 0 → R = [] := fun h => by rw [hR]; unfold mmR; rw [if_neg (by rw [← hF]; exact h)]
  have hRy : F = 0 → R = A.map (fun r => rowR r B) := fun h => by rw [hR]; unfold mmR; rw [if_pos (by rw [← hF]; exact h)]
  have HRn := Lib.hid hRn
  have HRy := Lib.hid hRy
  have HF := Lib.hid (show F = if chkF A ≠ 0 then chkF A else if chkF B ≠ 0 then chkF B else if A.length ≠ 0 ∧ len0 A ≠ B.length then 3 else 0 from hF)
  clear hRn hRy hF hR
  go_enter Tryd.func26, Tryd.ntmps26
  go_wp2_with fail
  rw [← hw1, ← hb0]
  clear hw1 hb0
  go_loopg [7, 8, 16] 2 (fun gk v7 v8 v16 wr => MmA A B w1 gk v16 wr)
  case atStart => exact ⟨0, by omega, rfl, (fun h => by omega), (fun h => by omega), Below.refl _ _⟩
  case round =>
    obtain ⟨k, hk, rfl, hkA, hkB, hBl⟩ := hrel
    have Hk := Lib.hid hk
    have HkA := Lib.hid hkA
    have HkB := Lib.hid hkB
    have HBl := Lib.hid hBl
    have hzl := hBl.size
    clear hkA hkB hBl
    by_cases hk2 : k < 2
    · have hcase : ∃ (M : List (List UInt8)) (vm : Value), RowsM wr vm M ∧ wr.cell? ⟨b0, k, none⟩ = some vm ∧ (chkF M = 0 → (0 < k + 1 → chkF A = 0) ∧ (1 < k + 1 → chkF B = 0)) ∧ (chkF M ≠ 0 → F = chkF M) := by
        have hbl := HB1.out.trans (HBl.out.mono hle)
        have h01 : k = 0 ∨ k = 1 := by omega
        rcases h01 with rfl | rfl
        · exact ⟨A, _, HA.out.below hbl, (HBl.out.cell (p := ⟨b0, 0, none⟩) hlt).trans Q0.out, fun h => ⟨fun _ => h, fun h => by omega⟩, fun h => by rw [HF.out, if_pos h]⟩
        · have hA0 := HkA.out (by omega)
          exact ⟨B, _, HB.out.below hbl, (HBl.out.cell (p := ⟨b0, 1, none⟩) hlt).trans Q1.out, fun h => ⟨fun _ => hA0, fun _ => h⟩, fun h => by rw [HF.out, if_neg (by simp [hA0]), if_pos h]⟩
      obtain ⟨M, vm, hM, d0, hyes, hno⟩ := hcase
      have HC := Lib.hid (check_any M vm wr hM)
      obtain ⟨C, hC⟩ : ∃ C, C = chkF M := ⟨_, rfl⟩
      rw [← hC] at HC hyes hno
      have Hyes := Lib.hid hyes
      have Hno := Lib.hid hno
      have hkI : (k : Int) < 2 := by omega
      obtain ⟨p9, n9, c9, rfl⟩ : ∃ p n c, vm = .slice p n c := by
        obtain ⟨p, c, h, _⟩ := hM.shape
        exact ⟨p, _, c, h⟩
      clear hM hC hyes hno hk
      by_cases hC0 : C = 0
      · subst hC0
        rw [errV_0] at HC
        go_wp2_with fail
        refine HC.out.mono ?_
        rintro e w2 ⟨rfl, hb2⟩
        have HB2 := Lib.hid (HBl.out.trans (hb2.mono hzl))
        clear hb2 HC d0
        go_wp2_with fail
        go_roundg (gk - 1)
        case measure => have := Hk.out; omega
        case rel => exact ⟨k + 1, by have := Hk.out; omega, by go_num, (Hyes.out (by first | rfl | trivial)).1, (Hyes.out (by first | rfl | trivial)).2, HB2.out⟩
      · have hFC := Hno.out hC0
        have hRe := HRn.out (by rw [hFC]; exact hC0)
        rw [errV_ne hC0] at HC
        have HRe := Lib.hid hRe
        subst hFC
        have HC0 := Lib.hid hC0
        clear hRe hC0
        go_wp2_with fail
        refine HC.out.mono ?_
        rintro e w2 ⟨rfl, hb2⟩
        have HB2 := Lib.hid (HB1.out.trans ((HBl.out.trans (hb2.mono hzl)).mono hle))
        clear hb2 HC d0
        go_wp2_with fail
        go_ret2
        exact ⟨_, by rw [errV_ne HC0.out]; rfl, by rw [HRe.out]; exact RowsM.nil _, HB2.out⟩
    · have hk2' : k = 2 := by omega
      have hA0 := HkA.out (by omega)
      have hB0 := HkB.out (by omega)
      have hF2 : F = if n ≠ 0 ∧ len0 A ≠ m then 3 else 0 := by rw [HF.out, if_neg (by simp [hA0]), if_neg (by simp [hB0]), ← Hn.out, ← Hm.out]
      have hBr := HB1.out.trans (HBl.out.mono hle)
      have HBr := Lib.hid hBr
      have hzr := hBr.size
      have HAr := Lib.hid (HA.out.below hBr)
      have HBr2 := Lib.hid (HB.out.below hBr)
      have HA0 := Lib.hid hA0
      have HB0 := Lib.hid hB0
      subst hk2'
      clear hBr HF hA0 hB0 hk HkA HkB Hk
      have hgo : (n ≠ 0 ∧ len0 A ≠ m) ∨ ¬ (n ≠ 0 ∧ len0 A ≠ m) := Classical.em _
      rcases hgo with ⟨hn0, hlm⟩ | hno
      · have hF3 : F = 3 := by rw [hF2, if_pos ⟨hn0, hlm⟩]
        have HRe := Lib.hid (HRn.out (by rw [hF3]; decide))
        obtain ⟨g, o, p0, c0, hpe, hg, hcell⟩ := Ha3.out (Nat.pos_of_ne_zero hn0)
        have hcr := (HB1.out.trans (HBl.out.mono hle)).cell (p := ⟨g, o, none⟩) hg |>.trans hcell
        have Hpe := Lib.hid hpe
        subst hpe
        obtain ⟨L, hL⟩ : ∃ L, L = len0 A := ⟨_, rfl⟩
        rw [← hL] at hcr hlm
        have t1 : (0 : Int) < (n : Int) := by omega
        have t2 : ((L : Int) != (m : Int)) = true := bne_t (by omega)
        have t3 : ((L : Int) == (m : Int)) = false := beq_f (by omega)
        clear hF2 hn0 hlm hcell hL
        subst hF3
        go_wp2_with fail
        go_ret2
        exact ⟨_, rfl, by rw [HRe.out]; exact RowsM.nil _, HBr.out⟩
      · have hF0 : F = 0 := by rw [hF2, if_neg hno]
        have HRy2 := Lib.hid (HRy.out hF0)
        have Hno := Lib.hid hno
        have hn12 : n ≤ 12 := by rw [Hn.out]; exact (chkF_0 HA0.out).1
        clear hF2 hno
        subst hF0
        go_upto_region 8 with (fail)
        go_cut [37] (fun z wq => z = .bool false ∧ wr = wq)
        case first =>
          by_cases hn0 : n = 0
          · have t1 : ¬ (0 : Int) < (n : Int) := by omega
            clear hn0
            go_wp2_with fail
            go_meet
            exact ⟨rfl, rfl⟩
          · obtain ⟨g, o, p0, c0, hpe, hg, hcell⟩ := Ha3.out (Nat.pos_of_ne_zero hn0)
            have hcr := (HB1.out.trans (HBl.out.mono hle)).cell (p := ⟨g, o, none⟩) hg |>.trans hcell
            subst hpe
            obtain ⟨L, hL⟩ : ∃ L, L = len0 A := ⟨_, rfl⟩
            rw [← hL] at hcr
            have hlm : L = m := Classical.byContradiction (fun hc => Hno.out ⟨hn0, by rw [← hL]; exact hc⟩)
            have t1 : (0 : Int) < (n : Int) := by omega
            have t2 : ((L : Int) != (m : Int)) = false := bne_f (by omega)
            have t3 : ((L : Int) == (m : Int)) = true := beq_t (by omega)
            clear hlm hcell hL hn0
            go_wp2_with fail
            go_meet
            exact ⟨rfl, rfl⟩
        case rest =>
          obtain ⟨rfl, rfl⟩ := hcut
          go_wp2_with fail
          go_loopg [9, 11, 41] n (fun gk v9 v11 v41 wr => MmB A B w n gk v9 v41 wr)
          case atStart => exact ⟨0, [], by omega, rfl, World.ownsRow_nil _ _ _ _, (fun i u r hu => by simp at hu), HBr.out⟩
          case round =>
            clear HBr HAr HBr2 HBl hzl hzr
            obtain ⟨k, vs, hk, rfl, hown, hvs, hBk⟩ := hrel
            have Hk := Lib.hid hk
            have HO := Lib.hid hown
            have HV := Lib.hid hvs
            have HBk := Lib.hid hBk
            have hz := hBk.size
            have hvl : vs.length = k := by simpa using hown.1
            have Hvl := Lib.hid hvl
            clear hk hown hvs hBk hvl
            by_cases hkn : k < n
            · obtain ⟨r, hr⟩ : ∃ r, A[k]? = some r := ⟨A[k]'(by rw [← Hn.out]; exact hkn), List.getElem?_eq_getElem _⟩
              obtain ⟨g, o, c, p2, c2, hv, hg, hcl, hrb⟩ := (HA.out.below HBk.out).at hr
              injection hv with e1 e2 e3
              have He1 := Lib.hid e1
              have hrl : B.length ≠ 0 → r.length = B.length := fun _ => by
                rw [(chkF_0 HA0.out).2.2 k r hr, ← Hm.out]
                exact Classical.byContradiction (fun hc => Hno.out ⟨by omega, hc⟩)
              have HRo := Lib.hid (row_tot r B HB0.out hrl (.slice p2 r.length c2) (.slice pb m cb) wr hrb (HB.out.below HBk.out))
              unfold RwPost at HRo
              have Hr := Lib.hid hr
              generalize r.length = rl at *
              rw [e1]
              clear e1 e2 e3 hr hrb hrl
              go_wp2_with fail
              refine HRo.out.mono ?_
              rintro e w2 ⟨v2, rfl, hO2, hb2⟩
              have hzw := hb2.size
              obtain ⟨pv, nv, cv, rfl⟩ := (OwnR.of_owns HO.out).slice
              obtain ⟨p3, c3, hv3', _, _⟩ := RowB.shape (OwnB.row hO2)
              obtain ⟨n3, hn3⟩ : ∃ n3, n3 = (rowR r B).length := ⟨_, rfl⟩
              rw [← hn3] at hv3'
              clear hn3
              subst hv3'
              have h1c := OwnB.one hO2
              have hbk2 := HBk.out.trans (hb2.mono hz)
              have hal : Below w2.heap.size w2 (w2.alloc (.cells #[.slice p3 n3 c3] 22)) := (Below.refl _ _).alloc (Nat.le_refl _) _
              have HOw := Lib.hid (owns_below (owns_below HO.out hb2) hal)
              have HO3 : Hid (OwnB (w2.alloc (.cells #[.slice p3 n3 c3] 22)) w.heap.size (.slice p3 n3 c3) (rowR r B)) := Lib.hid (OwnR.below (OwnR.mono hO2 hz) hal)
              have hlt2 : ∀ g, (Value.slice p3 n3 c3).ownBlock = some g → wr.heap.size ≤ g ∧ g < w2.heap.size := fun g hg => OwnR.lt hO2 hg
              have HLt2 := Lib.hid hlt2
              have hvo : ∀ g, (Value.slice pv nv cv).ownBlock = some g → g < wr.heap.size := fun g hg => (OwnR.lt (OwnR.of_owns HO.out) hg).2
              have HVo := Lib.hid hvo
              have hv3 : ∀ (i : Nat) u r', vs[i]? = some u → A[i]? = some r' → OwnB (w2.alloc (.cells #[.slice p3 n3 c3] 22)) w.heap.size u (rowR r' B) ∧ (∀ g, u.ownBlock = some g → g < wr.heap.size ∧ (Value.slice pv nv cv).ownBlock ≠ some g) := fun i u r' hu hr' => by
                obtain ⟨k1, k2⟩ := HV.out i u r' hu hr'
                exact ⟨OwnR.below (OwnR.below k1 hb2) hal, fun g hg => ⟨(OwnR.lt k1 hg).2, k2 g hg⟩⟩
              have HV3 := Lib.hid hv3
              have HB3 := Lib.hid (hbk2.trans (hal.mono hbk2.size))
              have hcz : (w2.alloc (.cells #[.slice p3 n3 c3] 22)).cell? ⟨w2.heap.size, 0, none⟩ = some (.slice p3 n3 c3) := by rw [cell_of_row _ _ _ _ _ _ (heap_alloc_new w2 _)]; rfl
              have Hcz := Lib.hid hcz
              have H1c := Lib.hid h1c
              have hsz : (w2.alloc (.cells #[.slice p3 n3 c3] 22)).heap.size = w2.heap.size + 1 := by simp
              have Hsz := Lib.hid hsz
              have hi := HInf.out
              clear hO2 hb2 hbk2 hal hlt2 hvo hv3 hcz h1c hsz HRo hcl HV
              go_wp2_with (at_builtin; refine wpList_append_lies _ rfl _ _ 44 rfl w.heap.size 22 i0 (.slice none 0 0) 1 24 Tryd.underlying44 hi hz0 hz1 hz2 rfl (by decide) _ k _ rfl HOw.out ⟨w2.heap.size, 0, none⟩ 1 1 [.slice p3 n3 c3] rfl rfl ?y2 ?y3 ?y4 ?y5 ?y6 ?y7 _ rfl ?_)
              case y2 =>
                intro q u hq
                have hq1 := (List.getElem?_eq_some_iff.1 hq).1
                have hq2 : q < 1 := hq1
                obtain rfl : q = 0 := by omega
                simp at hq
                rw [Addr.add_lit, ← hq]
                exact Hcz.out
              case y3 => intro u hu; simp at hu; rw [hu]; rfl
              case y4 => decide
              case y5 => unfold maxLen; omega
              case y6 => omega
              case y7 => rw [World.size_alloc]; omega
              intro g8 c8 w8 hown8 hgr8 hat8 hlt8
              have hk8 := Kept.grown hgr8
              have hv8 : ∀ (i : Nat) u r', (vs ++ [Value.slice p3 n3 c3])[i]? = some u → A[i]? = some r' → OwnB w8 w.heap.size u (rowR r' B) ∧ ∀ g, u.ownBlock = some g → (Value.slice (some ⟨g8, 0, none⟩) (k + 1) c8).ownBlock ≠ some g := fun i u r' hu hr' => by
                by_cases hik : i < k
                · rw [List.getElem?_append_left (by rw [Hvl.out]; exact hik)] at hu
                  obtain ⟨k1, k2⟩ := HV3.out i u r' hu hr'
                  refine ⟨OwnR.kept k1 hk8 (fun g hg e => (k2 g hg).2 e.symm), fun g hg e => ?_⟩
                  obtain ⟨k3, k4⟩ := k2 g hg
                  injection e with e
                  have e' : g8 = g := e
                  rcases hat8 with h | h
                  · exact k4 (by rw [h, e'])
                  · omega
                · have hvl' := Hvl.out
                  have hi9 := (List.getElem?_eq_some_iff.1 hu).1
                  rw [List.length_append, hvl'] at hi9
                  obtain rfl : i = k := by simp at hi9; omega
                  rw [List.getElem?_append_right (by omega), hvl', Nat.sub_self] at hu
                  have hu' : Value.slice p3 n3 c3 = u := Option.some.inj hu
                  rw [Hr.out] at hr'
                  obtain rfl : r = r' := Option.some.inj hr'
                  subst hu'
                  refine ⟨OwnR.kept HO3.out hk8 (fun g hg e => ?_), fun g hg e => ?_⟩
                  · have := HVo.out g e.symm
                    have := (HLt2.out g hg).1
                    omega
                  · injection e with e
                    have e' : g8 = g := e
                    have h1 := HLt2.out g hg
                    rcases hat8 with h | h
                    · have := HVo.out g8 h
                      omega
                    · omega
              have HV8 := Lib.hid hv8
              have HO8 := Lib.hid hown8
              have HB8 : Hid (Below w.heap.size w w8) := Lib.hid (HB3.out.trans (hk8.toBelow HB3.out.size (fun g hg e => by
                have h := (OwnR.lt (OwnR.of_owns HOw.out) e.symm).1
                exact h)))
              clear hown8 hgr8 hat8 hlt8 hk8 hv8 HV3 HO3 HOw HB3 Hcz H1c Hsz
              go_wp2_with fail
              rw [← He1.out]
              go_roundg (gk - 1)
              case measure => have := Hk.out; omega
              case rel => exact ⟨k + 1, _, by have := Hk.out; omega, by go_num, HO8.out, HV8.out, HB8.out⟩
            · have hkn' : k = n := by have := Hk.out; omega
              subst hkn'
              have HR : Hid (RowsM wr u9 R) := Lib.hid (by
                rw [HRy2.out]
                refine ⟨vs, OwnR.row (OwnR.of_owns HO.out), by rw [List.length_map, Hvl.out, Hn.out], fun i l hl => ?_⟩
                rw [List.getElem?_map] at hl
                cases hr : A[i]? with
                | none => rw [hr] at hl; cases hl
                | some r =>
                  rw [hr] at hl
                  have hin := (List.getElem?_eq_some_iff.1 hr).1
                  obtain ⟨u, hu⟩ : ∃ u, vs[i]? = some u := ⟨vs[i]'(by rw [Hvl.out, Hn.out]; exact hin), List.getElem?_eq_getElem _⟩
                  refine ⟨_, hu, ?_⟩
                  rw [← Option.some.inj hl]
                  exact OwnB.row (HV.out i _ r hu hr).1)
              clear HO HV
              go_wp2_with fail
              go_ret2
              exact ⟨_, rfl, HR.out, HBk.out⟩
end Go.Proofs.YtbikmodfmckaeaaDoor
