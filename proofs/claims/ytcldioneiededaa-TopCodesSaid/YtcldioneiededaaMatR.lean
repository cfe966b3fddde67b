/- Matrices of the call's own in memory; the walk of matrix.reduce. -/
import Derived.Test.YtcldioneiededaaFunG
import Derived.BigRegion
import Derived.RegionTactic
import Derived.Deep.DeepCutAuto
namespace Go.Proofs.Ytcldioneiededaa
open Go.ChangeShapes Go.WideShapes Go.ChangeAt Go.RowKit
set_option linter.unusedVariables false
theorem OwnR.cells {w : World} {B g o n c : Nat} {E : TypeId} {xs : List Value} (h : OwnR w B E (.slice (some ⟨g, o, none⟩) n c) xs) (hl : 0 < xs.length) :
    B ≤ g ∧ g < w.heap.size ∧ n = xs.length ∧ n ≤ c ∧ c ≤ maxLen ∧ (∀ j, j < n → w.cell? ⟨g, o + j, none⟩ = xs[j]?) ∧ ∀ i, w.frozen? ⟨g, i, none⟩ = false := by
  obtain ⟨g', o', c', hv, h1, h2, h3, h4, h5, h6⟩ := OwnR.at0 h hl
  injection hv with e1 e2 e3
  injection e1 with e1
  injection e1 with e4 e5
  subst e4 e5 e3
  exact ⟨h1, h2, e2, by omega, h4, fun j hj => h5 j (by omega), h6⟩
abbrev Plc := Nat × Nat × Nat
abbrev sv (L : Nat) (x : Plc) : Value := .slice (some ⟨x.1, x.2.1, none⟩) L x.2.2
def rvs (n L : Nat) (bs : Nat → Plc) : List Value := (List.range n).map (fun i => sv L (bs i))
theorem rvs_len (n L : Nat) (bs : Nat → Plc) : (rvs n L bs).length = n := by unfold rvs; simp
theorem rvs_get {n i : Nat} (L : Nat) (bs : Nat → Plc) (h : i < n) : (rvs n L bs)[i]? = some (sv L (bs i)) := by
  unfold rvs; rw [List.getElem?_map, List.getElem?_range h]; rfl
theorem rvs_set {n i : Nat} (L : Nat) (bs : Nat → Plc) (x : Plc) : (rvs n L bs).set i (sv L x) = rvs n L (fun r => if r = i then x else bs r) := by
  apply List.ext_getElem?
  intro j
  rw [List.getElem?_set, rvs_len]
  by_cases h : j < n
  · rw [rvs_get L _ h, rvs_get L _ h]
    by_cases e : i = j
    · subst e; rw [if_pos rfl, if_pos h, if_pos rfl]
    · rw [if_neg e, if_neg (fun h => e h.symm)]
  · rw [List.getElem?_eq_none (by rw [rvs_len]; omega), List.getElem?_eq_none (by rw [rvs_len]; omega)]
    split
    · rw [if_neg (by omega)]
    · rfl
/-- a matrix of one's own: n rows of L entries, each in its own block; their slices in block g -/
structure MatF (w : World) (B g o c n L : Nat) (bs : Nat → Plc) (m : Mx.Mt) : Prop where
  out : OwnR w B 74 (.slice (some ⟨g, o, none⟩) n c) (rvs n L bs)
  rows : ∀ i, i < n → OwnB w B (sv L (bs i)) (Gv.tab L (m i))
  ng : ∀ i, i < n → (bs i).1 ≠ g
  ap : ∀ i j, i < n → j < n → i ≠ j → (bs i).1 ≠ (bs j).1
namespace MatF
variable {w w1 : World} {B g o c n L : Nat} {bs : Nat → Plc} {m : Mx.Mt}
theorem outer (h : MatF w B g o c n L bs m) (h0 : 0 < n) : B ≤ g ∧ g < w.heap.size ∧ n ≤ c ∧ c ≤ maxLen ∧ (∀ j, j < n → w.cell? ⟨g, o + j, none⟩ = some (sv L (bs j))) ∧ ∀ i, w.frozen? ⟨g, i, none⟩ = false := by
  obtain ⟨h1, h2, _, h3, h4, h5, h6⟩ := OwnR.cells h.out (by rw [rvs_len]; exact h0)
  exact ⟨h1, h2, h3, h4, fun j hj => (h5 j hj).trans (rvs_get L bs hj), h6⟩
theorem keep {F : Nat → Prop} (h : MatF w B g o c n L bs m) (hk : Kept F w w1) (hg : ¬ F g) (hb : ∀ i, i < n → ¬ F (bs i).1) : MatF w1 B g o c n L bs m :=
  ⟨OwnR.kept h.out hk (fun b hb' => by cases hb'; exact hg), fun i hi => OwnR.kept (h.rows i hi) hk (fun b hb' => by cases hb'; exact hb i hi), h.ng, h.ap⟩
theorem below (h : MatF w B g o c n L bs m) (hb : Below w.heap.size w w1) : MatF w1 B g o c n L bs m := ⟨OwnR.below h.out hb, fun i hi => OwnR.below (h.rows i hi) hb, h.ng, h.ap⟩
theorem row {i : Nat} (h : MatF w B g o c n L bs m) (hi : i < n) (f : Nat → UInt8) (hO : OwnB w1 B (sv L (bs i)) (Gv.tab L f)) (hk : Kept (fun x => x = (bs i).1) w w1) : MatF w1 B g o c n L bs (fun r => if r = i then f else m r) := by
  refine ⟨OwnR.kept h.out hk (fun b hb' => by cases hb'; exact fun e => h.ng i hi e.symm), fun r hr => ?_, h.ng, h.ap⟩
  by_cases e : r = i
  · subst e; rw [if_pos rfl]; exact hO
  · rw [if_neg e]
    exact OwnR.kept (h.rows r hr) hk (fun b hb' => by cases hb'; exact h.ap r i hr hi e)
theorem ext {m' : Mx.Mt} (h : MatF w B g o c n L bs m) (he : ∀ i, i < n → ∀ j, j < L → m i j = m' i j) : MatF w B g o c n L bs m' :=
  ⟨h.out, fun i hi => by rw [← Gv.tab_ext (he i hi)]; exact h.rows i hi, h.ng, h.ap⟩
theorem swap {r k : Nat} (h : MatF w B g o c n L bs m) (hr : r < n) (hk : k < n) :
    MatF ((w.setCell ⟨g, o + r, none⟩ (sv L (bs k))).setCell ⟨g, o + k, none⟩ (sv L (bs r))) B g o c n L (fun i => bs (Mx.sg r k i)) (Mx.sw r k m) := by
  have h1 := OwnR.setAt h.out (k := r) (by rw [rvs_len]; exact hr) (sv L (bs k))
  have h2 := OwnR.setAt h1 (k := k) (by rw [List.length_set, rvs_len]; exact hk) (sv L (bs r))
  rw [rvs_set, rvs_set] at h2
  have e : (fun q => if q = k then bs r else if q = r then bs k else bs q) = fun i => bs (Mx.sg r k i) := by
    funext q
    unfold Mx.sg
    by_cases e1 : q = r
    · rw [if_pos e1]
      by_cases e2 : q = k
      · rw [if_pos e2, if_pos e1, ← e2, e1]
      · rw [if_neg e2, if_pos e1]
    · rw [if_neg e1]
      by_cases e2 : q = k
      · rw [if_pos e2, if_neg e1, if_pos e2]
      · rw [if_neg e2, if_neg e1, if_neg e2]
  rw [e] at h2
  refine ⟨h2, fun i hi => ?_, fun i hi => h.ng _ (Mx.sg_lt hr hk hi), fun i j hi hj hne => h.ap _ _ (Mx.sg_lt hr hk hi) (Mx.sg_lt hr hk hj) (fun e => hne ?_)⟩
  · have hng := h.ng _ (Mx.sg_lt hr hk hi)
    exact OwnB.other (OwnB.other (h.rows _ (Mx.sg_lt hr hk hi)) (fun e => hng (by injection e))) (fun e => hng (by injection e))
  · have := congrArg (Mx.sg r k) e
    rw [Mx.sg_sg, Mx.sg_sg] at this; exact this
end MatF
def RdRel (m : Mx.Mt) (w : World) (B g o c n L C gk : Nat) (v5 v11 : Value) (wr : World) : Prop :=
  ∃ q : Nat, q + gk = C ∧ v11 = iv q ∧ v5 = iv (Mx.el n m q).2 ∧ ∃ bs, MatF wr B g o c n L bs (Mx.el n m q).1 ∧ Below B w wr
def RdIn (m2 m3 : Mx.Mt) (w : World) (B g o c n L gk : Nat) (bs : Nat → Plc) (b6 q : Nat) (v54 : Value) (wr : World) : Prop :=
  ∃ i : Nat, i + gk = n ∧ v54 = iv i ∧ MatF wr B g o c n L bs (fun r => if r < i then m3 r else m2 r) ∧ wr.cell? ⟨b6, 0, none⟩ = some (iv q) ∧ Below B w wr
def RdPost (m : Mx.Mt) (w : World) (B g o c n L C : Nat) (e : Ending) (w' : World) : Prop :=
  e = .returned (iv (Mx.el n m C).2) ∧ ∃ bs, MatF w' B g o c n L bs (Mx.el n m C).1 ∧ Below B w w'
theorem inverse_st (a : UInt8) (w : World) : Calls Try.prog 65 #[.int .u8 a.toNat] w fun e w' => e = .returned (bv (Gf.inv a)) ∧ w' = w :=
  (inverse_any a _ rfl w).mono fun _ _ h => ⟨h.1, h.2.symm⟩
set_option maxRecDepth 100000 in
/-- does the row begin there? -/
theorem reduceP {n L q : Nat} {bs : Nat → Plc} {m : Mx.Mt} {B g o c : Nat} {w : World} (h : MatF w B g o c n L bs m) (hq : q < L) (b6 : Nat) (h6 : w.cell? ⟨b6, 0, none⟩ = some (iv q)) (i : Nat) (hi : i < n) :
    Calls Try.prog 68 (#[sv L (bs i)] ++ #[.pointer (some ⟨b6, 0, none⟩)]) w fun e w' => e = .returned (.bool (m i q != 0)) ∧ w = w' := by
  obtain ⟨_, hg, hx1, hc1, hc2, hc, hx2⟩ := OwnB.cells (h.rows i hi) (by rw [Gv.tab_len]; omega)
  clear hx1 hx2
  have d0 := hc q hq
  rw [show Gv.at' (Gv.tab L (m i)) q = m i q by show List.getD _ _ _ = _; rw [Gv.tab_at _ hq]] at d0
  unfold maxLen at hc2
  obtain ⟨x, hx⟩ : ∃ x, x = bs i := ⟨_, rfl⟩
  rw [← hx] at d0 hc1 hc2 ⊢
  obtain ⟨b, ob, cb⟩ := x
  have hqI : (q : Int) < (L : Int) := by omega
  simp only at d0 hc1 hc2 ⊢
  clear hc hx h
  by_cases hz : m i q = 0
  · rw [hz] at d0 ⊢
    show Calls Try.prog _ #[.slice (some ⟨b, ob, none⟩) L cb, .pointer (some ⟨b6, 0, none⟩)] w fun e w' => e = .returned (.bool false) ∧ w = w'
    clear hz
    go_enter Try.func68, Try.ntmps68
    go_wp2_with fail
    go_ret
    exact ⟨rfl, rfl⟩
  · rw [bne_iff_ne.2 hz]
    have hne := bv_ne hz
    have hne2 := bne_of_beq hne
    show Calls Try.prog _ #[.slice (some ⟨b, ob, none⟩) L cb, .pointer (some ⟨b6, 0, none⟩)] w fun e w' => e = .returned (.bool true) ∧ w = w'
    generalize m i q = y at *
    clear hz
    go_enter Try.func68, Try.ntmps68
    go_wp2_with fail
    go_ret
    exact ⟨rfl, rfl⟩
set_option maxRecDepth 100000 in
set_option maxHeartbeats 4000000 in
theorem reduce_any (m : Mx.Mt) (B g o c n L C : Nat) (h0 : 0 < n) (hCL : C ≤ L) (hL9 : L ≤ 1000000) (hn9 : n ≤ 1000000) (bs : Nat → Plc) (w : World) (hB : B ≤ w.heap.size) (h : MatF w B g o c n L bs m) :
    Calls Try.prog 57 #[.slice (some ⟨g, o, none⟩) n c, iv C] w (RdPost m w B g o c n L C) := by
  obtain ⟨hBg, _, hnc, hcm, _, _⟩ := h.outer h0
  unfold maxLen at hcm
  have HM := Lib.hid h
  clear h
  go_enter Try.func57, Try.ntmps57
  go_wp2_with fail
  go_loopg [5, 6, 7, 8, 9, 11] C (fun gk v5 v6 v7 v8 v9 v11 wr => RdRel m w B g o c n L C gk v5 v11 wr)
  case atStart => exact ⟨0, by omega, rfl, rfl, bs, HM.out, Below.refl _ _⟩
  case round =>
    clear HM
    obtain ⟨q, hq, rfl, rfl, bs, hM, hBe⟩ := hrel
    have Hq := Lib.hid hq
    have HBe := Lib.hid hBe
    have hz := hBe.size
    obtain ⟨r, hr⟩ : ∃ r, r = (Mx.el n m q).2 := ⟨_, rfl⟩
    obtain ⟨m0, hm0⟩ : ∃ m0, m0 = (Mx.el n m q).1 := ⟨_, rfl⟩
    have hEl : Mx.el n m q = (m0, r) := by rw [hr, hm0]
    have HEl := Lib.hid hEl
    have hrn : r ≤ n := by rw [hr]; exact (Mx.el_inv n m q).len
    rw [← hm0] at hM
    rw [← hr]
    have HM := Lib.hid hM
    clear hq hBe hM hr hm0 hEl
    by_cases hqC : q < C
    · have hqL : q < L := by omega
      obtain ⟨k, hk⟩ : ∃ k, k = Mx.pv n (m0, r) q := ⟨_, rfl⟩
      have hkg := Mx.pv_ge (n := n) (s := (m0, r)) q hrn
      rw [← hk] at hkg
      obtain ⟨b6, hb6⟩ : ∃ b6, b6 = wr.heap.size := ⟨_, rfl⟩
      obtain ⟨w6, hw6⟩ : ∃ w6, w6 = wr.alloc (.cells #[iv q] 3) := ⟨_, rfl⟩
      have hb6' : Below wr.heap.size wr w6 := by rw [hw6]; exact (Below.refl _ _).alloc (Nat.le_refl _) _
      have h6 : w6.cell? ⟨b6, 0, none⟩ = some (iv q) := by rw [hw6, hb6, cell_of_row _ _ _ _ _ _ (heap_alloc_new wr _)]; rfl
      have HM6 := Lib.hid (HM.out.below hb6')
      have HBe6 := Lib.hid (HBe.out.trans (hb6'.mono (by omega)))
      have hsz6 : w6.heap.size = wr.heap.size + 1 := by rw [hw6]; simp
      have hB6 : B ≤ w6.heap.size := by omega
      have hb6B : B ≤ b6 := by omega
      have H6 := Lib.hid h6
      have hgb : g < b6 := by rw [hb6]; exact (HM.out.outer h0).2.1
      have hlow : ∀ i, i < n → (bs i).1 < b6 := fun i hi => by rw [hb6]; exact (OwnR.lt (HM.out.rows i hi) (g := (bs i).1) rfl).2
      have Hlow := Lib.hid hlow
      clear hlow
      have eg := enters_of Try.func68 (by kernel_rfl) rfl
      have hpred : ∀ i ∈ List.range' r (n - r), Calls Try.prog 68 (#[sv L (bs i)] ++ #[.pointer (some ⟨b6, 0, none⟩)]) w6 fun e w' => e = .returned (.bool (m0 i q != 0)) ∧ w6 = w' := fun i hi => by
        have := List.mem_range'_1.1 hi
        exact reduceP HM6.out hqL b6 H6.out i (by omega)
      by_cases hrl : r < n
      · have hv6 : Row w6 (.slice (some ⟨g, o + r, none⟩) (n - r) (c - r)) ((List.range' r (n - r)).map (fun i => sv L (bs i))) := by
          obtain ⟨_, _, _, _, hcc, _⟩ := HM6.out.outer h0
          refine ⟨_, c - r, by rw [List.length_map, List.length_range'], by rw [List.length_map, List.length_range']; omega, by unfold maxLen; omega, (fun h => by cases h), fun _ => ⟨g, o + r, rfl, fun j hj => ?_⟩⟩
          rw [List.length_map, List.length_range'] at hj
          rw [List.getElem?_map, List.getElem?_range' (by omega), Nat.add_assoc, hcc (r + j) (by omega)]
          simp
        have HI := Lib.hid (indexFunc_rows (fun i => sv L (bs i)) (List.range' r (n - r)) (fun i => m0 i q != 0) _ _ eg _ w6 hv6 hpred)
        rw [firstQ_range] at HI
        rw [show Mx.fd (fun i => m0 i q != 0) r (n - r) = k from hk.symm, show r + (n - r) = n by omega] at HI
        have hcr : ¬ c = r := by omega
        clear hv6 hpred eg h6 hb6'
        by_cases hkn : k < n
        · rw [if_pos hkn] at HI
          obtain ⟨kk, hkk⟩ : ∃ kk, k = r + kk := ⟨k - r, by omega⟩
          have hst : Mx.el n m (q + 1) = (Mx.clr m0 r k q, r + 1) := by
            show Mx.st n (Mx.el n m q) q = _
            rw [HEl.out]; unfold Mx.st; rw [← hk, if_pos hkn]
          have Hst := Lib.hid hst
          rw [show k - r = kk by omega] at HI
          subst hkk
          clear hk hst
          go_wp2_with fail
          rw [← hb6]
          rw [show wr.alloc (.cells #[Value.int IntKind.i64 ↑q] 3) = w6 from hw6.symm]
          clear hb6 hw6 hsz6
          refine HI.out.mono ?_
          rintro e w7 ⟨rfl, rfl⟩
          obtain ⟨_, hgs, _, _, hcc, hfz⟩ := HM6.out.outer h0
          have d1 := hcc r hrl
          have d2 := hcc (r + kk) hkn
          have hwk : IntKind.i64.wrap ((r : Int) + (kk : Int)) = (r : Int) + (kk : Int) := IntWalk.i64_in _ (by omega)
          have hI1 : (r : Int) + (kk : Int) < (n : Int) := by omega
          have hI2 : (0 : Int) ≤ (r : Int) + (kk : Int) := by omega
          have hnat : ((r : Int) + (kk : Int)).toNat = r + kk := by omega
          have f1 := hfz (o + r)
          have f2 := hfz (o + (r + kk))
          have HSw := Lib.hid (HM6.out.swap hrl hkn)
          clear hcc hfz HI
          obtain ⟨x1, hx1⟩ : ∃ x, x = bs r := ⟨_, rfl⟩
          obtain ⟨x2, hx2⟩ : ∃ x, x = bs (r + kk) := ⟨_, rfl⟩
          rw [← hx1] at d1 HSw
          rw [← hx2] at d2 HSw
          have Hx1 := Lib.hid hx1
          have Hx2 := Lib.hid hx2
          clear hx1 hx2
          obtain ⟨p1, o1, c1⟩ := x1
          obtain ⟨p2, o2, c2⟩ := x2
          have d1' : w6.cell? ⟨g, o + r, none⟩ = some (.slice (some ⟨p1, o1, none⟩) L c1) := d1
          have d2' : w6.cell? ⟨g, o + (r + kk), none⟩ = some (.slice (some ⟨p2, o2, none⟩) L c2) := d2
          obtain ⟨y1, t1⟩ := cell?_setCell_some (w := w6) (p := ⟨g, o + r, none⟩) (x := .slice (some ⟨p2, o2, none⟩) L c2) (q := ⟨g, o + (r + kk), none⟩) d2'
          obtain ⟨y2, t2⟩ := cell?_setCell_some (w := w6) (p := ⟨g, o + (r + kk), none⟩) (x := .slice (some ⟨p1, o1, none⟩) L c1) (q := ⟨g, o + r, none⟩) d1'
          clear d1 d2
          go_wp2_with fail
          go_region
          obtain ⟨w8, hw8⟩ : ∃ w8, w8 = ((w6.setCell ⟨g, o + r, none⟩ (.slice (some ⟨p2, o2, none⟩) L c2)).setCell ⟨g, o + (r + kk), none⟩ (.slice (some ⟨p1, o1, none⟩) L c1)).drew := ⟨_, rfl⟩
          have hk8 : Kept (fun x => x = g) w6 w8 := by rw [hw8]; exact (((Kept.self g w6).set1 _ _).set1 _ _).drew
          have HM8 : Hid (MatF w8 B g o c n L (fun i => bs (Mx.sg r (r + kk) i)) (Mx.sw r (r + kk) m0)) := Lib.hid (by rw [hw8]; exact HSw.out.below (Below.refl _ _).drew)
          have hb6g : b6 ≠ g := fun e => by omega
          have HB8 : Hid (Below B w w8) := Lib.hid (HBe6.out.trans (hk8.toBelow hB6 (fun k _ e => by rw [e]; exact hBg)))
          have h86 := hk8.cell H6.out hb6g
          obtain ⟨bs', hbs'⟩ : ∃ bs', bs' = fun i => bs (Mx.sg r (r + kk) i) := ⟨_, rfl⟩
          have hlow' : ∀ i, i < n → (bs' i).1 < b6 := fun i hi => by rw [hbs']; exact Hlow.out _ (Mx.sg_lt hrl hkn hi)
          have Hlow' := Lib.hid hlow'
          have hbr : bs' r = (p2, o2, c2) := by rw [hbs']; show bs (Mx.sg r (r + kk) r) = _; unfold Mx.sg; rw [if_pos rfl]; exact Hx2.out.symm
          rw [← hbs'] at HM8
          obtain ⟨m1, hm1⟩ : ∃ m1, m1 = Mx.sw r (r + kk) m0 := ⟨_, rfl⟩
          rw [← hm1] at HM8
          obtain ⟨x, hx⟩ : ∃ x, x = m1 r q := ⟨_, rfl⟩
          obtain ⟨_, _, _, _, hcc, _⟩ := HM8.out.outer h0
          have e1 := hcc r hrl
          rw [hbr] at e1
          have hO := HM8.out.rows r hrl
          rw [hbr] at hO
          obtain ⟨_, _, hz1, hz2, hz3, hcx, hz4⟩ := OwnB.cells hO (by rw [Gv.tab_len]; omega)
          have e2 := hcx q hqL
          rw [show Gv.at' (Gv.tab L (m1 r)) q = x by show List.getD _ _ _ = _; rw [Gv.tab_at _ hqL, hx]] at e2
          have e1' : w8.cell? ⟨g, o + r, none⟩ = some (.slice (some ⟨p2, o2, none⟩) L c2) := e1
          obtain ⟨m2, hm2⟩ : ∃ m2, m2 = Mx.sc r (Gf.inv x) m1 := ⟨_, rfl⟩
          have hcl : Mx.clr m0 r (r + kk) q = Mx.ls r (fun i => m2 i q) m2 := by unfold Mx.clr; rw [← hm1, ← hx, ← hm2]
          obtain ⟨m3, hm3⟩ : ∃ m3, m3 = Mx.ls r (fun i => m2 i q) m2 := ⟨_, rfl⟩
          rw [hcl, ← hm3] at Hst
          have hsc : ∀ W, OwnB W B (sv L (p2, o2, c2)) (Gv.tab L (m1 r)) → Calls Try.prog 69 #[.slice (some ⟨p2, o2, none⟩) L c2, bv (Gf.inv x)] W (ScPost (Gv.tab L (m2 r)) W B p2 o2 L c2) := fun W hW => by
            have h := scale_any (Gv.tab L (m1 r)) L (by rw [Gv.tab_len]) (by omega) (Gf.inv x) B p2 o2 c2 W hW
            rw [show Gv.tab L (fun j => Gf.mul (Gv.at' (Gv.tab L (m1 r)) j) (Gf.inv x)) = Gv.tab L (m2 r) from Gv.tab_ext (fun j hj => by
              rw [hm2]; unfold Mx.sc; rw [if_pos rfl]; show Gf.mul (List.getD _ _ _) _ = _; rw [Gv.tab_at _ hj])] at h
            exact h
          have HSc := Lib.hid (hsc _ (OwnR.below hO (Below.refl _ _).drew))
          have hM9 : ∀ W, Kept (fun z => z = p2) w8 W → OwnB W B (sv L (p2, o2, c2)) (Gv.tab L (m2 r)) → MatF W B g o c n L bs' m2 := fun W hk hO' => by
            have h := HM8.out.row (i := r) hrl (m2 r) (by rw [hbr]; exact hO') (by rw [hbr]; exact hk)
            refine h.ext (fun i _ j _ => ?_)
            by_cases e : i = r
            · subst e; rw [if_pos rfl]
            · rw [if_neg e, hm2]; unfold Mx.sc; rw [if_neg e]
          have HM9 := Lib.hid hM9
          have hp2 : p2 < b6 := by have := Hlow'.out r hrl; rw [hbr] at this; exact this
          have hp2B : B ≤ p2 := (OwnR.lt hO (g := p2) rfl).1
          have Hm2 := Lib.hid hm2
          have Hm3 := Lib.hid hm3
          have Hbr := Lib.hid hbr
          have hqI : (q : Int) < (L : Int) := by omega
          have hrI : (r : Int) < (n : Int) := by omega
          rw [← hw8]
          clear hw8 hk8 HSw hbs' hlow' hbr hm1 hx hcc e1 hO hz1 hz2 hz3 hz4 hcx hm2 hm3 hcl hsc hM9 t1 t2 d1' d2' f1 f2 hwk hI1 hI2 hnat HM6 HBe6 HM H6 HEl
          go_wp2_with fail
          go_still_tail 12, (by kernel_rfl)
          still_call (inverse_st x _)
          repeat still_step
          refine wpStill_nil ?_
          clear e2 e1'
          go_wp2_with fail
          refine HSc.out.mono ?_
          rintro e w9 ⟨rfl, hO9, hk9⟩
          have hk9' : Kept (fun z => z = p2) w8 w9 := (Kept.self p2 w8).drew.also hk9
          have HMa := Lib.hid (HM9.out w9 hk9' hO9)
          have HBa : Hid (Below B w w9) := Lib.hid (HB8.out.trans (hk9'.toBelow (Nat.le_trans hB HB8.out.size) (fun k _ e => by rw [e]; exact hp2B)))
          have H6a := Lib.hid (hk9'.cell h86 (by omega))
          clear hk9' hO9 hk9 HSc HM9 HM8 h86 HB8
          obtain ⟨gO, hgO⟩ : ∃ x : Nat, x = gk := ⟨_, rfl⟩
          subst hgO
          go_wp2_with fail
          go_loopg [8, 9, 54] n (fun gk v8 v9 v54 wr => RdIn m2 m3 w B g o c n L gk bs' b6 q v54 wr)
          case atStart => exact ⟨0, by omega, rfl, HMa.out.ext (fun i _ j _ => by rw [if_neg (by omega)]), H6a.out, HBa.out⟩
          case round =>
            clear HMa H6a HBa
            obtain ⟨i, hi, rfl, hMi, h6i, hBi⟩ := hrel
            have Hi := Lib.hid hi
            have HMi := Lib.hid hMi
            have HBi := Lib.hid hBi
            have H6i := Lib.hid h6i
            clear hi hMi hBi h6i
            by_cases hin : i < n
            · have hiI : (i : Int) < (n : Int) := by omega
              obtain ⟨_, _, _, _, hcc, _⟩ := HMi.out.outer h0
              obtain ⟨xi, hxi⟩ : ∃ x, x = bs' i := ⟨_, rfl⟩
              obtain ⟨p3, o3, c3⟩ := xi
              have e3 := hcc i hin
              rw [← hxi] at e3
              have e3' : wr.cell? ⟨g, o + i, none⟩ = some (.slice (some ⟨p3, o3, none⟩) L c3) := e3
              by_cases hir : i = r
              · subst hir
                have te : ((i : Int) != (i : Int)) = false := bne_f rfl
                clear hcc hxi e3
                go_wp2_with fail
                go_roundg (gk - 1)
                case measure => have := Hi.out; omega
                case rel =>
                  refine ⟨i + 1, by have := Hi.out; omega, by go_num, HMi.out.ext (fun a _ j _ => ?_), H6i.out, HBi.out⟩
                  by_cases ea : a = i
                  · subst ea
                    rw [if_neg (by omega), if_pos (by omega), Hm3.out]; unfold Mx.ls; rw [if_pos rfl]
                  · by_cases hlt : a < i
                    · rw [if_pos hlt, if_pos (by omega)]
                    · rw [if_neg hlt, if_neg (by omega)]
              · have te : ((i : Int) != (r : Int)) = true := bne_t (by omega)
                have e4 := hcc r hrl
                rw [Hbr.out] at e4
                have e4' : wr.cell? ⟨g, o + r, none⟩ = some (.slice (some ⟨p2, o2, none⟩) L c2) := e4
                have hOi := HMi.out.rows i hin
                rw [← hxi] at hOi
                rw [if_neg (by omega)] at hOi
                have hOr := HMi.out.rows r hrl
                rw [Hbr.out] at hOr
                have hrow : (if r < i then m3 r else m2 r) = m2 r := by
                  by_cases hh : r < i
                  · rw [if_pos hh, Hm3.out]; funext j; unfold Mx.ls; rw [if_pos rfl]
                  · rw [if_neg hh]
                rw [hrow] at hOr
                obtain ⟨_, _, hz1, hz2, hz3, hcx, hz4⟩ := OwnB.cells hOi (by rw [Gv.tab_len]; omega)
                have e5 := hcx q hqL
                obtain ⟨y, hy⟩ : ∃ y, y = m2 i q := ⟨_, rfl⟩
                rw [show Gv.at' (Gv.tab L (m2 i)) q = y by show List.getD _ _ _ = _; rw [Gv.tab_at _ hqL, hy]] at e5
                have hp3 : p3 ≠ p2 := by
                  have := HMi.out.ap i r hin hrl hir
                  rw [← hxi, Hbr.out] at this; exact this
                have hp3B : B ≤ p3 := (OwnR.lt hOi (g := p3) rfl).1
                have hp36 : p3 < b6 := by have := Hlow'.out i hin; rw [← hxi] at this; exact this
                have hls : ∀ W, Below wr.heap.size wr W → Calls Try.prog 70 #[.slice (some ⟨p3, o3, none⟩) L c3, .slice (some ⟨p2, o2, none⟩) L c2, bv y] W (ScPost (Gv.tab L (m3 i)) W B p3 o3 L c3) := fun W hW => by
                  have h := less_any (Gv.tab L (m2 i)) (Gv.tab L (m2 r)) L (by rw [Gv.tab_len]) (by rw [Gv.tab_len]) (by omega) y B p3 o3 c3 p2 o2 c2 (Ne.symm hp3) W (OwnR.below hOi hW) (RowB.below (OwnB.row hOr) hW)
                  rw [show Gv.tab L (lsf (Gv.tab L (m2 i)) (Gv.tab L (m2 r)) y) = Gv.tab L (m3 i) from Gv.tab_ext (fun j hj => by
                    rw [Hm3.out]; unfold lsf Mx.ls; rw [if_neg hir]
                    show List.getD _ _ _ ^^^ Gf.mul (List.getD _ _ _) _ = _
                    rw [Gv.tab_at _ hj, Gv.tab_at _ hj, hy])] at h
                  exact h
                have HLs := Lib.hid (hls _ (Below.refl _ _).drew)
                have hM9 : ∀ W, Kept (fun z => z = p3) wr W → OwnB W B (sv L (p3, o3, c3)) (Gv.tab L (m3 i)) → MatF W B g o c n L bs' (fun a => if a < i + 1 then m3 a else m2 a) := fun W hk hO' => by
                  have h := HMi.out.row (i := i) hin (m3 i) (by rw [← hxi]; exact hO') (by rw [← hxi]; exact hk)
                  refine h.ext (fun a _ j _ => ?_)
                  by_cases e : a = i
                  · subst e; rw [if_pos rfl, if_pos (by omega)]
                  · rw [if_neg e]
                    by_cases hlt : a < i
                    · rw [if_pos hlt, if_pos (by omega)]
                    · rw [if_neg hlt, if_neg (by omega)]
                have HM9 := Lib.hid hM9
                have h6' := H6i.out
                clear hcc hxi e3 e4 hOi hOr hrow hz1 hz2 hz3 hz4 hcx hy hls hM9
                go_wp2_with fail
                go_still_tail 9, (by kernel_rfl)
                clear e3' e4' e5
                go_wp2_with fail
                refine HLs.out.mono ?_
                rintro e w9 ⟨rfl, hO9, hk9⟩
                have hk9' : Kept (fun z => z = p3) wr w9 := (Kept.self p3 wr).drew.also hk9
                have HMa := Lib.hid (HM9.out w9 hk9' hO9)
                have HBa : Hid (Below B w w9) := Lib.hid (HBi.out.trans (hk9'.toBelow (Nat.le_trans hB HBi.out.size) (fun k _ e => by rw [e]; exact hp3B)))
                have H6a := Lib.hid (hk9'.cell h6' (by omega))
                clear hk9' hO9 hk9 HLs HM9 h6'
                go_wp2_with fail
                go_roundg (gk - 1)
                case measure => have := Hi.out; omega
                case rel => exact ⟨i + 1, by have := Hi.out; omega, by go_num, HMa.out, H6a.out, HBa.out⟩
            · have hin' : i = n := by have := Hi.out; omega
              have hM' := HMi.out.ext (m' := m3) (fun a ha j _ => by rw [if_pos (by omega)])
              have HM' := Lib.hid hM'
              clear hM'
              subst hin'
              go_wp2_with fail
              go_roundg (gO - 1)
              case measure => have := Hq.out; omega
              case rel => exact ⟨q + 1, by have := Hq.out; omega, by go_num, by rw [Hst.out]; go_num, bs', by rw [Hst.out]; exact HM'.out, HBi.out⟩
        · have hst : Mx.el n m (q + 1) = (m0, r) := by
            show Mx.st n (Mx.el n m q) q = _
            rw [HEl.out]; unfold Mx.st; rw [← hk, if_neg hkn]
          have Hst := Lib.hid hst
          rw [if_neg hkn] at HI
          clear hk hst
          go_wp2_with fail
          rw [← hb6]
          rw [show wr.alloc (.cells #[Value.int IntKind.i64 ↑q] 3) = w6 from hw6.symm]
          clear hb6 hw6 hsz6
          refine HI.out.mono ?_
          rintro e w7 ⟨rfl, rfl⟩
          clear HI
          go_wp2_with fail
          go_roundg (gk - 1)
          case measure => have := Hq.out; omega
          case rel => exact ⟨q + 1, by have := Hq.out; omega, by go_num, by rw [Hst.out], bs, by rw [Hst.out]; exact HM6.out, HBe6.out⟩
      · have hrn' : r = n := by omega
        subst hrn'
        have hst : Mx.el r m (q + 1) = (m0, r) := by
          show Mx.st r (Mx.el r m q) q = _
          rw [HEl.out]; unfold Mx.st; rw [← hk, if_neg (by omega)]
        have Hst := Lib.hid hst
        have HI : Hid (∀ (p : Option Addr) c', p ≠ none → c' ≤ maxLen → Calls Try.prog 67 #[.slice p 0 c', .func (.func 68) #[] #[.pointer (some ⟨b6, 0, none⟩)]] w6 fun e w' => e = .returned (iv (-1)) ∧ w6 = w') := Lib.hid (fun p c' hp hc' => by
          have h := indexFunc_rows (fun i => sv L (bs i)) [] (fun i => m0 i q != 0) _ #[.pointer (some ⟨b6, 0, none⟩)] eg (.slice p 0 c') w6 ⟨p, c', rfl, Nat.zero_le _, hc', fun h => absurd h hp, fun h => absurd h (by simp)⟩ (fun x hx => by cases hx)
          exact h)
        clear hk hst hpred eg h6 hb6' hkg
        by_cases hcr : c = r
        · subst hcr
          go_wp2_with fail
          rw [← hb6]
          rw [show wr.alloc (.cells #[Value.int IntKind.i64 ↑q] 3) = w6 from hw6.symm]
          clear hb6 hw6 hsz6
          refine (HI.out _ _ (by simp) (by unfold maxLen; omega)).mono ?_
          rintro e w7 ⟨rfl, rfl⟩
          clear HI
          go_wp2_with fail
          go_roundg (gk - 1)
          case measure => have := Hq.out; omega
          case rel => exact ⟨q + 1, by have := Hq.out; omega, by go_num, by rw [Hst.out], bs, by rw [Hst.out]; exact HM6.out, HBe6.out⟩
        · go_wp2_with fail
          rw [← hb6]
          rw [show wr.alloc (.cells #[Value.int IntKind.i64 ↑q] 3) = w6 from hw6.symm]
          clear hb6 hw6 hsz6
          refine (HI.out _ _ (by simp) (by unfold maxLen; omega)).mono ?_
          rintro e w7 ⟨rfl, rfl⟩
          clear HI
          go_wp2_with fail
          go_roundg (gk - 1)
          case measure => have := Hq.out; omega
          case rel => exact ⟨q + 1, by have := Hq.out; omega, by go_num, by rw [Hst.out], bs, by rw [Hst.out]; exact HM6.out, HBe6.out⟩
    · have hqC' : q = C := by have := Hq.out; omega
      subst hqC'
      have Hr : Hid ((Mx.el n m q).2 = r) := Lib.hid (by rw [HEl.out])
      have Hm : Hid ((Mx.el n m q).1 = m0) := Lib.hid (by rw [HEl.out])
      clear hqC
      go_wp2_with fail
      go_ret
      exact ⟨by rw [Hr.out]; rfl, bs, by rw [Hm.out]; exact HM.out, HBe.out⟩
end Go.Proofs.Ytcldioneiededaa
