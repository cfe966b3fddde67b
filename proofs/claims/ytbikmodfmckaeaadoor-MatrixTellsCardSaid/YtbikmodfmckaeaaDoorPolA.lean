/- The walk of poly.at: a range over the library's Backward. -/
import Derived.Test.YtbikmodfmckaeaaDoorPolT
import Derived.RangeFuncBox
import Derived.RangeFuncCalls
import Derived.RangeFuncLeaves
import Derived.RangeFuncWrites
import Derived.Shelf.Abstract
import Derived.WalkKit
import Derived.OwnWalkIn
import Derived.TacticsInMore
import Derived.TacticsIn
import Derived.RegionIn
import Derived.LoopNIn
import Derived.LoopIn
namespace Go.Proofs.YtbikmodfmckaeaaDoor
open Go.ChangeShapes Go.WideShapes Go.ChangeAt Go.RowKit Go.Shelf
set_option linter.unusedVariables false
attribute [local go_sem] Oper.semAt_some
/-- what has come when k rounds are over -/
def upB (l : List UInt8) (k : Nat) : List (Nat × UInt8) := (List.range k).map (fun t => (l.length - 1 - t, Pl.cf l (l.length - 1 - t)))
theorem upB_succ (l : List UInt8) (k : Nat) : upB l (k + 1) = upB l k ++ [(l.length - 1 - k, Pl.cf l (l.length - 1 - k))] := by unfold upB; simp [List.range_succ]
theorem upB_len (l : List UInt8) (k : Nat) : (upB l k).length = k := by simp [upB]
/-- all blocks of cells but one stay -/
def KpC (ob : Nat) (W W' : World) : Prop := W.heap.size ≤ W'.heap.size ∧ ∀ (k : Nat) (o : Obj), W.heap[k]? = some o → o.isCells = true → k ≠ ob → W'.heap[k]? = some o
theorem KpC.refl (ob : Nat) (W : World) : KpC ob W W := ⟨Nat.le_refl _, fun _ _ h _ _ => h⟩
theorem KpC.trans {ob : Nat} {A B C : World} (h : KpC ob A B) (k : KpC ob B C) : KpC ob A C := ⟨Nat.le_trans h.1 k.1, fun i o hi ho hne => k.2 i o (h.2 i o hi ho hne) ho hne⟩
theorem KpC.ofKept {ob : Nat} {A B : World} (h : Kept (· = ob) A B) : KpC ob A B := ⟨h.size, fun k _ hk _ hne => (h.block k (Array.getElem?_eq_some_iff.1 hk).1 hne).trans hk⟩
theorem KpC.cell {ob : Nat} {A B : World} (h : KpC ob A B) {b o : Nat} {v : Value} (hc : A.cell? ⟨b, o, none⟩ = some v) (hne : b ≠ ob) : B.cell? ⟨b, o, none⟩ = some v := by
  obtain ⟨ob', ho, hcl⟩ := cells_of_cell hc
  have h2 := h.2 b ob' ho hcl hne
  rw [← hc]
  exact World.cell?_of_block (h2.trans ho.symm)
set_option maxRecDepth 100000 in
set_option maxHeartbeats 2000000 in
theorem back1_in (n : Nat) (hn : 1 ≤ n) (l Bs ob b off cap : Nat) (ls : List UInt8) (h9 : ls.length ≤ 1000000) (hb : b ≠ ob) (J Jx : List (Nat × UInt8) → World → Prop)
    (hY : ∀ pre x W, J pre W → pre.length < ls.length → YieldAt Fence.wide (n - 1) Tryd.prog l #[.int .i64 (x.1 : Int), bv x.2] W fun e W' =>
      (e = .returned (.bool true) ∧ J (pre ++ [x]) W' ∧ KpC ob W W') ∨ (e = .returned (.bool false) ∧ Jx (pre ++ [x]) W'))
    (W : World) (hBs : W.cell? ⟨Bs, 0, none⟩ = some (.slice (some ⟨b, off, none⟩) ls.length cap)) (hBn : Bs ≠ ob) (hc : ∀ j, j < ls.length → W.cell? ⟨b, off + j, none⟩ = some (bv (Pl.cf ls j))) (h0 : J [] W) :
    CallsIn Fence.wide n Tryd.prog 103 #[.func (.yield l) #[] #[], .pointer (some ⟨Bs, 0, none⟩)] W fun e W' => (∃ v, e = .returned v) ∧
      ((∃ ys, ys = upB ls ls.length ∧ J ys W') ∨ (∃ pre, (∃ k, k ≤ ls.length ∧ pre = upB ls k) ∧ Jx pre W')) := by
  refine callsIn_of_wp Tryd.func103 rfl trivial ?_ rfl
  simp only [Tryd.ntmps103, List.size_toArray, List.length_cons, List.length_nil, Nat.reduceAdd, Nat.reduceSub, Array.replicate_succ, Array.replicate_zero, List.push_toArray, List.append_toArray, List.nil_append, List.cons_append]
  have hw : IntKind.i64.wrap ((ls.length : Int) - 1) = (ls.length : Int) - 1 := IntWalk.i64_in _ (by omega)
  gi_wp2
  gi_loopw [3] (fun i wr => ∃ q : Nat, q ≤ ls.length ∧ i = .int .i64 ((q : Int) - 1) ∧ J (upB ls (ls.length - q)) wr ∧ KpC ob W wr)
    (fun i _ => (intOf i + 1).toNat)
  case atStart => exact ⟨ls.length, Nat.le_refl _, rfl, by rw [Nat.sub_self]; exact h0, KpC.refl _ _⟩
  case round =>
    obtain ⟨q, hq, rfl, hJs, hnx⟩ := hrel
    cases q with
    | zero =>
      rw [show (((0 : Nat) : Int) - 1) = -1 by omega]
      rw [Nat.sub_zero] at hJs
      gi_wp2
      go_end0
      exact ⟨⟨_, rfl⟩, .inl ⟨_, rfl, hJs⟩⟩
    | succ q =>
      rw [show (((q + 1 : Nat) : Int) - 1) = (q : Int) by omega]
      have hk : ls.length - (q + 1) < ls.length := by omega
      have hidx : ls.length - 1 - (ls.length - (q + 1)) = q := by omega
      have hqI : (0 : Int) ≤ (q : Int) := by omega
      have hqL : (q : Int) < (ls.length : Int) := by omega
      have cB := hnx.cell hBs hBn
      have cq := hnx.cell (hc q (by omega)) hb
      obtain ⟨x, hx⟩ : ∃ x, x = Pl.cf ls q := ⟨_, rfl⟩
      rw [← hx] at cq
      obtain ⟨fn, tmps, assign, body, hy, hR⟩ := hY _ (q, x) wr hJs (by rw [upB_len]; exact hk)
      dsimp only at hy
      have hnext : upB ls (ls.length - (q + 1)) ++ [(q, x)] = upB ls (ls.length - q) := by
        have h := upB_succ ls (ls.length - (q + 1))
        rw [hidx, ← hx, show ls.length - (q + 1) + 1 = ls.length - q by omega] at h
        exact h.symm
      rw [hnext] at hR
      clear hx hnext hc hY
      gi_wp2
      refine hR.mono ?_
      rintro e W3 (⟨rfl, hJ3, hk3⟩ | ⟨rfl, hJx3⟩)
      · have hwq : IntKind.i64.wrap ((q : Int) - 1) = (q : Int) - 1 := IntWalk.i64_in _ (by omega)
        gi_wp2
        go_roundw
        case rel => exact ⟨q, by omega, by simp, hJ3, hnx.trans hk3⟩
        case measure => simp [intOf]
      · gi_wp2
        refine bodyPost_ret (results_none rfl _ _ _) rfl ?_
        exact ⟨⟨_, rfl⟩, .inr ⟨_, ⟨ls.length - q, by omega, rfl⟩, hJx3⟩⟩
set_option maxRecDepth 100000 in
set_option maxHeartbeats 1000000 in
theorem back1_nil (n : Nat) (l Bs : Nat) (p : Option Addr) (cap : Nat) (J : List (Nat × UInt8) → World → Prop) (W : World) (hBs : W.cell? ⟨Bs, 0, none⟩ = some (.slice p 0 cap)) (h0 : J [] W) :
    CallsIn Fence.wide n Tryd.prog 103 #[.func (.yield l) #[] #[], .pointer (some ⟨Bs, 0, none⟩)] W fun e W' => (∃ v, e = .returned v) ∧ J [] W' := by
  refine callsIn_of_wp Tryd.func103 rfl trivial ?_ rfl
  simp only [Tryd.ntmps103, List.size_toArray, List.length_cons, List.length_nil, Nat.reduceAdd, Nat.reduceSub, Array.replicate_succ, Array.replicate_zero, List.push_toArray, List.append_toArray, List.nil_append, List.cons_append]
  have hw : IntKind.i64.wrap ((0 : Int) - 1) = -1 := by decide
  gi_wp2
  gi_loopw [3] (fun i wr => i = .int .i64 (-1) ∧ J [] wr) (fun _ _ => 0)
  case atStart => exact ⟨rfl, h0⟩
  case round =>
    obtain ⟨rfl, hJs⟩ := hrel
    gi_wp2
    go_end0
    exact ⟨⟨_, rfl⟩, hJs⟩
theorem back_stops (n : Nat) (hn : 1 ≤ n) (Bs ob : Nat) (v : Value) (ls : List UInt8) (h9 : ls.length ≤ 1000000) (w : World) (hBs : Bs < w.heap.size) (hBn : Bs ≠ ob) (hob : ob < w.heap.size) (hc : w.cell? ⟨Bs, 0, none⟩ = some v) (hv : RowB w v ls) (hvo : 0 < ls.length → ∀ g, v.ownBlock = some g → g ≠ ob) :
    SeqStopsK Fence.wide n Tryd.prog 103 #[.pointer (some ⟨Bs, 0, none⟩)] (fun x : Nat × UInt8 => #[Value.int .i64 (x.1 : Int), bv x.2]) (KpC ob) (fun ys => ys = upB ls ls.length)
      (fun pre => ∃ k, k ≤ ls.length ∧ pre = upB ls k) ls.length w := fun l J Jx W hW _ _ hY h0 => by
  have hc' := (hW.cell (p := ⟨Bs, 0, none⟩) hBs).trans hc
  by_cases hl : ls.length = 0
  · obtain ⟨p, cap, rfl, _, _⟩ := hv.shape
    rw [hl] at hc'
    have he : upB ls ls.length = [] := by rw [hl]; rfl
    exact (back1_nil n l Bs p cap J W hc' h0).mono fun e W' ⟨h1, hj⟩ => ⟨h1, .inl ⟨_, he.symm, hj⟩⟩
  · obtain ⟨g, o, cap, rfl, hg, _, _, _⟩ := hv.cellAt (j := 0) (by omega)
    refine back1_in n hn l Bs ob g o cap ls h9 (hvo (by omega) g rfl) J Jx hY W hc' hBn (fun j hj => ?_) h0
    obtain ⟨g', o', cap', hv', hg', _, _, hcj⟩ := hv.cellAt (j := j) hj
    injection hv' with e1 e2 e3
    injection e1 with e1
    injection e1 with e4 e5
    subst e4 e5
    exact (hW.cell (p := ⟨g, o + j, none⟩) hg).trans hcj
theorem backw_any (v : Value) (p : Option Addr) (n c : Nat) (w : World) :
    Calls Tryd.prog 90 #[.slice p n c] w fun e w' => e = .returned (.func (.func 103) #[] #[.pointer (some ⟨w.heap.size, 0, none⟩)]) ∧ w' = w.alloc (.cells #[.slice p n c] 22) := by
  go_enter Tryd.func90, Tryd.ntmps90
  go_wp2
  go_ret
  exact ⟨rfl, rfl⟩
/-- what the loop reckons -/
def hor (x : UInt8) (pre : List (Nat × UInt8)) : UInt8 := pre.foldl (fun o p => Gf.mul o x ^^^ p.2) 0
theorem hor_snoc (x : UInt8) (pre : List (Nat × UInt8)) (p : Nat × UInt8) : hor x (pre ++ [p]) = Gf.mul (hor x pre) x ^^^ p.2 := by simp [hor]
theorem hor_up (x : UInt8) (l : List UInt8) : ∀ k, k ≤ l.length → hor x (upB l k) = Gv.xsum k (fun j => Gf.mul (Pl.cf l (l.length - k + j)) (Gf.pow x j))
  | 0, _ => rfl
  | k + 1, h => by
    rw [upB_succ, hor_snoc, hor_up x l k (by omega), Nat.add_comm k 1, Gv.xsum_add]
    show _ = (0 ^^^ Gf.mul (Pl.cf l (l.length - (1 + k) + 0)) (Gf.pow x 0)) ^^^ _
    rw [Gf.zero_add, show Gf.pow x 0 = 1 from rfl, Gf.mul_one, Nat.add_zero, Gf.add_comm, show l.length - (1 + k) = l.length - 1 - k by omega]
    congr 1
    rw [Gv.mul_xsum]
    refine Gv.xsum_congr (fun j _ => ?_)
    rw [show l.length - 1 - k + (1 + j) = l.length - k + j by omega, Gf.mul_assoc]
    congr 1
    rw [Nat.add_comm 1 j, Gf.mul_comm]
    rfl
theorem hor_ev (x : UInt8) (l : List UInt8) : hor x (upB l l.length) = Pl.ev l x := by
  rw [hor_up x l l.length (Nat.le_refl _)]
  unfold Pl.ev
  exact Gv.xsum_congr (fun j _ => by rw [Nat.sub_self, Nat.zero_add])
set_option maxRecDepth 100000 in
set_option maxHeartbeats 2000000 in
theorem at_any (l : List UInt8) (h9 : l.length ≤ 1000000) (x : UInt8) (v : Value) (w : World) (hv : RowB w v l) :
    Calls Tryd.prog 58 #[v, bv x] w fun e w' => e = .returned (bv (Pl.ev l x)) ∧ Below w.heap.size w w' := by
  have hvv := hv
  obtain ⟨p, cap, rfl, _, _⟩ := hv.shape
  refine (callsIn_wide (n := 5)).1 ?_
  refine callsIn_of_wp_marks Tryd.func58 rfl trivial ?_ rfl
  simp only [Tryd.ntmps58, List.size_toArray, List.length_cons, List.length_nil, Nat.reduceAdd, Nat.reduceSub, Array.replicate_succ, Array.replicate_zero, List.push_toArray, List.append_toArray, List.nil_append, List.cons_append]
  gi_wp2_with (refine ⟨trivial, ?_⟩; gi_at_call 90; refine (callsIn_wide.2 (backw_any .nilIface _ _ _ _)).mono ?_; rintro e w' ⟨rfl, rfl⟩)
  obtain ⟨w3, hw3⟩ : ∃ w3, w3 = ((w.alloc (.cells #[bv x] 5)).alloc (.cells #[.int .u8 0] 5)).alloc (.cells #[.slice p l.length cap] 22) := ⟨_, rfl⟩
  have hb3 : Below w.heap.size w w3 := by rw [hw3]; exact (((Below.refl _ w).alloc (Nat.le_refl _) _).alloc (by simp) _).alloc (by simp; omega) _
  have hz3 : w3.heap.size = w.heap.size + 3 := by rw [hw3]; simp
  have cx : w3.cell? ⟨w.heap.size, 0, none⟩ = some (bv x) := by rw [hw3]; exact (((Boxed.new w 5 (bv x)).alloc _).alloc _).cell
  have bo : Boxed w3 (w.heap.size + 1) 5 (.int .u8 0) := by
    rw [hw3]
    have h := Boxed.new (w.alloc (.cells #[bv x] 5)) 5 (.int .u8 0)
    rw [World.size_alloc] at h
    exact h.alloc _
  have cs : w3.cell? ⟨w.heap.size + 1 + 1, 0, none⟩ = some (.slice p l.length cap) := by
    rw [hw3]
    have h := Boxed.new ((w.alloc (.cells #[bv x] 5)).alloc (.cells #[.int .u8 0] 5)) 22 (.slice p l.length cap)
    rw [World.size_alloc, World.size_alloc] at h
    exact h.cell
  rw [← hw3]
  have hrow3 : RowB w3 (.slice p l.length cap) l := RowB.below hv hb3
  clear hw3
  refine wpIn_rangeFunc_ownG (P := Tryd.prog) rfl (by omega) (gf := 103) (lb := #[.pointer (some ⟨w.heap.size + 1 + 1, 0, none⟩)]) rfl trivial (enters_of Tryd.func103 (by kernel_rfl) rfl)
    (back_stops 4 (by omega) (w.heap.size + 1 + 1) (w.heap.size + 1) (.slice p l.length cap) l h9 w3 (by omega) (by omega) (by omega) cs hrow3 (fun h0 g hg => ?_)) (fun h k => KpC.trans h k) (fun W q o o' hq ho hoc _ => ?_) (Below.refl _ _) (fun _ => rfl)
    (fun pre W => (W.cell? ⟨w.heap.size + 1, 0, none⟩ = some (bv (hor x pre)) ∧ W.frozen? ⟨w.heap.size + 1, 0, none⟩ = false ∧ W.cell? ⟨w.heap.size, 0, none⟩ = some (bv x)) ∧ Below w.heap.size w W)
    (fun _ _ _ => False)
    (OwnFrom.and (Own.from (fun s A B row hs hg hr => ⟨cell_kept hs.1 hg hr, (frozen_kept hs.1 hg hr).trans hs.2.1, cell_kept hs.2.2 hg hr⟩) _) (ownFrom_below (Nat.le_refl _) (by omega)))
    (fun _ _ _ _ _ hs _ _ => hs)
    ⟨⟨bo.cell, bo.frozen, cx⟩, hb3⟩
    (fun y => { tmps := #[.slice p l.length cap, bv x, undef, .pointer (some ⟨w.heap.size, 0, none⟩), .int .u8 0, .pointer (some ⟨w.heap.size + 1, 0, none⟩), undef, bv y.2, .slice p l.length cap, .func (.func 103) #[] #[.pointer (some ⟨w.heap.size + 1 + 1, 0, none⟩)], .int .i64 (y.1 : Int), bv y.2, undef, undef, undef, undef, undef, undef], defers := [] }) ?assign ?body ?done ?stop
  · obtain ⟨g', o', c', hv', hg', _, _, _⟩ := hvv.cellAt (j := 0) h0
    injection hv' with e1 _ _
    rw [e1] at hg
    have : g' = g := Option.some.inj hg
    omega
  · refine ⟨by simp, fun k o9 hk hc9 hne => ?_⟩
    have hkq : k ≠ q := fun e => by
      rw [e, ho] at hk
      rw [← Option.some.inj hk, hoc] at hc9; cases hc9
    exact (World.putObj_heap_other hkq).trans hk
  case assign =>
    intro l x W K hK
    gi_wp2
    exact hK
  case body =>
    rintro q pre y W ⟨⟨hc, hf, hx⟩, hB⟩ _
    gi_wp2_with (refine ⟨trivial, ?_⟩; gi_at_call 63; refine (CallsIn.inRound q (callsIn_wide.2 (mul_st (hor x pre) x W))).mono ?_; rintro e w' ⟨rfl, rfl⟩)
    rw [bv_xor]
    exact ⟨(KeepsOthers.setCell _ _ _).from _, KpC.ofKept ((Kept.self (w.heap.size + 1) w').set1 0 _), ⟨by rw [hor_snoc]; exact World.cell?_setCell_same' _ _ _ (by rw [hc]; rfl), by rw [World.frozen?_setCell]; exact hf, ((Kept.self (w.heap.size + 1) w').set1 0 _).cell hx (by omega)⟩, hB.setCell (p := ⟨w.heap.size + 1, 0, none⟩) (by show w.heap.size ≤ w.heap.size + 1; omega) _⟩
  case done =>
    rintro D ys W hD rfl ⟨⟨hc, _⟩, hB⟩ hK
    gi_wp2
    refine ⟨by simp, .inl ⟨_, _, rfl, run_takeDeferred hK, ?_⟩⟩
    exact ⟨_, results_tmp rfl _ _ _, (by rw [hor_ev]; rfl), hB.trans (belowK_b (w := w) (Nat.le_refl _) W D _ _ (by omega) hK rfl rfl)⟩
  case stop =>
    rintro D c pre W _ _ h _
    exact h.elim
end Go.Proofs.YtbikmodfmckaeaaDoor
