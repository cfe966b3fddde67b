/- Points in memory; the library's IndexFunc, ContainsFunc at points; the walk of poly.Through. -/
import Derived.Test.YtbikmodfmckaeaaDoorPolT
import Derived.Test.YtbikmodfmckaeaaDoorPolA
import Derived.Test.YtbikmodfmckaeaaDoorPolI
import Derived.StillTailTactics
import Derived.Deep.AppendLies
import Derived.Deep.RegionHeld3
import Derived.BigQuiet
namespace Go.Proofs.YtbikmodfmckaeaaDoor
open Go.ChangeShapes Go.WideShapes Go.ChangeAt Go.RowKit
set_option linter.unusedVariables false
open Pl (Pt pnt)
/-- a point as a value -/
abbrev pv (x : Pt) : Value := .agg #[bv x.1, bv x.2]
/-- a list of points, wherever it lies -/
def RowPt (w : World) (v : Value) (ls : List Pt) : Prop :=
  ∃ p cap, v = .slice p ls.length cap ∧ ls.length ≤ cap ∧ cap ≤ 9223372036854775807 ∧ ∀ (j : Nat) (l : Pt), ls[j]? = some l → ∃ g off, p = some ⟨g, off, none⟩ ∧ g < w.heap.size ∧
    w.cell? ⟨g, off + j * 2, none⟩ = some (bv l.1) ∧ w.cell? ⟨g, off + j * 2 + 1, none⟩ = some (bv l.2)
theorem RowPt.below {w w' : World} {v : Value} {ls : List Pt} (h : RowPt w v ls) (hb : Below w.heap.size w w') : RowPt w' v ls := by
  obtain ⟨p, cap, hv, h1, h3, h2⟩ := h
  refine ⟨p, cap, hv, h1, h3, fun j l hj => ?_⟩
  obtain ⟨g, off, hp, hg, c0, c1⟩ := h2 j l hj
  have k := fun o => hb.cell (p := ⟨g, o, none⟩) hg
  exact ⟨g, off, hp, Nat.lt_of_lt_of_le hg hb.size, (k _).trans c0, (k _).trans c1⟩
/-- what is asked of a function of a point that says yes or no -/
def PredPt (g : Nat) (lb : Array Value) (p : Pt → Bool) (w : World) : Prop :=
  ∀ W : World, Below w.heap.size w W → ∀ x, Calls Tryd.prog g (#[pv x] ++ lb) W fun e w' => e = .returned (.bool (p x)) ∧ Below W.heap.size W w'
def IdxPRel (ls : List Pt) (p : Pt → Bool) (w : World) (gk : Nat) (i : Value) (wr : World) : Prop :=
  ∃ k : Nat, k + gk = ls.length ∧ i = iv k ∧ Below w.heap.size w wr ∧ ∀ j l, j < k → ls[j]? = some l → p l = false
set_option maxRecDepth 100000 in
set_option maxHeartbeats 1000000 in
theorem indexFunc_pt (ls : List Pt) (p : Pt → Bool) (g : Nat) (lb : Array Value) (eg : ∀ args w, (callFunc g args).run Tryd.prog w = .ok (.enter g args) w) (v : Value) (w : World) (hv : RowPt w v ls) (hp : PredPt g lb p w) :
    Calls Tryd.prog 92 #[v, .func (.func g) #[] lb] w fun e w' => e = .returned (iv (firstQ ls p)) ∧ Below w.heap.size w w' := by
  obtain ⟨q, cap, rfl, hl, hcp, hc⟩ := hv
  have Hc := Lib.hid hc
  have HP := Lib.hid hp
  clear hc hp
  have hl9 : ls.length ≤ 9223372036854775807 := by omega
  generalize hn : ls.length = n at *
  have Hn := Lib.hid hn
  clear hn
  go_enter Tryd.func92, Tryd.ntmps92
  go_wp2_with fail
  go_loopg [5, 8] n (fun gk _ i wr => IdxPRel ls p w gk i wr)
  case atStart => exact ⟨0, by rw [Hn.out]; omega, rfl, Below.refl _ _, fun j l hj => by omega⟩
  case round =>
    obtain ⟨k, hk, rfl, hb, hno⟩ := hrel
    rw [Hn.out] at hk
    have Hk := Lib.hid hk
    have Hb := Lib.hid hb
    have Hno := Lib.hid hno
    have hbz := hb.size
    clear hk hb hno
    by_cases hlt : k < n
    · obtain ⟨l, hl⟩ : ∃ l, ls[k]? = some l := ⟨ls[k]'(by rw [Hn.out]; exact hlt), List.getElem?_eq_getElem _⟩
      obtain ⟨gb, off, rfl, hg, c0, c1⟩ := Hc.out k l hl
      have hcell := fun o => Hb.out.cell (p := ⟨gb, o, none⟩) hg
      have d0 := (hcell _).trans c0
      have d1 := (hcell _).trans c1
      have Hl := Lib.hid hl
      clear c0 c1 hcell hl
      go_wp2_with fail
      have hcall := HP.out _ Hb.out l
      cases hq : p l with
      | true =>
        rw [hq] at hcall
        have Hr := Lib.hid (firstQ_hit Hl.out hq Hno.out)
        clear hq
        refine hcall.mono ?_
        rintro e w' ⟨rfl, hb'⟩
        have Hb' := Lib.hid (Hb.out.trans (hb'.mono hbz))
        clear hb' hcall
        go_wp2_with fail
        go_ret
        exact ⟨by rw [Hr.out]; rfl, Hb'.out⟩
      | false =>
        rw [hq] at hcall
        have Hq := Lib.hid hq
        clear hq
        refine hcall.mono ?_
        rintro e w' ⟨rfl, hb'⟩
        have Hb' := Lib.hid (Hb.out.trans (hb'.mono hbz))
        clear hb' hcall
        go_wp2_with fail
        go_roundg (gk - 1)
        case measure => have := Hk.out; omega
        case rel =>
          refine ⟨k + 1, by rw [Hn.out]; have := Hk.out; omega, by go_num, Hb'.out, fun j l' hj h => ?_⟩
          by_cases e : j = k
          · subst e
            rw [Hl.out] at h
            obtain rfl := Option.some.inj h
            exact Hq.out
          · exact Hno.out j l' (by omega) h
    · obtain rfl : k = n := by have := Hk.out; omega
      have Hr := Lib.hid (firstQ_miss (fun j l hj h => Hno.out j l (by rw [Hn.out] at hj; exact hj) h))
      clear hlt
      go_wp2_with fail
      go_ret
      exact ⟨by rw [Hr.out]; rfl, Hb.out⟩
set_option maxRecDepth 100000 in
theorem containsFunc_pt (ls : List Pt) (p : Pt → Bool) (g : Nat) (lb : Array Value) (eg : ∀ args w, (callFunc g args).run Tryd.prog w = .ok (.enter g args) w) (v : Value) (w : World) (hv : RowPt w v ls) (hp : PredPt g lb p w) :
    Calls Tryd.prog 64 #[v, .func (.func g) #[] lb] w fun e w' => e = .returned (.bool (ls.any p)) ∧ Below w.heap.size w w' := by
  have Hv := Lib.hid hv
  have HP := Lib.hid hp
  clear hv hp
  go_enter Tryd.func64, Tryd.ntmps64
  go_wp2_with fail
  refine (indexFunc_pt ls p g lb eg v _ Hv.out HP.out).mono ?_
  rintro e w' ⟨rfl, hb⟩
  have Hb := Lib.hid hb
  have Hr := Lib.hid (firstQ_nonneg ls p)
  generalize firstQ ls p = x at *
  clear hb
  go_wp2_with fail
  go_ret
  exact ⟨by rw [← Hr.out]; rfl, Hb.out⟩
theorem beq_bv (a b : UInt8) : ((a.toNat : Int) == (b.toNat : Int)) = (a == b) := by
  by_cases h : a = b
  · subst h; simp
  · rw [beq_f (fun e => h (UInt8.toNat_inj.1 (by omega))), beq_false_of_ne h]
theorem RowPt.head {w : World} {p : Option Addr} {n cap k : Nat} {ls : List Pt} (h : RowPt w (.slice p n cap) ls) (hk : k ≤ ls.length) : RowPt w (.slice p k cap) (ls.take k) := by
  obtain ⟨p', cap', hv, h1, h3, h2⟩ := h
  injection hv with e1 e2 e3
  subst e1 e3
  refine ⟨p, cap, by rw [List.length_take, Nat.min_eq_left hk], by rw [List.length_take]; omega, h3, fun j l hj => h2 j l ?_⟩
  rw [List.getElem?_take] at hj
  split at hj
  · exact hj
  · cases hj
theorem throughP (B : Nat) (x : Pt) (w : World) (hB : B < w.heap.size) (hc : w.cell? ⟨B, 0, none⟩ = some (bv x.1)) : PredPt 65 #[.pointer (some ⟨B, 0, none⟩)] (fun q => q.1 == x.1) w := by
  intro W hb q
  obtain ⟨qx, qy⟩ := q
  have hc' := (hb.cell (p := ⟨B, 0, none⟩) hB).trans hc
  have hB' := Nat.lt_of_lt_of_le hB hb.size
  have HE := Lib.hid (beq_bv qx x.1)
  show Calls Tryd.prog _ _ W fun e w' => e = .returned (.bool (qx == x.1)) ∧ Below W.heap.size W w'
  rw [← HE.out]
  clear hc hb
  go_enter Tryd.func65, Tryd.ntmps65
  go_wp2
  go_ret
  exact ⟨rfl, (Below.refl _ _).alloc (Nat.le_refl _) _⟩
def ThrPost (l : List Pt) (w : World) (e : Ending) (w' : World) : Prop :=
  ∃ v, e = .returned (.tuple #[v, errV (Pl.thF l)]) ∧ OwnB w' w.heap.size v (if Pl.thF l = 0 then Pl.trim (Pl.thr l l.length) else []) ∧ Below w.heap.size w w'
def ThARel (l : List Pt) (w : World) (n gk : Nat) (i : Value) (wr : World) : Prop :=
  ∃ k : Nat, k + gk = n ∧ i = iv k ∧ Pl.clash l k = false ∧ Below w.heap.size w wr
def OwnF (w : World) (base : Nat) (v : Value) (l : List UInt8) : Prop := w.ownsRow base 5 1 v l.length (l.map bv)
theorem OwnF.toB {w : World} {base : Nat} {v : Value} {l : List UInt8} (h : OwnF w base v l) : OwnB w base v l := OwnR.of_owns h
theorem OwnF.shape {w : World} {base : Nat} {v : Value} {l : List UInt8} (h : OwnF w base v l) : ∃ p c, v = .slice p l.length c := by
  obtain ⟨p, c, hv, _⟩ := RowB.shape (OwnB.row h.toB)
  exact ⟨p, c, hv⟩
theorem OwnF.setAt {w : World} {base g n cap k : Nat} {l : List UInt8} (h : OwnF w base (.slice (some ⟨g, 0, none⟩) n cap) l) (hk : k < l.length) (u : UInt8) :
    OwnF (w.setCell ⟨g, k, none⟩ (bv u)) base (.slice (some ⟨g, 0, none⟩) n cap) (l.set k u) := by
  refine ⟨by simp, ?_⟩
  rcases h.2 with ⟨hn, hx⟩ | ⟨g', cap', cur, hv', hb', hg', h1, h2, h3, h4⟩
  · cases hn
  · injection hv' with e1 e2 e3
    injection e1 with e1
    injection e1 with e4 e5
    subst e4 e3
    refine .inr ⟨g, cap, cur.setIfInBounds k (bv u), by rw [List.length_set, e2], hb', heap_setCell_same _ _ _ _ _ _ hg', by rw [List.length_set]; exact h1, h2, by rw [Array.size_setIfInBounds]; exact h3, ?_⟩
    rw [List.length_set, Array.toList_setIfInBounds, List.take_set, h4, List.map_set]
theorem OwnF.keep {T : Nat → Prop} {w w1 : World} {base : Nat} {v : Value} {l : List UInt8} (h : OwnF w base v l) (hk : Kept T w w1) (hn : ∀ g, v.ownBlock = some g → ¬ T g) : OwnF w1 base v l := Kept.owns h hk hn
theorem OwnF.below {w w1 : World} {base : Nat} {v : Value} {l : List UInt8} (h : OwnF w base v l) (hb : Below w.heap.size w w1) : OwnF w1 base v l := owns_below h hb
/-- out, zero, and the point's box at b9, side by side -/
structure Sides (w0 w : World) (out zero : Value) (o z : List UInt8) (b9 : Nat) (x : UInt8) : Prop where
  o1 : OwnF w w0.heap.size out o
  z1 : OwnB w w0.heap.size zero z
  ap : ∀ g, out.ownBlock = some g → zero.ownBlock ≠ some g
  box : w.cell? ⟨b9, 0, none⟩ = some (bv x)
  nb : out.ownBlock ≠ some b9
  hb : Below w0.heap.size w0 w
theorem Sides.low {w0 w w1 : World} {out zero : Value} {o z : List UInt8} {b9 : Nat} {x : UInt8} (h : Sides w0 w out zero o z b9 x) (hb : Below w.heap.size w w1) : Sides w0 w1 out zero o z b9 x :=
  ⟨h.o1.below hb, OwnR.below h.z1 hb, h.ap, (hb.cell (p := ⟨b9, 0, none⟩) (World.block_lt_of_cell? w _ h.box)).trans h.box, h.nb, h.hb.trans (hb.mono h.hb.size)⟩
theorem Sides.set {w0 w : World} {g n c k : Nat} {zero : Value} {o z : List UInt8} {b9 : Nat} {x : UInt8} (h : Sides w0 w (.slice (some ⟨g, 0, none⟩) n c) zero o z b9 x) (hk : k < o.length) (u : UInt8) :
    Sides w0 (w.setCell ⟨g, k, none⟩ (bv u)) (.slice (some ⟨g, 0, none⟩) n c) zero (o.set k u) z b9 x := by
  have hl := OwnR.lt h.o1.toB (g := g) rfl
  exact ⟨h.o1.setAt hk u, OwnB.other h.z1 (h.ap g rfl), h.ap, ((Kept.self g w).set1 k (bv u)).cell h.box (fun e => h.nb (by rw [e]; rfl)), h.nb, h.hb.setCell (p := ⟨g, k, none⟩) hl.1 _⟩
/-- out with one more, in its own block or a new one -/
theorem Sides.more {w0 w w1 : World} {out zero : Value} {o z : List UInt8} {b9 : Nat} {x u : UInt8} {g c n : Nat} (h : Sides w0 w out zero o z b9 x) (hn : n = o.length) (hown : w1.ownsRow w0.heap.size 5 1 (.slice (some ⟨g, 0, none⟩) (n + 1) c) (n + 1) (o.map bv ++ [bv u]))
    (hgr : w.grownBy w1 out.ownBlock) (hat : out.ownBlock = some g ∨ g = w.heap.size) : Sides w0 w1 (.slice (some ⟨g, 0, none⟩) (n + 1) c) zero (o ++ [u]) z b9 x := by
  have hk := Kept.grown hgr
  have hzl := fun g0 (h0 : zero.ownBlock = some g0) => (OwnR.lt h.z1 h0).2
  have hol := fun g0 (h0 : out.ownBlock = some g0) => OwnR.lt h.o1.toB h0
  have hbl := World.block_lt_of_cell? w _ h.box
  have hbl' : b9 < w.heap.size := hbl
  refine ⟨?_, OwnR.kept h.z1 hk (fun g0 h0 e => h.ap g0 e.symm h0), fun g0 h0 h1 => ?_, hk.cell h.box (fun e => h.nb e.symm), fun e => ?_, h.hb.trans (hk.toBelow h.hb.size (fun k _ e => (hol k e.symm).1))⟩
  · unfold OwnF
    rw [List.length_append, ← hn, List.map_append]; exact hown
  · obtain rfl : g = g0 := Option.some.inj h0
    rcases hat with h2 | h2
    · exact h.ap g h2 h1
    · have := hzl g h1; omega
  · obtain rfl : g = b9 := Option.some.inj e
    rcases hat with h2 | h2
    · exact h.nb h2
    · omega
def ThCRel (l : List Pt) (k : Nat) (w : World) (zero : Value) (b9 : Nat) (x : UInt8) (gk : Nat) (out : Value) (wr : World) : Prop :=
  ∃ m, m + gk = k + 1 ∧ k ≤ m ∧ Sides w wr out zero (Gv.tab m (Pl.cf (Pl.thr l k))) (Pl.roots (Pl.exs l) k) b9 x
def ThDRel (l : List Pt) (k : Nat) (w : World) (out zero : Value) (b9 : Nat) (x : UInt8) (gk : Nat) (i : Value) (wr : World) : Prop :=
  ∃ m, m + gk = k + 1 ∧ i = iv m ∧ Sides w wr out zero (Gv.tab (k + 1) (Pl.tp l k m)) (Pl.roots (Pl.exs l) k) b9 x
def ThBRel (l : List Pt) (w : World) (n gk : Nat) (out zero i : Value) (wr : World) : Prop :=
  ∃ k : Nat, k + gk = n ∧ i = iv k ∧ OwnF wr w.heap.size out (Pl.thr l k) ∧ OwnB wr w.heap.size zero (Pl.roots (Pl.exs l) k) ∧ (∀ g, out.ownBlock = some g → zero.ownBlock ≠ some g) ∧ Below w.heap.size w wr
set_option maxRecDepth 100000 in
set_option maxHeartbeats 2000000 in
theorem through_any (l : List Pt) (v : Value) (w : World) (hv : RowPt w v l) :
    Calls Tryd.prog 22 #[v] w (ThrPost l w) := by
  obtain ⟨i0, hi0, hi1, hi2, hi3⟩ : ∃ i, Tryd.prog.info? 5 = some i ∧ i.zero = some (.int .u8 0) ∧ i.size = 1 ∧ i.bytes = 1 := by
    have h := info_byteV
    cases hi : Tryd.prog.info? 5 with
    | none => rw [hi] at h; cases h
    | some i =>
      rw [hi] at h
      simp only [Option.map_some, Option.some.injEq, Prod.mk.injEq] at h
      exact ⟨i, rfl, h.1, h.2.1, h.2.2⟩
  have HInf := Lib.hid hi0
  clear hi0
  have HV := Lib.hid hv
  obtain ⟨p, cap, rfl, h1, h2, hc⟩ := hv
  have Hc := Lib.hid hc
  obtain ⟨n, hn⟩ : ∃ n, n = l.length := ⟨_, rfl⟩
  rw [← hn] at HV h1 ⊢
  unfold ThrPost
  obtain ⟨F, hF⟩ : ∃ F, F = Pl.thF l := ⟨_, rfl⟩
  rw [← hF, ← hn]
  have Hn := Lib.hid hn
  by_cases h40 : 40 < n
  · have hF4 : F = 4 := by rw [hF]; unfold Pl.thF; rw [if_pos (by omega)]
    have t1 : (40 : Int) < (n : Int) := by omega
    subst hF4
    clear hc hF h40 hn
    go_enter Tryd.func22, Tryd.ntmps22
    go_wp2_with fail
    go_ret2
    exact ⟨_, rfl, OwnR.nil _ _ _, Below.refl _ _⟩
  · have t1 : ¬ (40 : Int) < (n : Int) := by omega
    have hF' : F = if Pl.clash l n then 7 else 0 := by rw [hF]; unfold Pl.thF; rw [if_neg (by omega), hn]
    have HF := Lib.hid hF'
    clear hc hF hF' hn
    have hn40 : n ≤ 40 := by omega
    clear h40
    go_enter Tryd.func22, Tryd.ntmps22
    go_wp2_with fail
    go_loopg [4, 5, 19] n (fun gk v4 v5 v19 wr => ThARel l w n gk v19 wr)
    case atStart => exact ⟨0, by omega, rfl, rfl, Below.refl _ _⟩
    case round =>
      obtain ⟨k, hk, rfl, hcl, hb⟩ := hrel
      have Hk := Lib.hid hk
      have Hcl := Lib.hid hcl
      have HB := Lib.hid hb
      have hz := hb.size
      clear hk hcl hb
      by_cases hkn : k < n
      · have hl := Pl.pnt_get (l := l) (k := k) (by have := Hn.out; omega)
        obtain ⟨x, hx⟩ : ∃ x, x = pnt l k := ⟨_, rfl⟩
        rw [← hx] at hl
        obtain ⟨g, off, rfl, hg, c0, c1⟩ := Hc.out k x hl
        have hcell := fun o => HB.out.cell (p := ⟨g, o, none⟩) hg
        have d0 := (hcell _).trans c0
        have d1 := (hcell _).trans c1
        have Hx := Lib.hid hx
        clear c0 c1 hcell hl hx
        have hb1 : Below wr.heap.size wr (wr.alloc (.cells #[bv x.1, bv x.2] 40)) := (Below.refl _ _).alloc (Nat.le_refl _) _
        have hHv := RowPt.below (RowPt.below (RowPt.head HV.out (k := k) (by have := Hn.out; omega)) HB.out) hb1
        have eg := enters_of Tryd.func65 (by kernel_rfl) rfl
        have HCf := Lib.hid (containsFunc_pt (l.take k) _ 65 #[.pointer (some ⟨wr.heap.size, 0, none⟩)] eg _ _ hHv (throughP wr.heap.size x _ (by simp) (by rw [cell_of_row _ _ _ _ _ _ (heap_alloc_new wr _)]; rfl)))
        obtain ⟨B, hBe⟩ : ∃ B, B = (l.take k).any (fun q => q.1 == x.1) := ⟨_, rfl⟩
        rw [← hBe] at HCf
        have hcl1 : Pl.clash l (k + 1) = B := by
          rw [hBe]; unfold Pl.clash; rw [Hcl.out, ← Hx.out]; rfl
        have Hcl1 := Lib.hid hcl1
        have HB1 := Lib.hid (HB.out.trans (hb1.mono hz))
        have hz1 := HB1.out.size
        clear hb1 hHv hcl1 hBe eg
        go_wp2_with fail
        refine HCf.out.mono ?_
        rintro e w2 ⟨rfl, hb2⟩
        have HB2 := Lib.hid (HB1.out.trans (hb2.mono hz1))
        clear hb2 HCf d0 d1 HB1
        cases B with
        | true =>
          have hF7 : F = 7 := by rw [HF.out, if_pos (Pl.clash_mono Hcl1.out (by omega))]
          subst hF7
          clear HF
          go_wp2_with fail
          go_ret2
          exact ⟨_, rfl, OwnR.nil _ _ _, HB2.out⟩
        | false =>
          go_wp2_with fail
          go_roundg (gk - 1)
          case measure => have := Hk.out; omega
          case rel => exact ⟨k + 1, by have := Hk.out; omega, by go_num, Hcl1.out, HB2.out⟩
      · have hkn' : k = n := by have := Hk.out; omega
        have hF0 : F = 0 := by rw [HF.out, ← hkn', Hcl.out]; rfl
        have Hcl9 : Hid (Pl.clash l n = false) := Lib.hid (by rw [← hkn']; exact Hcl.out)
        subst hF0
        have HR0 : Hid (OwnB (wr.alloc (.cells #[bv 1] 5)) w.heap.size (.slice (some ⟨wr.heap.size, 0, none⟩) 1 1) (Pl.roots (Pl.exs l) 0)) := Lib.hid (.inr ⟨wr.heap.size, 0, 1, _, rfl, hz, heap_alloc_new _ _, Nat.le_refl _, by unfold maxLen; omega, by simp, fun j hj => by
          have hj1 : j < 1 := hj
          obtain rfl : j = 0 := by omega
          rfl⟩)
        have HB0 : Hid (Below w.heap.size w (wr.alloc (.cells #[bv 1] 5))) := Lib.hid (HB.out.alloc hz _)
        clear HF Hcl hkn'
        go_wp2_with fail
        go_loopg [6, 7, 9, 10, 11, 12, 34] n (fun gk v6 v7 v9 v10 v11 v12 v34 wr => ThBRel l w n gk v6 v7 v34 wr)
        case atStart => exact ⟨0, by omega, rfl, World.ownsRow_nil _ _ _ _, HR0.out, (fun g h => by cases h), HB0.out⟩
        case round =>
          clear HR0 HB0
          obtain ⟨gB, hgB⟩ : ∃ x : Nat, x = gk := ⟨_, rfl⟩
          subst hgB
          obtain ⟨k2, hk, rfl, hO, hZ, hap, hb⟩ := hrel
          have Hk2 := Lib.hid hk
          have HO := Lib.hid hO
          have HZ := Lib.hid hZ
          have HAp := Lib.hid hap
          have HBr := Lib.hid hb
          have hzr := hb.size
          obtain ⟨po, co, rfl⟩ := OwnF.shape hO
          obtain ⟨pz, cz, rfl, _, _⟩ := RowB.shape (OwnB.row hZ)
          rw [Pl.thr_len] at HO HAp ⊢
          rw [Pl.roots_len'] at HZ HAp ⊢
          clear hk hO hZ hap hb
          by_cases hk2n : k2 < n
          · have hl := Pl.pnt_get (l := l) (k := k2) (by have := Hn.out; omega)
            obtain ⟨x, hx⟩ : ∃ x, x = pnt l k2 := ⟨_, rfl⟩
            rw [← hx] at hl
            obtain ⟨px, py⟩ := x
            obtain ⟨g, off, rfl, hg, c0, c1⟩ := Hc.out k2 (px, py) hl
            have hcell := fun o => HBr.out.cell (p := ⟨g, o, none⟩) hg
            have d0 : wr.cell? ⟨g, off + k2 * 2, none⟩ = some (bv px) := (hcell _).trans c0
            have d1 : wr.cell? ⟨g, off + k2 * 2 + 1, none⟩ = some (bv py) := (hcell _).trans c1
            have Hx := Lib.hid hx
            have hb1 : Below wr.heap.size wr (wr.alloc (.cells #[bv px, bv py] 40)) := (Below.refl _ _).alloc (Nat.le_refl _) _
            obtain ⟨wB, hwB⟩ : ∃ wB, wB = wr.alloc (.cells #[bv px, bv py] 40) := ⟨_, rfl⟩
            obtain ⟨b9, hb9⟩ : ∃ b9, b9 = wr.heap.size := ⟨_, rfl⟩
            have kx : wB.cell? ⟨b9, 0, none⟩ = some (bv px) := by rw [hwB, hb9, cell_of_row _ _ _ _ _ _ (heap_alloc_new wr _)]; rfl
            have ky : wB.cell? ⟨b9, 1, none⟩ = some (bv py) := by rw [hwB, hb9, cell_of_row _ _ _ _ _ _ (heap_alloc_new wr _)]; rfl
            have HS : Hid (Sides w wB (.slice po k2 co) (.slice pz (k2 + 1) cz) (Pl.thr l k2) (Pl.roots (Pl.exs l) k2) b9 px) := Lib.hid (by
              rw [hwB] at kx ⊢
              exact ⟨HO.out.below hb1, OwnR.below HZ.out hb1, HAp.out, kx, (fun e => by have := (OwnR.lt HO.out.toB e).2; omega), HBr.out.trans (hb1.mono hzr)⟩)
            have hb9B : b9 < wB.heap.size := World.block_lt_of_cell? wB _ kx
            obtain ⟨e1, he1⟩ : ∃ e1, e1 = Pl.ev (Pl.thr l k2) px := ⟨_, rfl⟩
            obtain ⟨e2, he2⟩ : ∃ e2, e2 = Pl.ev (Pl.roots (Pl.exs l) k2) px := ⟨_, rfl⟩
            obtain ⟨i2, hi2⟩ : ∃ i2, i2 = Gf.inv e2 := ⟨_, rfl⟩
            obtain ⟨yy, hyy⟩ : ∃ yy, yy = Pl.by' l k2 (Pl.thr l k2) := ⟨_, rfl⟩
            have HA1 := Lib.hid (fun (W : World) (h : Below wB.heap.size wB W) => at_any (Pl.thr l k2) (by rw [Pl.thr_len]; omega) px (.slice po k2 co) W (RowB.below (OwnB.row HS.out.o1.toB) h))
            have HA2 := Lib.hid (fun (W : World) (h : Below wB.heap.size wB W) => at_any (Pl.roots (Pl.exs l) k2) (by rw [Pl.roots_len']; omega) px (.slice pz (k2 + 1) cz) W (RowB.below (OwnB.row HS.out.z1) h))
            have HI := Lib.hid (fun W : World => inverse_any e2 _ rfl W)
            have HM := Lib.hid (fun W : World => mul_any (py ^^^ e1) i2 (bits .xor .u8 (py.toNat : Int) (e1.toNat : Int)) _ (by
              have h := bv_xor py e1
              injection h with _ h2) rfl W)
            rw [← he1] at HA1
            rw [← he2] at HA2
            rw [← hi2] at HI
            have hby : Gf.mul (py ^^^ e1) i2 = yy := by
              rw [hyy, hi2, he1, he2]; unfold Pl.by'; rw [← hx]
            rw [hby] at HM
            have Hyy := Lib.hid hyy
            clear c0 c1 hcell hl hx hb1 HO HZ HAp he1 he2 hi2 hyy hby
            go_wp2_with fail
            rw [← hb9, ← hwB]
            clear hb9 hwB
            go_region_held3 (fun w' => w'.cell? ⟨b9, 0, none⟩ = some (bv px) ∧ w'.cell? ⟨b9, 1, none⟩ = some (bv py))
              (first
                | exact ⟨kx, ky⟩
                | exact ⟨kx1, ky1⟩
                | exact ⟨kx2, ky2⟩
                | go_keep)
              (first
                | (go_at_call 58; (with_reducible refine (HA1.out _ ?_).mono ?_); exact bdrew (Below.refl wB.heap.size wB) _; rintro e wA ⟨rfl, hbA⟩; have HBA := Lib.hid ((bdrew (Below.refl wB.heap.size wB) _).trans hbA); have kx1 := (HBA.out.cell (p := ⟨b9, 0, none⟩) hb9B).trans kx; have ky1 := (HBA.out.cell (p := ⟨b9, 1, none⟩) hb9B).trans ky; have hzA := HBA.out.size; clear hbA)
                | (go_at_call 58; (with_reducible refine (HA2.out _ ?_).mono ?_); (first | exact HBA.out | exact bdrew HBA.out _); rintro e wC ⟨rfl, hbC⟩; have HBC := Lib.hid (HBA.out.trans (hbC.mono hzA)); have kx2 := (HBC.out.cell (p := ⟨b9, 0, none⟩) hb9B).trans kx; have ky2 := (HBC.out.cell (p := ⟨b9, 1, none⟩) hb9B).trans ky; clear hbC)
                | (go_at_call 62; (with_reducible refine (HI.out _).mono ?_); rintro e wI ⟨rfl, rfl⟩)
                | (go_at_call 63; (with_reducible refine (HM.out _).mono ?_); rintro e wI ⟨rfl, rfl⟩))
            have HSC := Lib.hid (HS.out.low HBC.out)
            have hi0 := HInf.out
            clear HS HBA HBC kx ky kx1 ky1 kx2 ky2 hzA hb9B HA1 HA2 HI HM d0 d1
            go_wp2_with fail
            go_loopg [6] 1 (fun gk v6 wr => ThCRel l k2 w (.slice pz (k2 + 1) cz) b9 px gk v6 wr)
            case atStart => exact ⟨k2, by omega, Nat.le_refl _, by rw [← Pl.thr_self]; exact HSC.out⟩
            case round =>
              clear HSC
              obtain ⟨m, hm, hm1, hS⟩ := hrel
              have HS := Lib.hid hS
              obtain ⟨p6, c6, rfl⟩ := OwnF.shape hS.o1
              have hzS := hS.hb.size
              rw [Gv.tab_len] at HS ⊢
              have Hm := Lib.hid hm
              clear hS hm
              by_cases hmk : m = k2
              · subst hmk
                have tlt : (m : Int) < (m : Int) + 1 := by omega
                have hal : Below wr.heap.size wr (wr.alloc (.cells #[bv 0] 5)) := (Below.refl _ _).alloc (Nat.le_refl _) _
                have HS1 := Lib.hid (HS.out.low hal)
                have hOw : (wr.alloc (.cells #[bv 0] 5)).ownsRow w.heap.size 5 1 (.slice p6 m c6) m ((Gv.tab m (Pl.cf (Pl.thr l m))).map bv) := by
                  have h := HS1.out.o1
                  unfold OwnF at h
                  rw [Gv.tab_len] at h; exact h
                have HOw := Lib.hid hOw
                have hws : (wr.alloc (.cells #[bv 0] 5)).heap.size = wr.heap.size + 1 := by simp
                have cz0 : (wr.alloc (.cells #[bv 0] 5)).cell? ⟨wr.heap.size, 0, none⟩ = some (bv 0) := by rw [cell_of_row _ _ _ _ _ _ (heap_alloc_new wr _)]; rfl
                have Hcz0 := Lib.hid cz0
                clear hal hOw cz0
                go_wp2_with (at_builtin; refine wpList_append_lies _ rfl _ _ 22 rfl w.heap.size 5 i0 (.int .u8 0) 1 1 Tryd.underlying22 hi0 hi1 hi2 hi3 rfl (by decide) _ m _ rfl HOw.out ⟨wr.heap.size, 0, none⟩ 1 1 [bv 0] rfl rfl ?y2 ?y3 ?y4 ?y5 ?y6 ?y7 _ rfl ?_)
                case y2 =>
                  intro q u hq
                  have hq1 := (List.getElem?_eq_some_iff.1 hq).1
                  have hq2 : q < 1 := hq1
                  obtain rfl : q = 0 := by omega
                  simp at hq
                  rw [Addr.add_lit, ← hq]
                  exact Hcz0.out
                case y3 => intro u hu; simp at hu; rw [hu]; rfl
                case y4 => decide
                case y5 => unfold maxLen; omega
                case y6 => omega
                case y7 => rw [World.size_alloc]; omega
                intro g8 c8 w8 hown8 hgr8 hat8 hlt8
                have hS8 := Sides.more (u := 0) HS1.out (n := m) (by rw [Gv.tab_len]) hown8 hgr8 (by rw [World.size_alloc]; exact hat8)
                rw [← Pl.thr_self, Pl.thr_pad] at hS8
                have HS8 := Lib.hid hS8
                clear hown8 hgr8 hat8 hlt8 hS8 HS1 HOw
                go_wp2_with fail
                go_roundg (gk - 1)
                case measure => have := Hm.out; omega
                case rel => exact ⟨m + 1, by have := Hm.out; omega, by omega, HS8.out⟩
              · have hmk1 : m = k2 + 1 := by have := Hm.out; omega
                subst hmk1
                clear hmk Hm hm1
                rw [← Pl.tp_zero] at HS
                go_wp2_with fail
                go_loopg [11, 12, 61] (k2 + 1) (fun gk v11 v12 v61 wr => ThDRel l k2 w (.slice p6 (k2 + 1) c6) (.slice pz (k2 + 1) cz) b9 px gk v61 wr)
                case atStart => exact ⟨0, by omega, rfl, HS.out⟩
                case round =>
                  clear HS
                  obtain ⟨i, hi, rfl, hS⟩ := hrel
                  have HS := Lib.hid hS
                  have Hi := Lib.hid hi
                  have hz8 := hS.hb.size
                  clear hS hi
                  by_cases hik : i < k2 + 1
                  · obtain ⟨gz, oz, cz', hvz, _, hgz, _, _, d1, _⟩ := OwnB.cellAt HS.out.z1 (j := i) (by rw [Pl.roots_len']; exact hik)
                    injection hvz with q1 q8 q9
                    obtain ⟨go', oo, co', hvo, _, hgo, _, _, d2, hof⟩ := OwnB.cellAt HS.out.o1.toB (j := i) (by rw [Gv.tab_len]; exact hik)
                    injection hvo with q2 q6 q7
                    subst q2 q7
                    have ho0 : oo = 0 := by
                      rcases HS.out.o1.2 with ⟨h, _⟩ | ⟨g1, c1, cur, h, _⟩
                      · cases h
                      · injection h with h _ _
                        injection h with h
                        injection h
                    subst ho0
                    obtain ⟨z, hz0⟩ : ∃ z, z = Pl.cf (Pl.roots (Pl.exs l) k2) i := ⟨_, rfl⟩
                    obtain ⟨u, hu0⟩ : ∃ u, u = Pl.tp l k2 i i := ⟨_, rfl⟩
                    rw [show Gv.at' (Pl.roots (Pl.exs l) k2) i = z from hz0.symm] at d1
                    rw [show Gv.at' (Gv.tab (k2 + 1) (Pl.tp l k2 i)) i = u by unfold Gv.at'; rw [Gv.tab_at _ hik]; exact hu0.symm, Nat.zero_add] at d2
                    have hS9 := Sides.set (HS.out.low (Below.refl _ _).drew) (k := i) (by rw [Gv.tab_len]; exact hik) (u ^^^ Gf.mul yy z)
                    rw [hu0, Hyy.out, hz0, Pl.tp_set, ← hz0, ← Hyy.out, ← hu0] at hS9
                    have HS9 := Lib.hid hS9
                    have Q1 := Lib.hid q1
                    rw [q1]
                    have fo := hof i
                    have hI : (i : Int) < (k2 : Int) + 1 := by omega
                    clear hz0 hu0 hS9 hof q1 q8 q9 q6
                    go_wp2_with fail
                    go_still_tail 9, (by kernel_rfl)
                    still_call (mul_st yy z _)
                    repeat still_step
                    refine wpStill_nil ?_
                    clear d1
                    go_wp2_with fail
                    rw [← Q1.out]
                    go_roundg (gk - 1)
                    case measure => have := Hi.out; omega
                    case rel => exact ⟨i + 1, by have := Hi.out; omega, by go_num, by rw [bv_xor]; exact HS9.out⟩
                  · have hik2 : i = k2 + 1 := by have := Hi.out; omega
                    subst hik2
                    rw [Pl.tp_full] at HS
                    have hal : Below wr.heap.size wr (wr.alloc (.cells #[bv px, bv 1] 5)) := (Below.refl _ _).alloc (Nat.le_refl _) _
                    have hrow2 : RowB (wr.alloc (.cells #[bv px, bv 1] 5)) (.slice (some ⟨wr.heap.size, 0, none⟩) 2 2) [px, 1] := by
                      refine ⟨some ⟨wr.heap.size, 0, none⟩, 2, rfl, Nat.le_refl _, by unfold maxLen; simp, (fun h => by cases h), fun _ => ⟨wr.heap.size, 0, rfl, fun j hj => ?_⟩⟩
                      rw [cell_of_row _ _ _ _ _ _ (heap_alloc_new wr _), Nat.zero_add]
                      have hj2 : j < 2 := hj
                      have h2 : j = 0 ∨ j = 1 := by omega
                      rcases h2 with rfl | rfl <;> rfl
                    have HS1 := Lib.hid (HS.out.low hal)
                    have HT := Lib.hid (ptimes_any (Pl.roots (Pl.exs l) k2) [px, 1] (by rw [Pl.roots_len']; omega) (by simp) _ _ _ (OwnB.row HS1.out.z1) hrow2)
                    unfold TimesPost at HT
                    rw [show Pl.conv (Pl.roots (Pl.exs l) k2) [px, 1] = Pl.roots (Pl.exs l) (k2 + 1) by
                      show _ = Pl.conv _ [Pl.cf (Pl.exs l) k2, 1]
                      rw [Pl.exs_at, ← Hx.out]] at HT
                    have hz9 := HS1.out.hb.size
                    have kb := HS.out.box
                    clear hal hrow2 HS
                    go_wp2_with fail
                    refine HT.out.mono ?_
                    rintro e w5 ⟨v5, rfl, hO5, hb5⟩
                    have HS5 := Lib.hid (HS1.out.low hb5)
                    have hap5 : ∀ g, (Value.slice p6 (k2 + 1) c6).ownBlock = some g → v5.ownBlock ≠ some g := fun g h1 h2 => by
                      have a1 := (OwnR.lt HS1.out.o1.toB h1).2
                      have a2 := (OwnR.lt hO5 h2).1
                      omega
                    have Hap5 := Lib.hid hap5
                    have HO5 := Lib.hid (OwnR.mono hO5 hz9)
                    clear hO5 hb5 hap5 HT HS1 kb
                    go_wp2_with fail
                    go_roundg (gB - 1)
                    case measure => have := Hk2.out; omega
                    case rel => exact ⟨k2 + 1, by have := Hk2.out; omega, by go_num, HS5.out.o1, HO5.out, Hap5.out, HS5.out.hb⟩
          · have hkn2 : k2 = n := by have := Hk2.out; omega
            subst hkn2
            have HTr := Lib.hid (trim_any (Pl.thr l k2) (by rw [Pl.thr_len]; omega) _ _ (OwnB.row HO.out.toB))
            unfold TrimPost at HTr
            clear HO HZ HAp
            go_wp2_with fail
            refine HTr.out.mono ?_
            rintro e w5 ⟨v5, rfl, hO5, hb5⟩
            have HO5 := Lib.hid (OwnR.mono hO5 hzr)
            have HB5 := Lib.hid (HBr.out.trans (hb5.mono hzr))
            clear hO5 hb5 HTr
            go_wp2_with fail
            go_ret2
            exact ⟨_, rfl, HO5.out, HB5.out⟩
end Go.Proofs.YtbikmodfmckaeaaDoor
