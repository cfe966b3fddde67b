/- The walk of matrix.OfCauchy. -/
import Derived.Test.YtcldioneiededaaMatM
namespace Go.Proofs.Ytcldioneiededaa
open Go.ChangeShapes Go.WideShapes Go.ChangeAt Go.RowKit
set_option linter.unusedVariables false
/-- rows that are collected: their slices vs in a list v of one's own, each row in a block of its own -/
structure RowsO (w : World) (B : Nat) (v : Value) (vs : List Value) (M : List (List UInt8)) : Prop where
  own : w.ownsRow B 74 1 v vs.length vs
  rows : ∀ (i : Nat) u r, vs[i]? = some u → M[i]? = some r → OwnB w B u r ∧ ∀ g, u.ownBlock = some g → v.ownBlock ≠ some g
theorem RowsO.nil (w : World) (B : Nat) (M : List (List UInt8)) : RowsO w B (.slice none 0 0) [] M := ⟨World.ownsRow_nil _ _ _ _, fun i u r hu => by simp at hu⟩
theorem RowsO.below {w w1 : World} {B : Nat} {v : Value} {vs : List Value} {M : List (List UInt8)} (h : RowsO w B v vs M) (hb : Below w.heap.size w w1) : RowsO w1 B v vs M :=
  ⟨owns_below h.own hb, fun i u r hu hr => ⟨OwnR.below (h.rows i u r hu hr).1 hb, (h.rows i u r hu hr).2⟩⟩
theorem RowsO.push {w0 w' : World} {B : Nat} {v v' u : Value} {vs : List Value} {M : List (List UInt8)} {r : List UInt8} (h : RowsO w0 B v vs M) (hlen : ∀ (i : Nat) u, vs[i]? = some u → ∃ r, M[i]? = some r) (hr : M[vs.length]? = some r) (hu : OwnB w0 B u r)
    (hub : ∀ g, u.ownBlock = some g → v.ownBlock ≠ some g) (hown : w'.ownsRow B 74 1 v' (vs.length + 1) (vs ++ [u])) (hg : w0.grownBy w' v.ownBlock) (hv : v'.ownBlock = v.ownBlock ∨ v'.ownBlock = some (w0.heap.size + 1)) :
    RowsO w' B v' (vs ++ [u]) M := by
  have hk := Kept.grown hg
  refine ⟨by rw [List.length_append]; exact hown, fun i u2 r2 h2 hr2 => ?_⟩
  have key : ∀ {u2 : Value} {r2 : List UInt8}, OwnB w0 B u2 r2 → (∀ g, u2.ownBlock = some g → v.ownBlock ≠ some g) → OwnB w' B u2 r2 ∧ ∀ g, u2.ownBlock = some g → v'.ownBlock ≠ some g := fun {u2 r2} k1 k2 => by
    refine ⟨OwnR.kept k1 hk (fun g hg' e => k2 g hg' e.symm), fun g hg' e => ?_⟩
    rcases hv with h | h
    · rw [h] at e; exact k2 g hg' e
    · rw [h] at e
      injection e with e
      have := (OwnR.lt k1 hg').2
      omega
  by_cases hik : i < vs.length
  · rw [List.getElem?_append_left hik] at h2
    obtain ⟨k1, k2⟩ := h.rows i u2 r2 h2 hr2
    exact key k1 k2
  · have hi9 := (List.getElem?_eq_some_iff.1 h2).1
    rw [List.length_append] at hi9
    obtain rfl : i = vs.length := by simp at hi9; omega
    rw [List.getElem?_append_right (by omega), Nat.sub_self] at h2
    obtain rfl : u = u2 := Option.some.inj h2
    rw [hr] at hr2
    obtain rfl : r = r2 := Option.some.inj hr2
    exact key hu hub
theorem RowsO.rowsM {w : World} {B : Nat} {v : Value} {vs : List Value} {M : List (List UInt8)} (h : RowsO w B v vs M) (hl : vs.length = M.length) : RowsM w v M := by
  refine ⟨vs, OwnR.row (OwnR.of_owns h.own), hl, fun i l hl' => ?_⟩
  have hin := (List.getElem?_eq_some_iff.1 hl').1
  obtain ⟨u, hu⟩ : ∃ u, vs[i]? = some u := ⟨vs[i]'(by omega), List.getElem?_eq_getElem _⟩
  exact ⟨u, hu, OwnB.row (h.rows i u l hu hl').1⟩
/-- Cauchy's matrix -/
def cau (x y : List UInt8) : List (List UInt8) := x.map (fun a => y.map (fun b => Gf.inv (a ^^^ b)))
def CaRel (x y : List UInt8) (w : World) (n gk : Nat) (v5 idx : Value) (wr : World) : Prop :=
  ∃ vs : List Value, vs.length + gk = n ∧ idx = iv vs.length ∧ RowsO wr w.heap.size v5 vs (cau x y) ∧ Below w.heap.size w wr
def CaIn (a : UInt8) (y : List UInt8) (w w5 : World) (m gk : Nat) (v8 idx : Value) (wr : World) : Prop :=
  ∃ k : Nat, k + gk = m ∧ idx = iv k ∧ wr.ownsRow w5.heap.size 5 1 v8 k ((y.map (fun b => bv (Gf.inv (a ^^^ b)))).take k) ∧ Below w5.heap.size w5 wr
def CaPost (M : List (List UInt8)) (w : World) (e : Ending) (w' : World) : Prop := ∃ v, e = .returned v ∧ RowsM w' v M ∧ Below w.heap.size w w'
set_option maxRecDepth 100000 in
set_option maxHeartbeats 2000000 in
theorem cauchy_of (x y : List UInt8) (hx9 : x.length ≤ 1000) (hy9 : y.length ≤ 1000) (vx vy : Value) (w : World) (hvx : RowB w vx x) (hvy : RowB w vy y) :
    Calls Try.prog 55 #[vx, vy] w (CaPost (cau x y) w) := by
  have HX := Lib.hid hvx
  have HY := Lib.hid hvy
  obtain ⟨px, cx, rfl, hx1, hx2⟩ := hvx.shape
  obtain ⟨py, cy, rfl, hy1, hy2⟩ := hvy.shape
  unfold maxLen at hx2 hy2
  obtain ⟨n, hn⟩ : ∃ n, n = x.length := ⟨_, rfl⟩
  obtain ⟨m, hm⟩ : ∃ m, m = y.length := ⟨_, rfl⟩
  rw [← hn] at hx1 hx9 HX ⊢
  rw [← hm] at hy1 hy9 HY ⊢
  have Hn := Lib.hid hn
  have Hm := Lib.hid hm
  clear hvx hvy hn hm
  go_enter Try.func55, Try.ntmps55
  go_wp2_with fail
  go_loopg [5, 7, 8, 10, 13] n (fun gk v5 v7 v8 v10 v13 wr => CaRel x y w n gk v5 v13 wr)
  case atStart => exact ⟨[], by simp, rfl, RowsO.nil _ _ _, Below.refl _ _⟩
  case round =>
    obtain ⟨wO, hwO⟩ : ∃ x : World, x = wr := ⟨_, rfl⟩
    obtain ⟨gO, hgO⟩ : ∃ x : Nat, x = gk := ⟨_, rfl⟩
    subst hwO hgO
    obtain ⟨vs, hi, rfl, hR, hB⟩ := hrel
    obtain ⟨i, hie⟩ : ∃ i, i = vs.length := ⟨_, rfl⟩
    rw [← hie] at hi ⊢
    have Hie := Lib.hid hie
    have Hi := Lib.hid hi
    have HR := Lib.hid hR
    have HB := Lib.hid hB
    have hz := hB.size
    clear hi hR hB hie
    by_cases hin : i < n
    · obtain ⟨g, o, cc', hv2, hg, _, _, hc⟩ := HX.out.cellAt (j := i) (by rw [← Hn.out]; exact hin)
      injection hv2 with e1 e2 e3
      have He1 := Lib.hid e1
      have d0 : wO.cell? ⟨g, o + i, none⟩ = some (bv (Gv.at' x i)) := (HB.out.cell (p := ⟨g, o + i, none⟩) hg).trans hc
      obtain ⟨a, ha⟩ : ∃ a, a = Gv.at' x i := ⟨_, rfl⟩
      rw [← ha] at d0
      have hxa : x[i]? = some a := by rw [ha]; exact Gv.at_get? (by rw [← Hn.out]; exact hin)
      have Hxa := Lib.hid hxa
      rw [e1]
      clear e1 e2 e3 hc ha hxa
      go_wp2_with fail
      go_loopg [8, 10, 19] m (fun gk v8 v10 v19 wr => CaIn a y w wO m gk v8 v19 wr)
      case atStart => exact ⟨0, by omega, rfl, World.ownsRow_nil _ _ _ _, Below.refl _ _⟩
      case round =>
        clear d0
        obtain ⟨k, hk, rfl, hO, hB2⟩ := hrel
        have Hk := Lib.hid hk
        have HO := Lib.hid hO
        have HB2 := Lib.hid hB2
        have hz2 := hB2.size
        clear hk hO hB2
        by_cases hkm : k < m
        · obtain ⟨g2, o2, cc2, hv3, hg2, _, _, hc2⟩ := HY.out.cellAt (j := k) (by rw [← Hm.out]; exact hkm)
          injection hv3 with e1 e2 e3
          have He2 := Lib.hid e1
          have hBw := HB.out.trans (HB2.out.mono hz)
          have d1 : wr.cell? ⟨g2, o2 + k, none⟩ = some (bv (Gv.at' y k)) := (hBw.cell (p := ⟨g2, o2 + k, none⟩) hg2).trans hc2
          obtain ⟨b, hb⟩ : ∃ b, b = Gv.at' y k := ⟨_, rfl⟩
          rw [← hb] at d1
          have hyb : y[k]? = some b := by rw [hb]; exact Gv.at_get? (by rw [← Hm.out]; exact hkm)
          have hnx : (y.map (fun b => bv (Gf.inv (a ^^^ b)))).take k ++ [bv (Gf.inv (a ^^^ b))] = (y.map (fun b => bv (Gf.inv (a ^^^ b)))).take (k + 1) := by
            rw [List.take_add_one, List.getElem?_map, hyb]; rfl
          have Hnx := Lib.hid hnx
          have hk9 : k + 1 ≤ 1000000 := by omega
          have hxor : bits .xor .u8 (a.toNat : Int) (b.toNat : Int) = ((a ^^^ b).toNat : Int) := by
            have h := bv_xor a b
            injection h with _ h2
          have HI := Lib.hid (inverse_any (a ^^^ b) _ hxor wr)
          rw [e1]
          clear e1 e2 e3 hc2 hb hyb hnx hBw hxor
          go_wp2_with fail
          refine HI.out.mono ?_
          rintro e w6 ⟨rfl, rfl⟩
          clear HI d1
          go_wp2_with (at_builtin; refine app1 wO wr _ 5 74 rfl _ _ rfl wO.heap.size Try.underlying74 info_byteV rfl _ k _ rfl _ rfl rfl HO.out rfl hk9 (by decide) hz2 HB2.out ?_)
          intro v8 w8 hown8 hb8 hgr8 hat8
          rw [Hnx.out] at hown8
          have HO8 := Lib.hid hown8
          have HB8 := Lib.hid hb8
          clear hown8 hb8 hgr8 hat8 HO HB2
          go_wp2_with fail
          rw [← He2.out]
          go_roundg (gk - 1)
          case measure => have := Hk.out; omega
          case rel => exact ⟨k + 1, by have := Hk.out; omega, by go_num, HO8.out, HB8.out⟩
        · have hkm' : k = m := by have := Hk.out; omega
          have hO9 : OwnB wr wO.heap.size u8 (y.map (fun b => Gf.inv (a ^^^ b))) := by
            have h := OwnR.of_owns HO.out
            rw [hkm', List.take_of_length_le (by rw [List.length_map, ← Hm.out]; exact Nat.le_refl _)] at h
            unfold OwnB
            rw [List.map_map]; exact h
          have hcr : (cau x y)[i]? = some (y.map (fun b => Gf.inv (a ^^^ b))) := by unfold cau; rw [List.getElem?_map, Hxa.out]; rfl
          have HR2 := Lib.hid (HR.out.below HB2.out)
          have hub : ∀ g, u8.ownBlock = some g → u5.ownBlock ≠ some g := fun g h1 h2 => by
            have k1 := (OwnR.lt hO9 h1).1
            have k2 := (OwnR.lt (OwnR.of_owns HR.out.own) h2).2
            omega
          have hlen : ∀ (j : Nat) u, vs[j]? = some u → ∃ r, (cau x y)[j]? = some r := fun j u hu => by
            have h1 := (List.getElem?_eq_some_iff.1 hu).1
            rw [← Hie.out] at h1
            exact ⟨_, List.getElem?_eq_getElem (by unfold cau; rw [List.length_map, ← Hn.out]; omega)⟩
          have hi9 : i + 1 ≤ 1000000 := by omega
          have hBr := HB.out.trans (HB2.out.mono hz)
          have HBr := Lib.hid hBr
          have hzr := hBr.size
          have H9 := Lib.hid (OwnR.mono hO9 hz)
          obtain ⟨p8, n8, c8, rfl⟩ := hO9.slice
          have Hub := Lib.hid hub
          have Hlen := Lib.hid hlen
          have Hcr := Lib.hid hcr
          have hown : wr.ownsRow w.heap.size 74 1 u5 i vs := by rw [Hie.out]; exact HR2.out.own
          have Hown := Lib.hid hown
          obtain ⟨p5, n5, c5, rfl⟩ := (OwnR.of_owns hown).slice
          clear hO9 hcr hub hlen hBr HO HB2 hkm hown
          go_wp2_with (at_builtin; refine app1 w wr (.slice p8 n8 c8) 74 85 rfl _ _ rfl w.heap.size Try.underlying85 info_rowC rfl _ i _ rfl _ rfl rfl Hown.out rfl hi9 (by decide) hzr HBr.out ?_)
          intro v9 w9 hown9 hb9 hgr9 hat9
          rw [Hie.out] at hown9
          have hR9 := HR2.out.push Hlen.out (by rw [← Hie.out]; exact Hcr.out) H9.out Hub.out hown9 hgr9 hat9
          have HR9 := Lib.hid hR9
          have HB9 := Lib.hid hb9
          have hl9 : (vs ++ [Value.slice p8 n8 c8]).length = i + 1 := by rw [List.length_append, ← Hie.out]; rfl
          have Hl9 := Lib.hid hl9
          clear hown9 hb9 hgr9 hat9 hR9 hl9 HR HR2 H9 Hub Hlen Hcr Hown HBr
          go_wp2_with fail
          rw [← He1.out]
          go_roundg (gO - 1)
          case measure => have := Hi.out; omega
          case rel => exact ⟨_, by rw [Hl9.out]; have := Hi.out; omega, by rw [Hl9.out]; go_num, HR9.out, HB9.out⟩
    · have hin' : i = n := by have := Hi.out; omega
      have HM : Hid (RowsM wO u5 (cau x y)) := Lib.hid (HR.out.rowsM (by rw [← Hie.out, hin']; unfold cau; rw [List.length_map, Hn.out]))
      clear HR
      go_wp2_with fail
      go_ret
      exact ⟨_, rfl, HM.out, HB.out⟩
end Go.Proofs.Ytcldioneiededaa
