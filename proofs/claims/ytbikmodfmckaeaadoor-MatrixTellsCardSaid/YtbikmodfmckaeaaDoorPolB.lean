/- The walk of poly.Add; Add, Mul, Eval, DivMod at whatever lengths; paritysame.Bytes. -/
import Derived.Test.YtbikmodfmckaeaaDoorPolD
import Derived.Test.YtbikmodfmckaeaaDoorPolI
namespace Go.Proofs.YtbikmodfmckaeaaDoor
open Go.ChangeShapes Go.WideShapes Go.ChangeAt Go.RowKit
set_option linter.unusedVariables false
namespace Pl
open Gv
/-- f with b's first k -/
def ap (f : Nat → UInt8) (b : List UInt8) (k : Nat) : Nat → UInt8 := fun j => f j ^^^ (if j < k then cf b j else 0)
theorem ap_zero (f : Nat → UInt8) (b : List UInt8) : ap f b 0 = f := by funext j; unfold ap; rw [if_neg (by omega), Gf.add_zero]
theorem ap_at (f : Nat → UInt8) (b : List UInt8) (k : Nat) : ap f b k k = f k := by unfold ap; rw [if_neg (by omega), Gf.add_zero]
theorem ap_set {n : Nat} (f : Nat → UInt8) (b : List UInt8) (k : Nat) : (tab n (ap f b k)).set k (ap f b k k ^^^ cf b k) = tab n (ap f b (k + 1)) := by
  rw [tab_set]
  refine tab_ext (fun j _ => ?_)
  by_cases e : j = k
  · subst e
    rw [if_pos rfl, ap_at]; unfold ap; rw [if_pos (by omega)]
  · rw [if_neg e]; unfold ap
    by_cases c : j < k
    · rw [if_pos c, if_pos (by omega)]
    · rw [if_neg c, if_neg (by omega)]
theorem ap_full (f : Nat → UInt8) (b : List UInt8) : ap f b b.length = fun j => f j ^^^ cf b j := by
  funext j; unfold ap
  by_cases c : j < b.length
  · rw [if_pos c]
  · rw [if_neg c, cf_out (by omega)]
theorem ap_plus (a b : List UInt8) : tab (max a.length b.length) (ap (ap (fun _ => 0) a a.length) b b.length) = plus a b := by
  rw [ap_full, ap_full]; unfold plus
  exact tab_ext (fun j _ => by show 0 ^^^ cf a j ^^^ cf b j = _; rw [Gf.zero_add])
def fullF (a b : List UInt8) : Int := if 40 < a.length ∨ 40 < b.length then 4 else 0
theorem plus_len (a b : List UInt8) : (plus a b).length = max a.length b.length := tab_len _ _
end Pl
def ApRel (f : Nat → UInt8) (b : List UInt8) (w : World) (B g n lb gk : Nat) (i : Value) (wr : World) : Prop :=
  ∃ k : Nat, k + gk = lb ∧ i = iv k ∧ OwnB wr B (.slice (some ⟨g, 0, none⟩) n n) (Gv.tab n (Pl.ap f b k)) ∧ Below B w wr
def AddPost (l : List UInt8) (w : World) (e : Ending) (w' : World) : Prop := ∃ v, e = .returned (.tuple #[v, .nilIface]) ∧ OwnB w' w.heap.size v l ∧ Below w.heap.size w w'
set_option maxRecDepth 100000 in
set_option maxHeartbeats 2000000 in
theorem padd_any (a b : List UInt8) (ha : a.length ≤ 40) (hb : b.length ≤ 40) (va vb : Value) (w : World) (hva : RowB w va a) (hvb : RowB w vb b) :
    Calls Tryd.prog 17 #[va, vb] w (AddPost (Pl.trim (Pl.plus a b)) w) := by
  have HA := Lib.hid hva
  have HBb := Lib.hid hvb
  obtain ⟨pa, ca, rfl, _, _⟩ := hva.shape
  obtain ⟨pb, cb, rfl, _, _⟩ := hvb.shape
  have hb0 : Below w.heap.size w (w.alloc (.cells #[.slice pa a.length ca, .slice pb b.length cb] 22)) := (Below.refl _ _).alloc (Nat.le_refl _) _
  have HF := Lib.hid (full_any _ _ _ (row_slt2 w pa pb a.length ca b.length cb 22))
  rw [show ([(⟨pa, a.length, ca⟩ : SlT), ⟨pb, b.length, cb⟩].any fun x => decide (40 < x.n)) = false by simp; omega] at HF
  obtain ⟨n, hn⟩ : ∃ n, n = max a.length b.length := ⟨_, rfl⟩
  have Hpl := Lib.hid (Pl.ap_plus a b)
  rw [← hn] at Hpl
  obtain ⟨la, hla⟩ : ∃ n, n = a.length := ⟨_, rfl⟩
  obtain ⟨lb, hlb⟩ : ∃ n, n = b.length := ⟨_, rfl⟩
  unfold AddPost
  rw [← hla] at HA HF hb0 ha hn Hpl ⊢
  rw [← hlb] at HBb HF hb0 hb hn Hpl ⊢
  have Hla := Lib.hid hla
  have Hlb := Lib.hid hlb
  have hln : la ≤ n := by omega
  have hlbn : lb ≤ n := by omega
  have hn40 : n ≤ 40 := by omega
  have hmx : max (la : Int) (lb : Int) = (n : Int) := by omega
  have mk := make_bytesV n (by omega) (w.alloc (.cells #[.slice pa la ca, .slice pb lb cb] 22))
  have hs1 : (w.alloc (.cells #[.slice pa la ca, .slice pb lb cb] 22)).heap.size = w.heap.size + 1 := by simp
  have ho0 := owns_made n (by omega) (w.alloc (.cells #[.slice pa la ca, .slice pb lb cb] 22))
  rw [hs1] at ho0 mk
  have HO0 := Lib.hid (OwnR.mono (base' := w.heap.size) ho0 (by omega))
  have HB0 := Lib.hid (hb0.alloc (by simp) (.cells (madeCells #[.int .u8 0] n) 5))
  clear hva hvb hb0 hla hlb hn ho0 hs1
  go_enter Tryd.func17, Tryd.ntmps17
  go_wp2_with fail
  refine HF.out.mono ?_
  rintro e w' ⟨rfl, rfl⟩
  go_wp2_with fail
  go_loopg [7, 8, 24] la (fun gk v7 v8 v24 wr => ApRel (fun _ => 0) a w w.heap.size (w.heap.size + 1) n la gk v24 wr)
  case atStart => exact ⟨0, by omega, rfl, by rw [Pl.ap_zero]; exact HO0.out, HB0.out⟩
  case round =>
      clear HO0 HB0 mk HF
      obtain ⟨k, hk, rfl, hO, hB⟩ := hrel
      have Hk := Lib.hid hk
      have HO := Lib.hid hO
      have HB := Lib.hid hB
      clear hk hO hB
      by_cases hkb : k < la
      · obtain ⟨g2, o2, cc2, hv3, hg2, _, _, hc2⟩ := HA.out.cellAt (j := k) (by rw [← Hla.out]; exact hkb)
        injection hv3 with e1 e2 e3
        have He2 := Lib.hid e1
        have d1 : wr.cell? ⟨g2, o2 + k, none⟩ = some (bv (Pl.cf a k)) := (HB.out.cell (p := ⟨g2, o2 + k, none⟩) hg2).trans hc2
        have hkn : k < n := by omega
        obtain ⟨go', oo, co, hvo, _, hgo, _, _, ho1, hof⟩ := HO.out.cellAt (j := k) (by rw [Gv.tab_len]; exact hkn)
        injection hvo with q1 q8 q9
        injection q1 with q1
        injection q1 with q1 q2
        subst q1 q2
        clear q8 q9
        rw [show Gv.at' (Gv.tab n (Pl.ap (fun _ => 0) a k)) k = Pl.ap (fun _ => 0) a k k by unfold Gv.at'; rw [Gv.tab_at _ hkn], Nat.zero_add] at ho1
        obtain ⟨y, hy⟩ : ∃ y, y = Pl.cf a k := ⟨_, rfl⟩
        obtain ⟨z, hz⟩ : ∃ z, z = Pl.ap (fun _ => 0) a k k := ⟨_, rfl⟩
        rw [← hy] at d1
        rw [← hz] at ho1
        have HO2 : Hid (OwnB (wr.setCell ⟨w.heap.size + 1, k, none⟩ (bv (z ^^^ y))) w.heap.size (.slice (some ⟨w.heap.size + 1, 0, none⟩) n n) (Gv.tab n (Pl.ap (fun _ => 0) a (k + 1)))) := Lib.hid (by
          have h1 := OwnB.setAt HO.out (k := k) (by rw [Gv.tab_len]; exact hkn) (z ^^^ y)
          rw [hz, hy, Pl.ap_set, Nat.zero_add] at h1
          rw [hz, hy]
          exact h1)
        have HB3 : Hid (Below w.heap.size w (wr.setCell ⟨w.heap.size + 1, k, none⟩ (bv (z ^^^ y)))) := Lib.hid (HB.out.setCell (p := ⟨w.heap.size + 1, k, none⟩) (by show w.heap.size ≤ w.heap.size + 1; omega) _)
        have hkI : (k : Int) < (n : Int) := by omega
        have fo := hof k
        rw [e1]
        clear e1 e2 e3 hc2 hy hz hof
        go_wp2_with fail
        rw [← He2.out]
        go_roundg (gk - 1)
        case measure => have := Hk.out; omega
        case rel => exact ⟨k + 1, by have := Hk.out; omega, by go_num, by rw [bv_xor]; exact HO2.out, by rw [bv_xor]; exact HB3.out⟩
      · have hkl : la = k := by have := Hk.out; omega
        subst hkl
        clear hkb
        go_wp2_with fail
        go_loopg [9, 10, 39] lb (fun gk v9 v10 v39 wr => ApRel (Pl.ap (fun _ => 0) a la) b w w.heap.size (w.heap.size + 1) n lb gk v39 wr)
        case atStart => exact ⟨0, by omega, rfl, by rw [Pl.ap_zero]; exact HO.out, HB.out⟩
        case round =>
          clear HO HB Hk
          obtain ⟨k, hk, rfl, hO, hB⟩ := hrel
          have Hk := Lib.hid hk
          have HO := Lib.hid hO
          have HB := Lib.hid hB
          clear hk hO hB
          by_cases hkb : k < lb
          · obtain ⟨g2, o2, cc2, hv3, hg2, _, _, hc2⟩ := HBb.out.cellAt (j := k) (by rw [← Hlb.out]; exact hkb)
            injection hv3 with e1 e2 e3
            have He2 := Lib.hid e1
            have d1 : wr.cell? ⟨g2, o2 + k, none⟩ = some (bv (Pl.cf b k)) := (HB.out.cell (p := ⟨g2, o2 + k, none⟩) hg2).trans hc2
            have hkn : k < n := by omega
            obtain ⟨go', oo, co, hvo, _, hgo, _, _, ho1, hof⟩ := HO.out.cellAt (j := k) (by rw [Gv.tab_len]; exact hkn)
            injection hvo with q1 q8 q9
            injection q1 with q1
            injection q1 with q1 q2
            subst q1 q2
            clear q8 q9
            rw [show Gv.at' (Gv.tab n (Pl.ap (Pl.ap (fun _ => 0) a la) b k)) k = Pl.ap (Pl.ap (fun _ => 0) a la) b k k by unfold Gv.at'; rw [Gv.tab_at _ hkn], Nat.zero_add] at ho1
            obtain ⟨y, hy⟩ : ∃ y, y = Pl.cf b k := ⟨_, rfl⟩
            obtain ⟨z, hz⟩ : ∃ z, z = Pl.ap (Pl.ap (fun _ => 0) a la) b k k := ⟨_, rfl⟩
            rw [← hy] at d1
            rw [← hz] at ho1
            have HO2 : Hid (OwnB (wr.setCell ⟨w.heap.size + 1, k, none⟩ (bv (z ^^^ y))) w.heap.size (.slice (some ⟨w.heap.size + 1, 0, none⟩) n n) (Gv.tab n (Pl.ap (Pl.ap (fun _ => 0) a la) b (k + 1)))) := Lib.hid (by
              have h1 := OwnB.setAt HO.out (k := k) (by rw [Gv.tab_len]; exact hkn) (z ^^^ y)
              rw [hz, hy, Pl.ap_set, Nat.zero_add] at h1
              rw [hz, hy]
              exact h1)
            have HB3 : Hid (Below w.heap.size w (wr.setCell ⟨w.heap.size + 1, k, none⟩ (bv (z ^^^ y)))) := Lib.hid (HB.out.setCell (p := ⟨w.heap.size + 1, k, none⟩) (by show w.heap.size ≤ w.heap.size + 1; omega) _)
            have hkI : (k : Int) < (n : Int) := by omega
            have fo := hof k
            rw [e1]
            clear e1 e2 e3 hc2 hy hz hof
            go_wp2_with fail
            rw [← He2.out]
            go_roundg (gk - 1)
            case measure => have := Hk.out; omega
            case rel => exact ⟨k + 1, by have := Hk.out; omega, by go_num, by rw [bv_xor]; exact HO2.out, by rw [bv_xor]; exact HB3.out⟩
          · have hkl : lb = k := by have := Hk.out; omega
            subst hkl
            rw [Hpl.out] at HO
            have hpl2 : (Pl.plus a b).length = n := by rw [← Hpl.out, Gv.tab_len]
            have HT := Lib.hid (trim_any (Pl.plus a b) (by rw [hpl2]; omega) _ _ (OwnB.row HO.out))
            unfold TrimPost at HT
            have hz := HB.out.size
            clear hpl2 HO
            go_wp2_with fail
            refine HT.out.mono ?_
            rintro e w5 ⟨v5, rfl, hO5, hb5⟩
            have HO5 := Lib.hid (OwnR.mono hO5 hz)
            have HB5 := Lib.hid (HB.out.trans (hb5.mono hz))
            clear hO5 hb5 HT
            go_wp2_with fail
            go_ret2
            exact ⟨_, rfl, HO5.out, HB5.out⟩
set_option maxRecDepth 100000 in
theorem padd_full (a b : List UInt8) (h : 40 < a.length ∨ 40 < b.length) (va vb : Value) (w : World) (hva : RowB w va a) (hvb : RowB w vb b) :
    Calls Tryd.prog 17 #[va, vb] w fun e w' => e = .returned (.tuple #[.slice none 0 0, errV 4]) ∧ Below w.heap.size w w' := by
  obtain ⟨pa, ca, rfl, _, _⟩ := hva.shape
  obtain ⟨pb, cb, rfl, _, _⟩ := hvb.shape
  have hb0 : Below w.heap.size w (w.alloc (.cells #[.slice pa a.length ca, .slice pb b.length cb] 22)) := (Below.refl _ _).alloc (Nat.le_refl _) _
  have HF := Lib.hid (full_any _ _ _ (row_slt2 w pa pb a.length ca b.length cb 22))
  rw [show ([(⟨pa, a.length, ca⟩ : SlT), ⟨pb, b.length, cb⟩].any fun x => decide (40 < x.n)) = true by simp; omega] at HF
  have HB0 := Lib.hid hb0
  clear hva hvb hb0 h
  generalize a.length = la at *
  generalize b.length = lb at *
  go_enter Tryd.func17, Tryd.ntmps17
  go_wp2_with fail
  refine HF.out.mono ?_
  rintro e w' ⟨rfl, rfl⟩
  go_wp2_with fail
  go_ret2
  exact ⟨rfl, HB0.out⟩
set_option maxRecDepth 100000 in
theorem pmul_full (a b : List UInt8) (h : 40 < a.length ∨ 40 < b.length) (va vb : Value) (w : World) (hva : RowB w va a) (hvb : RowB w vb b) :
    Calls Tryd.prog 18 #[va, vb] w fun e w' => e = .returned (.tuple #[.slice none 0 0, errV 4]) ∧ Below w.heap.size w w' := by
  obtain ⟨pa, ca, rfl, _, _⟩ := hva.shape
  obtain ⟨pb, cb, rfl, _, _⟩ := hvb.shape
  have hb0 : Below w.heap.size w (w.alloc (.cells #[.slice pa a.length ca, .slice pb b.length cb] 22)) := (Below.refl _ _).alloc (Nat.le_refl _) _
  have HF := Lib.hid (full_any _ _ _ (row_slt2 w pa pb a.length ca b.length cb 22))
  rw [show ([(⟨pa, a.length, ca⟩ : SlT), ⟨pb, b.length, cb⟩].any fun x => decide (40 < x.n)) = true by simp; omega] at HF
  have HB0 := Lib.hid hb0
  clear hva hvb hb0 h
  generalize a.length = la at *
  generalize b.length = lb at *
  go_enter Tryd.func18, Tryd.ntmps18
  go_wp2_with fail
  refine HF.out.mono ?_
  rintro e w' ⟨rfl, rfl⟩
  go_wp2_with fail
  go_ret2
  exact ⟨rfl, HB0.out⟩
set_option maxRecDepth 100000 in
theorem pdiv_full (a b : List UInt8) (h : 40 < a.length ∨ 40 < b.length) (va vb : Value) (w : World) (hva : RowB w va a) (hvb : RowB w vb b) :
    Calls Tryd.prog 20 #[va, vb] w fun e w' => e = .returned (.tuple #[.slice none 0 0, .slice none 0 0, errV 4]) ∧ Below w.heap.size w w' := by
  obtain ⟨pa, ca, rfl, _, _⟩ := hva.shape
  obtain ⟨pb, cb, rfl, _, _⟩ := hvb.shape
  have hb0 : Below w.heap.size w (w.alloc (.cells #[.slice pa a.length ca, .slice pb b.length cb] 22)) := (Below.refl _ _).alloc (Nat.le_refl _) _
  have HF := Lib.hid (full_any _ _ _ (row_slt2 w pa pb a.length ca b.length cb 22))
  rw [show ([(⟨pa, a.length, ca⟩ : SlT), ⟨pb, b.length, cb⟩].any fun x => decide (40 < x.n)) = true by simp; omega] at HF
  have HB0 := Lib.hid hb0
  clear hva hvb hb0 h
  generalize a.length = la at *
  generalize b.length = lb at *
  go_enter Tryd.func20, Tryd.ntmps20
  go_wp2_with fail
  refine HF.out.mono ?_
  rintro e w' ⟨rfl, rfl⟩
  go_wp2_with fail
  go_ret3
  exact ⟨rfl, HB0.out⟩
set_option maxRecDepth 100000 in
theorem eval_full (l : List UInt8) (h : 40 < l.length) (x : UInt8) (v : Value) (w : World) (hv : RowB w v l) :
    Calls Tryd.prog 13 #[v, bv x] w fun e w' => e = .returned (.tuple #[bv 0, errV 4]) ∧ Below w.heap.size w w' := by
  obtain ⟨p, c, rfl, _, _⟩ := hv.shape
  have hb0 : Below w.heap.size w (w.alloc (.cells #[.slice p l.length c] 22)) := (Below.refl _ _).alloc (Nat.le_refl _) _
  have HF := Lib.hid (full_any _ _ _ (row_slt1 w p l.length c 22))
  rw [show ([(⟨p, l.length, c⟩ : SlT)].any fun x => decide (40 < x.n)) = true by simp; omega] at HF
  have HB0 := Lib.hid hb0
  clear hv hb0 h
  generalize l.length = n at *
  go_enter Tryd.func13, Tryd.ntmps13
  go_wp2_with fail
  refine HF.out.mono ?_
  rintro e w' ⟨rfl, rfl⟩
  go_wp2_with fail
  go_ret2
  exact ⟨rfl, HB0.out⟩
set_option maxRecDepth 100000 in
set_option maxHeartbeats 2000000 in
theorem div_none (a b : List UInt8) (h0 : (Pl.trim b).length = 0) (ha : a.length ≤ 40) (hb : b.length ≤ 40) (va vb : Value) (w : World) (hva : RowB w va a) (hvb : RowB w vb b) :
    Calls Tryd.prog 20 #[va, vb] w fun e w' => e = .returned (.tuple #[.slice none 0 0, .slice none 0 0, errV 5]) ∧ Below w.heap.size w w' := by
  have HBb := Lib.hid hvb
  obtain ⟨pa, ca, rfl, _, _⟩ := hva.shape
  obtain ⟨pb, cb, rfl, _, _⟩ := hvb.shape
  have hb0 : Below w.heap.size w (w.alloc (.cells #[.slice pa a.length ca, .slice pb b.length cb] 22)) := (Below.refl _ _).alloc (Nat.le_refl _) _
  have HF := Lib.hid (full_any _ _ _ (row_slt2 w pa pb a.length ca b.length cb 22))
  rw [show ([(⟨pa, a.length, ca⟩ : SlT), ⟨pb, b.length, cb⟩].any fun x => decide (40 < x.n)) = false by simp; omega] at HF
  have HB0 := Lib.hid hb0
  have hz0 := hb0.size
  have HT := Lib.hid (trim_any b (by omega) _ _ (RowB.below HBb.out hb0))
  unfold TrimPost at HT
  have H0 := Lib.hid h0
  clear hva hvb hb0 h0
  generalize a.length = la at *
  generalize b.length = lb at *
  go_enter Tryd.func20, Tryd.ntmps20
  go_wp2_with fail
  refine HF.out.mono ?_
  rintro e w' ⟨rfl, rfl⟩
  go_wp2_with fail
  refine HT.out.mono ?_
  rintro e w1 ⟨vt, rfl, hO1, hb1⟩
  have HB1 := Lib.hid (HB0.out.trans (hb1.mono hz0))
  obtain ⟨p2, c2, rfl, _, _⟩ := RowB.shape (OwnB.row hO1)
  rw [H0.out]
  clear hO1 hb1 HT HF
  go_wp2_with fail
  go_ret3
  exact ⟨rfl, HB1.out⟩
/-- two lists of one's own: are they the same? -/
theorem bytes_any (a b : List UInt8) (va vb : Value) (w : World) {B1 B2 : Nat} (ha : OwnB w B1 va a) (hb : OwnB w B2 vb b) :
    Calls Tryd.prog 9 #[va, vb] w fun e w' => e = .returned (.bool (a == b)) ∧ w' = w := by
  have h1 := conv_ownB w B1 va a ha
  have h2 := conv_ownB w B2 vb b hb
  clear ha hb
  go_enter Tryd.func9, Tryd.ntmps9
  go_wp2_with fail
  go_ret
  exact ⟨rfl, rfl⟩
end Go.Proofs.YtbikmodfmckaeaaDoor
