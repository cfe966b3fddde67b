/- The walks of pq.many, pq.weights, pq.Of, pq.Encode. -/
import Derived.Test.YtcldioneiededaaCodS
import Derived.RegionTactic
namespace Go.Proofs.Ytcldioneiededaa
open Go.ChangeShapes Go.WideShapes Go.ChangeAt Go.RowKit
set_option linter.unusedVariables false
namespace Gv
theorem sumS_congr {ls : List ByteArray} {t u : Nat → UInt8} (h : ∀ i, i < ls.length → t i = u i) : sumS ls t = sumS ls u := by
  unfold sumS comb
  refine congrArg txt (tab_ext (fun j _ => xsum_congr (fun i hi => by rw [h i hi])))
def P (ls : List ByteArray) : ByteArray := sumS ls (fun _ => 1)
def Q (ls : List ByteArray) : ByteArray := sumS ls (fun i => Gf.pow 2 i)
end Gv
def manyB (n : Int) : Bool := decide (2 < n) && decide (n ≤ 12)
theorem many_any (n : Int) (w : World) :
    Calls Try.prog 42 #[iv n] w fun e w' => e = .returned (.bool (manyB n)) ∧ w = w' := by
  by_cases h1 : 2 < n
  · have d1 := dec_t h1
    by_cases h2 : n ≤ 12
    · have d2 := dec_t h2
      have h : manyB n = true := by unfold manyB; rw [d1, d2]; rfl
      rw [h]
      clear h h1 h2
      go_enter Try.func42, Try.ntmps42
      go_wp2_with fail
      go_ret
      exact ⟨rfl, rfl⟩
    · have d2 := dec_f h2
      have h : manyB n = false := by unfold manyB; rw [d1, d2]; rfl
      rw [h]
      clear h h1 h2
      go_enter Try.func42, Try.ntmps42
      go_wp2_with fail
      go_ret
      exact ⟨rfl, rfl⟩
  · have d1 := dec_f h1
    have h : manyB n = false := by unfold manyB; rw [d1]; rfl
    rw [h]
    clear h h1
    go_enter Try.func42, Try.ntmps42
    go_wp2_with fail
    go_ret
    exact ⟨rfl, rfl⟩
def WgtRel (w : World) (g h n m gk : Nat) (i : Value) (wr : World) : Prop :=
  ∃ k : Nat, k + gk = n ∧ i = iv k ∧ OwnB wr w.heap.size (.slice (some ⟨g, 0, none⟩) n n) (Gv.tab n (Gv.upto k (fun _ => 1) (fun _ => 0))) ∧ OwnB wr w.heap.size (.slice (some ⟨h, 0, none⟩) n n) (Gv.tab n (Gv.upto k (fun i => Gf.pow 2 i) (fun _ => 0))) ∧ Below w.heap.size w wr
def WgtPost (n : Nat) (w : World) (e : Ending) (w' : World) : Prop :=
  ∃ v1 v2, e = .returned (.tuple #[v1, v2]) ∧ OwnB w' w.heap.size v1 (Gv.tab n (fun _ => 1)) ∧ OwnB w' w.heap.size v2 (Gv.tab n (fun i => Gf.pow 2 i)) ∧ Below w.heap.size w w'
theorem OwnB.other {w : World} {base g i : Nat} {v : Value} {l : List UInt8} {u : Value} (h : OwnB w base v l) (hv : v.ownBlock ≠ some g) : OwnB (w.setCell ⟨g, i, none⟩ u) base v l :=
  OwnR.kept h ((Kept.self g w).set1 i u) (fun k hk e => hv (by rw [hk, e]))
set_option maxRecDepth 100000 in
theorem weights_any (n : Nat) (hn : n ≤ 1000) (w : World) :
    Calls Try.prog 51 #[iv n] w (WgtPost n w) := by
  have mk := fun w => make_bytesV n (by omega) w
  have hz : ∀ (W : World) (o : Obj), (W.alloc o).heap.size = W.heap.size + 1 := fun W o => by simp
  have HO := Lib.hid (fun W => owns_made n (by omega) W)
  go_enter Try.func51, Try.ntmps51
  go_upto_region 2 with (fail)
  go_cut [4, 5] (fun a b wq => ∃ wk g h, wk = wq ∧ a = .slice (some ⟨g, 0, none⟩) n n ∧ b = .slice (some ⟨h, 0, none⟩) n n ∧ g ≠ h ∧ OwnB wk w.heap.size (.slice (some ⟨g, 0, none⟩) n n) (Gv.tab n (fun _ => 0)) ∧ OwnB wk w.heap.size (.slice (some ⟨h, 0, none⟩) n n) (Gv.tab n (fun _ => 0)) ∧ Below w.heap.size w wk)
  case first =>
    have HO1 := Lib.hid (show ∀ W : World, Below W.heap.size W (W.alloc (.cells (madeCells #[.int .u8 0] n) 5)) from fun W => (Below.refl _ _).alloc (Nat.le_refl _) _)
    have Hz := Lib.hid hz
    clear hz
    go_region
    · go_wp2_with fail
      go_meet
      refine ⟨_, _, _, rfl, rfl, rfl, by simp, ?_, ?_, ?_⟩
      · exact OwnR.below (OwnR.below (HO.out w) (HO1.out _)) (Below.refl _ _).drew
      · have h2 := HO.out (w.alloc (.cells (madeCells #[.int .u8 0] n) 5)); rw [Hz.out] at h2; exact OwnR.below (OwnR.mono h2 (by omega)) (Below.refl _ _).drew
      · exact ((HO1.out w).trans ((HO1.out _).mono (by rw [Hz.out]; omega))).drew
    · go_wp2_with fail
      go_meet
      refine ⟨_, _, _, rfl, rfl, rfl, by simp, ?_, ?_, ?_⟩
      · have h2 := HO.out (w.alloc (.cells (madeCells #[.int .u8 0] n) 5)); rw [Hz.out] at h2; exact OwnR.below (OwnR.mono h2 (by omega)) (Below.refl _ _).drew
      · exact OwnR.below (OwnR.below (HO.out w) (HO1.out _)) (Below.refl _ _).drew
      · exact ((HO1.out w).trans ((HO1.out _).mono (by rw [Hz.out]; omega))).drew
  case rest =>
    obtain ⟨wk, g, h, rfl, rfl, rfl, hgh, h1, h2, hB⟩ := hcut
    have H1 := Lib.hid h1
    have H2 := Lib.hid h2
    have HB := Lib.hid hB
    have Hgh := Lib.hid hgh
    clear h1 h2 hB mk hz hgh
    go_wp2_with fail
    go_loopg [12] n (fun gk i wr => WgtRel w g h n 0 gk i wr)
    case atStart => exact ⟨0, by omega, rfl, by rw [Gv.upto_zero]; exact H1.out, by rw [Gv.upto_zero]; exact H2.out, HB.out⟩
    case round =>
      obtain ⟨k, hk, rfl, hO1, hO2, hB⟩ := hrel
      have Hk := Lib.hid hk
      have HO1 := Lib.hid hO1
      have HO2 := Lib.hid hO2
      have HB1 := Lib.hid hB
      clear hk hO1 hO2 hB
      by_cases hlt : k < n
      · obtain ⟨g', o', c', hv, hbg, _, _, _, c1, f1⟩ := HO1.out.cellAt (j := k) (by rw [Gv.tab_len]; exact hlt)
        injection hv with q1 q8 q9
        injection q1 with q1
        injection q1 with q1 q2
        subst q1 q2
        clear q8 q9
        obtain ⟨h', o', c', hv, hbh, _, _, _, c2, f2⟩ := HO2.out.cellAt (j := k) (by rw [Gv.tab_len]; exact hlt)
        injection hv with q1 q8 q9
        injection q1 with q1
        injection q1 with q1 q2
        subst q1 q2
        clear q8 q9
        rw [Nat.zero_add] at c1 c2
        have e1 := OwnB.setAt HO1.out (k := k) (by rw [Gv.tab_len]; exact hlt) 1
        have e2 := OwnB.setAt (HO2.out.other (g := g) (i := 0 + k) (u := bv 1) (by intro e; exact Hgh.out (Option.some.inj e).symm)) (k := k) (by rw [Gv.tab_len]; exact hlt) (Gf.pow 2 k)
        have e3 := OwnB.other (g := h) (i := 0 + k) (u := bv (Gf.pow 2 k)) e1 (by intro e; exact Hgh.out (Option.some.inj e))
        have s1 := Gv.upto_set (n := n) (k := k) (fun _ => 1) (fun _ => 0)
        have s2 := Gv.upto_set (n := n) (k := k) (fun i => Gf.pow 2 i) (fun _ => 0)
        rw [s1] at e3
        rw [s2] at e2
        rw [Nat.zero_add] at e2 e3
        have HE2 := Lib.hid e2
        have HE3 := Lib.hid e3
        have HB3 := Lib.hid ((HB1.out.setCell (p := ⟨g, k, none⟩) hbg (bv 1)).setCell (p := ⟨h, k, none⟩) hbh (bv (Gf.pow 2 k)))
        have hgh1 : g ≠ h := Hgh.out
        have HP := Lib.hid (power_any 2 k 2 k rfl rfl (by omega) wr)
        clear e1 e2 e3 s1 s2
        go_wp2_with fail
        refine HP.out.mono ?_
        rintro e w' ⟨rfl, rfl⟩
        go_wp2_with fail
        go_roundg (gk - 1)
        case measure => have := Hk.out; omega
        case rel => exact ⟨k + 1, by have := Hk.out; omega, by go_num, HE3.out, HE2.out, HB3.out⟩
      · obtain rfl : k = n := by have := Hk.out; omega
        have E1 := HO1.out
        have E2 := HO2.out
        rw [Gv.tab_upto] at E1 E2
        have HE1 := Lib.hid E1
        have HE2 := Lib.hid E2
        clear E1 E2
        go_wp2_with fail
        go_ret2
        exact ⟨_, _, rfl, HE1.out, HE2.out, HB1.out⟩
theorem OwnB.row {w : World} {base : Nat} {v : Value} {l : List UInt8} (h : OwnB w base v l) : RowB w v l := OwnR.row h
def OfPost (ls : List ByteArray) (w : World) (e : Ending) (w' : World) : Prop := e = .returned (.tuple #[.string (Gv.P ls), .string (Gv.Q ls)]) ∧ Below w.heap.size w w'
theorem of_any (ls : List ByteArray) (hall : ∀ s ∈ ls, s.size = size0 ls) (hn : size0 ls ≤ 1000000) (hl : ls.length ≤ 1000) (v : Value) (w : World) (hv : Strs w v ls) :
    Calls Try.prog 28 #[v] w (OfPost ls w) := by
  have Hv := Lib.hid hv
  have Hall := Lib.hid hall
  obtain ⟨p, cap, rfl, hl0, hc⟩ := hv.get
  have Hc := Lib.hid hc
  obtain ⟨m, hm⟩ : ∃ m, m = ls.length := ⟨_, rfl⟩
  have HW := Lib.hid (weights_any ls.length hl w)
  have e1 : Gv.sumS ls (Gv.at' (Gv.tab ls.length (fun _ => 1))) = Gv.P ls := Gv.sumS_congr (fun i hi => Gv.tab_at _ hi)
  have e2 : Gv.sumS ls (Gv.at' (Gv.tab ls.length (fun i => Gf.pow 2 i))) = Gv.Q ls := Gv.sumS_congr (fun i hi => Gv.tab_at _ hi)
  have E1 := Lib.hid e1
  have E2 := Lib.hid e2
  rw [← hm] at hl0 HW ⊢
  have Hm := Lib.hid hm
  clear hall hv hc hl hm e1 e2
  go_enter Try.func28, Try.ntmps28
  go_wp2_with fail
  refine HW.out.mono ?_
  rintro e w1 ⟨v1, v2, rfl, h1, h2, hb⟩
  have HB := Lib.hid hb
  have Hr2 := Lib.hid h2
  have hc1 := csum_any ls _ Hall.out hn (by rw [Gv.tab_len, ← Hm.out]; exact Nat.le_refl _) _ _ w1 (Hv.out.below hb) h1.row
  unfold CSumPost at hc1
  rw [Hm.out, E1.out, ← Hm.out] at hc1
  have HC1 := Lib.hid hc1
  have hz := hb.size
  clear h1 h2 hb hc1 HW
  go_wp2_with fail
  refine HC1.out.mono ?_
  rintro e w2 ⟨rfl, hb2⟩
  have HB2 := Lib.hid (HB.out.trans (hb2.mono hz))
  have hz2 := HB2.out.size
  have hc2 := csum_any ls _ Hall.out hn (by rw [Gv.tab_len, ← Hm.out]; exact Nat.le_refl _) _ _ w2 (Hv.out.below HB2.out) (Hr2.out.row.below hb2)
  unfold CSumPost at hc2
  rw [Hm.out, E2.out, ← Hm.out] at hc2
  have HC2 := Lib.hid hc2
  clear hb2 hc2 HC1
  go_wp2_with fail
  refine HC2.out.mono ?_
  rintro e w3 ⟨rfl, hb3⟩
  have HB3 := Lib.hid (HB2.out.trans (hb3.mono hz2))
  clear hb3 HC2
  go_wp2_with fail
  go_ret2
  exact ⟨rfl, HB3.out⟩
end Go.Proofs.Ytcldioneiededaa
