/- Matrices in memory; the walks of matrix.scale, less, reduce's look at a column. -/
import Derived.Test.YtcldioneiededaaMatP
import Derived.Test.YtcldioneiededaaPolW
import Derived.Test.YtcldioneiededaaPqW
import Derived.StillTailTactics
namespace Go.Proofs.Ytcldioneiededaa
open Go.ChangeShapes Go.WideShapes Go.ChangeAt Go.RowKit
set_option linter.unusedVariables false
/-- a list of bytes of one's own, at a place that is known -/
theorem OwnB.cells {w : World} {B g o n c : Nat} {l : List UInt8} (h : OwnB w B (.slice (some ⟨g, o, none⟩) n c) l) (hl : 0 < l.length) :
    B ≤ g ∧ g < w.heap.size ∧ n = l.length ∧ n ≤ c ∧ c ≤ maxLen ∧ (∀ j, j < n → w.cell? ⟨g, o + j, none⟩ = some (bv (Gv.at' l j))) ∧ ∀ i, w.frozen? ⟨g, i, none⟩ = false := by
  obtain ⟨g', o', c', hv, h1, h2, h3, h4, _, h6⟩ := OwnB.cellAt h hl
  injection hv with e1 e2 e3
  injection e1 with e1
  injection e1 with e4 e5
  subst e4 e5 e3
  refine ⟨h1, h2, e2, by omega, h4, fun j hj => ?_, h6⟩
  obtain ⟨g', o', c', hv, _, _, _, _, h5, _⟩ := OwnB.cellAt h (j := j) (by omega)
  injection hv with e1 e2 e3
  injection e1 with e1
  injection e1 with e4 e5
  subst e4 e5
  exact h5
theorem RowB.cells {w : World} {g o n c : Nat} {l : List UInt8} (h : RowB w (.slice (some ⟨g, o, none⟩) n c) l) : n = l.length ∧ n ≤ c ∧ c ≤ maxLen ∧ ∀ j, j < n → w.cell? ⟨g, o + j, none⟩ = some (bv (Gv.at' l j)) := by
  obtain ⟨p, c', hv, h1, h2⟩ := RowB.shape h
  injection hv with e1 e2 e3
  subst e3
  refine ⟨e2, by omega, h2, fun j hj => ?_⟩
  obtain ⟨g', o', c', hv, _, _, _, h5⟩ := RowB.cellAt h (j := j) (by omega)
  injection hv with e1 e2 e3
  injection e1 with e1
  injection e1 with e4 e5
  subst e4 e5
  exact h5
def ScRel (l : List UInt8) (t : UInt8) (w : World) (B g o n c gk : Nat) (i : Value) (wr : World) : Prop :=
  ∃ k : Nat, k + gk = n ∧ i = iv k ∧ OwnB wr B (.slice (some ⟨g, o, none⟩) n c) (Gv.tab n (Gv.upto k (fun j => Gf.mul (Gv.at' l j) t) (Gv.at' l))) ∧ Kept (fun x => x = g) w wr
def ScPost (m : List UInt8) (w : World) (B g o n c : Nat) (e : Ending) (w' : World) : Prop := e = .returned (.tuple #[]) ∧ OwnB w' B (.slice (some ⟨g, o, none⟩) n c) m ∧ Kept (fun x => x = g) w w'
set_option maxRecDepth 100000 in
set_option maxHeartbeats 1000000 in
theorem scale_any (l : List UInt8) (n : Nat) (hn : n = l.length) (h0 : 0 < n) (t : UInt8) (B g o c : Nat) (w : World) (h : OwnB w B (.slice (some ⟨g, o, none⟩) n c) l) :
    Calls Try.prog 69 #[.slice (some ⟨g, o, none⟩) n c, bv t] w (ScPost (Gv.tab n (fun j => Gf.mul (Gv.at' l j) t)) w B g o n c) := by
  obtain ⟨_, _, hx1, hnc, hcm, _, _⟩ := OwnB.cells h (by omega)
  clear hx1
  unfold maxLen at hcm
  have HO := Lib.hid h
  have Hn := Lib.hid hn
  clear h hn
  go_enter Try.func69, Try.ntmps69
  go_wp2_with fail
  go_loopg [4, 5, 8] n (fun gk v4 v5 v8 wr => ScRel l t w B g o n c gk v8 wr)
  case atStart => exact ⟨0, by omega, rfl, by rw [Gv.upto_zero, Hn.out]; exact (Gv.tab_self l).symm ▸ (Hn.out ▸ HO.out), Kept.refl _ _⟩
  case round =>
    clear HO
    obtain ⟨k, hk, rfl, hO, hK⟩ := hrel
    have Hk := Lib.hid hk
    have HO := Lib.hid hO
    have HK := Lib.hid hK
    clear hk hO hK
    by_cases hkn : k < n
    · obtain ⟨_, hg, hx1, _, _, hc, hf⟩ := OwnB.cells HO.out (by rw [Gv.tab_len]; omega)
      have d0 := hc k hkn
      have fo := hf (o + k)
      clear hx1
      rw [show Gv.at' (Gv.tab n (Gv.upto k (fun j => Gf.mul (Gv.at' l j) t) (Gv.at' l))) k = Gv.at' l k by
        show List.getD _ _ _ = _; rw [Gv.tab_at _ hkn, Gv.upto_at]] at d0
      obtain ⟨x, hx⟩ : ∃ x, x = Gv.at' l k := ⟨_, rfl⟩
      rw [← hx] at d0
      have HO2 : Hid (OwnB (wr.setCell ⟨g, o + k, none⟩ (bv (Gf.mul x t))) B (.slice (some ⟨g, o, none⟩) n c) (Gv.tab n (Gv.upto (k + 1) (fun j => Gf.mul (Gv.at' l j) t) (Gv.at' l)))) := Lib.hid (by
        have h1 := OwnB.setAt HO.out (k := k) (by rw [Gv.tab_len]; exact hkn) (Gf.mul x t)
        rw [hx] at h1 ⊢
        rw [← Gv.upto_set]
        exact h1)
      have HK2 : Hid (Kept (fun x => x = g) w (wr.setCell ⟨g, o + k, none⟩ (bv (Gf.mul x t)))) := Lib.hid (HK.out.set1 _ _)
      clear hc hf hx
      go_wp2_with fail
      refine (mul_any x t _ _ rfl rfl _).mono ?_
      rintro e w' ⟨rfl, rfl⟩
      go_wp2_with fail
      go_roundg (gk - 1)
      case measure => have := Hk.out; omega
      case rel => exact ⟨k + 1, by have := Hk.out; omega, by go_num, HO2.out, HK2.out⟩
    · have hkn' : k = n := by have := Hk.out; omega
      subst hkn'
      rw [Gv.tab_upto] at HO
      go_wp2_with fail
      go_end0
      exact ⟨rfl, HO.out, HK.out⟩
/-- the first k less so many times another's -/
def lsf (l b : List UInt8) (t : UInt8) : Nat → UInt8 := fun j => Gv.at' l j ^^^ Gf.mul (Gv.at' b j) t
def LsRel (l b : List UInt8) (t : UInt8) (w : World) (B g o n c gk : Nat) (i : Value) (wr : World) : Prop :=
  ∃ k : Nat, k + gk = n ∧ i = iv k ∧ OwnB wr B (.slice (some ⟨g, o, none⟩) n c) (Gv.tab n (Gv.upto k (lsf l b t) (Gv.at' l))) ∧ Kept (fun x => x = g) w wr
set_option maxRecDepth 100000 in
set_option maxHeartbeats 1000000 in
theorem less_any (l b : List UInt8) (n : Nat) (hn : n = l.length) (hnb : n = b.length) (h0 : 0 < n) (t : UInt8) (B g o c g2 o2 c2 : Nat) (hne : g2 ≠ g) (w : World) (h : OwnB w B (.slice (some ⟨g, o, none⟩) n c) l)
    (h2 : RowB w (.slice (some ⟨g2, o2, none⟩) n c2) b) :
    Calls Try.prog 70 #[.slice (some ⟨g, o, none⟩) n c, .slice (some ⟨g2, o2, none⟩) n c2, bv t] w (ScPost (Gv.tab n (lsf l b t)) w B g o n c) := by
  obtain ⟨_, _, hx1, hnc, hcm, _, _⟩ := OwnB.cells h (by omega)
  clear hx1
  obtain ⟨hx2, hnc2, hcm2, hcb⟩ := RowB.cells h2
  clear hx2
  unfold maxLen at hcm hcm2
  have HO := Lib.hid h
  have Hn := Lib.hid hn
  have Hb := Lib.hid hcb
  clear h hn h2 hcb hnb
  go_enter Try.func70, Try.ntmps70
  go_wp2_with fail
  go_loopg [6, 7, 10] n (fun gk v6 v7 v10 wr => LsRel l b t w B g o n c gk v10 wr)
  case atStart => exact ⟨0, by omega, rfl, by rw [Gv.upto_zero, Hn.out]; exact (Gv.tab_self l).symm ▸ (Hn.out ▸ HO.out), Kept.refl _ _⟩
  case round =>
    clear HO
    obtain ⟨k, hk, rfl, hO, hK⟩ := hrel
    have Hk := Lib.hid hk
    have HO := Lib.hid hO
    have HK := Lib.hid hK
    clear hk hO hK
    by_cases hkn : k < n
    · obtain ⟨_, hg, hx1, _, _, hc, hf⟩ := OwnB.cells HO.out (by rw [Gv.tab_len]; omega)
      have d0 := hc k hkn
      have fo := hf (o + k)
      clear hx1
      rw [show Gv.at' (Gv.tab n (Gv.upto k (lsf l b t) (Gv.at' l))) k = Gv.at' l k by
        show List.getD _ _ _ = _; rw [Gv.tab_at _ hkn, Gv.upto_at]] at d0
      have d1 := HK.out.cell (Hb.out k hkn) hne
      obtain ⟨x, hx⟩ : ∃ x, x = Gv.at' l k := ⟨_, rfl⟩
      obtain ⟨y, hy⟩ : ∃ y, y = Gv.at' b k := ⟨_, rfl⟩
      rw [← hx] at d0
      rw [← hy] at d1
      have HO2 : Hid (OwnB (wr.drew.setCell ⟨g, o + k, none⟩ (bv (x ^^^ Gf.mul y t))) B (.slice (some ⟨g, o, none⟩) n c) (Gv.tab n (Gv.upto (k + 1) (lsf l b t) (Gv.at' l)))) := Lib.hid (by
        have h1 := OwnB.setAt (OwnR.below HO.out (Below.refl _ _).drew) (k := k) (by rw [Gv.tab_len]; exact hkn) (x ^^^ Gf.mul y t)
        rw [hx, hy] at h1 ⊢
        rw [← Gv.upto_set]
        exact h1)
      have HK2 : Hid (Kept (fun x => x = g) w (wr.drew.setCell ⟨g, o + k, none⟩ (bv (x ^^^ Gf.mul y t)))) := Lib.hid (HK.out.drew.set1 _ _)
      have hkI : (k : Int) < (n : Int) := by omega
      clear hc hf hx hy
      go_wp2_with fail
      go_still_tail 9, (by kernel_rfl)
      still_call (mul_st y t _)
      repeat still_step
      refine wpStill_nil ?_
      go_wp2_with fail
      go_roundg (gk - 1)
      case measure => have := Hk.out; omega
      case rel => exact ⟨k + 1, by have := Hk.out; omega, by go_num, by rw [bv_xor]; exact HO2.out, by rw [bv_xor]; exact HK2.out⟩
    · have hkn' : k = n := by have := Hk.out; omega
      subst hkn'
      rw [Gv.tab_upto] at HO
      go_wp2_with fail
      go_end0
      exact ⟨rfl, HO.out, HK.out⟩
end Go.Proofs.Ytcldioneiededaa
