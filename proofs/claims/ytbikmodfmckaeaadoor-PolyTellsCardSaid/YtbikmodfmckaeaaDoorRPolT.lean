/- The walk of the references' polynomial through points. -/
import Derived.Test.YtbikmodfmckaeaaDoorRPolD
import Derived.Test.YtbikmodfmckaeaaDoorPolG
namespace Go.Proofs.YtbikmodfmckaeaaDoor
open Go.ChangeShapes Go.WideShapes Go.ChangeAt Go.RowKit
set_option linter.unusedVariables false
theorem one_own (w : World) (a : UInt8) : OwnB (w.alloc (.cells #[bv a] 5)) w.heap.size (.slice (some ⟨w.heap.size, 0, none⟩) 1 1) [a] :=
  .inr ⟨w.heap.size, 0, 1, _, rfl, Nat.le_refl _, heap_alloc_new _ _, Nat.le_refl _, by unfold maxLen; omega, by simp, fun j hj => by
    have hj1 : j < 1 := hj
    obtain rfl : j = 0 := by omega
    rfl⟩
def RThRel (l : List Pl.Pt) (w : World) (n gk : Nat) (v3 v4 : Value) (wr : World) : Prop :=
  ∃ i : Nat, i + gk = n ∧ v4 = iv i ∧ OwnB wr w.heap.size v3 (Pl.lag l i) ∧ Below w.heap.size w wr
def RThIn (l : List Pl.Pt) (i : Nat) (w wO : World) (n gk : Nat) (v5 v6 : Value) (wr : World) : Prop :=
  ∃ k : Nat, k + gk = n ∧ v6 = iv k ∧ OwnB wr w.heap.size v5 (Pl.lgp l i k) ∧ Below wO.heap.size wO wr
theorem lgp_len9 (l : List Pl.Pt) (i k : Nat) : (Pl.lgp l i k).length ≤ k + 1 := by
  have := Pl.lgp_len l i k
  split at this <;> omega
set_option maxRecDepth 100000 in
set_option maxHeartbeats 4000000 in
theorem rthrough_any (l : List Pl.Pt) (hc9 : Pl.clash l l.length = false) (h9 : l.length ≤ 1000) (v : Value) (w : World) (hv : RowPt w v l) :
    Calls Tryd.prog 21 #[v] w fun e w' => ∃ v, e = .returned v ∧ OwnB w' w.heap.size v (Pl.trim (Pl.thr l l.length)) ∧ Below w.heap.size w w' := by
  obtain ⟨p, cap, rfl, h1, h2, hc⟩ := hv
  have Hc := Lib.hid hc
  rw [← Pl.lag_thr hc9]
  have Hcl := Lib.hid hc9
  obtain ⟨n, hn⟩ : ∃ n, n = l.length := ⟨_, rfl⟩
  rw [← hn] at h1 h9 ⊢
  have Hn := Lib.hid hn
  clear hc hc9 hn
  go_enter Tryd.func21, Tryd.ntmps21
  go_wp2_with fail
  go_loopg [3, 4, 5, 6, 7] n (fun gk v3 v4 v5 v6 v7 wr => RThRel l w n gk v3 v4 wr)
  case atStart => exact ⟨0, by omega, rfl, OwnR.nil _ _ _, Below.refl _ _⟩
  case round =>
    obtain ⟨gO, hgO⟩ : ∃ x : Nat, x = gk := ⟨_, rfl⟩
    obtain ⟨wO, hwO⟩ : ∃ x : World, x = wr := ⟨_, rfl⟩
    subst hgO hwO
    obtain ⟨i, hi, rfl, hO, hB⟩ := hrel
    have Hi := Lib.hid hi
    have HO := Lib.hid hO
    have HB := Lib.hid hB
    have hz := hB.size
    clear hi hO hB
    by_cases hin : i < n
    · have ti : decide ((i : Int) < (n : Int)) = true := dec_t (by omega)
      have hl := Pl.pnt_get (l := l) (k := i) (by have := Hn.out; omega)
      obtain ⟨x, hx⟩ : ∃ x, x = Pl.pnt l i := ⟨_, rfl⟩
      rw [← hx] at hl
      obtain ⟨px, py⟩ := x
      have Hx := Lib.hid hx
      obtain ⟨g, off, hp, hg, c0, c1⟩ := Hc.out i (px, py) hl
      have d0 : wO.cell? ⟨g, off + i * 2, none⟩ = some (bv px) := (HB.out.cell (p := ⟨g, _, none⟩) hg).trans c0
      have d1 : wO.cell? ⟨g, off + i * 2 + 1, none⟩ = some (bv py) := (HB.out.cell (p := ⟨g, _, none⟩) hg).trans c1
      have Hp := Lib.hid hp
      have D0 := Lib.hid d0
      rw [hp]
      clear hl hx c0 c1 hp d0
      have hal : Below wO.heap.size wO (wO.alloc (.cells #[bv py] 5)) := (Below.refl _ _).alloc (Nat.le_refl _) _
      have HOn : Hid (OwnB (wO.alloc (.cells #[bv py] 5)) w.heap.size (.slice (some ⟨wO.heap.size, 0, none⟩) 1 1) (Pl.lgp l i 0)) := Lib.hid (by
        have h := OwnR.mono (one_own wO py) hz
        unfold Pl.lgp
        rw [← Hx.out]; exact h)
      have HAl := Lib.hid hal
      clear hal
      go_wp2_with fail
      go_loopg [5, 6, 7] n (fun gk v5 v6 v7 wr => RThIn l i w wO n gk v5 v6 wr)
      case atStart => exact ⟨0, by omega, rfl, HOn.out, HAl.out⟩
      case round =>
        clear HOn HAl d1
        obtain ⟨k, hk, rfl, hO5, hB5⟩ := hrel
        have Hk := Lib.hid hk
        have HO5 := Lib.hid hO5
        have HB5 := Lib.hid hB5
        have hz5 := hB5.size
        clear hk hO5 hB5
        by_cases hkn : k < n
        · by_cases hki : k = i
          · have hnx : Pl.lgp l i (k + 1) = Pl.lgp l i k := by rw [Pl.lgp, if_pos hki]
            have HO6 : Hid (OwnB wr w.heap.size u5 (Pl.lgp l i (k + 1))) := Lib.hid (by rw [hnx]; exact HO5.out)
            have t1 : ((k : Int) != (i : Int)) = false := bne_f (by omega)
            clear hnx HO5 hki
            go_wp2_with fail
            go_roundg (gk - 1)
            case measure => have := Hk.out; omega
            case rel => exact ⟨k + 1, by have := Hk.out; omega, by go_num, HO6.out, HB5.out⟩
          · have t1 : ((k : Int) != (i : Int)) = true := bne_t (by omega)
            have hl := Pl.pnt_get (l := l) (k := k) (by have := Hn.out; omega)
            obtain ⟨y, hy⟩ : ∃ y, y = Pl.pnt l k := ⟨_, rfl⟩
            rw [← hy] at hl
            obtain ⟨qx, qy⟩ := y
            have Hy := Lib.hid hy
            obtain ⟨g', off', hp', _, c0, _⟩ := Hc.out k (qx, qy) hl
            rw [Hp.out] at hp'
            injection hp' with hp'
            injection hp' with e1 e2
            subst e1 e2
            have d0 : wr.cell? ⟨g, off + i * 2, none⟩ = some (bv px) := (HB5.out.cell (p := ⟨g, _, none⟩) (Nat.lt_of_lt_of_le hg hz)).trans D0.out
            have d2 : wr.cell? ⟨g, off + k * 2, none⟩ = some (bv qx) := (HB5.out.cell (p := ⟨g, _, none⟩) (Nat.lt_of_lt_of_le hg hz)).trans ((HB.out.cell (p := ⟨g, _, none⟩) hg).trans c0)
            have hne : px ^^^ qx ≠ 0 := by
              have ex : px = (Pl.pnt l i).1 := by rw [← Hx.out]
              have ey : qx = (Pl.pnt l k).1 := by rw [← Hy.out]
              rw [ex, ey]
              intro h
              have h3 := Gf.add_eq_zero.1 h
              rcases Nat.lt_or_gt_of_ne hki with h4 | h4
              · exact Pl.clash_no _ (Nat.le_refl _) Hcl.out k i h4 (by rw [← Hn.out]; exact hin) h3.symm
              · exact Pl.clash_no _ (Nat.le_refl _) Hcl.out i k h4 (by rw [← Hn.out]; exact hkn) h3
            obtain ⟨s, hs⟩ : ∃ s, s = px ^^^ qx := ⟨_, rfl⟩
            obtain ⟨b, hb⟩ : ∃ b, b = Gf.inv s := ⟨_, rfl⟩
            obtain ⟨m, hm⟩ : ∃ m, m = Gf.mul qx b := ⟨_, rfl⟩
            rw [← hs] at hne
            have HPl : Hid (∀ W : World, Calls Tryd.prog 35 #[bv px, bv qx] W fun e w' => e = .returned (bv s) ∧ ∃ n, W.drewN n = w') := Lib.hid (fun W => by rw [hs, ← Gf.add_def]; exact rplus_any px qx _ _ rfl rfl W)
            have HIv : Hid (∀ W : World, Calls Tryd.prog 34 #[bv s] W fun e w' => e = .returned (bv b) ∧ ∃ n, W.drewN n = w') := Lib.hid (fun W => by rw [hb]; exact rinv_any s hne _ rfl W)
            have HMu : Hid (∀ W : World, Calls Tryd.prog 56 #[bv qx, bv b] W fun e w' => e = .returned (bv m) ∧ ∃ n, W.drewN n = w') := Lib.hid (fun W => by rw [hm]; exact rmul_any qx b _ _ rfl rfl W)
            have hnx : Pl.trim (Pl.conv (Pl.lgp l i k) [m, b]) = Pl.lgp l i (k + 1) := by
              rw [Pl.lgp, if_neg hki]
              have ex : px = (Pl.pnt l i).1 := by rw [← Hx.out]
              have ey : qx = (Pl.pnt l k).1 := by rw [← Hy.out]
              unfold Pl.lgb
              rw [← ex, ← ey, hm, hb, hs]
            have Hnx := Lib.hid hnx
            clear hl hy c0 hne hs hb hm hnx hki
            go_wp2_with fail
            go_quiet (first | (go_at_call 35; exact quiet_drew (HPl.out _)) | (go_at_call 34; exact quiet_drew (HIv.out _)))
            obtain ⟨w3, hw3⟩ : ∃ x : World, x = wr.drewN nq := ⟨_, rfl⟩
            rw [← hw3]
            have hb3 : Below wr.heap.size wr w3 := by rw [hw3]; exact bdrew (Below.refl _ _) nq
            have HB3 := Lib.hid (HB5.out.trans (hb3.mono hz5))
            have hz3 := HB3.out.size
            have HO3 := Lib.hid (OwnR.below HO5.out hb3)
            have d3 : w3.cell? ⟨g, off + k * 2, none⟩ = some (bv qx) := by rw [hw3]; simpa using d2
            clear hw3 hb3 HPl HIv d0 d2 HO5 HB5
            go_wp2_with fail
            refine (HMu.out w3).mono ?_
            rintro e w' ⟨rfl, n4, rfl⟩
            obtain ⟨w4, hw4⟩ : ∃ x : World, x = w3.drewN n4 := ⟨_, rfl⟩
            rw [← hw4]
            have hb4 : Below w3.heap.size w3 w4 := by rw [hw4]; exact bdrew (Below.refl _ _) n4
            have HB4 := Lib.hid (HB3.out.trans (hb4.mono hz3))
            have hz4 := HB4.out.size
            have HO4 := Lib.hid (OwnR.below HO3.out hb4)
            have hal : Below w4.heap.size w4 (w4.alloc (.cells #[bv m, bv b] 5)) := (Below.refl _ _).alloc (Nat.le_refl _) _
            have HPr := Lib.hid (rprod_any (Pl.lgp l i k) [m, b] (by have := lgp_len9 l i k; omega) (by simp) _ _ _ (OwnB.row (OwnR.below HO4.out hal)) (two_row w4 m b))
            unfold TrimPost at HPr
            rw [Hnx.out] at HPr
            have HAl := Lib.hid hal
            clear hw4 hb4 hal HB3 HO3 d3 HMu
            go_wp2_with fail
            refine HPr.out.mono ?_
            rintro e w5 ⟨v5, rfl, hO5, hb5⟩
            have hb45 := HAl.out.trans (hb5.mono HAl.out.size)
            have HB5 := Lib.hid (HB4.out.trans (hb45.mono hz4))
            have HO5 := Lib.hid (OwnR.mono hO5 (Nat.le_trans hz (Nat.le_trans hz4 HAl.out.size)))
            clear hO5 hb5 hb45 HPr HAl HB4 HO4
            go_wp2_with fail
            go_roundg (gk - 1)
            case measure => have := Hk.out; omega
            case rel => exact ⟨k + 1, by have := Hk.out; omega, by go_num, HO5.out, HB5.out⟩
        · have hkn' : k = n := by have := Hk.out; omega
          have HO6 : Hid (OwnB wr w.heap.size u5 (Pl.lgp l i l.length)) := Lib.hid (by rw [← Hn.out, ← hkn']; exact HO5.out)
          have HO3 := Lib.hid (OwnR.below HO.out HB5.out)
          have HS := Lib.hid (rsum_any (Pl.lag l i) (Pl.lgp l i l.length) (by have := Pl.lag_len (l := l) i (by rw [← Hn.out]; omega); rw [← Hn.out] at this; omega) (by have := lgp_len9 l i l.length; rw [← Hn.out] at this ⊢; omega) _ _ wr (OwnB.row HO3.out) (OwnB.row HO6.out))
          unfold TrimPost at HS
          have HBr := Lib.hid (HB.out.trans (HB5.out.mono hz))
          have hzr := HBr.out.size
          clear HO5 hkn' HB5
          go_wp2_with fail
          refine HS.out.mono ?_
          rintro e w7 ⟨v7, rfl, hO7, hb7⟩
          have HO7 : Hid (OwnB w7 w.heap.size v7 (Pl.lag l (i + 1))) := Lib.hid (OwnR.mono hO7 hzr)
          have HB7 := Lib.hid (HBr.out.trans (hb7.mono hzr))
          clear hO7 hb7 HS HBr
          go_wp2_with fail
          rw [← Hp.out]
          go_roundg (gO - 1)
          case measure => have := Hi.out; omega
          case rel => exact ⟨i + 1, by have := Hi.out; omega, by go_num, HO7.out, HB7.out⟩
    · obtain rfl : i = n := by have := Hi.out; omega
      go_wp2_with fail
      go_ret
      exact ⟨_, rfl, HO.out, HB.out⟩
end Go.Proofs.YtbikmodfmckaeaaDoor
