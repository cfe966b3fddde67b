/- The walks of matrix.Cauchy, Identity. -/
import Derived.Test.YtbikmodfmckaeaaDoorConW
import Derived.Test.YtbikmodfmckaeaaDoorMatQ
import Derived.Test.YtbikmodfmckaeaaDoorBlk
import Derived.Test.YtbikmodfmckaeaaDoorCodE
namespace Go.Proofs.YtbikmodfmckaeaaDoor
open Go.ChangeShapes Go.WideShapes Go.ChangeAt Go.RowKit
set_option linter.unusedVariables false
def bool256 : Array Value := Array.replicate 256 (.bool false)
theorem zero_bool256 (w : World) : (zeroValue 106).run Tryd.prog w = .ok (.agg bool256) w := by kernel_rfl
structure Arr256 (w : World) (M : Nat) (f : Nat → Bool) : Prop where
  size : ∃ cs, w.heap[M]? = some (.cells cs 106 (0, 0))
  cell : ∀ k, k < 256 → w.cell? ⟨M, k, none⟩ = some (.bool (f k))
namespace Arr256
variable {w w' : World} {M : Nat} {f : Nat → Bool}
theorem lt (h : Arr256 w M f) : M < w.heap.size := by obtain ⟨cs, h⟩ := h.size; exact (Array.getElem?_eq_some_iff.1 h).1
theorem frozen (h : Arr256 w M f) (j : Nat) : w.frozen? ⟨M, j, none⟩ = false := by obtain ⟨cs, h⟩ := h.size; exact frozen_of_row _ _ _ _ _ h
theorem new (w : World) : Arr256 (w.alloc (.cells bool256 106)) w.heap.size (fun _ => false) :=
  ⟨⟨_, heap_alloc_new _ _⟩, fun k hk => by rw [cell_of_row _ _ _ _ _ _ (heap_alloc_new w (.cells bool256 106))]; unfold bool256; rw [Array.getElem?_replicate, if_pos hk]⟩
theorem kept {F : Nat → Prop} (h : Arr256 w M f) (hk : Kept F w w') (hn : ¬ F M) : Arr256 w' M f := by
  obtain ⟨cs, h1⟩ := h.size
  exact ⟨⟨cs, hk.heap h1 hn⟩, fun k hk' => hk.cell (h.cell k hk') hn⟩
theorem below (h : Arr256 w M f) (hb : Below w.heap.size w w') : Arr256 w' M f := h.kept (Kept.new (fun _ => False) hb) (fun e => e)
theorem set (h : Arr256 w M f) (c : Nat) (v : Bool) : Arr256 (w.setCell ⟨M, c, none⟩ (.bool v)) M (fun k => if k = c then v else f k) := by
  obtain ⟨cs, h1⟩ := h.size
  refine ⟨⟨_, heap_setCell_same _ _ _ _ _ _ h1⟩, fun k hk => ?_⟩
  have h2 := h.cell k hk
  by_cases e : k = c
  · subst e
    rw [if_pos rfl]
    exact World.cell?_setCell_same _ _ _ h2
  · rw [if_neg e, World.cell?_setCell_other _ _ _ _ (by intro q; injection q with _ q2; exact e q2.symm)]
    exact h2
theorem ext {g : Nat → Bool} (h : Arr256 w M f) (he : ∀ k, k < 256 → f k = g k) : Arr256 w M g := ⟨h.size, fun k hk => by rw [← he k hk]; exact h.cell k hk⟩
end Arr256
/-- the fault of Cauchy's -/
def cauF (x y : List UInt8) : Int := if 12 < x.length ∨ 12 < y.length then 4 else if (x ++ y).Nodup then 0 else 7
def cauR (x y : List UInt8) : List (List UInt8) := if cauF x y = 0 then cau x y else []
def seenF (l : List UInt8) (k : Nat) : Nat → Bool := fun v => (l.take k).any (fun a => a.toNat == v)
theorem seen_succ {l : List UInt8} {k : Nat} {a : UInt8} (h : l[k]? = some a) (v : Nat) : seenF l (k + 1) v = (if v = a.toNat then true else seenF l k v) := by
  unfold seenF
  rw [List.take_add_one, h, List.any_append]
  by_cases e : v = a.toNat
  · rw [if_pos e]; simp [e]
  · rw [if_neg e]
    have : (a.toNat == v) = false := beq_false_of_ne (fun h => e h.symm)
    simp [this]
theorem nodup_succ {l : List UInt8} {k : Nat} {a : UInt8} (h : l[k]? = some a) (hn : (l.take k).Nodup) (hs : seenF l k a.toNat = false) : (l.take (k + 1)).Nodup := by
  rw [List.take_add_one, h]
  show (l.take k ++ [a]).Nodup
  rw [List.nodup_append]
  refine ⟨hn, by simp, fun b hb c hc e => ?_⟩
  simp at hc
  subst hc
  subst e
  unfold seenF at hs
  rw [List.any_eq_false] at hs
  exact hs b hb (by simp)
theorem dup_at {l : List UInt8} {k : Nat} {a : UInt8} (h : l[k]? = some a) (hs : seenF l k a.toNat = true) : ¬ l.Nodup := by
  intro hn
  unfold seenF at hs
  rw [List.any_eq_true] at hs
  obtain ⟨b, hb, e⟩ := hs
  have e' : b = a := UInt8.toNat_inj.1 (eq_of_beq e)
  subst e'
  have h2 : (l.take (k + 1)).Nodup := hn.sublist (List.take_sublist _ _)
  rw [List.take_add_one, h] at h2
  have h3 : (l.take k ++ [b]).Nodup := h2
  rw [List.nodup_append] at h3
  exact h3.2.2 b hb b (by simp) rfl
def CcRel (l : List UInt8) (w : World) (n M gk : Nat) (idx : Value) (w0 wr : World) : Prop :=
  ∃ k : Nat, k + gk = n ∧ idx = iv k ∧ Arr256 wr M (seenF l k) ∧ (l.take k).Nodup ∧ Kept (fun x => x = M) w0 wr
def CcPost (x y : List UInt8) (w : World) (e : Ending) (w' : World) : Prop := ∃ v, e = .returned (.tuple #[v, errV (cauF x y)]) ∧ RowsM w' v (cauR x y) ∧ Below w.heap.size w w'
set_option maxRecDepth 100000 in
set_option maxHeartbeats 2000000 in
theorem cauchy_tot (x y : List UInt8) (vx vy : Value) (w : World) (hvx : RowB w vx x) (hvy : RowB w vy y) :
    Calls Tryd.prog 36 #[vx, vy] w (CcPost x y w) := by
  have HX := Lib.hid hvx
  have HY := Lib.hid hvy
  obtain ⟨px, cx, rfl, hx1, hx2⟩ := hvx.shape
  obtain ⟨py, cy, rfl, hy1, hy2⟩ := hvy.shape
  unfold maxLen at hx2 hy2
  unfold CcPost
  obtain ⟨F, hF⟩ : ∃ F, F = cauF x y := ⟨_, rfl⟩
  obtain ⟨R, hR⟩ : ∃ R, R = cauR x y := ⟨_, rfl⟩
  rw [← hF, ← hR]
  have hRn : F ≠ 0 → R = [] := fun h => by rw [hR]; unfold cauR; rw [if_neg (by rw [← hF]; exact h)]
  have hRy : F = 0 → R = cau x y := fun h => by rw [hR]; unfold cauR; rw [if_pos (by rw [← hF]; exact h)]
  have HRn := Lib.hid hRn
  have HRy := Lib.hid hRy
  have HF := Lib.hid (show F = if 12 < x.length ∨ 12 < y.length then 4 else if (x ++ y).Nodup then 0 else 7 from hF)
  obtain ⟨n, hn⟩ : ∃ n, n = x.length := ⟨_, rfl⟩
  obtain ⟨m, hm⟩ : ∃ m, m = y.length := ⟨_, rfl⟩
  rw [← hn] at hx1 HX HF ⊢
  rw [← hm] at hy1 HY HF ⊢
  have Hn := Lib.hid hn
  have Hm := Lib.hid hm
  clear hvx hvy hn hm hF hR hRn hRy
  by_cases hbig : 12 < n ∨ 12 < m
  · have hF4 : F = 4 := by rw [HF.out, if_pos hbig]
    have HRe := Lib.hid (HRn.out (by rw [hF4]; decide))
    subst hF4
    clear HF
    by_cases hn12 : 12 < n
    · have t1 : (12 : Int) < (n : Int) := by omega
      clear hbig
      go_enter Tryd.func36, Tryd.ntmps36
      go_wp2_with fail
      go_ret2
      exact ⟨_, rfl, by rw [HRe.out]; exact RowsM.nil _, Below.refl _ _⟩
    · have t1 : ¬ (12 : Int) < (n : Int) := by omega
      have t2 : (12 : Int) < (m : Int) := by omega
      clear hbig
      go_enter Tryd.func36, Tryd.ntmps36
      go_wp2_with fail
      go_ret2
      exact ⟨_, rfl, by rw [HRe.out]; exact RowsM.nil _, Below.refl _ _⟩
  · have hF2 : F = if (x ++ y).Nodup then 0 else 7 := by rw [HF.out, if_neg hbig]
    have HF2 := Lib.hid hF2
    have t1 : ¬ (12 : Int) < (n : Int) := by omega
    have t2 : ¬ (12 : Int) < (m : Int) := by omega
    have hn12 : n ≤ 12 := by omega
    have hm12 : m ≤ 12 := by omega
    have hz256 := zero_bool256 (w)
    have hA := Arr256.new w
    obtain ⟨wa, hwa⟩ : ∃ wa, wa = w.alloc (.cells bool256 106) := ⟨_, rfl⟩
    obtain ⟨M, hM⟩ : ∃ M, M = w.heap.size := ⟨_, rfl⟩
    rw [← hwa, ← hM] at hA
    have hba : Below w.heap.size w wa := by rw [hwa]; exact (Below.refl _ _).alloc (Nat.le_refl _) _
    have hsa : wa.heap.size = M + 1 := by rw [hwa, hM]; simp
    have hbb : Below wa.heap.size wa (wa.alloc (.cells #[.slice px n cx, .slice py m cy] 22)) := (Below.refl _ _).alloc (Nat.le_refl _) _
    obtain ⟨k0, k1⟩ := row_lt2 wa (.slice px n cx) (.slice py m cy) 22
    have hXb := RowB.below (RowB.below HX.out hba) hbb
    have hYb := RowB.below (RowB.below HY.out hba) hbb
    have hone : ∀ l : List UInt8, ∀ u ∈ l.map bv, u.oneCell' = true := fun l u hu => by obtain ⟨z, _, rfl⟩ := List.mem_map.1 hu; rfl
    have HCo := Lib.hid (concat_bytes _ _ (x.map bv) (y.map bv) wa.heap.size _ (by simp) k0 k1 hXb hYb (by rw [List.length_map, ← Hn.out]; omega) (by rw [List.length_map, ← Hm.out]; omega) (hone x) (hone y))
    unfold ConPostbytes at HCo
    have HBb := Lib.hid ((hba.trans (hbb.mono (by omega))))
    have HA2 := Lib.hid (hA.below hbb)
    clear hF2 hA hba hbb k0 k1 hXb hYb hone hbig HF
    go_enter Tryd.func36, Tryd.ntmps36
    go_wp2_with fail
    rw [show w.heap.size + 1 = wa.heap.size by omega, ← hwa, ← hM]
    obtain ⟨wb, hwb⟩ : ∃ wb, wb = wa.alloc (.cells #[.slice px n cx, .slice py m cy] 22) := ⟨_, rfl⟩
    rw [← hwb] at HCo HBb HA2 ⊢
    have hMw : w.heap.size ≤ M := by omega
    clear hwa hM hsa hwb hz256
    refine HCo.out.mono ?_
    rintro e wc ⟨v, rfl, hO, hbc⟩
    rw [← List.map_append, List.length_map] at hO
    have hR : RowB wc v (x ++ y) := OwnR.row (OwnR.of_owns hO)
    obtain ⟨N, hN⟩ : ∃ N, N = (x ++ y).length := ⟨_, rfl⟩
    have hN24 : N ≤ 24 := by rw [hN, List.length_append, ← Hn.out, ← Hm.out]; omega
    obtain ⟨p, c, rfl, hc1, hc2⟩ := hR.shape
    rw [← hN] at hR hc1 hO ⊢
    unfold maxLen at hc2
    have HR := Lib.hid hR
    have HNe := Lib.hid hN
    have HA3 := Lib.hid (HA2.out.below hbc)
    have HBc := Lib.hid (HBb.out.trans (hbc.mono HBb.out.size))
    have hvM : ∀ g o, p = some ⟨g, o, none⟩ → g ≠ M := fun g o hp e => by
      subst hp
      have h1 := (OwnR.lt (OwnR.of_owns hO) (g := g) rfl).1
      have h2 := HA2.out.lt
      omega
    have HvM := Lib.hid hvM
    clear hO hR hN hbc hvM HCo HBb HA2
    go_wp2_with fail
    go_loopg [8, 23] N (fun gk v8 v23 wr => CcRel (x ++ y) w N M gk v23 wc wr)
    case atStart => exact ⟨0, by omega, rfl, HA3.out.ext (fun k _ => rfl), List.nodup_nil, Kept.refl _ _⟩
    case round =>
      obtain ⟨k, hk, rfl, hA, hnd, hK⟩ := hrel
      have Hk := Lib.hid hk
      have HA := Lib.hid hA
      have Hnd := Lib.hid hnd
      have HK := Lib.hid hK
      clear hk hA hnd hK HA3
      by_cases hkN : k < N
      · obtain ⟨g, o, cc, hv2, hg, _, _, hcell⟩ := HR.out.cellAt (j := k) (by rw [← HNe.out]; exact hkN)
        injection hv2 with e1 e2 e3
        have d0 := HK.out.cell hcell (HvM.out g o e1)
        obtain ⟨a, ha⟩ : ∃ a, a = Gv.at' (x ++ y) k := ⟨_, rfl⟩
        rw [← ha] at d0
        have hat : (x ++ y)[k]? = some a := by rw [ha]; exact Gv.at_get? (by rw [← HNe.out]; exact hkN)
        have Hat := Lib.hid hat
        have ha256 := a.toNat_lt
        have d1 := HA.out.cell a.toNat ha256
        have f1 := HA.out.frozen a.toNat
        have He1 := Lib.hid e1
        have haI : ((a.toNat : Int)) < 256 := by omega
        obtain ⟨b, hb⟩ : ∃ b, b = seenF (x ++ y) k a.toNat := ⟨_, rfl⟩
        rw [← hb] at d1
        have Hb := Lib.hid hb
        rw [e1]
        clear e1 e2 e3 hcell ha hat hb
        cases b with
        | true =>
          have hF7 : F = 7 := by rw [HF2.out, if_neg (dup_at Hat.out Hb.out.symm)]
          have HRe := Lib.hid (HRn.out (by rw [hF7]; decide))
          have HBz := Lib.hid (HBc.out.trans (HK.out.toBelow HBc.out.size (fun z _ e => by rw [e]; exact hMw)))
          clear HF2
          subst hF7
          go_wp2_with fail
          go_ret2
          exact ⟨_, rfl, by rw [HRe.out]; exact RowsM.nil _, HBz.out⟩
        | false =>
          have hA2 := (HA.out.set a.toNat true).ext (g := seenF (x ++ y) (k + 1)) (fun v _ => (seen_succ Hat.out v).symm)
          have HA2 := Lib.hid hA2
          have HN2 := Lib.hid (nodup_succ Hat.out Hnd.out Hb.out.symm)
          have HK2 := Lib.hid (HK.out.set1 a.toNat (.bool true))
          clear hA2
          go_wp2_with fail
          rw [← He1.out]
          go_roundg (gk - 1)
          case measure => have := Hk.out; omega
          case rel => exact ⟨k + 1, by have := Hk.out; omega, by go_num, HA2.out, HN2.out, HK2.out⟩
      · have hkN' : k = N := by have := Hk.out; omega
        have hF0 : F = 0 := by
          have h := Hnd.out
          rw [hkN', List.take_of_length_le (by rw [HNe.out]; exact Nat.le_refl _)] at h
          rw [HF2.out, if_pos h]
        have HRe := Lib.hid (HRy.out hF0)
        have hBz := HBc.out.trans (HK.out.toBelow HBc.out.size (fun z _ e => by rw [e]; exact hMw))
        have HBz := Lib.hid hBz
        have hz := hBz.size
        have HCa := Lib.hid (cauchy_of x y (by rw [← Hn.out]; omega) (by rw [← Hm.out]; omega) _ _ wr (RowB.below HX.out hBz) (RowB.below HY.out hBz))
        unfold CaPost at HCa
        subst hF0
        clear HF2 hBz HA HK hkN
        go_wp2_with fail
        refine HCa.out.mono ?_
        rintro e w9 ⟨v9, rfl, hM9, hb9⟩
        have HM9 := Lib.hid hM9
        have HB9 := Lib.hid (HBz.out.trans (hb9.mono hz))
        clear hM9 hb9 HCa
        go_wp2_with fail
        go_ret2
        exact ⟨_, rfl, by rw [HRe.out]; exact HM9.out, HB9.out⟩
theorem identity_tot (n : Int) (w : World) : Calls Tryd.prog 33 #[iv n] w fun e w' => ∃ v, e = .returned (.tuple #[v, errV (if n < 1 ∨ 12 < n then 1 else 0)]) ∧ RowsM w' v (if n < 1 ∨ 12 < n then [] else lt n.toNat n.toNat Mx.un) ∧ Below w.heap.size w w' := by
  by_cases h1 : n < 1
  · rw [if_pos (.inl h1), if_pos (.inl h1)]
    go_enter Tryd.func33, Tryd.ntmps33
    go_wp2_with fail
    go_ret2
    exact ⟨_, rfl, RowsM.nil _, Below.refl _ _⟩
  · by_cases h2 : 12 < n
    · rw [if_pos (.inr h2), if_pos (.inr h2)]
      go_enter Tryd.func33, Tryd.ntmps33
      go_wp2_with fail
      go_ret2
      exact ⟨_, rfl, RowsM.nil _, Below.refl _ _⟩
    · rw [if_neg (by omega), if_neg (by omega), errV_0]
      obtain ⟨k, rfl⟩ : ∃ k : Nat, n = k := ⟨n.toNat, by omega⟩
      have HU := Lib.hid (unit_any k (by omega) (by omega) w)
      unfold UnPost at HU
      show Calls _ _ _ _ fun e w' => ∃ v, e = .returned (.tuple #[v, .nilIface]) ∧ RowsM w' v (lt k k Mx.un) ∧ Below w.heap.size w w'
      go_enter Tryd.func33, Tryd.ntmps33
      go_wp2_with fail
      refine HU.out.mono ?_
      rintro e w1 ⟨bs, rfl, hU, hb⟩
      have HU2 := Lib.hid hU.rowsM
      have HB := Lib.hid hb
      clear hU hb HU
      go_wp2_with fail
      go_ret2
      exact ⟨_, rfl, HU2.out, HB.out⟩
end Go.Proofs.YtbikmodfmckaeaaDoor
