/- The walk of scrub.All. -/
import Derived.Test.YtneebcniofolmaaGreatDoorRArS
import Derived.Test.YtneebcniofolmaaGreatDoorScrP
import Derived.Test.YtneebcniofolmaaGreatDoorAs
namespace Go.Proofs.YtneebcniofolmaaGreatDoor
open Go.ChangeShapes Go.WideShapes Go.ChangeAt Go.RowKit
set_option linter.unusedVariables false
theorem as_nilA (t : Addr) (w : World) : Calls Tryz.prog 40 #[.nilIface, .iface 91 (.pointer (some t))] w fun e w' => e = .returned (.bool false) ∧ w = w' := by
  go_enter Tryz.func40, Tryz.ntmps40
  go_wp2_with fail
  go_ret
  exact ⟨rfl, rfl⟩
theorem as_hitA (n : Int) (T : Nat) (w : World) (hg : Handle w) (hT : w.heap[T]? = some (.cells #[iv 0] 72 (0, 0))) :
    Calls Tryz.prog 40 #[ev n, .iface 91 (.pointer (some ⟨T, 0, none⟩))] w fun e w' => e = .returned (.bool true) ∧ w'.cell? ⟨T, 0, none⟩ = some (iv n) ∧ Kept (· = T) w w' := by
  have hc : w.cell? ⟨T, 0, none⟩ = some (iv 0) := by rw [cell_of_row _ _ _ _ _ _ hT]; rfl
  have hlt : T < w.heap.size := (Array.getElem?_eq_some_iff.1 hT).1
  refine (as_hit n ⟨T, 0, none⟩ (iv 0) w hg hc (frozen_of_row _ _ _ _ _ hT)).mono ?_
  rintro e w' ⟨rfl, rfl⟩
  refine ⟨rfl, ?_, ?_⟩
  · generalize hW : (((w.alloc _).alloc _).alloc _).alloc _ = W
    have hb : Below w.heap.size w W := by rw [← hW]; exact ((((Below.refl _ _).alloc (Nat.le_refl _) _).alloc (by simp) _).alloc (by simp; omega) _).alloc (by simp; omega) _
    have h1 : W.heap[T]? = some (.cells #[iv 0] 72 (0, 0)) := by rw [hb.block T hlt]; exact hT
    have h2 := heap_setCell_same W T 0 _ _ (iv n) h1
    rw [cell_of_row _ _ _ _ _ _ h2]; rfl
  · exact ((((Kept.refl (· = T) w).alloc _).alloc _).alloc _ |>.alloc _).set1 0 (iv n)
namespace Ar.S
def scrubTo (s : S) : Nat → S × List (Nat × Nat)
  | 0 => (s, [])
  | k + 1 => (((scrubTo s k).1.scrubAt k).2, if ((scrubTo s k).1.scrubAt k).1.2 = 0 ∧ 0 ≤ ((scrubTo s k).1.scrubAt k).1.1 then (scrubTo s k).2 ++ [(((scrubTo s k).1.scrubAt k).1.1.toNat, k)] else (scrubTo s k).2)
theorem scrubAt_same (s : S) (r : Nat) : (s.scrubAt r).2.n = s.n ∧ (s.scrubAt r).2.rows = s.rows ∧ (s.scrubAt r).2.size = s.size ∧ (s.scrubAt r).2.fl = s.fl ∧ (s.scrubAt r).2.bt = s.bt := by
  unfold scrubAt
  split
  · exact ⟨rfl, rfl, rfl, rfl, rfl⟩
  · split
    · exact ⟨rfl, rfl, rfl, rfl, rfl⟩
    · split <;> exact ⟨rfl, rfl, rfl, rfl, rfl⟩
theorem scrubTo_same (s : S) : ∀ k, (s.scrubTo k).1.n = s.n ∧ (s.scrubTo k).1.rows = s.rows ∧ (s.scrubTo k).1.size = s.size ∧ (s.scrubTo k).1.fl = s.fl ∧ (s.scrubTo k).1.bt = s.bt
  | 0 => ⟨rfl, rfl, rfl, rfl, rfl⟩
  | k + 1 => by
    have h := scrubTo_same s k
    have h2 := scrubAt_same (s.scrubTo k).1 k
    exact ⟨h2.1.trans h.1, h2.2.1.trans h.2.1, h2.2.2.1.trans h.2.2.1, h2.2.2.2.1.trans h.2.2.2.1, h2.2.2.2.2.trans h.2.2.2.2⟩
theorem scrubTo_len (s : S) : ∀ k, (s.scrubTo k).2.length ≤ k
  | 0 => Nat.le_refl _
  | k + 1 => by
    have h := scrubTo_len s k
    show (if _ then _ else _ : List (Nat × Nat)).length ≤ k + 1
    split
    · rw [List.length_append, List.length_singleton]; omega
    · omega
theorem scrubAt_err (s : S) (r : Nat) : (s.scrubAt r).1.2 = 0 ∨ (s.scrubAt r).1.2 = 6 ∨ (s.scrubAt r).1.2 = 8 := by
  unfold scrubAt
  split
  · exact .inr (.inl rfl)
  · split
    · exact .inl rfl
    · split
      · exact .inr (.inr rfl)
      · exact .inl rfl
theorem scrubAt_bd (s : S) (r : Nat) (h : (s.scrubAt r).1.2 = 0) : -1 ≤ (s.scrubAt r).1.1 := by
  unfold scrubAt at h ⊢
  split
  · show (-1 : Int) ≤ 0; decide
  · split
    · show (-1 : Int) ≤ -1; decide
    · split
      · show (-1 : Int) ≤ 0; decide
      · exact Int.le_trans (by decide : (-1 : Int) ≤ 0) (Int.natCast_nonneg _)
end Ar.S
def spc (l : List (Nat × Nat)) : List Value := l.flatMap fun p => [iv p.1, iv p.2]
def SAllRel (F : Nat → Prop) (K b : Nat) (s : Ar.S) (w : World) (gk : Nat) (v8 v15 : Value) (wr : World) : Prop :=
  ∃ k : Nat, k + gk = s.rows ∧ v15 = iv k ∧ wr.ownsRow w.heap.size 163 2 v8 (s.scrubTo k).2.length (spc (s.scrubTo k).2) ∧ AryOk F (K + k) wr b (s.scrubTo k).1 ∧ Kept F w wr
def SAllPost (F : Nat → Prop) (K b : Nat) (r : Ar.S × List (Nat × Nat)) (w : World) (e : Ending) (w' : World) : Prop :=
  ∃ v, e = .returned (.tuple #[v, .nilIface]) ∧ w'.ownsRow w.heap.size 163 2 v r.2.length (spc r.2) ∧ AryOk F K w' b r.1 ∧ Kept F w w'
theorem info_spot : (Tryz.prog.info? 163).map (fun i => (i.zero, i.size, i.bytes)) = some (some (.agg #[.int .i64 0, .int .i64 0]), 2, 16) := by kernel_rfl
variable {F : Nat → Prop} {K : Nat} {w : World} {b : Nat} {s : Ar.S}
theorem own_apart2 {w : World} {b1 k z : Nat} {e1 t : TypeId} {v : Value} {n : Nat} {xs : List Value} {u : Array Value} (h : w.ownsRow b1 e1 z v n xs) (h' : w.heap[k]? = some (.cells u t (0, 0))) (he : e1 ≠ t) : v.ownBlock ≠ some k := by
  intro hg
  rcases h.2 with ⟨rfl, _⟩ | ⟨g1, c1, cur1, rfl, _, k1, _⟩
  · cases hg
  · cases hg
    exact at_apart k1 h' he rfl
set_option maxRecDepth 100000 in
set_option maxHeartbeats 4000000 in
theorem sAll (h : AryOk F K w b s) (hK : K < 900000) (hFw : ∀ k, F k → k < w.heap.size) (hH : ∀ w', Kept F w w' → Handle w') :
    Calls Tryz.prog 110 #[.pointer (some ⟨b, 0, none⟩), iv s.n, iv s.rows] w (SAllPost F (K + s.rows) b (s.scrubTo s.rows) w) := by
  have HA := Lib.hid h
  have HFw := Lib.hid hFw
  have HH := Lib.hid hH
  have hr20 := h.ok.r20
  have hn3 := h.ok.n3
  have hn10 := h.ok.n10
  obtain ⟨i0, hi, hz0, hz1, hz2⟩ := info_parts info_spot
  have HI := Lib.hid hi
  obtain ⟨R, hR⟩ : ∃ R, R = s.rows := ⟨_, rfl⟩
  rw [← hR] at hr20 ⊢
  have hRR := Lib.hid hR
  have hmax : max (0 : Int) (R : Int) = (R : Int) := by omega
  clear h hFw hH hi hR
  go_enter Tryz.func110, Tryz.ntmps110
  go_wp2_with fail
  go_loopg [8, 9, 10, 11, 12, 15] R (fun gk v8 v9 v10 v11 v12 v15 wr => SAllRel F K b s w gk v8 v15 wr)
  case atStart => exact ⟨0, by rw [← hRR.out]; omega, rfl, World.ownsRow_nil _ _ _ _, HA.out, Kept.refl _ _⟩
  case round =>
    obtain ⟨k, hk, rfl, hO, hA, hK1⟩ := hrel
    rw [← hRR.out] at hk
    have Hk := Lib.hid hk
    have HO := Lib.hid hO
    have HA1 := Lib.hid hA
    have HK1 := Lib.hid hK1
    have hzr := hK1.size
    clear hk hO hA hK1
    by_cases hlt : k < R
    · have hsm := s.scrubTo_same k
      have hsc : (s.scrubTo k).1.scrub (s.n : Int) (k : Int) = (s.scrubTo k).1.scrubAt k := by
        unfold Ar.S.scrub
        rw [if_neg (by omega), if_neg (fun hc => hc ⟨by omega, by rw [hsm.2.1, ← hRR.out]; omega⟩), if_neg (fun hc => hc (by rw [hsm.1])), Int.toNat_natCast]
      have HRw := Lib.hid (sRow HA1.out (by omega) (fun p hp => by have := HFw.out p hp; omega) (s.n : Int) (k : Int))
      rw [hsc] at HRw
      have hlen := s.scrubTo_len k
      have her := Ar.S.scrubAt_err (s.scrubTo k).1 k
      have hbd := Ar.S.scrubAt_bd (s.scrubTo k).1 k
      have hst : s.scrubTo (k + 1) = (((s.scrubTo k).1.scrubAt k).2, if ((s.scrubTo k).1.scrubAt k).1.2 = 0 ∧ 0 ≤ ((s.scrubTo k).1.scrubAt k).1.1 then (s.scrubTo k).2 ++ [(((s.scrubTo k).1.scrubAt k).1.1.toNat, k)] else (s.scrubTo k).2) := rfl
      obtain ⟨l, hl⟩ : ∃ l, l = (s.scrubTo k).2 := ⟨_, rfl⟩
      obtain ⟨t, ht⟩ : ∃ t, t = ((s.scrubTo k).1.scrubAt k).2 := ⟨_, rfl⟩
      obtain ⟨rx, hrx⟩ : ∃ rx, rx = ((s.scrubTo k).1.scrubAt k).1.1 := ⟨_, rfl⟩
      obtain ⟨re, hre⟩ : ∃ re, re = ((s.scrubTo k).1.scrubAt k).1.2 := ⟨_, rfl⟩
      unfold RbPost at HRw
      rw [← hrx, ← hre, ← ht] at HRw
      rw [← hrx, ← hre, ← ht, ← hl] at hst
      rw [← hre] at her
      rw [← hre, ← hrx] at hbd
      rw [← hl] at hlen HO
      have Hst := Lib.hid hst
      clear hsm hsc hl ht hrx hre hst
      obtain ⟨m, hm⟩ : ∃ m, m = l.length := ⟨_, rfl⟩
      rw [← hm] at hlen HO
      have Hm := Lib.hid hm
      clear hm
      rcases her with rfl | rfl | rfl
      · have hbd := hbd rfl
        rw [errV_0] at HRw
        by_cases h0 : 0 ≤ rx
        · obtain ⟨d, rfl⟩ : ∃ d : Nat, rx = d := ⟨rx.toNat, by omega⟩
          have hst := Hst.out
          rw [if_pos ⟨rfl, h0⟩, Int.toNat_natCast] at hst
          have Hst2 := Lib.hid hst
          clear hst Hst
          go_wp2_with fail
          refine HRw.out.mono ?_
          rintro e w2 ⟨rfl, hA2, hK2⟩
          have HK2 := Lib.hid (HK1.out.also hK2)
          have HO2 := Lib.hid (Kept.owns HO.out hK2 (fun g hg h => by have h1 := (HO.out.lt g hg).1; have := HFw.out g h; omega))
          have hz2k := HK2.out.size
          obtain ⟨wA, hwA⟩ : ∃ wA, wA = w2.alloc (.cells #[iv 0] 72) := ⟨_, rfl⟩
          have hbA : Below w2.heap.size w2 wA := by rw [hwA]; exact (Below.refl _ _).alloc (Nat.le_refl _) _
          have HTA : Hid (wA.heap[w2.heap.size]? = some (.cells #[iv 0] 72 (0, 0))) := Lib.hid (by rw [hwA]; exact heap_alloc_new _ _)
          have HAA := Lib.hid (hA2.below hbA)
          have HOA := Lib.hid (owns_below HO2.out hbA)
          have HKA := Lib.hid (HK2.out.also (Kept.new F hbA))
          have hzA := HKA.out.size
          have HwA := Lib.hid hwA
          clear hA2 hK2 hwA hbA HO2
          go_wp2_with fail
          rw [← HwA.out]
          refine (as_nilA _ wA).mono ?_
          rintro e w' ⟨rfl, rfl⟩
          have hi := HI.out
          go_wp2_with (at_builtin; (refine wpList_append_own _ rfl _ _ 170 rfl w.heap.size 163 i0 _ 2 16 Tryz.underlying170 hi hz0 hz1 hz2 rfl (by decide) _ m _ rfl (HOA.out.alloc _) ⟨wA.heap.size, 0, none⟩ 1 1 [iv d, iv k] rfl rfl ?k1 ?k2 ?k3 ?k4 ?k5 ?_))
          case k1 =>
            intro j u hj
            have hj2 : j = 0 ∨ j = 1 := by have := (List.getElem?_eq_some_iff.1 hj).1; simp at this; omega
            rw [Addr.add_lit, Nat.zero_add, World.cell?_alloc_at _ _ _ _ rfl]
            rcases hj2 with rfl | rfl <;> exact hj
          case k2 => intro u hu; simp at hu; rcases hu with rfl | rfl <;> rfl
          case k3 => unfold maxLen; omega
          case k4 => omega
          case k5 => simp; omega
          intro v9 w9 hO9 hg9 _
          have hl9 : (l ++ [(d, k)]).length = m + 1 := by rw [List.length_append, ← Hm.out]; rfl
          have hs9 : spc (l ++ [(d, k)]) = spc l ++ [iv d, iv k] := by unfold spc; rw [List.flatMap_append]; rfl
          have HO9 : Hid (w9.ownsRow w.heap.size 163 2 v9 (s.scrubTo (k + 1)).2.length (spc (s.scrubTo (k + 1)).2)) := Lib.hid (by
            rw [Hst2.out]
            show w9.ownsRow _ _ 2 v9 (l ++ [(d, k)]).length (spc (l ++ [(d, k)]))
            rw [hl9, hs9]; exact hO9)
          have hkg : Kept (fun p => w.heap.size ≤ p) wA w9 := ((Kept.refl _ wA).alloc _).also ((Kept.grown hg9).mono (fun p _ e => (HOA.out.lt p e.symm).1))
          have HA9 : Hid (AryOk F (K + (k + 1)) w9 b (s.scrubTo (k + 1)).1) := Lib.hid (by
            rw [Hst2.out]; exact HAA.out.kept hkg (fun p hp h => by have := HFw.out p hp; omega))
          have HK9 : Hid (Kept F w w9) := Lib.hid (HKA.out.trans hkg (fun p hp h => by omega))
          clear hO9 hg9 hkg hl9 hs9 hi
          go_wp2_with fail
          go_roundg (gk - 1)
          case measure => have := Hk.out; omega
          case rel => exact ⟨k + 1, by rw [← hRR.out]; have := Hk.out; omega, by go_num, HO9.out, HA9.out, HK9.out⟩
        · have hst := Hst.out
          rw [if_neg (fun h => h0 h.2)] at hst
          have Hst2 := Lib.hid hst
          clear Hst
          have hx0 : rx < 0 := by omega
          clear hst h0
          go_wp2_with fail
          refine HRw.out.mono ?_
          rintro e w2 ⟨rfl, hA2, hK2⟩
          have HK2 := Lib.hid (HK1.out.also hK2)
          have HO2 := Lib.hid (Kept.owns HO.out hK2 (fun g hg h => by have h1 := (HO.out.lt g hg).1; have := HFw.out g h; omega))
          have hz2k := HK2.out.size
          obtain ⟨wA, hwA⟩ : ∃ wA, wA = w2.alloc (.cells #[iv 0] 72) := ⟨_, rfl⟩
          have hbA : Below w2.heap.size w2 wA := by rw [hwA]; exact (Below.refl _ _).alloc (Nat.le_refl _) _
          have HTA : Hid (wA.heap[w2.heap.size]? = some (.cells #[iv 0] 72 (0, 0))) := Lib.hid (by rw [hwA]; exact heap_alloc_new _ _)
          have HAA := Lib.hid (hA2.below hbA)
          have HOA := Lib.hid (owns_below HO2.out hbA)
          have HKA := Lib.hid (HK2.out.also (Kept.new F hbA))
          have hzA := HKA.out.size
          have HwA := Lib.hid hwA
          clear hA2 hK2 hwA hbA HO2
          go_wp2_with fail
          rw [← HwA.out]
          refine (as_nilA _ wA).mono ?_
          rintro e w' ⟨rfl, rfl⟩
          go_wp2_with fail
          go_roundg (gk - 1)
          case measure => have := Hk.out; omega
          case rel => exact ⟨k + 1, by rw [← hRR.out]; have := Hk.out; omega, by go_num, by rw [Hst2.out]; show wA.ownsRow _ _ 2 _ l.length (spc l); rw [← Hm.out]; exact HOA.out, by rw [Hst2.out]; exact HAA.out, HKA.out⟩
      · have e6 : errV 6 = ev 6 := rfl
        rw [e6] at HRw
        have hst := Hst.out
        rw [if_neg (fun h => by have h1 := h.1; revert h1; decide)] at hst
        have Hst2 := Lib.hid hst
        clear hst e6 hbd Hst
        go_wp2_with fail
        refine HRw.out.mono ?_
        rintro e w2 ⟨rfl, hA2, hK2⟩
        have HK2 := Lib.hid (HK1.out.also hK2)
        have HO2 := Lib.hid (Kept.owns HO.out hK2 (fun g hg h => by have h1 := (HO.out.lt g hg).1; have := HFw.out g h; omega))
        have hz2k := HK2.out.size
        obtain ⟨wA, hwA⟩ : ∃ wA, wA = w2.alloc (.cells #[iv 0] 72) := ⟨_, rfl⟩
        have hbA : Below w2.heap.size w2 wA := by rw [hwA]; exact (Below.refl _ _).alloc (Nat.le_refl _) _
        have HTA : Hid (wA.heap[w2.heap.size]? = some (.cells #[iv 0] 72 (0, 0))) := Lib.hid (by rw [hwA]; exact heap_alloc_new _ _)
        have HAA := Lib.hid (hA2.below hbA)
        have HOA := Lib.hid (owns_below HO2.out hbA)
        have HKA := Lib.hid (HK2.out.also (Kept.new F hbA))
        have hzA := HKA.out.size
        have HwA := Lib.hid hwA
        clear hA2 hK2 hwA hbA HO2
        have HHit := Lib.hid (as_hitA 6 w2.heap.size wA (HH.out wA HKA.out) HTA.out)
        go_wp2_with fail
        rw [← HwA.out]
        refine HHit.out.mono ?_
        rintro e w3 ⟨rfl, hc3, hk3⟩
        have HO3 := Lib.hid (Kept.owns HOA.out hk3 (fun g hg h => by have h1 := (HTA.out); have h2 : g = w2.heap.size := h; exact own_apart2 HOA.out HTA.out (by decide) (by rw [hg, h2])))
        have HA3 := Lib.hid (HAA.out.kept hk3 (fun p hp h => by have h2 : p = w2.heap.size := h; have := HFw.out p hp; omega))
        have HK3 := Lib.hid (HKA.out.trans hk3 (fun p hp h => by have h2 : p = w2.heap.size := h; omega))
        clear hk3
        go_wp2_with fail
        go_roundg (gk - 1)
        case measure => have := Hk.out; omega
        case rel => exact ⟨k + 1, by rw [← hRR.out]; have := Hk.out; omega, by go_num, by rw [Hst2.out]; show w3.ownsRow _ _ 2 _ l.length (spc l); rw [← Hm.out]; exact HO3.out, by rw [Hst2.out]; exact HA3.out, HK3.out⟩
      · have e6 : errV 8 = ev 8 := rfl
        rw [e6] at HRw
        have hst := Hst.out
        rw [if_neg (fun h => by have h1 := h.1; revert h1; decide)] at hst
        have Hst2 := Lib.hid hst
        clear hst e6 hbd Hst
        go_wp2_with fail
        refine HRw.out.mono ?_
        rintro e w2 ⟨rfl, hA2, hK2⟩
        have HK2 := Lib.hid (HK1.out.also hK2)
        have HO2 := Lib.hid (Kept.owns HO.out hK2 (fun g hg h => by have h1 := (HO.out.lt g hg).1; have := HFw.out g h; omega))
        have hz2k := HK2.out.size
        obtain ⟨wA, hwA⟩ : ∃ wA, wA = w2.alloc (.cells #[iv 0] 72) := ⟨_, rfl⟩
        have hbA : Below w2.heap.size w2 wA := by rw [hwA]; exact (Below.refl _ _).alloc (Nat.le_refl _) _
        have HTA : Hid (wA.heap[w2.heap.size]? = some (.cells #[iv 0] 72 (0, 0))) := Lib.hid (by rw [hwA]; exact heap_alloc_new _ _)
        have HAA := Lib.hid (hA2.below hbA)
        have HOA := Lib.hid (owns_below HO2.out hbA)
        have HKA := Lib.hid (HK2.out.also (Kept.new F hbA))
        have hzA := HKA.out.size
        have HwA := Lib.hid hwA
        clear hA2 hK2 hwA hbA HO2
        have HHit := Lib.hid (as_hitA 8 w2.heap.size wA (HH.out wA HKA.out) HTA.out)
        go_wp2_with fail
        rw [← HwA.out]
        refine HHit.out.mono ?_
        rintro e w3 ⟨rfl, hc3, hk3⟩
        have HO3 := Lib.hid (Kept.owns HOA.out hk3 (fun g hg h => by have h1 := (HTA.out); have h2 : g = w2.heap.size := h; exact own_apart2 HOA.out HTA.out (by decide) (by rw [hg, h2])))
        have HA3 := Lib.hid (HAA.out.kept hk3 (fun p hp h => by have h2 : p = w2.heap.size := h; have := HFw.out p hp; omega))
        have HK3 := Lib.hid (HKA.out.trans hk3 (fun p hp h => by have h2 : p = w2.heap.size := h; omega))
        clear hk3
        go_wp2_with fail
        go_roundg (gk - 1)
        case measure => have := Hk.out; omega
        case rel => exact ⟨k + 1, by rw [← hRR.out]; have := Hk.out; omega, by go_num, by rw [Hst2.out]; show w3.ownsRow _ _ 2 _ l.length (spc l); rw [← Hm.out]; exact HO3.out, by rw [Hst2.out]; exact HA3.out, HK3.out⟩
    · have hkR : k = R := by have := Hk.out; omega
      subst hkR
      go_wp2_with fail
      go_ret2
      exact ⟨_, rfl, HO.out, HA1.out, HK1.out⟩
end Go.Proofs.YtneebcniofolmaaGreatDoor
