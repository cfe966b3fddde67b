/- What the law MatrixTurns asks of inverses and ranks. Plain. -/
import Derived.Test.YtbikmodfmckaeaaDoorMatQ
import Derived.Test.YtbikmodfmckaeaaDoorMatI
import Derived.Test.YtbikmodfmckaeaaDoorCauC
namespace Go.Proofs.YtbikmodfmckaeaaDoor
set_option linter.unusedVariables false
open Mx Gv
theorem invF_5 {M : List (List UInt8)} (h : invF M = 5) : chkF M = 0 ∧ rkR M ≠ (M.length : Int) := by
  unfold invF at h
  by_cases h1 : chkF M = 0
  · rw [if_neg (by simp [h1])] at h
    by_cases h2 : M.length = 0 ∨ len0 M ≠ M.length
    · rw [if_pos h2] at h; cases h
    · rw [if_neg h2] at h
      by_cases h3 : rk M.length M.length (en M) < M.length
      · refine ⟨h1, ?_⟩
        have hl : len0 M = M.length := Classical.byContradiction (fun hc => h2 (.inr hc))
        unfold rkR
        rw [if_pos ⟨h1, by omega⟩, hl]
        omega
      · rw [if_neg h3] at h; cases h
  · rw [if_pos h1] at h
    exfalso
    unfold chkF at h
    split at h
    · cases h
    · split at h <;> cases h
theorem invF_rk {M : List (List UInt8)} (h : invF M = 0) : rkR M = (M.length : Int) := by
  obtain ⟨c, h0, _, hl, _, hI, _⟩ := invF_0 h
  unfold rkR
  rw [if_pos ⟨c, by omega⟩, hl, (rk_iff _ _).2 ⟨_, hI⟩]
theorem turn_mul {M : List (List UInt8)} (h : invF M = 0) : mmF M (invR M) = 0 ∧ mmF (invR M) M = 0 ∧ mmR M (invR M) = lt M.length M.length un ∧ mmR (invR M) M = lt M.length M.length un := by
  obtain ⟨c, h0, hn, hl, e, hI, hR⟩ := invF_0 h
  have c2 : chkF (invR M) = 0 := by rw [hR]; exact chkF_lt _ hn hn
  have l2 : len0 (invR M) = M.length := by rw [hR]; exact len0_lt _ h0
  have k2 : (invR M).length = M.length := by rw [hR, lt_len]
  have m1 : mmF M (invR M) = 0 := mmF_ok c c2 (fun _ => by rw [hl, k2])
  have m2 : mmF (invR M) M = 0 := mmF_ok c2 c (fun _ => l2)
  have he : ∀ i, i < M.length → ∀ j, j < M.length → en (invR M) i j = iv' M.length (en M) i j := fun i hi j hj => by rw [hR]; exact en_lt _ hi hj
  refine ⟨m1, m2, ?_, ?_⟩
  · rw [mmR_lt m1, l2, k2]
    refine lt_ext (fun i hi j hj => ?_)
    rw [← hI.1 i hi j hj]
    exact mm_congr (fun _ _ => rfl) (fun q hq => he q hq j hj)
  · rw [mmR_lt m2, hl, k2]
    refine lt_ext (fun i hi j hj => ?_)
    rw [← hI.2 i hi j hj]
    exact mm_congr (fun q hq => he i hi q hq) (fun _ _ => rfl)
theorem rk_en {n C : Nat} (m : Mt) : rk n C (en (lt n C m)) = rk n C m := (el_agree (fun i hi j hj => en_lt m hi hj) C (Nat.le_refl _)).1
theorem turn_rank {A B : List (List UInt8)} (h : mmF A B = 0) : chkF (mmR A B) = 0 ∧ chkF A = 0 ∧ chkF B = 0 ∧ rkR (mmR A B) ≤ rkR A ∧ rkR (mmR A B) ≤ rkR B := by
  obtain ⟨c1, c2, hl⟩ := mmF_0 h
  obtain ⟨n12, _, _⟩ := chkF_0 c1
  obtain ⟨_, l12, _⟩ := chkF_0 c2
  have e := mmR_lt h
  have c3 : chkF (mmR A B) = 0 := by rw [e]; exact chkF_lt _ n12 l12
  refine ⟨c3, c1, c2, ?_⟩
  by_cases h0 : A.length = 0
  · have hz : (mmR A B).length = 0 := by rw [e, lt_len]; exact h0
    have hr : rkR (mmR A B) = 0 := by unfold rkR; rw [if_neg (fun hc => hc.2 hz)]
    have hp : ∀ M, 0 ≤ rkR M := fun M => by unfold rkR; split <;> omega
    rw [hr]; exact ⟨hp A, hp B⟩
  · have hla := hl h0
    have hr : rkR (mmR A B) = (rk A.length (len0 B) (mm B.length (en A) (en B)) : Int) := by
      unfold rkR
      rw [if_pos ⟨c3, by rw [e, lt_len]; exact h0⟩, e, lt_len, len0_lt _ (Nat.pos_of_ne_zero h0), rk_en]
    have hm := rk_mul (n := A.length) (k := B.length) (L := len0 B) (en A) (en B)
    have hrA : rkR A = (rk A.length B.length (en A) : Int) := by unfold rkR; rw [if_pos ⟨c1, h0⟩, hla]
    rw [hr, hrA]
    refine ⟨by have := hm.1; omega, ?_⟩
    unfold rkR
    by_cases hb : B.length = 0
    · rw [if_neg (fun hc => hc.2 hb)]
      have h5 := hm.2
      have h6 : rk B.length (len0 B) (en B) ≤ B.length := (el_inv B.length (en B) (len0 B)).len
      omega
    · rw [if_pos ⟨c2, hb⟩]
      have := hm.2; omega
/-- Cauchy's that is square has an inverse -/
theorem turn_cau {x y : List UInt8} (h : cauF x y = 0) (hl : x.length = y.length) (h0 : x.length ≠ 0) : invF (cauR x y) = 0 := by
  have hR : cauR x y = cau x y := by unfold cauR; rw [if_pos h]
  have hF := h
  unfold cauF at hF
  by_cases hb : 12 < x.length ∨ 12 < y.length
  · rw [if_pos hb] at hF; cases hF
  · rw [if_neg hb] at hF
    by_cases hnd : (x ++ y).Nodup
    · rw [List.nodup_append] at hnd
      obtain ⟨nx, ny, nxy⟩ := hnd
      have hM : cau x y = lt x.length x.length (fun i j => Gf.inv (at' x i ^^^ at' y j)) := by
        unfold cau lt
        apply List.ext_getElem?
        intro i
        rw [List.getElem?_map, List.getElem?_map]
        by_cases hi : i < x.length
        · rw [List.getElem?_range hi, at_get? hi]
          show some _ = some _
          congr 1
          unfold tab
          apply List.ext_getElem?
          intro j
          rw [List.getElem?_map, List.getElem?_map]
          by_cases hj : j < x.length
          · rw [List.getElem?_range hj, at_get? (by omega)]; rfl
          · rw [List.getElem?_eq_none (by omega), List.getElem?_eq_none (by rw [List.length_range]; omega)]; rfl
        · rw [List.getElem?_eq_none (by omega), List.getElem?_eq_none (by rw [List.length_range]; omega)]; rfl
      rw [hR, hM]
      have hfull : rk x.length x.length (fun i j => Gf.inv (at' x i ^^^ at' y j)) = x.length := by
        refine Classical.byContradiction (fun hc => ?_)
        have hlen : rk x.length x.length (fun i j => Gf.inv (at' x i ^^^ at' y j)) ≤ x.length := (el_inv x.length (fun i j => Gf.inv (at' x i ^^^ at' y j)) x.length).len
        obtain ⟨u, hu, i0, hi0, hne⟩ := low (n := x.length) (C := x.length) (A := fun i j => Gf.inv (at' x i ^^^ at' y j)) (by omega)
        have hmem : ∀ i, i < x.length → at' x i ∈ x := fun i hi => List.mem_of_getElem? (at_get? hi)
        have hz := cauchy ((List.range x.length).map (fun i => (at' x i, u i))) y (by simp [hl])
          (by
            rw [List.map_map]
            refine nodup_on (fun a ha b hb e => ?_) List.nodup_range
            have ha' := List.mem_range.1 ha
            have hb' := List.mem_range.1 hb
            have e' : at' x a = at' x b := e
            have h1 := at_get? ha'
            have h2 := at_get? hb'
            have hp := List.pairwise_iff_getElem.1 nx
            rw [List.getElem?_eq_getElem ha'] at h1
            rw [List.getElem?_eq_getElem hb'] at h2
            have h1' := Option.some.inj h1
            have h2' := Option.some.inj h2
            rcases Nat.lt_trichotomy a b with hh | hh | hh
            · exact absurd (h1'.trans (e'.trans h2'.symm)) (hp a b ha' hb' hh)
            · exact hh
            · exact absurd (h2'.trans (e'.symm.trans h1'.symm)) (hp b a hb' ha' hh)) ny
          (fun p hp z hz e => by
            obtain ⟨i, hi, rfl⟩ := List.mem_map.1 hp
            exact nxy _ (hmem i (List.mem_range.1 hi)) z hz e)
          (fun z hz => by
            obtain ⟨j, hj, e⟩ := List.getElem_of_mem hz
            have hj' : j < x.length := by omega
            have h1 := hu j hj'
            have ez : at' y j = z := by
              have h2 := at_get? hj
              rw [List.getElem?_eq_getElem hj] at h2
              rw [← Option.some.inj h2, e]
            rw [S_map, ← h1]
            have hs := S_range (fun _ => true) (fun i => Gf.mul (u i) (Gf.inv (at' x i ^^^ z))) x.length
            have hf : (List.range x.length).filter (fun _ => true) = List.range x.length := by simp
            rw [hf] at hs
            rw [← hs]
            exact xsum_congr (fun i _ => by rw [if_pos rfl, ez]))
        exact hne (hz (at' x i0, u i0) (List.mem_map_of_mem (f := fun i => (at' x i, u i)) (List.mem_range.2 hi0)))
      exact (inv_lt (Nat.pos_of_ne_zero h0) (by omega) (iv_ok hfull)).1
    · rw [if_neg hnd] at hF; cases hF
end Go.Proofs.YtbikmodfmckaeaaDoor
