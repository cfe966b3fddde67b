/- The walks of Grow: at, get, put. -/
import Derived.Test.YtcldioneiededaaDoorGroW
import Derived.RegionTactic
import Derived.BigRegion
import Derived.Deep.LoopGhost
import Derived.Deep.DeepCutAuto
import Derived.Deep.QuietTactic
import Derived.BigQuiet
import Derived.IntWalk
import Derived.StillTailTactics
namespace Go.Proofs.YtcldioneiededaaDoor
open Go.ChangeShapes Go.WideShapes Go.ChangeAt Go.RowKit
set_option linter.unusedVariables false
abbrev spv (s : Nat × Nat) : Value := .agg #[iv s.1, iv s.2]
theorem ne0 {x : Int} (h : 0 < x) : ¬ x = 0 := by omega
set_option maxRecDepth 100000 in
theorem gat_any {w : World} {b g c n m done : Nat} {vs : Nat → Value} {D : Gr.Ds} (h : GroAt w b g c n m done vs D) (h0 : 0 < n) (hn : n ≤ 1000) (hd : done ≤ 1000) (i : Nat) (hi : i ≤ 1000) :
    Calls Tryd.prog 70 #[.pointer (some ⟨b, 0, none⟩), iv i] w fun e w' => e = .returned (spv (Gr.spot n done i)) ∧ Below w.heap.size w w' := by
  have c1 := h.c1
  have c3 := h.c3
  have hb := h.lt
  have hba : ∀ k, k < w.heap.size → ¬ k = w.heap.size := by omega
  clear h
  by_cases hid : i < done
  · obtain ⟨q, hq⟩ : ∃ q, q = i / (n + 1) := ⟨_, rfl⟩
    obtain ⟨r, hr⟩ : ∃ r, r = i % (n + 1) := ⟨_, rfl⟩
    have hs : Gr.spot n done i = (r, q) := by unfold Gr.spot; rw [if_pos hid, hq, hr]
    rw [hs]
    have q1 : 0 ≤ (i : Int) / ((n : Int) + 1) := Int.ediv_nonneg (by omega) (by omega)
    have q2 : (i : Int) / ((n : Int) + 1) = (q : Int) := by rw [hq]; exact (Int.natCast_ediv i (n + 1)).symm
    have q3 : (i : Int) % ((n : Int) + 1) = (r : Int) := by rw [hr]; exact (Int.natCast_emod i (n + 1)).symm
    have q4 : q ≤ i := by rw [hq]; exact Nat.div_le_self _ _
    have q5 : r ≤ i := by rw [hr]; exact Nat.mod_le _ _
    have p1 : IntKind.i64.wrap ((i : Int) / ((n : Int) + 1)) = (q : Int) := by rw [q2]; exact IntWalk.i64_in _ (by omega)
    have p2 : wrap64 ((i : Int) / ((n : Int) + 1)) = (q : Int) := by rw [q2]; exact IntWalk.wrap64_in _ (by omega)
    have p3 : ¬ (((n : Int) + 1) : Int) = 0 := by omega
    clear hq hr q1
    clear hs
    go_enter Tryd.func70, Tryd.ntmps70
    go_wp2_with fail
    obtain ⟨wA, hwA⟩ : ∃ wA, wA = w.alloc (.cells #[iv 0, iv 0] 29) := ⟨_, rfl⟩
    rw [← hwA]
    have hA : wA.heap[w.heap.size]? = some (.cells #[iv 0, iv 0] 29 (0, 0)) := by rw [hwA]; exact heap_alloc_new _ _
    have hbA : Below w.heap.size w wA := by rw [hwA]; exact (Below.refl _ _).alloc (Nat.le_refl _) _
    have HA := Lib.hid hA
    have HBA := Lib.hid hbA
    clear hwA hA hbA
    go_still_tail 7, (by kernel_rfl)
    change wpList _ _ _ _ _ wA.drew
    obtain ⟨wC, hwC⟩ : ∃ wC, wC = wA.drew := ⟨_, rfl⟩
    rw [← hwC]
    obtain ⟨S, hS⟩ : ∃ S, S = w.heap.size := ⟨_, rfl⟩
    have hC : wC.heap[S]? = some (.cells #[iv 0, iv 0] 29 (0, 0)) := by rw [hwC, hS]; exact HA.out
    have HBC : Hid (Below S w wC) := Lib.hid (by rw [hwC, hS]; exact HBA.out.drew)
    rw [← hS]
    have d0 : wC.cell? ⟨S, 0, none⟩ = some (iv 0) := by rw [cell_of_row _ _ _ _ _ _ hC]; rfl
    have d1 : wC.cell? ⟨S, 1, none⟩ = some (iv 0) := by rw [cell_of_row _ _ _ _ _ _ hC]; rfl
    have f0 : wC.frozen? ⟨S, 0, none⟩ = false := frozen_of_row _ _ _ _ _ hC
    have f1 : wC.frozen? ⟨S, 1, none⟩ = false := frozen_of_row _ _ _ _ _ hC
    have Q3 := Lib.hid q3
    have HS := Lib.hid hS
    clear hwC hC HA HBA hS c1 c3 q2 q3 p1 p2 p3
    go_wp2_with fail
    rw [Q3.out]
    exact bodyPost_ret (v := .agg #[iv r, iv q]) (by simp [results, Tryd.results70, go_sem, d0, d1]) rfl ⟨rfl, by rw [← HS.out]; exact (HBC.out.setCell (p := ⟨S, 0, none⟩) (Nat.le_refl _) _).setCell (p := ⟨S, 1, none⟩) (Nat.le_refl _) _⟩
  · obtain ⟨q, hq⟩ : ∃ q, q = i / n := ⟨_, rfl⟩
    obtain ⟨r, hr⟩ : ∃ r, r = i % n := ⟨_, rfl⟩
    have hs : Gr.spot n done i = (r, q) := by unfold Gr.spot; rw [if_neg hid, hq, hr]
    rw [hs]
    have q1 : 0 ≤ (i : Int) / (n : Int) := Int.ediv_nonneg (by omega) (by omega)
    have q2 : (i : Int) / (n : Int) = (q : Int) := by rw [hq]; exact (Int.natCast_ediv i n).symm
    have q3 : (i : Int) % (n : Int) = (r : Int) := by rw [hr]; exact (Int.natCast_emod i n).symm
    have q4 : q ≤ i := by rw [hq]; exact Nat.div_le_self _ _
    have q5 : r ≤ i := by rw [hr]; exact Nat.mod_le _ _
    have p1 : IntKind.i64.wrap ((i : Int) / (n : Int)) = (q : Int) := by rw [q2]; exact IntWalk.i64_in _ (by omega)
    have p2 : wrap64 ((i : Int) / (n : Int)) = (q : Int) := by rw [q2]; exact IntWalk.wrap64_in _ (by omega)
    have p3 : ¬ ((n : Int) : Int) = 0 := by omega
    clear hq hr q1
    have p4 : ¬ n = 0 := by omega
    have p5 : ((n : Int) == 0) = false := beq_f (by omega)
    clear hs
    go_enter Tryd.func70, Tryd.ntmps70
    go_wp2_with fail
    obtain ⟨wA, hwA⟩ : ∃ wA, wA = w.alloc (.cells #[iv 0, iv 0] 29) := ⟨_, rfl⟩
    rw [← hwA]
    have hA : wA.heap[w.heap.size]? = some (.cells #[iv 0, iv 0] 29 (0, 0)) := by rw [hwA]; exact heap_alloc_new _ _
    have hbA : Below w.heap.size w wA := by rw [hwA]; exact (Below.refl _ _).alloc (Nat.le_refl _) _
    have HA := Lib.hid hA
    have HBA := Lib.hid hbA
    clear hwA hA hbA
    go_still_tail 7, (by kernel_rfl)
    change wpList _ _ _ _ _ wA.drew
    obtain ⟨wC, hwC⟩ : ∃ wC, wC = wA.drew := ⟨_, rfl⟩
    rw [← hwC]
    obtain ⟨S, hS⟩ : ∃ S, S = w.heap.size := ⟨_, rfl⟩
    have hC : wC.heap[S]? = some (.cells #[iv 0, iv 0] 29 (0, 0)) := by rw [hwC, hS]; exact HA.out
    have HBC : Hid (Below S w wC) := Lib.hid (by rw [hwC, hS]; exact HBA.out.drew)
    rw [← hS]
    have d0 : wC.cell? ⟨S, 0, none⟩ = some (iv 0) := by rw [cell_of_row _ _ _ _ _ _ hC]; rfl
    have d1 : wC.cell? ⟨S, 1, none⟩ = some (iv 0) := by rw [cell_of_row _ _ _ _ _ _ hC]; rfl
    have f0 : wC.frozen? ⟨S, 0, none⟩ = false := frozen_of_row _ _ _ _ _ hC
    have f1 : wC.frozen? ⟨S, 1, none⟩ = false := frozen_of_row _ _ _ _ _ hC
    have Q3 := Lib.hid q3
    have HS := Lib.hid hS
    clear hwC hC HA HBA hS c1 c3 q2 q3 p1 p2 p3
    go_wp2_with fail
    rw [Q3.out]
    exact bodyPost_ret (v := .agg #[iv r, iv q]) (by simp [results, Tryd.results70, go_sem, d0, d1]) rfl ⟨rfl, by rw [← HS.out]; exact (HBC.out.setCell (p := ⟨S, 0, none⟩) (Nat.le_refl _) _).setCell (p := ⟨S, 1, none⟩) (Nat.le_refl _) _⟩
set_option maxRecDepth 100000 in
theorem gget_any {w : World} {b g c n m done : Nat} {vs : Nat → Value} {D : Gr.Ds} (h : GroAt w b g c n m done vs D) (d r : Nat) (hd : d ≤ n) (hr : r < (D d).length) :
    Calls Tryd.prog 71 #[.pointer (some ⟨b, 0, none⟩), spv (d, r)] w fun e w' => e = .returned (.string ((D d).getD r Gr.e0)) ∧ Below w.heap.size w w' := by
  have hz0 : w.heap.size < (w.alloc (.cells #[iv d, iv r] 29)).heap.size := by simp
  have hb0 : Below w.heap.size w (w.alloc (.cells #[iv d, iv r] 29)) := (Below.refl _ _).alloc (Nat.le_refl _) _
  have h1 := h.below hb0
  have c0 := h1.c0
  obtain ⟨_, hnc, hcm, hc, _⟩ := h1.ds.outer (by omega)
  have d0 := hc d (by omega)
  have hrow := h1.ds.rows d (by omega)
  obtain ⟨gb, cap, hv, _, _, hcap, hcm2, hcc, _⟩ := owns_pos hrow (by omega)
  rw [hv] at d0
  have d1 := hcc r hr
  rw [List.getElem?_map, List.getElem?_eq_getElem hr] at d1
  have hx : (D d)[r] = (D d).getD r Gr.e0 := by rw [List.getD_eq_getElem?_getD, List.getElem?_eq_getElem hr]; rfl
  rw [hx] at d1
  generalize (D d).getD r Gr.e0 = x at *
  have d1' : (w.alloc (.cells #[iv d, iv r] 29)).cell? ⟨gb, r, none⟩ = some (.string x) := d1
  have hrI : (r : Int) < ((D d).length : Int) := by omega
  have hdI2 : (d : Int) < (n : Int) + 1 := by omega
  clear h1 hrow hcc d1 hx hv hc
  generalize (D d).length = L at *
  have s0 : (w.alloc (.cells #[iv d, iv r] 29)).cell? ⟨w.heap.size, 0, none⟩ = some (iv d) := by rw [cell_of_row _ _ _ _ _ _ (heap_alloc_new _ _)]; rfl
  have s1 : (w.alloc (.cells #[iv d, iv r] 29)).cell? ⟨w.heap.size, 1, none⟩ = some (iv r) := by rw [cell_of_row _ _ _ _ _ _ (heap_alloc_new _ _)]; rfl
  have Hb := Lib.hid hb0
  clear h hz0 hb0
  unfold maxLen at hcm hcm2
  go_enter Tryd.func71, Tryd.ntmps71
  go_wp2_with fail
  obtain ⟨wA, hwA⟩ : ∃ wA, wA = w.alloc (.cells #[iv d, iv r] 29) := ⟨_, rfl⟩
  rw [← hwA] at c0 d0 d1' s0 s1 Hb ⊢
  clear hwA
  go_quiet (fail)
  go_wp2_with fail
  go_ret
  exact ⟨rfl, bdrew Hb.out _⟩
def PutRel (F : Nat → Prop) (b g c n m done S d r : Nat) (D : Gr.Ds) (w : World) (gk : Nat) (wr : World) : Prop :=
  ∃ (vs' : Nat → Value) (j : Nat), GroAt wr b g c n m done vs' (upd D d (D d ++ List.replicate j Gr.e0)) ∧ GroIn F b g n vs' ∧ Kept F w wr ∧ wr.cell? ⟨S, 1, none⟩ = some (iv r) ∧ S < wr.heap.size ∧ (∀ i, i < n + 1 → (vs' i).ownBlock ≠ some S) ∧
    (j = 0 ∨ (D d).length + j ≤ r + 1) ∧ gk = r + 1 - ((D d).length + j)
def GPutPost (F : Nat → Prop) (b g c n m done : Nat) (D : Gr.Ds) (w : World) (e : Ending) (w' : World) : Prop :=
  e = .returned (.tuple #[]) ∧ ∃ vs', GroAt w' b g c n m done vs' D ∧ GroIn F b g n vs' ∧ Kept F w w'
theorem info_strG : (Tryd.prog.info? 9).map (fun i => (i.zero, i.size, i.bytes)) = some (some (.string ⟨#[]⟩), 1, 16) := by kernel_rfl
theorem put_upd (D : Gr.Ds) (d r : Nat) (s : ByteArray) : Gr.put D (d, r) s = upd D d ((Gr.pad (D d) (r + 1)).set r s) := by
  funext x; unfold Gr.put upd; simp only; split
  · rename_i e; rw [e]
  · rfl
set_option maxRecDepth 100000 in
set_option maxHeartbeats 2000000 in
theorem gput_any {w : World} {b g c n m done : Nat} {vs : Nat → Value} {D : Gr.Ds} (h : GroAt w b g c n m done vs D) {F : Nat → Prop} (hF : ∀ k, w.heap.size ≤ k → F k) (hI : GroIn F b g n vs) (d r : Nat) (hd : d ≤ n) (hr : r ≤ 1000) (hl : (D d).length ≤ 1000) (s : ByteArray) :
    Calls Tryd.prog 69 #[.pointer (some ⟨b, 0, none⟩), spv (d, r), .string s] w (GPutPost F b g c n m done (Gr.put D (d, r) s) w) := by
  have HF := Lib.hid hF
  have hb0 : Below w.heap.size w (w.alloc (.cells #[iv d, iv r] 29)) := (Below.refl _ _).alloc (Nat.le_refl _) _
  have H1 := Lib.hid (h.below hb0)
  have HK1 := Lib.hid (Kept.new F hb0)
  have HI := Lib.hid hI
  have c0 := H1.out.c0
  have hgl := (h.ds.outer (by omega)).1
  have HvS : Hid (∀ i, i < n + 1 → (vs i).ownBlock ≠ some w.heap.size) := Lib.hid (fun i hi e => by have := h.ds.lt hi e; omega)
  obtain ⟨_, hnc, hcm, hc, _⟩ := H1.out.ds.outer (by omega)
  have d0 := hc d (by omega)
  have hdI2 : (d : Int) < (n : Int) + 1 := by omega
  have s0 : (w.alloc (.cells #[iv d, iv r] 29)).cell? ⟨w.heap.size, 0, none⟩ = some (iv d) := by rw [cell_of_row _ _ _ _ _ _ (heap_alloc_new _ _)]; rfl
  have s1 : (w.alloc (.cells #[iv d, iv r] 29)).cell? ⟨w.heap.size, 1, none⟩ = some (iv r) := by rw [cell_of_row _ _ _ _ _ _ (heap_alloc_new _ _)]; rfl
  have hSz : w.heap.size < (w.alloc (.cells #[iv d, iv r] 29)).heap.size := by simp
  unfold maxLen at hcm
  clear h hF hI hb0 hc
  go_enter Tryd.func69, Tryd.ntmps69
  go_wp2_with fail
  obtain ⟨wA, hwA⟩ : ∃ wA, wA = w.alloc (.cells #[iv d, iv r] 29) := ⟨_, rfl⟩
  obtain ⟨S, hS⟩ : ∃ S, S = w.heap.size := ⟨_, rfl⟩
  rw [← hwA] at c0 d0 s0 s1 hSz H1 HK1 ⊢
  rw [← hS] at hSz hgl s0 s1 HvS ⊢
  have HSw := Lib.hid hS
  clear hwA hS
  go_quiet (fail)
  go_wp2_with fail
  obtain ⟨wB, hwB⟩ : ∃ wB, wB = wA.drewN nq := ⟨_, rfl⟩
  rw [← hwB]
  have hbB : Below wA.heap.size wA wB := by rw [hwB]; exact bdrew (Below.refl _ _) nq
  have HStart : Hid (PutRel F b g c n m done S d r D w (r + 1 - (D d).length) wB) := Lib.hid (by
    refine ⟨vs, 0, ?_, HI.out, HK1.out.also (Kept.new F hbB), (hbB.cell (p := ⟨S, 1, none⟩) hSz).trans s1, Nat.lt_of_lt_of_le hSz hbB.size, HvS.out, .inl rfl, rfl⟩
    rw [List.replicate_zero, List.append_nil, upd_same]
    exact H1.out.below hbB)
  clear hwB hbB H1 HK1 c0 d0 s0 s1
  go_loopg [] (r + 1 - (D d).length) (fun gk wr => PutRel F b g c n m done S d r D w gk wr)
  case atStart => exact HStart.out
  case round =>
    clear HStart HI HvS
    obtain ⟨vs', j, hA, hIn, hK, hs1, hSz', hvS, hj, hgk⟩ := hrel
    have HA := Lib.hid hA
    have HIn := Lib.hid hIn
    have HK := Lib.hid hK
    have HvS := Lib.hid hvS
    obtain ⟨L, hL⟩ : ∃ L, L = (D d).length + j := ⟨_, rfl⟩
    have hlen : (upd D d (D d ++ List.replicate j Gr.e0) d).length = L := by rw [upd_self, List.length_append, List.length_replicate, hL]
    have hrow := hA.ds.rows d (by omega)
    rw [hlen] at hrow
    obtain ⟨pv, cv, hv, hpn, hLc, hcm2, k1, k2⟩ := owns_cut hrow (Nat.le_refl L)
    clear k1 k2
    obtain ⟨_, _, _, hc, hf⟩ := hA.ds.outer (by omega)
    have d0 := hc d (by omega)
    rw [hv] at d0
    have f0 := hf d
    have HL := Lib.hid hL
    have Hj := Lib.hid hj
    have Hgk := Lib.hid hgk
    have Hv := Lib.hid hv
    have HRow := Lib.hid hrow
    have Hlen := Lib.hid hlen
    have Hpn := Lib.hid hpn
    unfold maxLen at hcm2
    have hL9 : L ≤ 2001 := by omega
    rw [← hL] at hgk
    clear hA hIn hK hvS hL hj hlen hrow hc hf hv hpn
    by_cases hlt : L ≤ r
    · clear hgk
      go_wp2_with fail
      go_quiet (fail)
      obtain ⟨wC, hwC⟩ : ∃ wC, wC = wr.drewN nq := ⟨_, rfl⟩
      rw [← hwC]
      have hbC : Below wr.heap.size wr wC := by rw [hwC]; exact bdrew (Below.refl _ _) nq
      have HAC := Lib.hid (HA.out.below hbC)
      have HKC := Lib.hid (HK.out.also (Kept.new F hbC))
      have hsC := (hbC.cell (p := ⟨S, 1, none⟩) hSz').trans hs1
      have hzC := hbC.size
      have HRC := Lib.hid (owns_below HRow.out hbC)
      have e0 : wC.cell? ⟨g, d, none⟩ = some (.slice pv L cv) := by
        obtain ⟨_, _, _, hc, _⟩ := HAC.out.ds.outer (by omega)
        rw [hc d (by omega), Hv.out]
      have hL1 : L + 1 ≤ 1000000 := by omega
      have hrC := HRC.out
      rw [Hv.out] at hrC
      have HrC := Lib.hid hrC
      clear hwC hbC HA HK hs1 HRow HRC d0 f0 hrC
      go_wp2_with (at_builtin; refine app1 wC wC (.string ⟨#[]⟩) 9 40 rfl _ _ rfl 0 Tryd.underlying40 info_strG rfl _ L _ rfl _ rfl rfl HrC.out rfl hL1 (by decide) (Nat.zero_le _) (Below.refl _ _) ?_)
      intro v9 w9 hown9 hb9 hgr9 hat9
      obtain ⟨p9, n9, c9, rfl⟩ := (OwnR.of_owns hown9).slice
      have hk9 := Kept.grown hgr9
      have hgd : (Value.slice pv L cv).ownBlock ≠ some g := by rw [← Hv.out]; exact HAC.out.ds.ng d (by omega)
      have hg9 := (HAC.out.ds.outer (by omega)).1
      have e1 : w9.cell? ⟨g, d, none⟩ = some (.slice pv L cv) := hk9.cell e0 (fun e => hgd e.symm)
      have f1 : w9.frozen? ⟨g, d, none⟩ = false := (hk9.frozen hg9 (fun e => hgd e.symm)).trans ((HAC.out.ds.outer (by omega)).2.2.2.2 d)
      have hup : upd (upd D d (D d ++ List.replicate j Gr.e0)) d (D d ++ List.replicate (j + 1) Gr.e0) = upd D d (D d ++ List.replicate (j + 1) Gr.e0) := upd_upd D d _ _
      have hO9 : w9.ownsRow 0 9 1 (.slice p9 n9 c9) (L + 1) ((D d ++ List.replicate (j + 1) Gr.e0).map Value.string) := by
        rw [upd_self] at hown9
        rw [List.replicate_succ', ← List.append_assoc, List.map_append]
        exact hown9
      have hvv : ∀ k, (Value.slice p9 n9 c9).ownBlock = some k → (vs' d).ownBlock = some k ∨ wC.heap.size ≤ k := fun k hk => by
        rcases hat9 with e | e
        · left; rw [Hv.out, ← e]; exact hk
        · right; rw [hk] at e; have := Option.some.inj e; omega
      have hT := HAC.out.turn (i := d) (by omega) (by rw [Hv.out]; exact hk9) hO9 hvv
      rw [hup] at hT
      have HT := Lib.hid hT
      have hFv : ∀ k, (vs' d).ownBlock = some k → F k := HIn.out.2.2 d (by omega)
      have HIT : Hid (GroIn F b g n (upd vs' d (.slice p9 n9 c9))) := Lib.hid ⟨HIn.out.1, HIn.out.2.turn (w := wC) (fun k hk => HF.out k (Nat.le_trans HKC.out.size hk)) (by omega) hvv⟩
      have HKT := Lib.hid ((HKC.out.also (hk9.mono (fun k _ e => hFv k (by rw [Hv.out]; exact e.symm)))).setCell (p := ⟨g, d, none⟩) (fun _ => HIn.out.2.1) (.slice p9 n9 c9))
      have HST : Hid ((w9.setCell ⟨g, d, none⟩ (.slice p9 n9 c9)).cell? ⟨S, 1, none⟩ = some (iv r)) := Lib.hid (by
        have h1 : w9.cell? ⟨S, 1, none⟩ = some (iv r) := hk9.cell hsC (fun e => HvS.out d (by omega) (by rw [Hv.out]; exact e.symm))
        exact ((Kept.self g w9).set1 d (.slice p9 n9 c9)).cell h1 (by omega))
      have HSv : Hid (∀ i, i < n + 1 → (upd vs' d (.slice p9 n9 c9) i).ownBlock ≠ some S) := Lib.hid (fun i hi => by
        by_cases e : i = d
        · subst e; rw [upd_self]; intro e2
          rcases hvv S e2 with e3 | e3
          · exact HvS.out i hi e3
          · omega
        · rw [upd_ne _ _ e]; exact HvS.out i hi)
      have hz9 : S < (w9.setCell ⟨g, d, none⟩ (.slice p9 n9 c9)).heap.size := Nat.lt_of_lt_of_le (Nat.lt_of_lt_of_le hSz' hzC) (by simpa [World.setCell] using hk9.size)
      clear hown9 hb9 hgr9 hat9 hk9 hgd hup hO9 hvv hT hFv hg9 HAC HKC hsC e0 HrC HvS HIn
      go_wp2_with fail
      go_roundg (gk - 1)
      case measure => have := Hgk.out; have := HL.out; omega
      case rel => exact ⟨_, j + 1, HT.out, HIT.out, HKT.out, HST.out, hz9, HSv.out, .inr (by have := HL.out; omega), by have := Hgk.out; omega⟩
    · have hpad : D d ++ List.replicate j Gr.e0 = Gr.pad (D d) (r + 1) := by
        unfold Gr.pad
        have h1 := HL.out
        rcases Hj.out with h2 | h2
        · rw [h2, show r + 1 - (D d).length = 0 by omega]
        · rw [show r + 1 - (D d).length = j by omega]
      have Hpad := Lib.hid hpad
      clear hpad
      have hrow := HRow.out
      obtain ⟨gb, cap, hvv, _, _, _, _, hcc, hff⟩ := owns_pos hrow (by omega)
      rw [Hv.out] at hvv
      injection hvv with q1 q2 q3
      subst q1 q3
      have hcr : ∃ x, wr.cell? ⟨gb, r, none⟩ = some x := by
        refine ⟨_, (hcc r (by omega)).trans (List.getElem?_eq_getElem ?_)⟩
        have := hrow.1; simp only [Nat.mul_one] at this; rw [this]; omega
      obtain ⟨x0, hx0⟩ := hcr
      have hfr := hff r
      clear q2 hcc hff hrow
      have hge : ¬ (L : Int) ≤ (r : Int) := by omega
      go_wp2_with fail
      go_quiet (fail)
      obtain ⟨wC, hwC⟩ : ∃ wC, wC = wr.drewN nq := ⟨_, rfl⟩
      rw [← hwC]
      have hbC : Below wr.heap.size wr wC := by rw [hwC]; exact bdrew (Below.refl _ _) nq
      have HAC := Lib.hid (HA.out.below hbC)
      have HKC := Lib.hid (HK.out.also (Kept.new F hbC))
      have hsC := (hbC.cell (p := ⟨S, 1, none⟩) hSz').trans hs1
      have e0 : wC.cell? ⟨g, d, none⟩ = some (.slice (some ⟨gb, 0, none⟩) L cv) := by
        obtain ⟨_, _, _, hc, _⟩ := HAC.out.ds.outer (by omega)
        rw [hc d (by omega), Hv.out]
      have hgbl := World.block_lt_of_cell? wr _ hx0
      have e1 := (hbC.cell (p := ⟨gb, r, none⟩) hgbl).trans hx0
      have e2 := (hbC.frozen (p := ⟨gb, r, none⟩) hgbl).trans hfr
      clear hwC hbC HA HK hs1 d0 f0 hx0 hfr
      go_wp2_with fail
      go_still_tail 7, (by kernel_rfl)
      change wpList _ _ _ _ _ wC.drew
      obtain ⟨wE, hwE⟩ : ∃ wE, wE = wC.drew := ⟨_, rfl⟩
      have hbE : Below wC.heap.size wC wE := by rw [hwE]; exact (Below.refl _ _).drew
      have HAE := Lib.hid (HAC.out.below hbE)
      have HKE := Lib.hid (HKC.out.also (Kept.new F hbE))
      have e1' : wE.cell? ⟨gb, r, none⟩ = some x0 := by rw [hwE]; exact e1
      have e2' : wE.frozen? ⟨gb, r, none⟩ = false := by rw [hwE]; exact e2
      rw [← hwE]
      have hfin := HAE.out.setStr (i := d) (r := r) (by omega) Hv.out (by rw [Hlen.out]; omega) s
      rw [upd_self, upd_upd, Hpad.out, ← put_upd] at hfin
      have Hfin := Lib.hid hfin
      have hFv : F gb := HIn.out.2.2 d (by omega) gb (by rw [Hv.out]; rfl)
      have HKF := Lib.hid (HKE.out.setCell (p := ⟨gb, r, none⟩) (fun _ => hFv) (.string s))
      clear hwE hbE HAC HKC hsC e0 e1 e2 hfin HAE HKE
      go_wp2_with fail
      go_end0
      exact ⟨rfl, _, Hfin.out, HIn.out, HKF.out⟩
end Go.Proofs.YtcldioneiededaaDoor
