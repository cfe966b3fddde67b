/- The walks of place.Loads, Peers, Hurt. -/
import Derived.Test.YtkkfpdjhnffpbaaDoorPlaX
import Derived.Test.YtkkfpdjhnffpbaaDoorOddY
namespace Go.Proofs.YtkkfpdjhnffpbaaDoor
open Go.ChangeShapes Go.WideShapes Go.ChangeAt Go.RowKit
set_option linter.unusedVariables false
namespace Pl
/-- how often each of the first n numbers stands in xs -/
def cts (n : Nat) (xs : List Int) : List Nat := (List.range n).map (fun d : Nat => xs.count (d : Int))
theorem cts_len (n : Nat) (xs : List Int) : (cts n xs).length = n := by unfold cts; simp
theorem cts_get {n d : Nat} (xs : List Int) (h : d < n) : (cts n xs)[d]? = some (xs.count (d : Int)) := by unfold cts; rw [List.getElem?_map, List.getElem?_range h]; rfl
theorem cts_snoc {n d : Nat} (xs : List Int) (h : d < n) : cts n (xs ++ [(d : Int)]) = (cts n xs).set d (xs.count (d : Int) + 1) := by
  refine List.ext_getElem? (fun k => ?_)
  by_cases hk : k < n
  · rw [cts_get _ hk, List.getElem?_set, cts_len, List.count_append, List.count_singleton]
    by_cases e : d = k
    · subst e; rw [if_pos rfl, if_pos hk]; simp
    · rw [if_neg e, cts_get _ hk]
      have : ((d : Int) == (k : Int)) = false := by rw [beq_eq_false_iff_ne]; omega
      rw [this]; simp
  · rw [List.getElem?_eq_none (by rw [cts_len]; omega), List.getElem?_eq_none (by rw [List.length_set, cts_len]; omega)]
theorem cts_nil (n : Nat) : (cts n []).map ivn = (List.range n).map (fun _ => iv 0) := by unfold cts; rw [List.map_map]; rfl
/-- the stripes' disks one behind the other -/
def fl (l : List (List Int)) : List Int := l.flatten
theorem fl_snoc {l : List (List Int)} {i : Nat} {s : List Int} (h : l[i]? = some s) : fl (l.take (i + 1)) = fl (l.take i) ++ s := by unfold fl; rw [List.take_add_one, h, List.flatten_append]; simp
theorem count_one {s : List Int} (h : s.Nodup) (d : Int) : s.count d ≤ 1 := List.nodup_iff_count.1 h d
theorem fl_count {d : Int} : ∀ {l : List (List Int)}, (∀ s ∈ l, s.Nodup) → (fl l).count d ≤ l.length
  | [], _ => Nat.zero_le _
  | s :: l, h => by
    have h1 := fl_count (l := l) (d := d) (fun t ht => h t (List.mem_cons_of_mem _ ht))
    have h2 := count_one (h s List.mem_cons_self) d
    show (s ++ fl l).count d ≤ _
    rw [List.count_append, List.length_cons]; omega
/-- the disks that stand together with d -/
def prs (d : Int) (l : List (List Int)) : List Int := fl (l.map (fun s => if s.contains d then s.filter (fun k => !(k == d)) else []))
theorem prs_snoc {l : List (List Int)} {i : Nat} {s : List Int} (d : Int) (h : l[i]? = some s) : prs d (l.take (i + 1)) = prs d (l.take i) ++ if s.contains d then s.filter (fun k => !(k == d)) else [] := by
  unfold prs fl; rw [List.take_add_one, h, List.map_append, List.flatten_append]; simp
theorem prs_count {d k : Int} {l : List (List Int)} (h : ∀ s ∈ l, s.Nodup) : (prs d l).count k ≤ l.length := by
  unfold prs
  refine Nat.le_trans (fl_count (fun s hs => ?_)) (by rw [List.length_map]; exact Nat.le_refl _)
  obtain ⟨t, ht, rfl⟩ := List.mem_map.1 hs
  split
  · exact (h t ht).sublist List.filter_sublist
  · exact List.nodup_nil
/-- the stripes that have d -/
def hts (d : Int) (l : List (List Int)) (k : Nat) : List Nat := (List.range k).filter (fun i => (l.getD i []).contains d)
theorem hts_succ (d : Int) {l : List (List Int)} {k : Nat} {s : List Int} (h : l[k]? = some s) : hts d l (k + 1) = hts d l k ++ if s.contains d then [k] else [] := by
  unfold hts
  rw [List.range_succ, List.filter_append]
  congr 1
  rw [List.filter_cons, List.getD_eq_getElem?_getD, h]
  show (if s.contains d = true then _ else _) = _
  cases s.contains d <;> rfl
theorem hts_le (d : Int) (l : List (List Int)) (k : Nat) : (hts d l k).length ≤ k := by
  unfold hts; have := List.length_filter_le (fun i => (l.getD i []).contains d) (List.range k); rw [List.length_range] at this; exact this
def loV (n : Int) (l : List (List Int)) : List Nat := if Od.chk n l = 0 then cts n.toNat (fl l) else []
def peE (n : Int) (l : List (List Int)) (d : Int) : Int := if Od.chk n l ≠ 0 then Od.chk n l else if d < 0 ∨ n ≤ d then 1 else 0
def peV (n : Int) (l : List (List Int)) (d : Int) : List Nat := if peE n l d = 0 then cts n.toNat (prs d l) else []
def huE (l : List (List Int)) (d : Int) : Int := if d < 0 ∨ 10 ≤ d then 1 else Od.chk 10 l
def huV (l : List (List Int)) (d : Int) : List Nat := if huE l d = 0 then hts d l l.length else []
end Pl
/-- numbers of the call's own, and a fault -/
def NmPost (vs : List Nat) (F : Int) (w : World) (x : Ending) (w' : World) : Prop := ∃ v, x = .returned (.tuple #[v, errV F]) ∧ Row w' v (vs.map ivn) ∧ Below w.heap.size w w'
theorem row_nil (w : World) : Row w (.slice none 0 0) [] := ⟨none, 0, rfl, Nat.le_refl _, Nat.zero_le _, fun _ => rfl, fun h => by simp at h⟩
set_option maxRecDepth 100000 in
set_option maxHeartbeats 2000000 in
theorem ploads_tot (n : Int) (l : List (List Int)) (v : Value) (w : World) (hv : Rows2 w v l) :
    Calls Tryd.prog 18 #[iv n, v] w (NmPost (Pl.loV n l) (Od.chk n l) w) := by
  have HC := Lib.hid (pcheck_any n l v w hv)
  have HV := Lib.hid hv
  obtain ⟨C, hC⟩ : ∃ C, C = Od.chk n l := ⟨_, rfl⟩
  obtain ⟨V, hV⟩ : ∃ V, V = Pl.loV n l := ⟨_, rfl⟩
  rw [← hC] at HC
  rw [← hC, ← hV]
  have HVv := Lib.hid (show V = if Od.chk n l = 0 then Pl.cts n.toNat (Pl.fl l) else [] from hV)
  rw [← hC] at HVv
  unfold NmPost
  by_cases h0 : C = 0
  · have hk := Od.chk_0 (hC.symm.trans h0)
    subst h0
    rw [errV_0] at HC ⊢
    obtain ⟨nn, rfl⟩ : ∃ m : Nat, n = m := ⟨n.toNat, by omega⟩
    have hVe : V = Pl.cts nn (Pl.fl l) := by rw [HVv.out, if_pos rfl]; rfl
    have h1n : 1 ≤ nn ∧ nn ≤ 10 := by omega
    have Hk := Lib.hid hk
    have HVe := Lib.hid hVe
    obtain ⟨p, cap, rfl, hl1, hl2⟩ := hv.shape
    unfold maxLen at hl2
    obtain ⟨m, hm⟩ : ∃ m, m = l.length := ⟨_, rfl⟩
    rw [← hm] at HV HC hl1 ⊢
    have Hm := Lib.hid hm
    have hm40 : m ≤ 40 := by rw [hm]; exact hk.2.2.1
    clear hv hk hVe HVv hV hC hm
    go_enter Tryd.func18, Tryd.ntmps18
    go_wp2_with fail
    refine HC.out.mono ?_
    rintro e w1 ⟨rfl, hb1⟩
    have mk := make_intsO nn (by omega) w1
    have hO0 := made_intsO nn (by omega) w1
    rw [← Pl.cts_nil nn] at hO0
    have hal : Below w1.heap.size w1 (w1.alloc (.cells (madeCells #[.int .i64 0] nn) 3)) := (Below.refl _ _).alloc (Nat.le_refl _) _
    obtain ⟨w2, hw2⟩ : ∃ w2, w2 = w1.alloc (.cells (madeCells #[.int .i64 0] nn) 3) := ⟨_, rfl⟩
    obtain ⟨g, hg⟩ : ∃ g, g = w1.heap.size := ⟨_, rfl⟩
    rw [← hw2] at mk hO0 hal
    rw [← hg] at mk hO0
    have hb2 : Below w.heap.size w w2 := hb1.trans (hal.mono hb1.size)
    have HB2 := Lib.hid hb2
    have HO0 := Lib.hid hO0
    have hgw : w.heap.size ≤ g := by rw [hg]; exact hb1.size
    clear hb1 hO0 hal hw2 hg hb2 HC
    go_wp2_with fail
    go_loopg [9, 11, 22] m (fun gk v9 v11 v22 wr => ∃ i : Nat, i + gk = m ∧ v22 = iv i ∧ OwnR wr g 3 (.slice (some ⟨g, 0, none⟩) nn nn) ((Pl.cts nn (Pl.fl (l.take i))).map ivn) ∧ Kept (fun x => x = g) w2 wr)
    case atStart => exact ⟨0, by omega, rfl, HO0.out, Kept.refl _ _⟩
    case round =>
      clear HO0
      obtain ⟨gO, hgO⟩ : ∃ x : Nat, x = gk := ⟨_, rfl⟩
      obtain ⟨wO, hwO⟩ : ∃ x : World, x = wr := ⟨_, rfl⟩
      subst hgO hwO
      obtain ⟨i, hi, rfl, hO, hK⟩ := hrel
      have Hi := Lib.hid hi
      have HO := Lib.hid hO
      have HK := Lib.hid hK
      clear hi hO hK
      by_cases him : i < m
      · obtain ⟨s, hs⟩ : ∃ s, l[i]? = some s := ⟨l[i]'(by rw [← Hm.out]; exact him), List.getElem?_eq_getElem _⟩
        obtain ⟨gs, os, cs, p2, c2, hv, hgs, hcl, hrb, hwf⟩ := HV.out.at hs
        injection hv with e1 q8 q9
        have He1 := Lib.hid e1
        obtain ⟨k, hk⟩ : ∃ k, k = s.length := ⟨_, rfl⟩
        rw [← hk] at hcl hrb
        have d0 := HK.out.cell (b := gs) (o := os + i) ((HB2.out.cell (p := ⟨gs, os + i, none⟩) hgs).trans hcl) (by omega)
        have hk9 : k ≤ 9223372036854775807 := by
          obtain ⟨_, c', _, h1, h2, _⟩ := hrb.shape
          rw [List.length_map, ← hk] at h1
          unfold maxLen at h2
          omega
        have HRB := Lib.hid hrb
        have HKs := Lib.hid hk
        have Hs := Lib.hid hs
        have Hnds := Lib.hid (Hk.out.2.2.2 s (List.mem_of_getElem? hs)).1
        have Hds := Lib.hid (Hk.out.2.2.2 s (List.mem_of_getElem? hs)).2
        rw [e1]
        clear e1 q8 q9 hcl hrb hk hs hwf hgs
        go_wp2_with fail
        go_loopg [11, 28] k (fun gk v11 v28 wr => ∃ j : Nat, j + gk = k ∧ v28 = iv j ∧ OwnR wr g 3 (.slice (some ⟨g, 0, none⟩) nn nn) ((Pl.cts nn (Pl.fl (l.take i) ++ s.take j)).map ivn) ∧ Kept (fun x => x = g) w2 wr)
        case atStart => exact ⟨0, by omega, rfl, by rw [List.take_zero, List.append_nil]; exact HO.out, HK.out⟩
        case round =>
          clear HO HK d0
          obtain ⟨j, hj, rfl, hO, hK⟩ := hrel
          have Hj := Lib.hid hj
          have HO := Lib.hid hO
          have HK := Lib.hid hK
          clear hj hO hK
          by_cases hjk : j < k
          · obtain ⟨d, hd⟩ : ∃ d, s[j]? = some d := ⟨s[j]'(by rw [← HKs.out]; exact hjk), List.getElem?_eq_getElem _⟩
            obtain ⟨g2, o2, cc2, hv2, h3, h4, h5⟩ := HRB.out.pos (by rw [List.length_map, ← HKs.out]; omega)
            injection hv2 with e1 q8 q9
            have He2 := Lib.hid e1
            have d1 := h5 j (by rw [List.length_map, ← HKs.out]; exact hjk)
            rw [List.getElem?_map, hd] at d1
            have d1' : w.cell? ⟨g2, o2 + j, none⟩ = some (iv d) := d1
            have hg2g : g2 < w.heap.size := World.block_lt_of_cell? w _ d1'
            have d2 := HK.out.cell (b := g2) (o := o2 + j) ((HB2.out.cell (p := ⟨g2, o2 + j, none⟩) hg2g).trans d1') (by omega)
            have hdb := Hds.out d (List.mem_of_getElem? hd)
            obtain ⟨dn, rfl⟩ : ∃ n : Nat, d = n := ⟨d.toNat, by omega⟩
            have hdn : dn < nn := by omega
            have Hd := Lib.hid hd
            have hjkI' : (j : Int) < (k : Int) := by omega
            have hdI : (dn : Int) < (nn : Int) := by omega
            rw [e1]
            clear e1 q8 q9 h3 h4 h5 d1 hd d1' hg2g hdb
            have hcn : (Pl.fl (l.take i) ++ s.take j).count (dn : Int) ≤ 41 := by
              rw [List.count_append]
              have h1 := Pl.fl_count (d := (dn : Int)) (l := l.take i) (fun t ht => (Hk.out.2.2.2 t (List.mem_of_mem_take ht)).1)
              rw [List.length_take] at h1
              have h2 := Pl.count_one (Hnds.out.sublist (List.take_sublist j s)) (dn : Int)
              omega
            obtain ⟨hx1, hx2, hx3, hx4, hx5, hcc, hff⟩ := OwnR.cellsO HO.out (by rw [List.length_map, Pl.cts_len]; omega)
            have d3 := hcc dn hdn
            rw [ivn_at (Pl.cts_get _ hdn), Nat.zero_add] at d3
            have f3 := hff dn
            have hst1 := HO.out.setAtO (k := dn) (by rw [List.length_map, Pl.cts_len]; exact hdn) (ivn ((Pl.fl (l.take i) ++ s.take j).count (dn : Int) + 1))
            rw [Nat.zero_add, ← List.map_set, ← Pl.cts_snoc _ hdn] at hst1
            obtain ⟨x, hx⟩ : ∃ x, x = (Pl.fl (l.take i) ++ s.take j).count (dn : Int) := ⟨_, rfl⟩
            rw [← hx] at d3 hst1 hcn
            have hwx : IntKind.i64.wrap ((x : Int) + 1) = ((x + 1 : Nat) : Int) := by rw [IntWalk.i64_in _ (by omega)]; omega
            clear hx hx1 hx2 hx3 hx4 hx5 hcc hff
            have hsx : (Pl.fl (l.take i) ++ s.take j) ++ [(dn : Int)] = Pl.fl (l.take i) ++ s.take (j + 1) := by rw [List.take_add_one, Hd.out, List.append_assoc]; rfl
            rw [hsx] at hst1
            have Hst := Lib.hid hst1
            clear hcn hsx hst1
            go_wp2_with fail
            rw [← He2.out]
            go_roundg (gk - 1)
            case measure => have := Hj.out; omega
            case rel => exact ⟨j + 1, by have := Hj.out; omega, by go_num, Hst.out, HK.out.set1 dn _⟩
          · obtain rfl : j = k := by have := Hj.out; omega
            have hfs : Pl.fl (l.take i) ++ s.take j = Pl.fl (l.take (i + 1)) := by rw [Pl.fl_snoc Hs.out, HKs.out, List.take_length]
            rw [hfs] at HO
            clear hfs hjk
            go_wp2_with fail
            rw [← He1.out]
            go_roundg (gO - 1)
            case measure => have := Hi.out; omega
            case rel => exact ⟨i + 1, by have := Hi.out; omega, by go_num, HO.out, HK.out⟩
      · obtain rfl : i = m := by have := Hi.out; omega
        rw [Hm.out, List.take_length, ← HVe.out] at HO
        have HR := Lib.hid (OwnR.row HO.out)
        have HB9 := Lib.hid (HB2.out.trans (HK.out.toBelow HB2.out.size (fun q _ e => by rw [e]; exact hgw)))
        clear him HO HK
        go_wp2_with fail
        go_ret2
        exact ⟨_, rfl, HR.out, HB9.out⟩
  · obtain rfl : V = [] := by rw [HVv.out, if_neg h0]
    rw [errV_ne h0] at HC ⊢
    clear HVv hV hC h0 hv HV
    go_enter Tryd.func18, Tryd.ntmps18
    go_wp2_with fail
    refine HC.out.mono ?_
    rintro e w1 ⟨rfl, hb1⟩
    have HB := Lib.hid hb1
    clear hb1 HC
    go_wp2_with fail
    go_ret2
    exact ⟨_, rfl, row_nil _, HB.out⟩
set_option maxRecDepth 100000 in
set_option maxHeartbeats 2000000 in
theorem ppeers_tot (n : Int) (l : List (List Int)) (d0' : Int) (v : Value) (w : World) (hv : Rows2 w v l) :
    Calls Tryd.prog 15 #[iv n, v, iv d0'] w (NmPost (Pl.peV n l d0') (Pl.peE n l d0') w) := by
  have HC := Lib.hid (pcheck_any n l v w hv)
  have HV := Lib.hid hv
  obtain ⟨C, hC⟩ : ∃ C, C = Od.chk n l := ⟨_, rfl⟩
  obtain ⟨F, hF⟩ : ∃ F, F = Pl.peE n l d0' := ⟨_, rfl⟩
  obtain ⟨V, hV⟩ : ∃ V, V = Pl.peV n l d0' := ⟨_, rfl⟩
  rw [← hC] at HC
  rw [← hF, ← hV]
  have HF := Lib.hid (show F = if Od.chk n l ≠ 0 then Od.chk n l else if d0' < 0 ∨ n ≤ d0' then 1 else 0 from hF)
  have HVv := Lib.hid (show V = if Pl.peE n l d0' = 0 then Pl.cts n.toNat (Pl.prs d0' l) else [] from hV)
  rw [← hF] at HVv
  unfold NmPost
  by_cases h0 : C = 0
  · have hk := Od.chk_0 (hC.symm.trans h0)
    have hF2 : F = if d0' < 0 ∨ n ≤ d0' then 1 else 0 := by rw [HF.out, ← hC, if_neg (by simp [h0])]
    subst h0
    rw [errV_0] at HC
    by_cases hb : d0' < 0 ∨ n ≤ d0'
    · obtain rfl : F = 1 := by rw [hF2, if_pos hb]
      obtain rfl : V = [] := by rw [HVv.out]; rfl
      clear hF2 HF HVv hF hV hk hC hv HV
      by_cases h1 : d0' < 0
      · clear hb
        go_enter Tryd.func15, Tryd.ntmps15
        go_wp2_with fail
        refine HC.out.mono ?_
        rintro e w1 ⟨rfl, hb1⟩
        have HB := Lib.hid hb1
        clear hb1 HC
        go_wp2_with fail
        go_ret2
        exact ⟨_, rfl, row_nil _, HB.out⟩
      · have h2 : n ≤ d0' := by omega
        clear hb
        go_enter Tryd.func15, Tryd.ntmps15
        go_wp2_with fail
        refine HC.out.mono ?_
        rintro e w1 ⟨rfl, hb1⟩
        have HB := Lib.hid hb1
        clear hb1 HC
        go_wp2_with fail
        go_ret2
        exact ⟨_, rfl, row_nil _, HB.out⟩
    · obtain rfl : F = 0 := by rw [hF2, if_neg hb]
      rw [errV_0]
      obtain ⟨nn, rfl⟩ : ∃ m : Nat, n = m := ⟨n.toNat, by omega⟩
      obtain ⟨dd, rfl⟩ : ∃ m : Nat, d0' = m := ⟨d0'.toNat, by omega⟩
      have hVe : V = Pl.cts nn (Pl.prs (dd : Int) l) := by rw [HVv.out, if_pos rfl]; rfl
      have h1n : 1 ≤ nn ∧ nn ≤ 10 := by omega
      have hq1 : decide ((dd : Int) < 0) = false := dec_f (by omega)
      have hq2 : decide (nn ≤ dd) = false := dec_f (by omega)
      have Hk := Lib.hid hk
      have HVe := Lib.hid hVe
      obtain ⟨p, cap, rfl, hl1, hl2⟩ := hv.shape
      unfold maxLen at hl2
      obtain ⟨m, hm⟩ : ∃ m, m = l.length := ⟨_, rfl⟩
      rw [← hm] at HV HC hl1 ⊢
      have Hm := Lib.hid hm
      have hm40 : m ≤ 40 := by rw [hm]; exact hk.2.2.1
      clear hv hk hVe HVv HF hV hF hC hm hF2 hb
      go_enter Tryd.func15, Tryd.ntmps15
      go_wp2_with fail
      refine HC.out.mono ?_
      rintro e w1 ⟨rfl, hb1⟩
      have mk := make_intsO nn (by omega) w1
      have hO0 := made_intsO nn (by omega) w1
      rw [← Pl.cts_nil nn] at hO0
      have hal : Below w1.heap.size w1 (w1.alloc (.cells (madeCells #[.int .i64 0] nn) 3)) := (Below.refl _ _).alloc (Nat.le_refl _) _
      obtain ⟨w2, hw2⟩ : ∃ w2, w2 = w1.alloc (.cells (madeCells #[.int .i64 0] nn) 3) := ⟨_, rfl⟩
      obtain ⟨g, hg⟩ : ∃ g, g = w1.heap.size := ⟨_, rfl⟩
      rw [← hw2] at mk hO0 hal
      rw [← hg] at mk hO0
      have hb2 : Below w.heap.size w w2 := hb1.trans (hal.mono hb1.size)
      have HB2 := Lib.hid hb2
      have HO0 := Lib.hid hO0
      have hgw : w.heap.size ≤ g := by rw [hg]; exact hb1.size
      clear hb1 hO0 hal hw2 hg hb2 HC
      go_wp2_with fail
      go_loopg [11, 13, 32] m (fun gk v11 v13 v32 wr => ∃ i : Nat, i + gk = m ∧ v32 = iv i ∧ OwnR wr g 3 (.slice (some ⟨g, 0, none⟩) nn nn) ((Pl.cts nn (Pl.prs (dd : Int) (l.take i))).map ivn) ∧ Kept (fun x => x = g) w2 wr)
      case atStart => exact ⟨0, by omega, rfl, HO0.out, Kept.refl _ _⟩
      case round =>
        clear HO0
        obtain ⟨gO, hgO⟩ : ∃ x : Nat, x = gk := ⟨_, rfl⟩
        obtain ⟨wO, hwO⟩ : ∃ x : World, x = wr := ⟨_, rfl⟩
        subst hgO hwO
        obtain ⟨i, hi, rfl, hO, hK⟩ := hrel
        have Hi := Lib.hid hi
        have HO := Lib.hid hO
        have HK := Lib.hid hK
        clear hi hO hK
        by_cases him : i < m
        · obtain ⟨s, hs⟩ : ∃ s, l[i]? = some s := ⟨l[i]'(by rw [← Hm.out]; exact him), List.getElem?_eq_getElem _⟩
          have hsn := Pl.prs_snoc (dd : Int) hs
          have Hsn := Lib.hid hsn
          obtain ⟨gs, os, cs, p2, c2, hv, hgs, hcl, hrb, hwf⟩ := HV.out.at hs
          injection hv with e1 q8 q9
          have He1 := Lib.hid e1
          obtain ⟨k, hk⟩ : ∃ k, k = s.length := ⟨_, rfl⟩
          rw [← hk] at hcl hrb
          have d0 := HK.out.cell (b := gs) (o := os + i) ((HB2.out.cell (p := ⟨gs, os + i, none⟩) hgs).trans hcl) (by omega)
          have hk9 : k ≤ 9223372036854775807 := by
            obtain ⟨_, c', _, h1, h2, _⟩ := hrb.shape
            rw [List.length_map, ← hk] at h1
            unfold maxLen at h2
            omega
          have HRB := Lib.hid hrb
          have HKs := Lib.hid hk
          have Hs := Lib.hid hs
          have Hnds := Lib.hid (Hk.out.2.2.2 s (List.mem_of_getElem? hs)).1
          have Hds := Lib.hid (Hk.out.2.2.2 s (List.mem_of_getElem? hs)).2
          rw [e1]
          clear e1 q8 q9 hcl hrb hk hs hwf hgs
          have hbO := HB2.out.trans (HK.out.toBelow HB2.out.size (fun q _ e => by rw [e]; exact hgw))
          have HCo := Lib.hid (contains_ints s (dd : Int) _ wO (HRB.out.below hbO))
          clear hbO
          clear hsn
          go_wp2_with fail
          refine HCo.out.mono ?_
          rintro e w' ⟨rfl, rfl⟩
          clear HCo
          cases hcb : s.contains (dd : Int) with
          | false =>
            have hfs : Pl.prs (dd : Int) (l.take (i + 1)) = Pl.prs (dd : Int) (l.take i) := by rw [Hsn.out, hcb]; simp
            rw [← hfs] at HO
            clear hfs hcb d0
            go_wp2_with fail
            rw [← He1.out]
            go_roundg (gO - 1)
            case measure => have := Hi.out; omega
            case rel => exact ⟨i + 1, by have := Hi.out; omega, by go_num, HO.out, HK.out⟩
          | true =>
            have Hcb := Lib.hid hcb
            clear hcb
            go_wp2_with fail
            go_loopg [13, 42] k (fun gk v13 v42 wr => ∃ j : Nat, j + gk = k ∧ v42 = iv j ∧ OwnR wr g 3 (.slice (some ⟨g, 0, none⟩) nn nn) ((Pl.cts nn (Pl.prs (dd : Int) (l.take i) ++ (s.take j).filter (fun q => !(q == (dd : Int))))).map ivn) ∧ Kept (fun x => x = g) w2 wr)
            case atStart => exact ⟨0, by omega, rfl, by rw [List.take_zero, List.filter_nil, List.append_nil]; exact HO.out, HK.out⟩
            case round =>
              clear HO HK d0
              obtain ⟨j, hj, rfl, hO, hK⟩ := hrel
              have Hj := Lib.hid hj
              have HO := Lib.hid hO
              have HK := Lib.hid hK
              clear hj hO hK
              by_cases hjk : j < k
              · obtain ⟨d, hd⟩ : ∃ d, s[j]? = some d := ⟨s[j]'(by rw [← HKs.out]; exact hjk), List.getElem?_eq_getElem _⟩
                obtain ⟨g2, o2, cc2, hv2, h3, h4, h5⟩ := HRB.out.pos (by rw [List.length_map, ← HKs.out]; omega)
                injection hv2 with e1 q8 q9
                have He2 := Lib.hid e1
                have d1 := h5 j (by rw [List.length_map, ← HKs.out]; exact hjk)
                rw [List.getElem?_map, hd] at d1
                have d1' : w.cell? ⟨g2, o2 + j, none⟩ = some (iv d) := d1
                have hg2g : g2 < w.heap.size := World.block_lt_of_cell? w _ d1'
                have d2 := HK.out.cell (b := g2) (o := o2 + j) ((HB2.out.cell (p := ⟨g2, o2 + j, none⟩) hg2g).trans d1') (by omega)
                have hdb := Hds.out d (List.mem_of_getElem? hd)
                obtain ⟨dn, rfl⟩ : ∃ n : Nat, d = n := ⟨d.toNat, by omega⟩
                have hdn : dn < nn := by omega
                have Hd := Lib.hid hd
                have hjkI' : (j : Int) < (k : Int) := by omega
                have hdI : (dn : Int) < (nn : Int) := by omega
                rw [e1]
                clear e1 q8 q9 h3 h4 h5 d1 hd d1' hg2g hdb
                have hstep : (s.take (j + 1)).filter (fun q => !(q == (dd : Int))) = (s.take j).filter (fun q => !(q == (dd : Int))) ++ if dn = dd then [] else [(dn : Int)] := by
                  rw [List.take_add_one, Hd.out, List.filter_append]
                  congr 1
                  show List.filter _ [(dn : Int)] = _
                  rw [List.filter_cons, List.filter_nil]
                  by_cases e : dn = dd
                  · rw [if_pos e, e]; simp
                  · rw [if_neg e]
                    have : ((dn : Int) == (dd : Int)) = false := by rw [beq_eq_false_iff_ne]; omega
                    rw [this]; rfl
                by_cases hed : dn = dd
                · rw [if_pos hed, List.append_nil] at hstep
                  rw [← hstep] at HO
                  subst hed
                  clear hstep
                  go_wp2_with fail
                  rw [← He2.out]
                  go_roundg (gk - 1)
                  case measure => have := Hj.out; omega
                  case rel => exact ⟨j + 1, by have := Hj.out; omega, by go_num, HO.out, HK.out⟩
                · rw [if_neg hed] at hstep
                  have hneI : ¬ (dn : Int) = (dd : Int) := by omega
                  have hcn : (Pl.prs (dd : Int) (l.take i) ++ (s.take j).filter (fun q => !(q == (dd : Int)))).count (dn : Int) ≤ 41 := by
                    rw [List.count_append]
                    have h1 := Pl.prs_count (d := (dd : Int)) (k := (dn : Int)) (l := l.take i) (fun t ht => (Hk.out.2.2.2 t (List.mem_of_mem_take ht)).1)
                    rw [List.length_take] at h1
                    have h2 := Pl.count_one (((Hnds.out.sublist (List.take_sublist j s))).sublist (List.filter_sublist (p := fun q => !(q == (dd : Int))))) (dn : Int)
                    omega
                  obtain ⟨hx1, hx2, hx3, hx4, hx5, hcc, hff⟩ := OwnR.cellsO HO.out (by rw [List.length_map, Pl.cts_len]; omega)
                  have d3 := hcc dn hdn
                  rw [ivn_at (Pl.cts_get _ hdn), Nat.zero_add] at d3
                  have f3 := hff dn
                  have hst1 := HO.out.setAtO (k := dn) (by rw [List.length_map, Pl.cts_len]; exact hdn) (ivn ((Pl.prs (dd : Int) (l.take i) ++ (s.take j).filter (fun q => !(q == (dd : Int)))).count (dn : Int) + 1))
                  rw [Nat.zero_add, ← List.map_set, ← Pl.cts_snoc _ hdn] at hst1
                  obtain ⟨x, hx⟩ : ∃ x, x = (Pl.prs (dd : Int) (l.take i) ++ (s.take j).filter (fun q => !(q == (dd : Int)))).count (dn : Int) := ⟨_, rfl⟩
                  rw [← hx] at d3 hst1 hcn
                  have hwx : IntKind.i64.wrap ((x : Int) + 1) = ((x + 1 : Nat) : Int) := by rw [IntWalk.i64_in _ (by omega)]; omega
                  clear hx hx1 hx2 hx3 hx4 hx5 hcc hff
                  rw [List.append_assoc, ← hstep] at hst1
                  have Hst := Lib.hid hst1
                  clear hcn hstep hst1
                  go_wp2_with fail
                  rw [← He2.out]
                  go_roundg (gk - 1)
                  case measure => have := Hj.out; omega
                  case rel => exact ⟨j + 1, by have := Hj.out; omega, by go_num, Hst.out, HK.out.set1 dn _⟩
              · obtain rfl : j = k := by have := Hj.out; omega
                have hfs : Pl.prs (dd : Int) (l.take i) ++ (s.take j).filter (fun q => !(q == (dd : Int))) = Pl.prs (dd : Int) (l.take (i + 1)) := by rw [Hsn.out, Hcb.out, HKs.out, List.take_length, if_pos rfl]
                rw [hfs] at HO
                clear hfs hjk
                go_wp2_with fail
                rw [← He1.out]
                go_roundg (gO - 1)
                case measure => have := Hi.out; omega
                case rel => exact ⟨i + 1, by have := Hi.out; omega, by go_num, HO.out, HK.out⟩
        · obtain rfl : i = m := by have := Hi.out; omega
          rw [Hm.out, List.take_length, ← HVe.out] at HO
          have HR := Lib.hid (OwnR.row HO.out)
          have HB9 := Lib.hid (HB2.out.trans (HK.out.toBelow HB2.out.size (fun q _ e => by rw [e]; exact hgw)))
          clear him HO HK
          go_wp2_with fail
          go_ret2
          exact ⟨_, rfl, HR.out, HB9.out⟩
  · have hFe : F = C := by rw [HF.out, ← hC, if_pos h0]
    obtain rfl : V = [] := by rw [HVv.out, if_neg (by rw [hFe]; exact h0)]
    rw [errV_ne h0] at HC
    rw [hFe, errV_ne h0]
    clear HF HVv hV hC h0 hv HV hF hFe
    go_enter Tryd.func15, Tryd.ntmps15
    go_wp2_with fail
    refine HC.out.mono ?_
    rintro e w1 ⟨rfl, hb1⟩
    have HB := Lib.hid hb1
    clear hb1 HC
    go_wp2_with fail
    go_ret2
    exact ⟨_, rfl, row_nil _, HB.out⟩
set_option maxRecDepth 100000 in
set_option maxHeartbeats 2000000 in
theorem phurt_tot (l : List (List Int)) (d : Int) (v : Value) (w : World) (hv : Rows2 w v l) :
    Calls Tryd.prog 14 #[v, iv d] w (NmPost (Pl.huV l d) (Pl.huE l d) w) := by
  have HC := Lib.hid (pcheck_any 10 l v w hv)
  have HV := Lib.hid hv
  obtain ⟨C, hC⟩ : ∃ C, C = Od.chk 10 l := ⟨_, rfl⟩
  obtain ⟨F, hF⟩ : ∃ F, F = Pl.huE l d := ⟨_, rfl⟩
  obtain ⟨V, hV⟩ : ∃ V, V = Pl.huV l d := ⟨_, rfl⟩
  rw [← hC] at HC
  rw [← hF, ← hV]
  have HF := Lib.hid (show F = if d < 0 ∨ 10 ≤ d then 1 else Od.chk 10 l from hF)
  have HVv := Lib.hid (show V = if Pl.huE l d = 0 then Pl.hts d l l.length else [] from hV)
  rw [← hF] at HVv
  unfold NmPost
  by_cases hb : d < 0 ∨ 10 ≤ d
  · obtain rfl : F = 1 := by rw [HF.out, if_pos hb]
    obtain rfl : V = [] := by rw [HVv.out]; rfl
    clear HF HVv hF hV hC hv HV HC
    by_cases h1 : d < 0
    · clear hb
      go_enter Tryd.func14, Tryd.ntmps14
      go_wp2_with fail
      go_ret2
      exact ⟨_, rfl, row_nil _, Below.refl _ _⟩
    · have h2 : 10 ≤ d := by omega
      clear hb
      go_enter Tryd.func14, Tryd.ntmps14
      go_wp2_with fail
      go_ret2
      exact ⟨_, rfl, row_nil _, Below.refl _ _⟩
  · have hF2 : F = C := by rw [HF.out, if_neg hb, ← hC]
    have hq1 : decide (d < 0) = false := dec_f (by omega)
    have hq2 : decide (10 ≤ d) = false := dec_f (by omega)
    by_cases h0 : C = 0
    · have hk := Od.chk_0 (hC.symm.trans h0)
      obtain rfl : F = 0 := hF2.trans h0
      subst h0
      rw [errV_0] at HC ⊢
      have hVe : V = Pl.hts d l l.length := by rw [HVv.out, if_pos rfl]
      have HVe := Lib.hid hVe
      obtain ⟨p, cap, rfl, hl1, hl2⟩ := hv.shape
      unfold maxLen at hl2
      obtain ⟨m, hm⟩ : ∃ m, m = l.length := ⟨_, rfl⟩
      rw [← hm] at HV HC hl1 HVe ⊢
      have Hm := Lib.hid hm
      have hm40 : m ≤ 40 := by rw [hm]; exact hk.2.2.1
      clear hv hk hVe HVv HF hV hF hC hm hF2 hb
      go_enter Tryd.func14, Tryd.ntmps14
      go_wp2_with fail
      refine HC.out.mono ?_
      rintro e w1 ⟨rfl, hb1⟩
      have HB1 := Lib.hid hb1
      clear hb1 HC
      go_wp2_with fail
      go_loopg [7, 8, 9, 24] m (fun gk v7 v8 v9 v24 wr => ∃ i : Nat, i + gk = m ∧ v24 = iv i ∧ wr.ownsRow w.heap.size 3 1 v7 (Pl.hts d l i).length ((Pl.hts d l i).map ivn) ∧ Below w.heap.size w wr)
      case atStart => exact ⟨0, by omega, rfl, World.ownsRow_nil _ _ _ _, HB1.out⟩
      case round =>
        clear HB1
        obtain ⟨wO, hwO⟩ : ∃ x : World, x = wr := ⟨_, rfl⟩
        subst hwO
        obtain ⟨i, hi, rfl, hO, hB⟩ := hrel
        have Hi := Lib.hid hi
        have HO := Lib.hid hO
        have HB := Lib.hid hB
        clear hi hO hB
        by_cases him : i < m
        · obtain ⟨s, hs⟩ : ∃ s, l[i]? = some s := ⟨l[i]'(by rw [← Hm.out]; exact him), List.getElem?_eq_getElem _⟩
          have Hsn := Lib.hid (Pl.hts_succ d hs)
          obtain ⟨gs, os, cs, p2, c2, hv, hgs, hcl, hrb, hwf⟩ := HV.out.at hs
          injection hv with e1 q8 q9
          have He1 := Lib.hid e1
          have d0 := (HB.out.cell (p := ⟨gs, os + i, none⟩) hgs).trans hcl
          have HCo := Lib.hid (contains_ints s d _ wO (hrb.below HB.out))
          obtain ⟨k, hk⟩ : ∃ k, k = s.length := ⟨_, rfl⟩
          rw [← hk] at d0 HCo
          rw [e1]
          clear e1 q8 q9 hcl hrb hk hs hwf hgs
          go_wp2_with fail
          refine HCo.out.mono ?_
          rintro e w' ⟨rfl, rfl⟩
          clear HCo
          cases hcb : s.contains d with
          | false =>
            have hfs : Pl.hts d l (i + 1) = Pl.hts d l i := by rw [Hsn.out, hcb]; simp
            rw [← hfs] at HO
            clear hfs hcb d0
            go_wp2_with fail
            rw [← He1.out]
            go_roundg (gk - 1)
            case measure => have := Hi.out; omega
            case rel => exact ⟨i + 1, by have := Hi.out; omega, by go_num, HO.out, HB.out⟩
          | true =>
            have hfs : Pl.hts d l (i + 1) = Pl.hts d l i ++ [i] := by rw [Hsn.out, hcb, if_pos rfl]
            have hfm : (Pl.hts d l i).map ivn ++ [iv (i : Int)] = (Pl.hts d l (i + 1)).map ivn := by rw [hfs, List.map_append]; rfl
            have hfl : (Pl.hts d l i).length + 1 = (Pl.hts d l (i + 1)).length := by rw [hfs, List.length_append]; rfl
            have Hfm := Lib.hid (And.intro hfm hfl)
            have hi9 : (Pl.hts d l i).length + 1 ≤ 1000000 := by have := Pl.hts_le d l i; omega
            have hz := HB.out.size
            obtain ⟨pv, nv, cv, rfl⟩ := (OwnR.of_owns HO.out).slice
            clear hfs hcb d0 hfm hfl
            go_wp2_with (at_builtin; refine app1 w wO _ 3 23 rfl _ _ rfl w.heap.size Tryd.underlying23 info_int rfl _ _ _ rfl _ rfl rfl HO.out rfl hi9 (by decide) hz HB.out ?_)
            intro v8 w8 hown8 hb8 _ _
            rw [Hfm.out.1, Hfm.out.2] at hown8
            have HO8 := Lib.hid hown8
            have HB8 := Lib.hid hb8
            clear hown8 hb8 HO HB hi9
            go_wp2_with fail
            rw [← He1.out]
            go_roundg (gk - 1)
            case measure => have := Hi.out; omega
            case rel => exact ⟨i + 1, by have := Hi.out; omega, by go_num, HO8.out, HB8.out⟩
        · obtain rfl : i = m := by have := Hi.out; omega
          rw [← HVe.out] at HO
          have HR := Lib.hid (OwnR.row (OwnR.of_owns HO.out))
          clear him HO
          go_wp2_with fail
          go_ret2
          exact ⟨_, rfl, HR.out, HB.out⟩
    · obtain rfl : V = [] := by rw [HVv.out, if_neg (by rw [hF2]; exact h0)]
      rw [errV_ne h0] at HC
      rw [hF2, errV_ne h0]
      clear HF HVv hV hC h0 hv HV hF hF2 hb
      go_enter Tryd.func14, Tryd.ntmps14
      go_wp2_with fail
      refine HC.out.mono ?_
      rintro e w1 ⟨rfl, hb1⟩
      have HB := Lib.hid hb1
      clear hb1 HC
      go_wp2_with fail
      go_ret2
      exact ⟨_, rfl, row_nil _, HB.out⟩
end Go.Proofs.YtkkfpdjhnffpbaaDoor
