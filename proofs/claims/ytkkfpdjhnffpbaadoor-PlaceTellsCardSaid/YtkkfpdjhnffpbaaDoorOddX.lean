/- The walks of odds.counts, Fatal, Worst. -/
import Derived.Test.YtkkfpdjhnffpbaaDoorOddW
import Derived.Deep.OwnRows
namespace Go.Proofs.YtkkfpdjhnffpbaaDoor
open Go.ChangeShapes Go.WideShapes Go.ChangeAt Go.RowKit
set_option linter.unusedVariables false
theorem OwnR.setAtO {w : World} {base g o n cap k : Nat} {E : TypeId} {xs : List Value} (h : OwnR w base E (.slice (some ⟨g, o, none⟩) n cap) xs) (hk : k < xs.length) (u : Value) :
    OwnR (w.setCell ⟨g, o + k, none⟩ u) base E (.slice (some ⟨g, o, none⟩) n cap) (xs.set k u) := by
  rcases h with ⟨hn, hx⟩ | ⟨g', o', cap', cur, hv', hb', hg', h1, h2, h3, h4⟩
  · cases hn
  · injection hv' with e1 e2 e3
    injection e1 with e1
    injection e1 with e4 e5
    subst e4 e5 e3
    refine .inr ⟨g, o, cap, cur.setIfInBounds (o + k) u, by rw [List.length_set, e2], hb', heap_setCell_same _ _ _ _ _ _ hg', by rw [List.length_set]; exact h1, h2, by rw [Array.size_setIfInBounds]; exact h3, fun j hj => ?_⟩
    rw [List.length_set] at hj
    rw [List.getElem?_set]
    by_cases e : k = j
    · subst e
      rw [Array.getElem?_setIfInBounds_self_of_lt (by omega), if_pos rfl, if_pos hk]
    · rw [Array.getElem?_setIfInBounds_ne (by omega), if_neg e]
      exact h4 j hj
theorem OwnR.cellsO {w : World} {B g o n c : Nat} {E : TypeId} {xs : List Value} (h : OwnR w B E (.slice (some ⟨g, o, none⟩) n c) xs) (hl : 0 < xs.length) :
    B ≤ g ∧ g < w.heap.size ∧ n = xs.length ∧ n ≤ c ∧ c ≤ maxLen ∧ (∀ j, j < n → w.cell? ⟨g, o + j, none⟩ = xs[j]?) ∧ ∀ i, w.frozen? ⟨g, i, none⟩ = false := by
  obtain ⟨g', o', c', hv, h1, h2, h3, h4, h5, h6⟩ := OwnR.at0 h hl
  injection hv with e1 e2 e3
  injection e1 with e1
  injection e1 with e4 e5
  subst e4 e5 e3
  exact ⟨h1, h2, e2, by omega, h4, fun j hj => h5 j (by omega), h6⟩
theorem make_intsO (n : Nat) (h : n ≤ 1000000) (w : World) : (Instr.makeSlice 23 (.int .i64 (n : Int)) (.int .i64 (n : Int))).run Tryd.prog w = .ok (.slice (some ⟨w.heap.size, 0, none⟩) n n) (w.alloc (.cells (madeCells #[.int .i64 0] n) 3)) :=
  run_make_row' 23 3 (.int .i64 0) 8 Tryd.underlying23 info_int rfl .i64 .i64 n (by omega) (by omega) w
theorem made_intsO (n : Nat) (hn : n ≤ 1000000) (w : World) : OwnR (w.alloc (.cells (madeCells #[.int .i64 0] n) 3)) w.heap.size 3 (.slice (some ⟨w.heap.size, 0, none⟩) n n) ((List.range n).map (fun _ => iv 0)) := by
  have hl : (madeCells #[Value.int .i64 0] n).toList = List.replicate n (.int .i64 0) := toList_madeCells_one _ _
  have hs : (madeCells #[Value.int .i64 0] n).size = n := by rw [← Array.length_toList, hl, List.length_replicate]
  refine .inr ⟨w.heap.size, 0, n, _, by rw [List.length_map, List.length_range], Nat.le_refl _, heap_alloc_new w _, by rw [List.length_map, List.length_range]; exact Nat.le_refl _, by unfold maxLen; omega, by rw [hs]; omega, fun j hj => ?_⟩
  rw [List.length_map, List.length_range] at hj
  rw [Nat.zero_add, ← Array.getElem?_toList, hl, List.getElem?_replicate, if_pos hj, List.getElem?_map, List.getElem?_range hj]; rfl
namespace Od
def ctk (l : List (List Nat)) (p : Int) (k f : Nat) : Nat := (List.range k).countP (fun set => fatal set l p && pop set == f)
theorem ctk_succ (l : List (List Nat)) (p : Int) (k f : Nat) : ctk l p (k + 1) f = ctk l p k f + if (fatal k l p && pop k == f) = true then 1 else 0 := by
  unfold ctk
  rw [List.range_succ, List.countP_append, List.countP_singleton]
theorem ctk_le (l : List (List Nat)) (p : Int) (k f : Nat) : ctk l p k f ≤ k := by
  have := List.countP_le_length (p := fun set => fatal set l p && pop set == f) (l := List.range k)
  rw [List.length_range] at this; exact this
def cvs (n : Nat) (l : List (List Nat)) (p : Int) (k : Nat) : List Value := (List.range (n + 1)).map (fun f => iv (ctk l p k f))
theorem cvs_len (n : Nat) (l : List (List Nat)) (p : Int) (k : Nat) : (cvs n l p k).length = n + 1 := by unfold cvs; simp
theorem cvs_at {n : Nat} (l : List (List Nat)) (p : Int) (k : Nat) {f : Nat} (h : f < n + 1) : (cvs n l p k)[f]? = some (iv (ctk l p k f)) := by unfold cvs; rw [List.getElem?_map, List.getElem?_range h]; rfl
theorem cvs_no {n : Nat} {l : List (List Nat)} {p : Int} {k : Nat} (h : fatal k l p = false) : cvs n l p (k + 1) = cvs n l p k := by
  unfold cvs
  refine List.map_congr_left (fun f _ => ?_)
  rw [ctk_succ, h]; simp
theorem cvs_yes {n : Nat} {l : List (List Nat)} {p : Int} {k : Nat} (h : fatal k l p = true) : cvs n l p (k + 1) = (cvs n l p k).set (pop k) (iv ((ctk l p k (pop k) + 1 : Nat) : Int)) := by
  apply List.ext_getElem?
  intro j
  rw [List.getElem?_set, cvs_len]
  by_cases hj : j < n + 1
  · rw [cvs_at l p _ hj, cvs_at l p _ hj, ctk_succ, h]
    by_cases e : pop k = j
    · subst e; rw [if_pos rfl, if_pos hj, if_pos (by simp)]
    · rw [if_neg e, if_neg (by simp [e])]; rfl
  · rw [List.getElem?_eq_none (by rw [cvs_len]; omega), List.getElem?_eq_none (by rw [cvs_len]; omega)]
    split
    · rw [if_neg (by omega)]
    · rfl
theorem ctk_full (n : Nat) (l : List (List Nat)) (p : Int) (f : Nat) : ctk l p (2 ^ n) f = cnt n l p f := rfl
end Od
set_option maxRecDepth 100000 in
set_option maxHeartbeats 2000000 in
theorem ocounts_any (n : Nat) (h1 : 1 ≤ n) (h10 : n ≤ 10) (l : List (List Int)) (hl : l.length ≤ 40) (hok : ∀ s ∈ l, ∀ d ∈ s, 0 ≤ d ∧ d < 10) (p : Int) (v : Value) (w : World) (hv : Rows2 w v l) :
    Calls Tryd.prog 24 #[iv n, v, iv p] w fun e w' => ∃ g, e = .returned (.slice (some ⟨g, 0, none⟩) (n + 1) (n + 1)) ∧ OwnR w' w.heap.size 3 (.slice (some ⟨g, 0, none⟩) (n + 1) (n + 1)) (Od.cvs n (Od.natss l) p (2 ^ n)) ∧ Below w.heap.size w w' := by
  have mk := make_intsO (n + 1) (by omega) w
  have hO0 := made_intsO (n + 1) (by omega) w
  have hal : Below w.heap.size w (w.alloc (.cells (madeCells #[.int .i64 0] (n + 1)) 3)) := (Below.refl _ _).alloc (Nat.le_refl _) _
  have hsz1 : (w.alloc (.cells (madeCells #[.int .i64 0] (n + 1)) 3)).heap.size = w.heap.size + 1 := by simp
  obtain ⟨w1, hw1⟩ : ∃ w1, w1 = w.alloc (.cells (madeCells #[.int .i64 0] (n + 1)) 3) := ⟨_, rfl⟩
  rw [← hw1] at mk hal hO0 hsz1
  obtain ⟨g, hg⟩ : ∃ g, g = w.heap.size := ⟨_, rfl⟩
  have HS := Lib.hid (osets_any l hl hok v w1 (hv.below hal))
  have HB1 := Lib.hid hal
  have hgw : w.heap.size ≤ g := by omega
  have hg1 : g < w1.heap.size := by omega
  rw [← hg, show ((n + 1 : Nat) : Int) = (n : Int) + 1 by omega] at mk
  have hO0' : OwnR w1 w.heap.size 3 (.slice (some ⟨g, 0, none⟩) (n + 1) (n + 1)) (Od.cvs n (Od.natss l) p 0) := by
    rw [hg]
    have e : Od.cvs n (Od.natss l) p 0 = (List.range (n + 1)).map (fun _ => iv 0) := rfl
    rw [e]; exact hO0
  have HO0 := Lib.hid hO0'
  have hw : IntKind.i64.wrap ((n : Int) + 1) = ((n + 1 : Nat) : Int) := by rw [IntWalk.i64_in _ (by omega)]; omega
  have hp2 := wrap_pow n (by omega)
  have h2n : 2 ^ n ≤ 1024 := Nat.pow_le_pow_right (n := 2) (by omega) h10
  obtain ⟨N, hN⟩ : ∃ N, N = 2 ^ n := ⟨_, rfl⟩
  rw [← hN] at hp2 h2n ⊢
  have HN := Lib.hid hN
  clear hv hO0 hO0' hal hsz1 hw1 hg hN
  go_enter Tryd.func24, Tryd.ntmps24
  go_wp2_with fail
  refine HS.out.mono ?_
  rintro e w2 ⟨u, rfl, hU, hb2⟩
  have hU9 := hU
  have HU := Lib.hid (OwnR.row hU)
  have hub : ∀ b, u.ownBlock = some b → b ≠ g := fun b hb e => by have := (OwnR.lt hU9 hb).1; omega
  have Hub := Lib.hid hub
  have HO2 := Lib.hid (OwnR.below HO0.out hb2)
  have HB2 := Lib.hid (HB1.out.trans (hb2.mono HB1.out.size))
  have hg2 : g < w2.heap.size := by have := hb2.size; omega
  have hms : ∀ s ∈ Od.ms l, s < 1024 := fun s hs => by
    obtain ⟨t, ht, rfl⟩ := List.mem_map.1 hs
    refine Od.mask_lt (fun d hd => ?_)
    obtain ⟨x, hx, rfl⟩ := List.mem_map.1 hd
    have := hok t ht x hx
    omega
  have Hms := Lib.hid hms
  have hml : (Od.ms l).length ≤ 1000 := by unfold Od.ms; rw [List.length_map]; omega
  clear hU hU9 hub hb2 hms HS HO0 HB1 hok
  go_wp2_with fail
  go_loopg [9, 17] N (fun gk v9 v17 wr => ∃ k : Nat, k + gk = N ∧ v17 = uv k ∧ OwnR wr w.heap.size 3 (.slice (some ⟨g, 0, none⟩) (n + 1) (n + 1)) (Od.cvs n (Od.natss l) p k) ∧ Kept (fun x => x = g) w2 wr)
  case atStart => exact ⟨0, by omega, rfl, HO2.out, Kept.refl _ _⟩
  case round =>
    clear HO2
    obtain ⟨k, hk, rfl, hO, hK⟩ := hrel
    have Hk := Lib.hid hk
    have HO := Lib.hid hO
    have HK := Lib.hid hK
    clear hk hO hK
    by_cases hkN : k < N
    · have HF := Lib.hid (ofatal_any k (by omega) (Od.ms l) Hms.out hml p u wr (HK.out.row HU.out (fun b o n' c hv _ e => Hub.out b (by rw [hv]; rfl) e)))
      rw [Od.anyF_ms] at HF
      have hkI : (k : Int) < (N : Int) := by omega
      have hwk : IntKind.u64.wrap ((k : Int) + 1) = ((k + 1 : Nat) : Int) := by simp [IntKind.wrap, IntKind.bits, IntKind.signed]; omega
      cases hf : Od.fatal k (Od.natss l) p with
      | false =>
        rw [hf] at HF
        have Hn := Lib.hid (Od.cvs_no (n := n) hf)
        clear hf
        go_wp2_with fail
        refine HF.out.mono ?_
        rintro e w' ⟨rfl, rfl⟩
        clear HF
        go_wp2_with fail
        go_roundg (gk - 1)
        case measure => have := Hk.out; omega
        case rel => exact ⟨k + 1, by have := Hk.out; omega, by first | rfl | go_num, by rw [Hn.out]; exact HO.out, HK.out⟩
      | true =>
        rw [hf] at HF
        have hy := Od.cvs_yes (n := n) hf
        have hpn := Od.pop_in n h10 k (by rw [← HN.out]; exact hkN)
        obtain ⟨q, hq⟩ : ∃ q, q = Od.pop k := ⟨_, rfl⟩
        have HP := Lib.hid (ones_any k (by omega) wr)
        rw [← hq] at hy hpn HP
        obtain ⟨c, hc⟩ : ∃ c, c = Od.ctk (Od.natss l) p k q := ⟨_, rfl⟩
        have hc9 : c ≤ k := by rw [hc]; exact Od.ctk_le _ _ _ _
        rw [← hc] at hy
        obtain ⟨_, _, hz1, _, _, hcc, hfz⟩ := OwnR.cellsO HO.out (by rw [Od.cvs_len]; omega)
        have d0 := hcc q (by omega)
        rw [Od.cvs_at _ _ _ (by omega), ← hc, Nat.zero_add] at d0
        have f0 := hfz q
        have hO2 := OwnR.setAtO HO.out (k := q) (by rw [Od.cvs_len]; omega) (iv ((c + 1 : Nat) : Int))
        rw [← hy, Nat.zero_add] at hO2
        have HO2 := Lib.hid hO2
        have HK2 := Lib.hid (HK.out.set1 q (iv ((c + 1 : Nat) : Int)))
        have hwc : IntKind.i64.wrap ((c : Int) + 1) = ((c + 1 : Nat) : Int) := by rw [IntWalk.i64_in _ (by omega)]; omega
        have hqI : (q : Int) < ((n + 1 : Nat) : Int) := by omega
        clear hf hy hc hcc hfz hO2 hz1 hq
        go_wp2_with fail
        refine HF.out.mono ?_
        rintro e w' ⟨rfl, rfl⟩
        clear HF
        go_wp2_with fail
        refine HP.out.mono ?_
        rintro e w' ⟨rfl, rfl⟩
        clear HP
        go_wp2_with fail
        go_roundg (gk - 1)
        case measure => have := Hk.out; omega
        case rel => exact ⟨k + 1, by have := Hk.out; omega, by first | rfl | go_num, HO2.out, HK2.out⟩
    · have hkN' : k = N := by have := Hk.out; omega
      have hkI : ¬ (k : Int) < (N : Int) := by omega
      subst hkN'
      have HB3 : Hid (Below w.heap.size w wr) := Lib.hid (HB2.out.trans (HK.out.toBelow HB2.out.size (fun x _ e => by rw [e]; exact hgw)))
      go_wp2_with fail
      go_ret
      exact ⟨g, rfl, HO.out, HB3.out⟩
end Go.Proofs.YtkkfpdjhnffpbaaDoor
