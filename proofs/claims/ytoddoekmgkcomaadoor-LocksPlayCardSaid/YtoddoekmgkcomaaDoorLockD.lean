/- The walks of the library's slices.Delete and slices.Clone at lists of locks. -/
import Derived.Test.YtoddoekmgkcomaaDoorLockA
import Derived.Deep.RegionLaw
import Derived.Lib.SliceRun
import Derived.Deep.Upon
namespace Go.Proofs.YtoddoekmgkcomaaDoor
open Go.ChangeShapes Go.WideShapes Go.ChangeAt Go.RowKit
set_option linter.unusedVariables false
/-- what lies in a block behind a store of many cells -/
theorem heap_setCells_at (g : Nat) (e : TypeId) : ∀ (vs : List Value) (o : Nat) (w : World) (cur : Array Value), w.heap[g]? = some (.cells cur e (0, 0)) →
    ∃ cur', (w.setCells g o vs).heap[g]? = some (.cells cur' e (0, 0)) ∧ cur'.size = cur.size ∧ ∀ j, j < cur.size → cur'[j]? = if o ≤ j ∧ j < o + vs.length then vs[j - o]? else cur[j]?
  | [], o, w, cur, h => ⟨cur, h, rfl, fun j _ => by rw [if_neg (by simp)]⟩
  | v :: vs, o, w, cur, h => by
    obtain ⟨cur', h1, h2, h3⟩ := heap_setCells_at g e vs (o + 1) (w.setCell ⟨g, o, none⟩ v) (cur.setIfInBounds o v) (heap_setCell_same _ _ _ _ _ _ h)
    refine ⟨cur', h1, by rw [h2]; simp, fun j hj => ?_⟩
    rw [h3 j (by simpa using hj)]
    by_cases c : j = o
    · subst c
      rw [if_neg (by omega), if_pos (by simp), Array.getElem?_setIfInBounds_self_of_lt hj]
      simp
    · by_cases c2 : o ≤ j ∧ j < o + (v :: vs).length
      · rw [List.length_cons] at c2
        rw [if_pos (by omega), if_pos (by rw [List.length_cons]; omega), show j - o = (j - (o + 1)) + 1 by omega, List.getElem?_cons_succ]
      · rw [List.length_cons] at c2
        rw [if_neg (by omega), if_neg (by rw [List.length_cons]; omega), Array.getElem?_setIfInBounds_ne (by omega)]
theorem grown_setCells (w : World) (g o : Nat) (vs : List Value) : w.grownBy (w.setCells g o vs) (some g) := by
  have h := (World.keptBut_setCells g (may := fun _ => True) vs o w (fun _ _ => trivial))
  refine ⟨h.1, ?_, h.2.1, ?_, fun k hk hne => World.heap_setCells_other _ _ _ _ hk (fun e => hne (by rw [e]))⟩
  · induction vs generalizing o w with
    | nil => rfl
    | cons v vs ih => exact (ih (w.setCell ⟨g, o, none⟩ v) (o + 1) (World.keptBut_setCells g vs (o + 1) _ (fun _ _ => trivial))).trans rfl
  · induction vs generalizing o w with
    | nil => exact Nat.le_refl _
    | cons v vs ih => exact Nat.le_trans (by simp [World.setCell]) (ih (w.setCell ⟨g, o, none⟩ v) (o + 1) (World.keptBut_setCells g vs (o + 1) _ (fun _ _ => trivial)))
theorem lcs_take (ls : List Lk.L) : ∀ i, i ≤ ls.length → (lcs ls).take (i * 4) = lcs (ls.take i) := by
  induction ls with
  | nil => intro i hi; simp [lcs]
  | cons a l ih =>
    intro i hi
    cases i with
    | zero => simp [lcs]
    | succ i =>
      have := ih i (by simpa using hi)
      unfold lcs at this ⊢
      rw [List.flatMap_cons, List.take_succ_cons, List.flatMap_cons, ← this, List.take_append]
      have h4 : (lc a).length = 4 := rfl
      rw [h4, List.take_of_length_le (by rw [h4]; omega), show (i + 1) * 4 - 4 = i * 4 by omega]
theorem lcs_drop (ls : List Lk.L) : ∀ i, i ≤ ls.length → (lcs ls).drop (i * 4) = lcs (ls.drop i) := by
  induction ls with
  | nil => intro i hi; simp [lcs]
  | cons a l ih =>
    intro i hi
    cases i with
    | zero => simp [lcs]
    | succ i =>
      have := ih i (by simpa using hi)
      unfold lcs at this ⊢
      rw [List.flatMap_cons, List.drop_succ_cons, ← this, List.drop_append]
      have h4 : (lc a).length = 4 := rfl
      rw [h4, List.drop_of_length_le (by rw [h4]; omega), show (i + 1) * 4 - 4 = i * 4 by omega, List.nil_append]
theorem lcs_one (ls : List Lk.L) : ∀ u ∈ lcs ls, u.oneCell' = true := by
  intro u hu; unfold lcs at hu
  obtain ⟨a, _, h⟩ := List.mem_flatMap.1 hu
  exact lc_one a u h
theorem lcs_erase (ls : List Lk.L) (i : Nat) (hi : i < ls.length) : lcs (ls.eraseIdx i) = (lcs ls).take (i * 4) ++ (lcs ls).drop ((i + 1) * 4) := by
  rw [lcs_take ls i (by omega), lcs_drop ls (i + 1) (by omega), List.eraseIdx_eq_take_drop_succ]
  unfold lcs; rw [List.flatMap_append]
theorem zero_lock (w : World) : (zeroValue 52).run Tryd.prog w = .ok (.agg #[iv 0, iv 0, iv 0, .bool false]) w := by kernel_rfl
/-- clear, at one lock -/
theorem run_clear1 (w : World) (ty : TypeId) (b o c : Nat) (hc : ∀ j, j < 4 → (w.cell? ⟨b, o + j, none⟩).isSome = true) (hf : ∀ j, j < 4 → w.frozen? ⟨b, o + j, none⟩ = false) :
    (Builtin.clear_ #[39] ty #[.slice (some ⟨b, o, none⟩) 1 c]).run Tryd.prog w = .ok (.tuple #[]) (w.setCells b o [iv 0, iv 0, iv 0, .bool false]) := by
  have hst := run_storeCells_cells (P := Tryd.prog) b o [iv 0, iv 0, iv 0, .bool false] 0 w (by simpa using hc) (by simpa using hf) (by intro v hv'; simp at hv'; rcases hv' with rfl | rfl <;> rfl)
  simp only [Nat.add_zero] at hst
  have hz := zero_lock w
  have e : (Builtin.zeroCells #[iv 0, iv 0, iv 0, Value.bool false] 1).toList = [iv 0, iv 0, iv 0, .bool false] := by kernel_rfl
  simp [Builtin.clear_, run_underlying Tryd.underlying39, hz, Value.cells, e, hst]
def DelPost (B g n cap : Nat) (ls : List Lk.L) (w : World) (e : Ending) (w' : World) : Prop :=
  e = .returned (.slice (some ⟨g, 0, none⟩) (n - 1) cap) ∧ w'.ownsRow B 52 4 (.slice (some ⟨g, 0, none⟩) (n - 1) cap) (n - 1) (lcs ls) ∧ w.grownBy w' (some g)
set_option maxRecDepth 100000 in
set_option maxHeartbeats 4000000 in
theorem delete_any {w : World} {B g n cap i : Nat} {ls : List Lk.L} (hown : w.ownsRow B 52 4 (.slice (some ⟨g, 0, none⟩) n cap) n (lcs ls)) (hn : n = ls.length) (hi : i < n) :
    Calls Tryd.prog 57 #[.slice (some ⟨g, 0, none⟩) n cap, iv i, iv ((i : Int) + 1)] w (DelPost B g n cap (ls.eraseIdx i) w) := by
  obtain ⟨i0, hi0, hz0, hz1, hz2⟩ := info_parts info_lock
  obtain ⟨hxl, h2⟩ := hown
  rcases h2 with ⟨h2, _⟩ | ⟨g', cap', cur, hv, hBg, hg, hnc, hcm, hcs, htake⟩
  · cases h2
  simp only [Value.slice.injEq, Option.some.injEq, Addr.mk.injEq, and_true, true_and] at hv
  obtain ⟨rfl, rfl⟩ := hv
  have hcm' : cap ≤ 9223372036854775807 := by unfold maxLen at hcm; omega
  obtain ⟨m, hm⟩ : ∃ m, m = n - (i + 1) := ⟨_, rfl⟩
  obtain ⟨news, hnews⟩ : ∃ news, news = (lcs ls).drop ((i + 1) * 4) := ⟨_, rfl⟩
  have hlen : news.length = m * 4 := by rw [hnews, List.length_drop, hxl, hm, ← Nat.sub_mul]
  have hcurat : ∀ j, j < n * 4 → cur[j]? = (lcs ls)[j]? := fun j hj => by
    rw [← htake, List.getElem?_take, if_pos hj]; simp
  have hcell : ∀ j, w.cell? ⟨g, j, none⟩ = cur[j]? := fun j => cell_of_row _ _ _ _ _ _ hg
  have hfz : ∀ j, w.frozen? ⟨g, j, none⟩ = false := fun j => frozen_of_row _ _ _ _ _ hg
  have hcn : n * 4 ≤ cur.size := by rw [hcs]; exact Nat.mul_le_mul_right _ hnc
  have hsome : ∀ j, j < cur.size → (w.cell? ⟨g, j, none⟩).isSome = true := fun j hj => by rw [hcell, Array.getElem?_eq_getElem hj]; rfl
  obtain ⟨A, hA, hsrc⟩ : ∃ A : Addr, (if cap = i + 1 then some (⟨g, 0, none⟩ : Addr) else some ⟨g, (i + 1) * 4, none⟩) = some A ∧ Hid (∀ t u, news[t]? = some u → w.drew.cell? (A.add t) = some u) := by
    by_cases h : cap = i + 1
    · refine ⟨⟨g, 0, none⟩, by simp [h], fun t u hu => ?_⟩
      have h0 : news.length = 0 := by rw [hlen, hm]; omega
      rw [List.length_eq_zero_iff.1 h0] at hu
      simp at hu
    · refine ⟨⟨g, (i + 1) * 4, none⟩, by simp [h], fun t u hu => ?_⟩
      have ht : t < m * 4 := by
        have := (List.getElem?_eq_some_iff.1 hu).1
        rwa [hlen] at this
      rw [Addr.add_lit]
      show w.cell? _ = _
      rw [hcell, hcurat _ (by omega), ← hu, hnews, List.getElem?_drop]
  have s1 : Hid (news.length = m * 4) := hlen
  have s2 : Hid (∀ u ∈ news, u.oneCell' = true) := fun u hu => by rw [hnews] at hu; exact lcs_one ls u (List.mem_of_mem_drop hu)
  have s3 : Hid (∀ t, t < news.length → (w.drew.cell? ⟨g, 0 + i * 4 + t, none⟩).isSome = true ∧ w.drew.frozen? ⟨g, 0 + i * 4 + t, none⟩ = false) := fun t ht => by
    rw [hlen] at ht
    exact ⟨hsome _ (by omega), hfz _⟩
  obtain ⟨W1, hW1⟩ : ∃ W1, W1 = w.drew.setCells g (0 + i * 4) news := ⟨_, rfl⟩
  obtain ⟨cur1, hb1, hs1, ha1⟩ := heap_setCells_at g _ news (0 + i * 4) w.drew cur hg
  rw [← hW1] at hb1
  have hq : i + m = n - 1 := by omega
  have hcl : ∀ ty c, (Builtin.clear_ #[39] ty #[.slice (some ⟨g, (i + m) * 4, none⟩) 1 c]).run Tryd.prog W1 = .ok (.tuple #[]) (W1.setCells g ((i + m) * 4) [iv 0, iv 0, iv 0, .bool false]) := fun ty c =>
    run_clear1 W1 ty g _ c (fun j hj => by rw [cell_of_row _ _ _ _ _ _ hb1, Array.getElem?_eq_getElem (by omega)]; rfl) (fun j hj => frozen_of_row _ _ _ _ _ hb1)
  obtain ⟨cur2, hb2, hs2, ha2⟩ := heap_setCells_at g _ [iv 0, iv 0, iv 0, .bool false] ((i + m) * 4) W1 cur1 hb1
  have hG : Hid (w.grownBy (W1.setCells g ((i + m) * 4) [iv 0, iv 0, iv 0, .bool false]) (some g)) := by
    have k1 := grown_setCells w.drew g (0 + i * 4) news
    have k2 := grown_setCells W1 g ((i + m) * 4) [iv 0, iv 0, iv 0, .bool false]
    rw [← hW1] at k1
    exact ⟨k2.os.trans k1.os, k2.tape.trans k1.tape, k2.output.trans k1.output, Nat.le_trans k1.size k2.size, fun k hk hne => (k2.block k (Nat.lt_of_lt_of_le hk k1.size) hne).trans (k1.block k hk hne)⟩
  have hO : Hid ((W1.setCells g ((i + m) * 4) [iv 0, iv 0, iv 0, .bool false]).ownsRow B 52 4 (.slice (some ⟨g, 0, none⟩) (n - 1) cap) (n - 1) (lcs (ls.eraseIdx i))) := by
    refine ⟨?_, .inr ⟨g, cap, cur2, rfl, hBg, hb2, by omega, hcm, by rw [hs2, hs1, hcs], ?_⟩⟩
    · rw [lcs_len, List.length_eraseIdx, if_pos (by omega), ← hn]
    · rw [lcs_erase ls i (by omega)]
      apply List.ext_getElem?
      intro j
      rw [List.getElem?_take]
      by_cases hj : j < (n - 1) * 4
      · rw [if_pos hj]
        have hj2 : j < cur.size := by omega
        rw [show cur2.toList[j]? = cur2[j]? by simp, ha2 j (by rw [hs1]; exact hj2), if_neg (by omega), ha1 j hj2]
        rw [List.getElem?_append, List.length_take, hxl, Nat.min_eq_left (by omega)]
        by_cases hji : j < i * 4
        · rw [if_neg (by omega), if_pos hji, hcurat _ (by omega), List.getElem?_take, if_pos hji]
        · rw [if_pos (by rw [hlen]; omega), if_neg hji, hnews, Nat.zero_add]
      · rw [if_neg hj]
        symm
        rw [List.getElem?_eq_none]
        rw [List.length_append, List.length_take, List.length_drop, hxl]
        omega
  have hW : Hid (W1 = w.drew.setCells g (0 + i * 4) news) := hW1
  have hic : i ≤ cap := by omega
  have hjc : i + 1 ≤ cap := by omega
  have t1 : ((i : Int) == (i : Int) + 1) = false := beq_f (by omega)
  have g1 : (0 : Int) ≤ (i : Int) + 1 := by omega
  have g2 : (i : Int) + 1 ≤ (n : Int) := by omega
  have hne : ¬ cap = i + m := by omega
  have hsub : n - (i + m) = 1 := by omega
  have hN := Lib.hid hn
  have HM := Lib.hid hm
  have HQ := Lib.hid hq
  have him : i + m ≤ cap := by omega
  have him2 : i + m + 1 = n := by omega
  have HIM := Lib.hid him2
  have him3 : i + m ≤ n := by omega
  have him4 : i + m < n := by omega
  clear hm hq him2
  clear hW1 hb1 hs1 ha1 hb2 hs2 ha2 hxl htake hcurat hcell hfz hsome hnews hlen hn
  go_enter Tryd.func57, Tryd.ntmps57
  go_wp2_with fail
  go_region_law (refine step_append_room rfl (.tmp 22) (.tmp 25) 39 rfl 52 i0 4 Tryd.underlying39 hi0 hz1 g 0 i cap (by simp [Act.eval, Act.put]) A m (cap - (i + 1)) news (by simp [Act.eval, Act.put]; exact HM.out.symm) s1.out hsrc.out s2.out (by omega) s3.out ?_; rw [← hW.out])
  go_wp2_with fail
  go_ret
  rw [DelPost]
  exact ⟨by rw [← HQ.out]; rfl, hO.out, hG.out⟩
def CloneLPost (ls : List Lk.L) (w : World) (e : Ending) (w' : World) : Prop :=
  ∃ v, e = .returned v ∧ w'.ownsRow w.heap.size 52 4 v ls.length (lcs ls) ∧ Below w.heap.size w w'
set_option maxRecDepth 100000 in
theorem cloneL_any (ls : List Lk.L) (hs : ls.length ≤ 1000) (B : Nat) (v : Value) (w : World) (hv : w.ownsRow B 52 4 v ls.length (lcs ls)) :
    Calls Tryd.prog 59 #[v] w (CloneLPost ls w) := by
  obtain ⟨i0, hi, hz0, hz1, hz2⟩ := info_parts info_lock
  have q22 : ∀ (w : World) (a : Option Addr) (n c n' c' : Nat), (binOp .eql 39 (.slice a n c) (.slice none n' c')).run Tryd.prog w = .ok (.bool a.isNone) w := fun w a n c n' c' => Lib.run_eql_slice_nil w _ _ a n c n' c' Tryd.underlying39
  have hcell := fun g (hg : v.ownBlock = some g) => hv.cells hg
  rcases hv.2 with ⟨rfl, h0⟩ | ⟨g, cap, cur, rfl, hb, hg, hnc, hcm, hcs, ht⟩
  · obtain rfl : ls = [] := List.eq_nil_of_length_eq_zero h0
    clear hcell hv
    go_enter Tryd.func59, Tryd.ntmps59
    go_wp2
    go_ret
    exact ⟨_, rfl, World.ownsRow_nil _ _ _ _, Below.refl _ _⟩
  · have hgl := (Array.getElem?_eq_some_iff.1 hg).1
    have Hc := Lib.hid (hcell g rfl)
    clear hcell hg hcs ht hv hnc hcm
    go_enter Tryd.func59, Tryd.ntmps59
    go_wp2_with (at_builtin; refine wpList_append_own _ rfl _ _ 39 rfl w.heap.size 52 i0 _ 4 32 Tryd.underlying39 hi hz0 hz1 hz2 rfl (by decide) _ _ _ rfl (World.ownsRow_made w #[] 0 (Nat.le_refl _) (Nat.zero_le _) rfl) ⟨g, 0, none⟩ ls.length cap (lcs ls) rfl ?qc1 ?qc2 ?qc3 ?qc4 ?qc5 ?qc6 ?_)
    case qc1 => exact lcs_len ls
    case qc2 =>
      intro j u hj
      have h := Hc.out j u hj
      have hblk : ((⟨g, 0, none⟩ : Addr).add j).block = g := by unfold Addr.add; split <;> rfl
      exact (((Below.refl w.heap.size w).alloc (Nat.le_refl _) _).cell (by rw [hblk]; exact hgl)).trans h
    case qc3 => exact lcs_one ls
    case qc4 => unfold maxLen; omega
    case qc5 => omega
    case qc6 => simp
    intro v' w1 hown hgrow _
    have Hown := Lib.hid hown
    clear hown
    go_wp2
    go_ret
    refine ⟨v', rfl, Hown.out, ?_⟩
    exact ((Below.refl _ w).alloc (Nat.le_refl _) _).grown hgrow (by simp) (by intro k hk; simp [Value.ownBlock] at hk; omega)
end Go.Proofs.YtoddoekmgkcomaaDoor
