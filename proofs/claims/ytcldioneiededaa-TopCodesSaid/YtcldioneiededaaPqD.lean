/- The walks of pq.Locate (blocks of one length) and pq.Delta. · The walk of pq.Delta (blocks of one length); plain facts for the law PqHeals. -/
import Derived.Test.YtcldioneiededaaPqL
namespace Go.Proofs.Ytcldioneiededaa
open Go.ChangeShapes Go.WideShapes Go.ChangeAt Go.RowKit
set_option linter.unusedVariables false
theorem strq (a b : ByteArray) [Decidable (a = b)] : (a.toList == b.toList) = decide (a = b) := by
  rw [ByteArray.toList_eq, ByteArray.toList_eq]
  by_cases h : a = b
  · subst h; simp
  · rw [decide_eq_false h]
    exact beq_eq_false_iff_ne.2 (fun e => h (ByteArray.ext (Array.toList_inj.1 e)))
theorem row_head {w : World} {p : Option Addr} {n cap : Nat} {xs : List Value} (h : Row w (.slice p n cap) xs) {k : Nat} (hk : k ≤ xs.length) : Row w (.slice p k cap) (xs.take k) := by
  obtain ⟨p', cap', hv, h1, h2, h3, h4⟩ := h
  injection hv with e1 e2 e3
  subst e1 e3
  have hl : (xs.take k).length = k := by rw [List.length_take]; omega
  refine ⟨p, cap, by rw [hl], by rw [hl]; omega, h2, h3, fun h0 => ?_⟩
  rw [hl] at h0
  obtain ⟨g, off, hp, hc⟩ := h4 (by omega)
  refine ⟨g, off, hp, fun j hj => ?_⟩
  rw [hl] at hj
  rw [hc j (by omega), List.getElem?_take, if_pos hj]
theorem info_boolK : (Try.prog.info? 4).map (fun i => (i.zero, i.size, i.bytes)) = some (some (.bool false), 1, 1) := by kernel_rfl
theorem make_bools (n : Nat) (h : n ≤ 1000000) (w : World) : (Instr.makeSlice 47 (.int .i64 (n : Int)) (.int .i64 (n : Int))).run Try.prog w = .ok (.slice (some ⟨w.heap.size, 0, none⟩) n n) (w.alloc (.cells (madeCells #[.bool false] n) 4)) :=
  run_make_row' 47 4 (.bool false) 1 Try.underlying47 info_boolK rfl .i64 .i64 n (by omega) (by omega) w
theorem marked_row {n i : Nat} (hn : n ≤ 1000000) (hi : i < n) (w : World) : BoolR ((w.alloc (.cells (madeCells #[.bool false] n) 4)).setCell ⟨w.heap.size, i, none⟩ (.bool true)) (.slice (some ⟨w.heap.size, 0, none⟩) n n) (Gv.marks2 n i i) := by
  have hl : (madeCells #[Value.bool false] n).toList = List.replicate n (.bool false) := toList_madeCells_one _ _
  have hs : (madeCells #[Value.bool false] n).size = n := by rw [← Array.length_toList, hl, List.length_replicate]
  have hb := heap_setCell_same (w.alloc (.cells (madeCells #[.bool false] n) 4)) w.heap.size i _ _ (.bool true) (heap_alloc_new w _)
  have hml : ((Gv.marks2 n i i).map Value.bool).length = n := by unfold Gv.marks2; simp
  refine ⟨some ⟨w.heap.size, 0, none⟩, n, by rw [hml], by rw [hml]; exact Nat.le_refl _, by unfold maxLen; omega, (fun h => by cases h), fun _ => ⟨w.heap.size, 0, rfl, fun j hj => ?_⟩⟩
  rw [hml] at hj
  rw [cell_of_row _ _ _ _ _ _ hb, Nat.zero_add]
  unfold Gv.marks2
  rw [List.getElem?_map, List.getElem?_map, List.getElem?_range hj]
  by_cases e : i = j
  · subst e
    rw [Array.getElem?_setIfInBounds_self_of_lt (by omega)]
    simp
  · rw [Array.getElem?_setIfInBounds_ne (by omega), ← Array.getElem?_toList, hl, List.getElem?_replicate, if_pos hj]
    have e' : ¬ j = i := fun h => e h.symm
    simp [e']
/-- the first q parts are what was healed, but i -/
def sameP (ps hs : List ByteArray) (i q : Nat) : Bool := (List.range q).all (fun j => j == i || decide (hs.getD j ⟨#[]⟩ = ps.getD j ⟨#[]⟩))
theorem sameP_succ (ps hs : List ByteArray) (i q : Nat) : sameP ps hs i (q + 1) = (sameP ps hs i q && (q == i || decide (hs.getD q ⟨#[]⟩ = ps.getD q ⟨#[]⟩))) := by
  unfold sameP; rw [List.range_succ, List.all_append]; simp
def LcRel (ps : List ByteArray) (w : World) (n gk : Nat) (i : Value) (wr : World) : Prop :=
  ∃ k : Nat, k + gk = n ∧ i = iv k ∧ (∀ q, q < k → Gv.sameB ps q = false) ∧ Below w.heap.size w wr
def LcIn (ps hs : List ByteArray) (i : Nat) (w1 : World) (n gk : Nat) (v10 v : Value) (wr : World) : Prop :=
  ∃ q : Nat, q + gk = n ∧ v = iv q ∧ v10 = .bool (sameP ps hs i q) ∧ wr = w1
def LocPost (ps : List ByteArray) (w : World) (e : Ending) (w' : World) : Prop := e = .returned (.tuple #[iv (Gv.locate ps).1, errV (Gv.locate ps).2]) ∧ Below w.heap.size w w'
end Go.Proofs.Ytcldioneiededaa
namespace Go.Proofs.Ytcldioneiededaa
open Go.ChangeShapes Go.WideShapes Go.ChangeAt Go.RowKit
set_option linter.unusedVariables false
theorem blk_same {l : List ByteArray} {n : Nat} (h : ∀ s ∈ l, s.size = n) (h16 : n ≤ 16) : blkF l = 0 := by
  cases l with
  | nil => rfl
  | cons a t =>
    rw [blkF_good (s0 := a) rfl (fun j s hs => by rw [h s (List.mem_of_getElem? hs), h a List.mem_cons_self]), if_neg (by rw [h a List.mem_cons_self]; omega)]
namespace Gv
theorem gone2 (m x y k : Nat) : (goneL (marks2 m x y) k).length ≤ 2 := by
  have hnd := gone_nodup (marks2 m x y) k
  have hm : ∀ j ∈ goneL (marks2 m x y) k, j = x ∨ j = y := fun j hj => (marks2_at.1 (gone_mem.1 hj).2).2
  generalize goneL (marks2 m x y) k = g at *
  match g, hnd, hm with
  | [], _, _ => simp
  | [a], _, _ => simp
  | [a, b], _, _ => simp
  | a :: b :: c :: t, hnd, hm =>
    exfalso
    have ha := hm a (by simp)
    have hb := hm b (by simp)
    have hc := hm c (by simp)
    simp at hnd
    omega
theorem have_conv {ps : List ByteArray} {ls : List Bool} {s : ByteArray} : ∀ m, s ∈ have' ps ls m → ∃ q, q < m ∧ lo ls q = false ∧ s = ps.getD q ⟨#[]⟩
  | 0, h => by cases h
  | m + 1, h => by
    unfold have' at h
    by_cases e : lo ls m = true
    · rw [if_pos e] at h
      obtain ⟨q, h1, h2, h3⟩ := have_conv m h
      exact ⟨q, by omega, h2, h3⟩
    · rw [if_neg e] at h
      rcases List.mem_append.1 h with h | h
      · obtain ⟨q, h1, h2, h3⟩ := have_conv m h
        exact ⟨q, by omega, h2, h3⟩
      · exact ⟨m, by omega, by simpa using e, by simpa using h⟩
/-- two lost, whatever stands there -/
theorem torn_heal {n k x y : Nat} {c ps : List ByteArray} (h : Cw n k c) (hk : 1 ≤ k) (hk10 : k ≤ 10) (h16 : n ≤ 16) (hl : ps.length = k + 2) (hp : ∀ i, i < k + 2 → i ≠ x → i ≠ y → ps.getD i ⟨#[]⟩ = c.getD i ⟨#[]⟩) :
    healF ps (marks2 (k + 2) x y) = 0 ∧ Gv.heal ps (marks2 (k + 2) x y) = c := by
  refine ⟨?_, h.heal (by omega) (by omega) hl hp⟩
  have hml : (marks2 (k + 2) x y).length = k + 2 := by unfold marks2; simp
  have hmany : manyB (ps.length : Int) = true := by unfold manyB; rw [hl, dec_t (by omega), dec_t (by omega)]; rfl
  have h1 := have_len ps (marks2 (k + 2) x y) (k + 2)
  have h2 := gone2 (k + 2) x y (k + 2)
  unfold healF
  rw [hmany, if_neg (by decide), if_neg (by rw [hml, hl]; simp), hl, if_neg (by omega)]
  refine blk_same (n := n) (fun s hs => ?_) h16
  obtain ⟨q, hq, h0, rfl⟩ := have_conv _ hs
  have hxy : ¬ (q = x ∨ q = y) := fun h => by rw [marks2_at.2 ⟨by omega, h⟩] at h0; cases h0
  rw [hp q hq (fun e => hxy (.inl e)) (fun e => hxy (.inr e))]
  exact h.sz (by omega) _ (getD_mem (by rw [h.len]; exact hq))
theorem marks_set {n x y : Nat} (hx : x < n) (hy : y < n) : ((List.replicate n false).set x true).set y true = marks2 n x y := by
  apply List.ext_getElem?
  intro i
  unfold marks2
  rw [List.getElem?_set, List.getElem?_set, List.length_set, List.length_replicate, List.getElem?_map]
  by_cases hi : i < n
  · rw [List.getElem?_range hi]
    by_cases e1 : y = i
    · subst e1; rw [if_pos rfl, if_pos hy]; simp
    · rw [if_neg e1]
      have e1' : ¬ i = y := fun h => e1 h.symm
      by_cases e2 : x = i
      · subst e2; rw [if_pos rfl, if_pos hx]; simp
      · have e2' : ¬ i = x := fun h => e2 h.symm
        rw [if_neg e2, List.getElem?_replicate, if_pos hi]; simp [e1', e2']
  · rw [if_neg (by omega), if_neg (by omega), List.getElem?_eq_none (by simp; omega), List.getElem?_eq_none (by simp; omega)]; rfl
theorem torn_two {c : List ByteArray} {x y : Nat} (hx : x < c.length) (hy : y < c.length) (junk now : ByteArray) : ((((c.set x junk).set y junk).set y (c.getD y ⟨#[]⟩)).set x now) = c.set x now := by
  refine list_ext (by simp) (fun i hi => ?_)
  simp only [List.length_set] at hi
  rw [set_getD (by simp; exact hx), set_getD (by simp; exact hy), set_getD (by simp; exact hy), set_getD (by exact hx), set_getD hx]
  by_cases e1 : i = x
  · rw [if_pos e1, if_pos e1]
  · rw [if_neg e1, if_neg e1]
    by_cases e2 : i = y
    · rw [if_pos e2, e2, if_neg (fun h => e1 (e2.trans h))]
    · rw [if_neg e2, if_neg e2, if_neg e1]
theorem locate_set {n k x : Nat} {c : List ByteArray} {now : ByteArray} (h : Cw n k c) (hk : 1 ≤ k) (hk10 : k ≤ 10) (hx : x < k + 2) (hn : now.size = n) : locate (c.set x now) = if now = c.getD x ⟨#[]⟩ then (-1, 0) else ((x : Int), 0) := by
  have hxc : x < c.length := by rw [h.len]; exact hx
  by_cases e : now = c.getD x ⟨#[]⟩
  · rw [if_pos e]
    have he : c.set x now = c := list_ext (by simp) (fun i hi => by
      rw [List.length_set] at hi
      rw [set_getD hxc]
      by_cases e1 : i = x
      · rw [if_pos e1, e1, e]
      · rw [if_neg e1])
    rw [he]; exact locate_clean h
  · rw [if_neg e]
    refine locate_one h (by omega) (by omega) (by rw [List.length_set, h.len]) (fun s hs => ?_) hx (fun j hj hne => by rw [set_getD hxc, if_neg hne]) (by rw [set_getD hxc, if_pos rfl]; exact e)
    rcases List.mem_or_eq_of_mem_set hs with h' | h'
    · exact h.sz (by omega) s h'
    · rw [h']; exact hn
end Gv
end Go.Proofs.Ytcldioneiededaa
