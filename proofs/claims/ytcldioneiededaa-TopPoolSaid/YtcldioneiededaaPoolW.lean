/- The walks of package pool. -/
import Derived.Test.YtcldioneiededaaPoolP
namespace Go.Proofs.Ytcldioneiededaa
open Go.ChangeShapes Go.WideShapes Go.ChangeAt Go.RowKit
set_option linter.unusedVariables false

/-- a pool in memory: block b has its two lists, each in a block of its own; all from block B on -/
structure PoolAt (w : World) (B b gs cs gl cl : Nat) (S L : List Int) : Prop where
  hb : B ≤ b
  hs : B ≤ gs
  hl : B ≤ gl
  bs : b ≠ gs
  bl : b ≠ gl
  sl : gs ≠ gl
  blk : w.heap[b]? = some (.cells #[.slice (some ⟨gs, 0, none⟩) S.length cs, .slice (some ⟨gl, 0, none⟩) L.length cl] 65 (0, 0))
  own1 : w.ownsRow B 3 1 (.slice (some ⟨gs, 0, none⟩) S.length cs) S.length (S.map iv)
  own2 : w.ownsRow B 3 1 (.slice (some ⟨gl, 0, none⟩) L.length cl) L.length (L.map iv)
section
variable {w : World} {B b gs cs gl cl : Nat} {S L : List Int}
theorem PoolAt.c0 (h : PoolAt w B b gs cs gl cl S L) : w.cell? ⟨b, 0, none⟩ = some (.slice (some ⟨gs, 0, none⟩) S.length cs) := by rw [cell_of_row _ _ _ _ _ _ h.blk]; rfl
theorem PoolAt.c1 (h : PoolAt w B b gs cs gl cl S L) : w.cell? ⟨b, 1, none⟩ = some (.slice (some ⟨gl, 0, none⟩) L.length cl) := by rw [cell_of_row _ _ _ _ _ _ h.blk]; rfl
theorem PoolAt.s (h : PoolAt w B b gs cs gl cl S L) {j : Nat} {x : Int} (hx : S[j]? = some x) : w.cell? ⟨gs, j, none⟩ = some (iv x) := by
  have hj := (List.getElem?_eq_some_iff.1 hx).1
  rw [h.own1.cellAt j (by omega), List.getElem?_map, hx]; rfl
theorem PoolAt.l (h : PoolAt w B b gs cs gl cl S L) {j : Nat} {x : Int} (hx : L[j]? = some x) : w.cell? ⟨gl, j, none⟩ = some (iv x) := by
  have hj := (List.getElem?_eq_some_iff.1 hx).1
  rw [h.own2.cellAt j (by omega), List.getElem?_map, hx]; rfl
theorem PoolAt.fs (h : PoolAt w B b gs cs gl cl S L) (j : Nat) : w.frozen? ⟨gs, j, none⟩ = false := h.own1.frozenAt j
theorem PoolAt.fl (h : PoolAt w B b gs cs gl cl S L) (j : Nat) : w.frozen? ⟨gl, j, none⟩ = false := h.own2.frozenAt j
theorem PoolAt.row1 (h : PoolAt w B b gs cs gl cl S L) : Row w (.slice (some ⟨gs, 0, none⟩) S.length cs) (S.map iv) := (row_of_owns h.own1).1
theorem PoolAt.row2 (h : PoolAt w B b gs cs gl cl S L) : Row w (.slice (some ⟨gl, 0, none⟩) L.length cl) (L.map iv) := (row_of_owns h.own2).1
theorem PoolAt.below (h : PoolAt w B b gs cs gl cl S L) {w' : World} (hw : Below w.heap.size w w') : PoolAt w' B b gs cs gl cl S L :=
  { h with blk := by rw [hw.block b (Array.getElem?_eq_some_iff.1 h.blk).1]; exact h.blk, own1 := owns_below h.own1 hw, own2 := owns_below h.own2 hw }
theorem PoolAt.setS (h : PoolAt w B b gs cs gl cl S L) (j : Nat) (x : Int) : PoolAt (w.setCell ⟨gs, j, none⟩ (iv x)) B b gs cs gl cl (S.set j x) L := by
  have h1 := h.own1.stored j (iv x)
  refine ⟨h.hb, h.hs, h.hl, h.bs, h.bl, h.sl, ?_, ?_, h.own2.kept h1.2 (.inr ?_)⟩
  · rw [Below.heap_setCell _ _ _ _ h.bs, List.length_set]; exact h.blk
  · rw [List.length_set, List.map_set]; exact h1.1
  · intro e; simp only [Value.ownBlock, Option.some.injEq] at e; exact h.sl e.symm
theorem PoolAt.setL (h : PoolAt w B b gs cs gl cl S L) (j : Nat) (x : Int) : PoolAt (w.setCell ⟨gl, j, none⟩ (iv x)) B b gs cs gl cl S (L.set j x) := by
  have h1 := h.own2.stored j (iv x)
  refine ⟨h.hb, h.hs, h.hl, h.bs, h.bl, h.sl, ?_, h.own1.kept h1.2 (.inr ?_), ?_⟩
  · rw [Below.heap_setCell _ _ _ _ h.bl, List.length_set]; exact h.blk
  · intro e; simp only [Value.ownBlock, Option.some.injEq] at e; exact h.sl e
  · rw [List.length_set, List.map_set]; exact h1.1
end

theorem ready_no1 {w : World} {B b gs cs gl cl : Nat} {S L : List Int} (h : PoolAt w B b gs cs gl cl S L) (hS : S.length ≤ 100) (d st : Int) (is : Bool) (hd : d < 0 ∨ 0 ≤ d ∧ (S.length : Int) ≤ d) :
    Calls Try.prog 31 #[.pointer (some ⟨b, 0, none⟩), iv d, iv st, .bool is] w fun e w' => e = .returned (ev 1) ∧ w = w' := by
  have c0 := h.c0
  clear h
  rcases hd with hd | ⟨hd, hd'⟩
  all_goals
    go_enter Try.func31, Try.ntmps31
    go_wp2
    go_ret
    exact ⟨rfl, rfl⟩
theorem ready_in {w : World} {B b gs cs gl cl : Nat} {S L : List Int} (h : PoolAt w B b gs cs gl cl S L) (hS : S.length ≤ 100) (j : Nat) (x st : Int) (is r : Bool) (hx : S[j]? = some x) (hr : ((x == st) != is) = r) :
    Calls Try.prog 31 #[.pointer (some ⟨b, 0, none⟩), iv j, iv st, .bool is] w fun e w' => e = .returned (if r then ev 6 else .nilIface) ∧ w = w' := by
  have c0 := h.c0
  have cs := h.s hx
  have hj := (List.getElem?_eq_some_iff.1 hx).1
  have hr2 : (!(x == st) == is) = r := by rw [← hr]; cases (x == st) <;> cases is <;> rfl
  clear h hx
  cases r
  all_goals
    go_enter Try.func31, Try.ntmps31
    go_wp2
    go_ret
    exact ⟨rfl, rfl⟩

theorem fail_no1 {w : World} {B b gs cs gl cl : Nat} {S L : List Int} (h : PoolAt w B b gs cs gl cl S L) (hS : S.length ≤ 100) (d : Int) (hd : d < 0 ∨ 0 ≤ d ∧ (S.length : Int) ≤ d) :
    Calls Try.prog 11 #[.pointer (some ⟨b, 0, none⟩), iv d] w fun e w' => e = .returned (.tuple #[iv 0, ev 1]) ∧ w = w' := by
  have H := Lib.hid h
  clear h
  go_enter Try.func11, Try.ntmps11
  go_wp2_with fail
  refine (ready_no1 H.out hS d 2 false hd).mono ?_
  rintro e w' ⟨rfl, rfl⟩
  go_wp2
  go_ret2
  exact ⟨rfl, rfl⟩
theorem fail_no2 {w : World} {B b gs cs gl cl : Nat} {S L : List Int} (h : PoolAt w B b gs cs gl cl S L) (hS : S.length ≤ 100) (j : Nat) (hx : S[j]? = some 2) :
    Calls Try.prog 11 #[.pointer (some ⟨b, 0, none⟩), iv j] w fun e w' => e = .returned (.tuple #[iv 0, ev 6]) ∧ w = w' := by
  have H := Lib.hid h
  have Hx := Lib.hid hx
  clear h hx
  go_enter Try.func11, Try.ntmps11
  go_wp2_with fail
  refine (ready_in H.out hS j 2 2 false true Hx.out rfl).mono ?_
  rintro e w' ⟨rfl, rfl⟩
  go_wp2
  go_ret2
  exact ⟨rfl, rfl⟩

def FailPost (B b gs cs gl cl : Nat) (S L : List Int) (j : Nat) (w : World) (e : Ending) (w' : World) : Prop :=
  e = .returned (.tuple #[iv (Pool.fail S L j).2.2, .nilIface]) ∧ PoolAt w' B b gs cs gl cl (Pool.fail S L j).1 (Pool.fail S L j).2.1 ∧ Below B w w' ∧ w.heap.size = w'.heap.size ∧ Kept (fun k => k = gs ∨ k = gl) w w'
theorem fail_a {S L : List Int} {j : Nat} (h : idx L j < 0) : Pool.fail S L j = (S.set j 2, L, -1) := by
  unfold Pool.fail; simp only [h, if_true]
theorem fail_b {S L : List Int} {j : Nat} (h : ¬ idx L j < 0) (h' : idx (S.set j 2) 1 < 0) : Pool.fail S L j = (S.set j 2, L.set (idx L j).toNat (idx (S.set j 2) 1), idx (S.set j 2) 1) := by
  unfold Pool.fail; simp only [h, h', if_true, if_false]
theorem fail_c {S L : List Int} {j : Nat} (h : ¬ idx L j < 0) (h' : ¬ idx (S.set j 2) 1 < 0) : Pool.fail S L j = ((S.set j 2).set (idx (S.set j 2) 1).toNat 3, L.set (idx L j).toNat (idx (S.set j 2) 1), idx (S.set j 2) 1) := by
  unfold Pool.fail; simp only [h, h', if_false]
set_option maxRecDepth 100000 in
set_option maxHeartbeats 1000000 in
theorem fail_yes {w : World} {B b gs cs gl cl : Nat} {S L : List Int} (h : PoolAt w B b gs cs gl cl S L) (hS : S.length ≤ 100) (hL : L.length ≤ 100) (j : Nat) (x : Int) (hx : S[j]? = some x) (hx2 : x ≠ 2) :
    Calls Try.prog 11 #[.pointer (some ⟨b, 0, none⟩), iv j] w (FailPost B b gs cs gl cl S L j w) := by
  have H := Lib.hid h
  have Hx := Lib.hid hx
  have hj := (List.getElem?_eq_some_iff.1 hx).1
  have c0 := h.c0
  have c1 := h.c1
  have cj := h.s hx
  have fs := h.fs
  have fl := h.fl
  have n1 := h.bs
  have n2 := h.bl
  have n3 := h.sl
  have H1 := Lib.hid (h.setS j 2)
  have hr : ((x == 2) != false) = false := by rw [beq_f hx2]; rfl
  have fa := Lib.hid (fun q => fail_a (S := S) (L := L) (j := j) q)
  clear h hx hx2
  go_enter Try.func11, Try.ntmps11
  go_wp2_with fail
  refine (ready_in H.out hS j x 2 false false Hx.out hr).mono ?_
  rintro e w' ⟨rfl, rfl⟩
  go_wp2_with fail
  refine (index_any L j _ _ H1.out.row2).mono ?_
  rintro e w' ⟨rfl, rfl⟩
  have hb1 := idx_bd L j
  by_cases q1 : idx L j < 0
  · go_wp2_with fail
    go_ret2
    rw [FailPost, fa.out q1]
    exact ⟨rfl, H1.out, (Below.refl _ _).setCell H.out.hs _, by simp [World.setCell], ((Kept.refl (fun k => k = gs ∨ k = gl) w).setP (.inl rfl) _ _)⟩
  · have fb := Lib.hid (fun q => fail_b (S := S) (L := L) (j := j) q1 q)
    have fc := Lib.hid (fun q => fail_c (S := S) (L := L) (j := j) q1 q)
    have hb2 := idx_bd (S.set j 2) 1
    rw [List.length_set] at hb2
    have hr1 := H1.out.row1
    rw [List.length_set] at hr1
    have Hr1 := Lib.hid hr1
    clear hr1
    go_wp2_with fail
    refine (index_any (S.set j 2) 1 _ _ Hr1.out).mono ?_
    rintro e w' ⟨rfl, rfl⟩
    obtain ⟨s, hs⟩ : ∃ s : Nat, idx L j = s := ⟨(idx L j).toNat, by omega⟩
    have hs2 : s < L.length := by omega
    rw [hs]
    have HS := Lib.hid hs
    clear hs q1 hb1
    have n4 : gl ≠ gs := fun e => n3 e.symm
    obtain ⟨z, cz⟩ : ∃ z, w.cell? ⟨gl, s, none⟩ = some (iv z) := ⟨L[s], H.out.l (List.getElem?_eq_getElem hs2)⟩
    by_cases q2 : idx (S.set j 2) 1 < 0
    · go_wp2_with fail
      go_ret2
      rw [FailPost, fb.out q2, HS.out]
      exact ⟨rfl, H1.out.setL _ _, ((Below.refl _ _).setCell H.out.hs _).setCell H.out.hl _, by simp [World.setCell], (((Kept.refl (fun k => k = gs ∨ k = gl) w).setP (.inl rfl) _ _).setP (.inr rfl) _ _)⟩
    · obtain ⟨p, hp⟩ : ∃ p : Nat, idx (S.set j 2) 1 = p := ⟨(idx (S.set j 2) 1).toNat, by omega⟩
      have hp2 : p < S.length := by omega
      rw [hp]
      have HP := Lib.hid hp
      have Q2 := Lib.hid q2
      clear hp q2 hb2
      have H2 := Lib.hid (H1.out.setL s p)
      have cp : ∃ y, (w.setCell ⟨gs, j, none⟩ (iv 2)).cell? ⟨gs, p, none⟩ = some (iv y) := by
        obtain ⟨y, hy⟩ : ∃ y, (S.set j 2)[p]? = some y := ⟨(S.set j 2)[p]'(by rw [List.length_set]; exact hp2), List.getElem?_eq_getElem _⟩
        exact ⟨y, H1.out.s hy⟩
      obtain ⟨y, cp⟩ := cp
      go_wp2_with fail
      go_ret2
      rw [FailPost, fc.out Q2.out, HS.out, HP.out]
      exact ⟨rfl, H2.out.setS _ _, (((Below.refl _ _).setCell H.out.hs _).setCell H.out.hl _).setCell H.out.hs _, by simp [World.setCell], ((((Kept.refl (fun k => k = gs ∨ k = gl) w).setP (.inl rfl) _ _).setP (.inr rfl) _ _).setP (.inl rfl) _ _)⟩
end Go.Proofs.Ytcldioneiededaa
