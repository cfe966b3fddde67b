/- The walks of pool.Fresh, Fill, Slots, States. -/
import Derived.Test.YtloaekdijpcmiaaDoorPoolN
namespace Go.Proofs.YtloaekdijpcmiaaDoor
open Go.ChangeShapes Go.WideShapes Go.ChangeAt Go.RowKit
set_option linter.unusedVariables false

theorem fill_no1 {w : World} {B b gs cs gl cl : Nat} {S L : List Int} (h : PoolAt w B b gs cs gl cl S L) (hS : S.length ≤ 100) (d : Int) (hd : d < 0 ∨ 0 ≤ d ∧ (S.length : Int) ≤ d) :
    Calls Tryd.prog 29 #[.pointer (some ⟨b, 0, none⟩), iv d] w fun e w' => e = .returned (ev 1) ∧ w = w' := by
  have H := Lib.hid h
  clear h
  go_enter Tryd.func29, Tryd.ntmps29
  go_wp2_with fail
  refine (ready_no1 H.out hS d 3 true hd).mono ?_
  rintro e w' ⟨rfl, rfl⟩
  go_wp2
  go_ret
  exact ⟨rfl, rfl⟩
theorem fill_no2 {w : World} {B b gs cs gl cl : Nat} {S L : List Int} (h : PoolAt w B b gs cs gl cl S L) (hS : S.length ≤ 100) (j : Nat) (x : Int) (hx : S[j]? = some x) (h3 : x ≠ 3) :
    Calls Tryd.prog 29 #[.pointer (some ⟨b, 0, none⟩), iv j] w fun e w' => e = .returned (ev 6) ∧ w = w' := by
  have H := Lib.hid h
  have Hx := Lib.hid hx
  have H3 := Lib.hid h3
  clear h hx h3
  go_enter Tryd.func29, Tryd.ntmps29
  go_wp2_with fail
  refine (ready_in H.out hS j x 3 true true Hx.out (by rw [beq_f H3.out]; rfl)).mono ?_
  rintro e w' ⟨rfl, rfl⟩
  go_wp2
  go_ret
  exact ⟨rfl, rfl⟩
theorem fill_yes {w : World} {B b gs cs gl cl : Nat} {S L : List Int} (h : PoolAt w B b gs cs gl cl S L) (hS : S.length ≤ 100) (j : Nat) (hx : S[j]? = some 3) :
    Calls Tryd.prog 29 #[.pointer (some ⟨b, 0, none⟩), iv j] w fun e w' => e = .returned .nilIface ∧ PoolAt w' B b gs cs gl cl (Pool.fill S j) L ∧ Below B w w' ∧ w.heap.size = w'.heap.size ∧ Kept (fun k => k = gs ∨ k = gl) w w' := by
  have H := Lib.hid h
  have Hx := Lib.hid hx
  have hj := (List.getElem?_eq_some_iff.1 hx).1
  have c0 := h.c0
  have cj := h.s hx
  have fs := h.fs
  clear h hx
  go_enter Tryd.func29, Tryd.ntmps29
  go_wp2_with fail
  refine (ready_in H.out hS j 3 3 true false Hx.out rfl).mono ?_
  rintro e w' ⟨rfl, rfl⟩
  go_wp2
  go_ret
  exact ⟨rfl, H.out.setS j 0, (Below.refl _ _).setCell H.out.hs _, by simp [World.setCell], ((Kept.refl (fun k => k = gs ∨ k = gl) w).setP (.inl rfl) _ _)⟩

theorem fresh_no1 {w : World} {B b gs cs gl cl : Nat} {S L : List Int} (h : PoolAt w B b gs cs gl cl S L) (hS : S.length ≤ 100) (d : Int) (hd : d < 0 ∨ 0 ≤ d ∧ (S.length : Int) ≤ d) :
    Calls Tryd.prog 30 #[.pointer (some ⟨b, 0, none⟩), iv d] w fun e w' => e = .returned (.tuple #[iv 0, ev 1]) ∧ w = w' := by
  have H := Lib.hid h
  clear h
  go_enter Tryd.func30, Tryd.ntmps30
  go_wp2_with fail
  refine (ready_no1 H.out hS d 2 true hd).mono ?_
  rintro e w' ⟨rfl, rfl⟩
  go_wp2
  go_ret2
  exact ⟨rfl, rfl⟩
theorem fresh_no2 {w : World} {B b gs cs gl cl : Nat} {S L : List Int} (h : PoolAt w B b gs cs gl cl S L) (hS : S.length ≤ 100) (j : Nat) (x : Int) (hx : S[j]? = some x) (h3 : x ≠ 2) :
    Calls Tryd.prog 30 #[.pointer (some ⟨b, 0, none⟩), iv j] w fun e w' => e = .returned (.tuple #[iv 0, ev 6]) ∧ w = w' := by
  have H := Lib.hid h
  have Hx := Lib.hid hx
  have H3 := Lib.hid h3
  clear h hx h3
  go_enter Tryd.func30, Tryd.ntmps30
  go_wp2_with fail
  refine (ready_in H.out hS j x 2 true true Hx.out (by rw [beq_f H3.out]; rfl)).mono ?_
  rintro e w' ⟨rfl, rfl⟩
  go_wp2
  go_ret2
  exact ⟨rfl, rfl⟩

def FreshPost (B b gs cs gl cl : Nat) (S L : List Int) (j : Nat) (w : World) (e : Ending) (w' : World) : Prop :=
  e = .returned (.tuple #[iv (Pool.fresh S L j).2.2, .nilIface]) ∧ PoolAt w' B b gs cs gl cl (Pool.fresh S L j).1 (Pool.fresh S L j).2.1 ∧ Below B w w' ∧ w.heap.size = w'.heap.size ∧ Kept (fun k => k = gs ∨ k = gl) w w'
theorem fresh_a {S L : List Int} {j : Nat} (h : idx L (-1) < 0) : Pool.fresh S L j = (S.set j 1, L, idx L (-1)) := by
  unfold Pool.fresh; simp only [h, if_true]
theorem fresh_b {S L : List Int} {j : Nat} (h : ¬ idx L (-1) < 0) : Pool.fresh S L j = ((S.set j 1).set j 3, L.set (idx L (-1)).toNat j, idx L (-1)) := by
  unfold Pool.fresh; simp only [h, if_false]
set_option maxRecDepth 100000 in
set_option maxHeartbeats 1000000 in
theorem fresh_yes {w : World} {B b gs cs gl cl : Nat} {S L : List Int} (h : PoolAt w B b gs cs gl cl S L) (hS : S.length ≤ 100) (hL : L.length ≤ 100) (j : Nat) (hx : S[j]? = some 2) :
    Calls Tryd.prog 30 #[.pointer (some ⟨b, 0, none⟩), iv j] w (FreshPost B b gs cs gl cl S L j w) := by
  have H := Lib.hid h
  have Hx := Lib.hid hx
  have hj := (List.getElem?_eq_some_iff.1 hx).1
  have c0 := h.c0
  have c1 := h.c1
  have cj := h.s hx
  have fs := h.fs
  have fl := h.fl
  have n1 := h.bs
  have n2 := h.bl
  have n3 := h.sl
  have H1 := Lib.hid (h.setS j 1)
  have fa := Lib.hid (fun q => fresh_a (S := S) (L := L) (j := j) q)
  clear h hx
  go_enter Tryd.func30, Tryd.ntmps30
  go_wp2_with fail
  refine (ready_in H.out hS j 2 2 true false Hx.out rfl).mono ?_
  rintro e w' ⟨rfl, rfl⟩
  go_wp2_with fail
  refine (index_any L (-1) _ _ H1.out.row2).mono ?_
  rintro e w' ⟨rfl, rfl⟩
  have hb1 := idx_bd L (-1)
  by_cases q1 : idx L (-1) < 0
  · go_wp2_with fail
    go_ret2
    rw [FreshPost, fa.out q1]
    exact ⟨rfl, H1.out, (Below.refl _ _).setCell H.out.hs _, by simp [World.setCell], ((Kept.refl (fun k => k = gs ∨ k = gl) w).setP (.inl rfl) _ _)⟩
  · obtain ⟨s, hs⟩ : ∃ s : Nat, idx L (-1) = s := ⟨(idx L (-1)).toNat, by omega⟩
    have hs2 : s < L.length := by omega
    have FB := Lib.hid (fresh_b (S := S) (L := L) (j := j) q1)
    rw [hs]
    have HS := Lib.hid hs
    clear hs q1 hb1
    have n4 : gl ≠ gs := fun e => n3 e.symm
    obtain ⟨z, cz⟩ : ∃ z, w.cell? ⟨gl, s, none⟩ = some (iv z) := ⟨L[s], H.out.l (List.getElem?_eq_getElem hs2)⟩
    have H2 := Lib.hid (H1.out.setS j 3)
    go_wp2_with fail
    go_ret2
    rw [FreshPost, FB.out, HS.out]
    exact ⟨rfl, H2.out.setL _ _, (((Below.refl _ _).setCell H.out.hs _).setCell H.out.hs _).setCell H.out.hl _, by simp [World.setCell], ((((Kept.refl (fun k => k = gs ∨ k = gl) w).setP (.inl rfl) _ _).setP (.inl rfl) _ _).setP (.inr rfl) _ _)⟩

theorem ints_one (xs : List Int) : ∀ u ∈ xs.map iv, u.oneCell' = true := by
  intro u hu; obtain ⟨x, _, rfl⟩ := List.mem_map.1 hu; rfl
def ListPost (xs : List Int) (w : World) (e : Ending) (w' : World) : Prop :=
  ∃ v, e = .returned v ∧ w'.ownsRow w.heap.size 3 1 v xs.length (xs.map iv) ∧ Below w.heap.size w w'
theorem slots_any {w : World} {B b gs cs gl cl : Nat} {S L : List Int} (h : PoolAt w B b gs cs gl cl S L) (hL : L.length ≤ 100) :
    Calls Tryd.prog 32 #[.pointer (some ⟨b, 0, none⟩)] w (ListPost L w) := by
  have c1 := h.c1
  have H := Lib.hid h
  clear h
  go_enter Tryd.func32, Tryd.ntmps32
  go_wp2_with fail
  refine (clone_any (L.map iv) (ints_one _) (by rw [List.length_map]; omega) _ _ H.out.row2).mono ?_
  rintro e w1 ⟨v, rfl, hown, hb⟩
  rw [List.length_map] at hown
  have Hown := Lib.hid hown
  clear hown
  go_wp2_with fail
  go_ret
  exact ⟨v, rfl, Hown.out, hb⟩
theorem states_any {w : World} {B b gs cs gl cl : Nat} {S L : List Int} (h : PoolAt w B b gs cs gl cl S L) (hS : S.length ≤ 100) :
    Calls Tryd.prog 31 #[.pointer (some ⟨b, 0, none⟩)] w (ListPost S w) := by
  have c0 := h.c0
  have H := Lib.hid h
  clear h
  go_enter Tryd.func31, Tryd.ntmps31
  go_wp2_with fail
  refine (clone_any (S.map iv) (ints_one _) (by rw [List.length_map]; omega) _ _ H.out.row1).mono ?_
  rintro e w1 ⟨v, rfl, hown, hb⟩
  rw [List.length_map] at hown
  have Hown := Lib.hid hown
  clear hown
  go_wp2_with fail
  go_ret
  exact ⟨v, rfl, Hown.out, hb⟩
end Go.Proofs.YtloaekdijpcmiaaDoor
