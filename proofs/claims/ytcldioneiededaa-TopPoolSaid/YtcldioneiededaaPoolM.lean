/- The walks of pool.Fresh, Fill, Slots, States. -/
import Derived.Test.YtcldioneiededaaPoolN
namespace Go.Proofs.Ytcldioneiededaa
open Go.ChangeShapes Go.WideShapes Go.ChangeAt Go.RowKit
set_option linter.unusedVariables false

theorem fill_no1 {w : World} {B b gs cs gl cl : Nat} {S L : List Int} (h : PoolAt w B b gs cs gl cl S L) (hS : S.length ≤ 100) (d : Int) (hd : d < 0 ∨ 0 ≤ d ∧ (S.length : Int) ≤ d) :
    Calls Try.prog 15 #[.pointer (some ⟨b, 0, none⟩), iv d] w fun e w' => e = .returned (ev 1) ∧ w = w' := by
  have H := Lib.hid h
  clear h
  go_enter Try.func15, Try.ntmps15
  go_wp2_with fail
  refine (ready_no1 H.out hS d 3 true hd).mono ?_
  rintro e w' ⟨rfl, rfl⟩
  go_wp2
  go_ret
  exact ⟨rfl, rfl⟩
theorem fill_no2 {w : World} {B b gs cs gl cl : Nat} {S L : List Int} (h : PoolAt w B b gs cs gl cl S L) (hS : S.length ≤ 100) (j : Nat) (x : Int) (hx : S[j]? = some x) (h3 : x ≠ 3) :
    Calls Try.prog 15 #[.pointer (some ⟨b, 0, none⟩), iv j] w fun e w' => e = .returned (ev 6) ∧ w = w' := by
  have H := Lib.hid h
  have Hx := Lib.hid hx
  have H3 := Lib.hid h3
  clear h hx h3
  go_enter Try.func15, Try.ntmps15
  go_wp2_with fail
  refine (ready_in H.out hS j x 3 true true Hx.out (by rw [beq_f H3.out]; rfl)).mono ?_
  rintro e w' ⟨rfl, rfl⟩
  go_wp2
  go_ret
  exact ⟨rfl, rfl⟩
theorem fill_yes {w : World} {B b gs cs gl cl : Nat} {S L : List Int} (h : PoolAt w B b gs cs gl cl S L) (hS : S.length ≤ 100) (j : Nat) (hx : S[j]? = some 3) :
    Calls Try.prog 15 #[.pointer (some ⟨b, 0, none⟩), iv j] w fun e w' => e = .returned .nilIface ∧ PoolAt w' B b gs cs gl cl (Pool.fill S j) L ∧ Below B w w' ∧ w.heap.size = w'.heap.size ∧ Kept (fun k => k = gs ∨ k = gl) w w' := by
  have H := Lib.hid h
  have Hx := Lib.hid hx
  have hj := (List.getElem?_eq_some_iff.1 hx).1
  have c0 := h.c0
  have cj := h.s hx
  have fs := h.fs
  clear h hx
  go_enter Try.func15, Try.ntmps15
  go_wp2_with fail
  refine (ready_in H.out hS j 3 3 true false Hx.out rfl).mono ?_
  rintro e w' ⟨rfl, rfl⟩
  go_wp2
  go_ret
  exact ⟨rfl, H.out.setS j 0, (Below.refl _ _).setCell H.out.hs _, by simp [World.setCell], ((Kept.refl (fun k => k = gs ∨ k = gl) w).setP (.inl rfl) _ _)⟩

theorem ints_one (xs : List Int) : ∀ u ∈ xs.map iv, u.oneCell' = true := by
  intro u hu; obtain ⟨x, _, rfl⟩ := List.mem_map.1 hu; rfl
def ListPost (xs : List Int) (w : World) (e : Ending) (w' : World) : Prop :=
  ∃ v, e = .returned v ∧ w'.ownsRow w.heap.size 3 1 v xs.length (xs.map iv) ∧ Below w.heap.size w w'
theorem slots_any {w : World} {B b gs cs gl cl : Nat} {S L : List Int} (h : PoolAt w B b gs cs gl cl S L) (hL : L.length ≤ 100) :
    Calls Try.prog 10 #[.pointer (some ⟨b, 0, none⟩)] w (ListPost L w) := by
  have c1 := h.c1
  have H := Lib.hid h
  clear h
  go_enter Try.func10, Try.ntmps10
  go_wp2_with fail
  refine (clone_any (L.map iv) (ints_one _) (by rw [List.length_map]; omega) _ _ H.out.row2).mono ?_
  rintro e w1 ⟨v, rfl, hown, hb⟩
  rw [List.length_map] at hown
  have Hown := Lib.hid hown
  clear hown
  go_wp2_with fail
  go_ret
  exact ⟨v, rfl, Hown.out, hb⟩
end Go.Proofs.Ytcldioneiededaa
