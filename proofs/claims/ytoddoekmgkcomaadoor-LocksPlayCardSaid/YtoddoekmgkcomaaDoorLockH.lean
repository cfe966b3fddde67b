/- The walks of locks.New, Held, Waits; what a law needs of a method. -/
import Derived.Test.YtoddoekmgkcomaaDoorLockF
namespace Go.Proofs.YtoddoekmgkcomaaDoor
open Go.ChangeShapes Go.WideShapes Go.ChangeAt Go.RowKit
set_option linter.unusedVariables false
theorem lockNew_any (w : World) : Calls Tryd.prog 18 #[] w fun e w' => e = .returned (.pointer (some ⟨w.heap.size, 0, none⟩)) ∧ LkAt 106 w' w.heap.size w.heap.size (.slice none 0 0) (.slice none 0 0) ([], []) ∧ Below w.heap.size w w' := by
  go_enter Tryd.func18, Tryd.ntmps18
  go_wp2
  go_ret
  exact ⟨rfl, ⟨Nat.le_refl _, heap_alloc_new _ _, World.ownsRow_nil _ _ _ _, World.ownsRow_nil _ _ _ _, (fun e => by cases e), (fun e => by cases e), (fun g e => by cases e)⟩, (Below.refl _ _).alloc (Nat.le_refl _) _⟩
theorem lockHeld_any {w : World} {B b : Nat} {vh vw : Value} {s : Lk.St} (h : LkAt 106 w B b vh vw s) (hm : s.1.length + s.2.length ≤ 30) :
    Calls Tryd.prog 25 #[.pointer (some ⟨b, 0, none⟩)] w (CloneLPost s.1 w) := by
  have H := Lib.hid h
  have c0 := h.c0
  have hs : s.1.length ≤ 1000 := by omega
  clear h
  go_enter Tryd.func25, Tryd.ntmps25
  go_wp2_with fail
  refine (cloneL_any s.1 hs B vh _ H.out.own1).mono ?_
  rintro e w' ⟨v, rfl, hown, hb⟩
  have Ho := Lib.hid hown
  have Hb := Lib.hid hb
  clear hown hb
  go_wp2_with fail
  go_ret
  exact ⟨v, rfl, Ho.out, Hb.out⟩
theorem lockWaits_any {w : World} {B b : Nat} {vh vw : Value} {s : Lk.St} (h : LkAt 106 w B b vh vw s) (hm : s.1.length + s.2.length ≤ 30) :
    Calls Tryd.prog 26 #[.pointer (some ⟨b, 0, none⟩)] w (CloneLPost s.2 w) := by
  have H := Lib.hid h
  have c1 := h.c1
  have hs : s.2.length ≤ 1000 := by omega
  clear h
  go_enter Tryd.func26, Tryd.ntmps26
  go_wp2_with fail
  refine (cloneL_any s.2 hs B vw _ H.out.own2).mono ?_
  rintro e w' ⟨v, rfl, hown, hb⟩
  have Ho := Lib.hid hown
  have Hb := Lib.hid hb
  clear hown hb
  go_wp2_with fail
  go_ret
  exact ⟨v, rfl, Ho.out, Hb.out⟩
/-- a step turns nothing below the object's base -/
theorem LkStep.base {T : TypeId} {w w' : World} {B b : Nat} {vh vw : Value} {s s' : Lk.St} (h : LkAt T w B b vh vw s) (hs : LkStep T w B b vh vw s' w') : Below B w w' := by
  obtain ⟨vh', vw', _, hw⟩ := hs
  have := h.hb
  have := h.lt
  exact hw.toBelow (by omega) (fun k hk => (h.low hk).1)
/-- an object whatever its lists are -/
def LkObj (T : TypeId) (w : World) (B b : Nat) (s : Lk.St) : Prop := ∃ vh vw, LkAt T w B b vh vw s
theorem LkObj.below {T : TypeId} {w w' : World} {B b : Nat} {s : Lk.St} (h : LkObj T w B b s) (hb : Below w.heap.size w w') : LkObj T w' B b s := by
  obtain ⟨vh, vw, h⟩ := h; exact ⟨vh, vw, h.below hb⟩
theorem LkObj.lt {T : TypeId} {w : World} {B b : Nat} {s : Lk.St} (h : LkObj T w B b s) : b < w.heap.size := by
  obtain ⟨vh, vw, h⟩ := h; exact h.lt
/-- Ask, at what comes of it -/
theorem ask_is {w : World} {B b : Nat} {s s' : Lk.St} (h : LkObj 106 w B b s) (hm : s.1.length + s.2.length ≤ 30) (l : Lk.L) (z : Bool) (n : Int) (hr : Lk.ask s l = ((z, n), s')) :
    Calls Tryd.prog 23 #[.pointer (some ⟨b, 0, none⟩), lv l] w fun e w' => e = .returned (.tuple #[.bool z, errV n]) ∧ LkObj 106 w' B b s' ∧ Below B w w' := by
  obtain ⟨vh, vw, h⟩ := h
  refine (ask_any h hm l).mono ?_
  intro e w' ⟨he, hs⟩
  rw [hr] at he hs
  refine ⟨he, ?_, LkStep.base h hs⟩
  obtain ⟨vh', vw', h', _⟩ := hs
  exact ⟨vh', vw', h'⟩
theorem ask_ok {w : World} {B b : Nat} {s s' : Lk.St} (h : LkObj 106 w B b s) (hm : s.1.length + s.2.length ≤ 30) (l : Lk.L) (z : Bool) (hr : Lk.ask s l = ((z, 0), s')) :
    Calls Tryd.prog 23 #[.pointer (some ⟨b, 0, none⟩), lv l] w fun e w' => e = .returned (.tuple #[.bool z, .nilIface]) ∧ LkObj 106 w' B b s' ∧ Below B w w' := ask_is h hm l z 0 hr
def FreeIs (B b : Nat) (out : List Int) (n : Int) (s' : Lk.St) (w : World) (e : Ending) (w' : World) : Prop :=
  ∃ v, e = .returned (.tuple #[v, errV n]) ∧ w'.ownsRow w.heap.size 3 1 v out.length (out.map iv) ∧ LkObj 106 w' B b s' ∧ Below B w w'
theorem free_is {w : World} {B b : Nat} {s s' : Lk.St} (h : LkObj 106 w B b s) (hm : s.1.length + s.2.length ≤ 30) (who : Int) (out : List Int) (n : Int) (hr : Lk.freeL s who = ((out, n), s')) :
    Calls Tryd.prog 20 #[.pointer (some ⟨b, 0, none⟩), iv who] w (FreeIs B b out n s' w) := by
  obtain ⟨vh, vw, h⟩ := h
  refine (freeL_any h hm who).mono ?_
  intro e w' ⟨v, he, ho, hs, _⟩
  rw [hr] at he ho hs
  refine ⟨v, he, ho, ?_, LkStep.base h hs⟩
  obtain ⟨vh', vw', h', _⟩ := hs
  exact ⟨vh', vw', h'⟩
end Go.Proofs.YtoddoekmgkcomaaDoor
