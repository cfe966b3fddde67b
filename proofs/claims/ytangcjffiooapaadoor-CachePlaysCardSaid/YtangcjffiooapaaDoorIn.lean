/- The walk of the reference's In: is a number in a list? -/
import Derived.Test.YtangcjffiooapaaDoorBase
namespace Go.Proofs.YtangcjffiooapaaDoor
open Go.ChangeShapes Go.WideShapes Go.ChangeAt Go.RowKit
set_option linter.unusedVariables false
def InRel (xs : List Int) (x : Int) (i : Value) : Prop := ∃ k : Nat, k ≤ xs.length ∧ i = iv k ∧ ∀ m, m < k → xs[m]? ≠ some x
theorem in_of {xs : List Int} {x : Int} {k : Nat} (hx : xs[k]? = some x) : xs.contains x = true := List.contains_iff_mem.2 (List.mem_of_getElem? hx)
theorem in_not {xs : List Int} {x : Int} (hno : ∀ m, m < xs.length → xs[m]? ≠ some x) : xs.contains x = false := by
  rw [← Bool.not_eq_true, List.contains_iff_mem]
  intro h
  obtain ⟨i, hi, e⟩ := List.getElem_of_mem h
  exact hno i hi (by rw [List.getElem?_eq_getElem hi, e])
set_option maxRecDepth 100000 in
theorem in_any (xs : List Int) (x : Int) (v : Value) (w : World) (hv : Row w v (xs.map iv)) :
    Calls Tryd.prog 55 #[v, iv x] w fun e w' => e = .returned (.bool (xs.contains x)) ∧ w = w' := by
  obtain ⟨p, cap, rfl, hlen, hcap, hcells⟩ := hv.shape
  clear hv
  rw [List.length_map] at *
  unfold maxLen at hcap
  have hN : xs.length ≤ 9223372036854775807 := by omega
  have hno := fun h => in_not (xs := xs) (x := x) h
  have hat := fun k (h : xs[k]? = some x) => in_of h
  obtain ⟨r, hr⟩ : ∃ r, r = xs.contains x := ⟨_, rfl⟩
  rw [← hr]
  have Hrr := Lib.hid hr
  clear hr
  generalize hn : xs.length = n at *
  have Hn := Lib.hid hn
  have Hcells := Lib.hid hcells
  have Hno := Lib.hid hno
  have Hat := Lib.hid hat
  clear hn hcells hno hat hcap
  go_enter Tryd.func55, Tryd.ntmps55
  go_wp2_with fail
  go_loop [5] (fun i => InRel xs x i) (fun i => n - (intOf i).toNat)
  case atStart => exact ⟨0, by omega, rfl, fun m hm => by omega⟩
  case round =>
    obtain ⟨k, hk, rfl, hm⟩ := hrel
    rw [Hn.out] at hk
    have Hm := Lib.hid hm
    clear hm
    by_cases hlt : k < n
    · obtain ⟨g, off, rfl, hc⟩ := Hcells.out (by omega)
      have hc' := hc k hlt
      obtain ⟨y, hy⟩ : ∃ y, xs[k]? = some y := ⟨xs[k]'(by rw [Hn.out]; exact hlt), List.getElem?_eq_getElem _⟩
      rw [List.getElem?_map, hy] at hc'
      have hc2 : w.cell? ⟨g, off + k, none⟩ = some (iv y) := hc'
      have Hy := Lib.hid hy
      clear hc hc' hy
      by_cases he : y = x
      · have ht : (y == x) = true := beq_t he
        have Hr := Lib.hid (Hat.out k (by rw [Hy.out, he]))
        clear he
        go_wp2_with fail
        go_ret
        exact ⟨by rw [Hrr.out, Hr.out]; rfl, rfl⟩
      · have ht : (y == x) = false := beq_f he
        have He := Lib.hid he
        clear he
        go_wp2_with fail
        go_round
        case rel =>
          refine ⟨k + 1, by rw [Hn.out]; omega, by go_num, fun m hm' => ?_⟩
          by_cases e : m = k
          · subst e; rw [Hy.out]; intro h; exact He.out (Option.some.inj h)
          · exact Hm.out m (by omega)
        case measure => simp [intOf]; omega
    · obtain rfl : k = n := by omega
      have Hr := Lib.hid (Hno.out Hm.out)
      clear hlt hk
      go_wp2_with fail
      go_ret
      exact ⟨by rw [Hrr.out, Hr.out]; rfl, rfl⟩
end Go.Proofs.YtangcjffiooapaaDoor
