/- The walk of the reference's Cells: the fault of some cells. -/
import Derived.Test.YtoddoekmgkcomaaDoorFuncs
import Derived.RegionTactic
namespace Go.Proofs.YtoddoekmgkcomaaDoor
open Go.ChangeShapes Go.WideShapes Go.ChangeAt Go.RowKit
set_option linter.unusedVariables false
theorem rcells_any (cells : List ByteArray) (va : Value) (w : World) (ha : Row w va (cells.map Value.string)) :
    Calls Tryd.prog 33 #[va] w fun e w' => e = .returned (iv (cellsF cells)) ∧ w = w' := by
  obtain ⟨p, cap, rfl, hlen, hcap, hcells⟩ := ha.shape
  clear ha
  rw [List.length_map] at *
  unfold maxLen at hcap
  obtain ⟨n, hn⟩ : ∃ n, n = cells.length := ⟨_, rfl⟩
  rw [← hn] at hlen hcells ⊢
  have Hn := Lib.hid hn
  have Hcells := Lib.hid hcells
  by_cases h40 : 40 < n
  · have hF : cellsF cells = 4 := by unfold cellsF; rw [← hn, if_pos h40]
    rw [hF]
    have h40I : (40 : Int) < (n : Int) := by omega
    clear hn hcells hF
    go_enter Tryd.func33, Tryd.ntmps33
    go_wp2_with fail
    go_ret
    exact ⟨rfl, rfl⟩
  · have hF : cellsF cells = if cells.any (fun b => decide (16 < b.size)) then 1 else 0 := by unfold cellsF; rw [← hn, if_neg h40]
    have h40I : (n : Int) ≤ 40 := by omega
    have HFF := Lib.hid hF
    clear hn hcells hF
    go_enter Tryd.func33, Tryd.ntmps33
    go_wp2_with fail
    go_loopg [3] n (fun gk i wr => ∃ k : Nat, k + gk = n ∧ i = iv k ∧ wr = w ∧ ∀ j b, j < k → cells[j]? = some b → b.size ≤ 16)
    case atStart => exact ⟨0, by omega, rfl, rfl, fun j b hj => by omega⟩
    case round =>
      obtain ⟨k, hk, rfl, hwr, hno⟩ := hrel
      subst hwr
      have Hk := Lib.hid hk
      have Hno := Lib.hid hno
      clear hk hno
      by_cases hlt : k < n
      · obtain ⟨g, off, rfl, hc⟩ := Hcells.out (by omega)
        have hc' := hc k hlt
        obtain ⟨y, hy⟩ : ∃ y, cells[k]? = some y := ⟨cells[k]'(by rw [← Hn.out]; exact hlt), List.getElem?_eq_getElem _⟩
        rw [List.getElem?_map, hy] at hc'
        have hc2 : wr.cell? ⟨g, off + k, none⟩ = some (.string y) := hc'
        have Hy := Lib.hid hy
        clear hc hc' hy
        by_cases h16 : 16 < y.size
        · have hr : cellsF cells = 1 := by
            rw [HFF.out, if_pos]
            rw [List.any_eq_true]
            exact ⟨y, List.mem_of_getElem? Hy.out, by simpa using h16⟩
          have Hr := Lib.hid hr
          have h16I : (16 : Int) < (y.size : Int) := by omega
          clear hr
          go_wp2_with fail
          go_ret
          exact ⟨by rw [Hr.out]; rfl, rfl⟩
        · have h16I : (y.size : Int) ≤ 16 := by omega
          go_wp2_with fail
          go_roundg (gk - 1)
          case measure => have := Hk.out; omega
          case rel =>
            refine ⟨k + 1, by have := Hk.out; omega, by go_num, rfl, fun j b hj h => ?_⟩
            by_cases e : j = k
            · subst e
              rw [Hy.out] at h
              obtain rfl := Option.some.inj h
              omega
            · exact Hno.out j b (by omega) h
      · have hkn : k = n := by have := Hk.out; omega
        have hr : cellsF cells = 0 := by
          rw [HFF.out, if_neg]
          rw [List.any_eq_true]
          rintro ⟨x, hx, h16⟩
          obtain ⟨j, hj⟩ := List.getElem?_of_mem hx
          have hjl := (List.getElem?_eq_some_iff.1 hj).1
          have := Hno.out j x (by rw [hkn, Hn.out]; exact hjl) hj
          simp at h16; omega
        have Hr := Lib.hid hr
        clear hkn hr
        go_wp2_with fail
        go_ret
        exact ⟨by rw [Hr.out]; rfl, rfl⟩
end Go.Proofs.YtoddoekmgkcomaaDoor
