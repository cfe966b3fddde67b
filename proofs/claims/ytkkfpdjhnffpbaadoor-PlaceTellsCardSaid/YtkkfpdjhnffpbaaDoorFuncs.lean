/- The library's IndexFunc, ContainsFunc and DeleteFunc at lists of one-cell elements, by a function that only looks. -/
import Derived.Test.YtkkfpdjhnffpbaaDoorSlI
import Derived.Test.YtkkfpdjhnffpbaaDoorErr
import Derived.Deep.LoopGhost
import Derived.Lib.SliceRun
import Derived.Deep.Upon
namespace Go.Proofs.YtkkfpdjhnffpbaaDoor
open Go.ChangeShapes Go.WideShapes Go.ChangeAt Go.RowKit
set_option linter.unusedVariables false
/-- what is asked of a function of an element that says yes or no: that it says so wherever S holds, and leaves all as it was -/
def PredQ {α : Type} (enc : α → Value) (g : Nat) (lb : Array Value) (p : α → Bool) (S : World → Prop) : Prop :=
  ∀ W : World, S W → ∀ x, Calls Tryd.prog g (#[enc x] ++ lb) W fun e w' => e = .returned (.bool (p x)) ∧ W = w'
def firstQ {α : Type} (ls : List α) (p : α → Bool) : Int := if ls.findIdx p < ls.length then (ls.findIdx p : Nat) else -1
theorem firstQ_hit {α : Type} {ls : List α} {p : α → Bool} {k : Nat} {l : α} (hl : ls[k]? = some l) (hp : p l = true) (hno : ∀ j l, j < k → ls[j]? = some l → p l = false) : firstQ ls p = k := by
  have hk := (List.getElem?_eq_some_iff.1 hl)
  have h : ls.findIdx p = k := by
    rw [List.findIdx_eq hk.1]
    refine ⟨by rw [hk.2]; exact hp, fun j hj => hno j _ hj (List.getElem?_eq_getElem _)⟩
  unfold firstQ; rw [h, if_pos hk.1]
theorem firstQ_miss {α : Type} {ls : List α} {p : α → Bool} (hno : ∀ j l, j < ls.length → ls[j]? = some l → p l = false) : firstQ ls p = -1 := by
  unfold firstQ
  rw [if_neg]
  intro h
  have h2 := List.findIdx_getElem (w := h)
  rw [hno _ _ h (List.getElem?_eq_getElem h)] at h2
  cases h2
theorem firstQ_nonneg {α : Type} (ls : List α) (p : α → Bool) : decide (0 ≤ firstQ ls p) = ls.any p := by
  unfold firstQ
  split
  · rename_i h
    rw [List.findIdx_lt_length] at h
    rw [dec_t (by omega)]; symm; rw [List.any_eq_true]; exact h
  · rename_i h
    rw [List.findIdx_lt_length] at h
    rw [dec_f (by omega)]; symm; rw [List.any_eq_false]
    intro x hx hp; exact h ⟨x, hx, hp⟩
theorem firstQ_at {α : Type} {ls : List α} {p : α → Bool} {k : Nat} (h : firstQ ls p = k) : k < ls.length ∧ (∀ j l, j < k → ls[j]? = some l → p l = false) ∧ ∃ l, ls[k]? = some l ∧ p l = true := by
  unfold firstQ at h
  split at h
  · rename_i hlt
    have hk : ls.findIdx p = k := by omega
    subst hk
    refine ⟨hlt, fun j l hj hl => ?_, _, List.getElem?_eq_getElem hlt, List.findIdx_getElem (w := hlt)⟩
    have := List.not_of_lt_findIdx hj
    rw [List.getElem?_eq_getElem (Nat.lt_trans hj hlt)] at hl
    rw [← Option.some.inj hl]; simpa using this
  · omega
theorem firstQ_no {α : Type} {ls : List α} {p : α → Bool} (h : firstQ ls p < 0) : ls.any p = false := by
  have := firstQ_nonneg ls p
  rw [dec_f (by omega)] at this; exact this.symm
def IdxQRel {α : Type} (ls : List α) (p : α → Bool) (w : World) (gk : Nat) (i : Value) (wr : World) : Prop :=
  ∃ k : Nat, k + gk = ls.length ∧ i = iv k ∧ wr = w ∧ ∀ j l, j < k → ls[j]? = some l → p l = false
set_option maxRecDepth 100000 in
set_option maxHeartbeats 1000000 in
theorem indexFunc_int (ls : List Int) (p : Int → Bool) (g : Nat) (lb : Array Value) (eg : ∀ args w, (callFunc g args).run Tryd.prog w = .ok (.enter g args) w) (v : Value) (w : World) (S : World → Prop) (hS : S w) (hv : Row w v (ls.map iv)) (hp : PredQ iv g lb p S) :
    Calls Tryd.prog 47 #[v, .func (.func g) #[] lb] w fun e w' => e = .returned (iv (firstQ ls p)) ∧ w = w' := by
  obtain ⟨q, cap, rfl, hlen, hcap, hc⟩ := hv.shape
  rw [List.length_map] at *
  unfold maxLen at hcap
  have hN : ls.length ≤ 9223372036854775807 := by omega
  have Hc := Lib.hid hc
  have HP := Lib.hid (hp w hS)
  clear hc hp hv hcap
  generalize hn : ls.length = n at *
  have Hn := Lib.hid hn
  clear hn
  go_enter Tryd.func47, Tryd.ntmps47
  go_wp2_with fail
  go_loopg [5, 8] n (fun gk _ i wr => IdxQRel ls p w gk i wr)
  case atStart => exact ⟨0, by rw [Hn.out]; omega, rfl, rfl, fun j l hj => by omega⟩
  case round =>
    obtain ⟨k, hk, rfl, hwr, hno⟩ := hrel
    subst hwr
    rw [Hn.out] at hk
    have Hk := Lib.hid hk
    have Hno := Lib.hid hno
    clear hk hno
    by_cases hlt : k < n
    · obtain ⟨l, hl⟩ : ∃ l, ls[k]? = some l := ⟨ls[k]'(by rw [Hn.out]; exact hlt), List.getElem?_eq_getElem _⟩
      obtain ⟨gb, off, rfl, hcc⟩ := Hc.out (by omega)
      have d0 := hcc k hlt
      rw [List.getElem?_map, hl] at d0
      have d1 : wr.cell? ⟨gb, off + k, none⟩ = some (iv l) := d0
      have Hl := Lib.hid hl
      clear d0 hcc hl
      go_wp2_with fail
      have hcall := HP.out l
      cases hq : p l with
      | true =>
        rw [hq] at hcall
        have Hr := Lib.hid (firstQ_hit Hl.out hq Hno.out)
        clear hq
        refine hcall.mono ?_
        rintro e w' ⟨rfl, rfl⟩
        clear hcall
        go_wp2_with fail
        go_ret
        exact ⟨by rw [Hr.out]; rfl, rfl⟩
      | false =>
        rw [hq] at hcall
        have Hq := Lib.hid hq
        clear hq
        refine hcall.mono ?_
        rintro e w' ⟨rfl, rfl⟩
        clear hcall
        go_wp2_with fail
        go_roundg (gk - 1)
        case measure => have := Hk.out; omega
        case rel =>
          refine ⟨k + 1, by rw [Hn.out]; have := Hk.out; omega, by go_num, rfl, fun j l' hj h => ?_⟩
          by_cases e : j = k
          · subst e
            rw [Hl.out] at h
            obtain rfl := Option.some.inj h
            exact Hq.out
          · exact Hno.out j l' (by omega) h
    · obtain rfl : k = n := by have := Hk.out; omega
      have Hr := Lib.hid (firstQ_miss (fun j l hj h => Hno.out j l (by rw [Hn.out] at hj; exact hj) h))
      clear hlt
      go_wp2_with fail
      go_ret
      exact ⟨by rw [Hr.out]; rfl, rfl⟩
end Go.Proofs.YtkkfpdjhnffpbaaDoor
