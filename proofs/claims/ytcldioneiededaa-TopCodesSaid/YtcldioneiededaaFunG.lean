/- The library's IndexFunc and ContainsFunc at rows, by a function that only looks; where a column begins. -/
import Derived.Test.YtcldioneiededaaMatW
namespace Go.Proofs.Ytcldioneiededaa
open Go.ChangeShapes Go.WideShapes Go.ChangeAt Go.RowKit
set_option linter.unusedVariables false
set_option maxRecDepth 100000 in
set_option maxHeartbeats 1000000 in
theorem indexFunc_rows {α : Type} (enc : α → Value) (ls : List α) (p : α → Bool) (g : Nat) (lb : Array Value) (eg : ∀ args w, (callFunc g args).run Try.prog w = .ok (.enter g args) w) (v : Value) (w : World) (hv : Row w v (ls.map enc)) (hp : ∀ x ∈ ls, Calls Try.prog g (#[enc x] ++ lb) w fun e w' => e = .returned (.bool (p x)) ∧ w = w') :
    Calls Try.prog 67 #[v, .func (.func g) #[] lb] w fun e w' => e = .returned (iv (firstQ ls p)) ∧ w = w' := by
  obtain ⟨q, cap, rfl, hlen, hcap, hc⟩ := hv.shape
  rw [List.length_map] at *
  unfold maxLen at hcap
  have hN : ls.length ≤ 9223372036854775807 := by omega
  have Hc := Lib.hid hc
  have HP := Lib.hid hp
  clear hc hp hv hcap
  generalize hn : ls.length = n at *
  have Hn := Lib.hid hn
  clear hn
  go_enter Try.func67, Try.ntmps67
  go_wp2_with fail
  go_loopg [5, 8] n (fun gk _ i wr => IdxQRel ls p w gk i wr)
  case atStart => exact ⟨0, by rw [Hn.out]; omega, rfl, rfl, fun j l hj => by omega⟩
  case round =>
    obtain ⟨k, hk, rfl, hwr, hno⟩ := hrel
    subst hwr
    rw [Hn.out] at hk
    have Hk := Lib.hid hk
    have Hno := Lib.hid hno
    clear hk hno
    by_cases hlt : k < n
    · obtain ⟨l, hl⟩ : ∃ l, ls[k]? = some l := ⟨ls[k]'(by rw [Hn.out]; exact hlt), List.getElem?_eq_getElem _⟩
      obtain ⟨gb, off, rfl, hcc⟩ := Hc.out (by omega)
      have d0 := hcc k hlt
      rw [List.getElem?_map, hl] at d0
      have d1 : wr.cell? ⟨gb, off + k, none⟩ = some (enc l) := d0
      have Hl := Lib.hid hl
      clear d0 hcc hl
      go_wp2_with fail
      have hcall := HP.out l (List.mem_of_getElem? Hl.out)
      cases hq : p l with
      | true =>
        rw [hq] at hcall
        have Hr := Lib.hid (firstQ_hit Hl.out hq Hno.out)
        clear hq
        refine hcall.mono ?_
        rintro e w' ⟨rfl, rfl⟩
        clear hcall
        go_wp2_with fail
        go_ret
        exact ⟨by rw [Hr.out]; rfl, rfl⟩
      | false =>
        rw [hq] at hcall
        have Hq := Lib.hid hq
        clear hq
        refine hcall.mono ?_
        rintro e w' ⟨rfl, rfl⟩
        clear hcall
        go_wp2_with fail
        go_roundg (gk - 1)
        case measure => have := Hk.out; omega
        case rel =>
          refine ⟨k + 1, by rw [Hn.out]; have := Hk.out; omega, by go_num, rfl, fun j l' hj h => ?_⟩
          by_cases e : j = k
          · subst e
            rw [Hl.out] at h
            obtain rfl := Option.some.inj h
            exact Hq.out
          · exact Hno.out j l' (by omega) h
    · obtain rfl : k = n := by have := Hk.out; omega
      have Hr := Lib.hid (firstQ_miss (fun j l hj h => Hno.out j l (by rw [Hn.out] at hj; exact hj) h))
      clear hlt
      go_wp2_with fail
      go_ret
      exact ⟨by rw [Hr.out]; rfl, rfl⟩
theorem firstQ_range (p : Nat → Bool) (a f : Nat) : firstQ (List.range' a f) p = if Mx.fd p a f < a + f then ((Mx.fd p a f - a : Nat) : Int) else -1 := by
  have hg := Mx.fd_ge p f a
  by_cases h : Mx.fd p a f < a + f
  · rw [if_pos h]
    refine firstQ_hit (l := Mx.fd p a f) ?_ (Mx.fd_yes p f a h) (fun j l hj hl => ?_)
    · rw [List.getElem?_range' (by omega)]; congr 1; omega
    · rw [List.getElem?_range' (by omega)] at hl
      rw [← Option.some.inj hl]
      exact Mx.fd_no p f a _ (by omega) (by omega)
  · rw [if_neg h]
    refine firstQ_miss (fun j l hj hl => ?_)
    rw [List.length_range'] at hj
    rw [List.getElem?_range' (by omega)] at hl
    rw [← Option.some.inj hl]
    exact Mx.fd_no p f a _ (by omega) (by omega)
end Go.Proofs.Ytcldioneiededaa
