/- The walk of paritysame.Texts at two lists that are the same. -/
import Derived.Test.YtoddoekmgkcomaaDoorStrs
import Derived.Test.YtoddoekmgkcomaaDoorInts
namespace Go.Proofs.YtoddoekmgkcomaaDoor
open Go.ChangeShapes Go.WideShapes Go.ChangeAt Go.RowKit
set_option linter.unusedVariables false
set_option maxRecDepth 100000 in
theorem texts_eq (xs : List ByteArray) (va vb : Value) (w : World) (ha : Strs w va xs) (hb : Strs w vb xs) :
    Calls Tryd.prog 14 #[va, vb] w fun e w' => e = .returned (.bool true) ∧ ∃ n, w.drewN n = w' := by
  obtain ⟨pa, ca, rfl, ha1, ha3⟩ := ha.get
  obtain ⟨pb, cb, rfl, hb1, hb3⟩ := hb.get
  have Ha := Lib.hid ha3
  have Hb := Lib.hid hb3
  clear ha hb ha3 hb3
  generalize hn : xs.length = n at *
  have Hn := Lib.hid hn
  clear hn
  go_enter Tryd.func14, Tryd.ntmps14
  go_wp2_with fail
  go_loopg [5] n (fun gk i wr => SameRel n w gk i wr)
  case atStart => exact ⟨0, 0, by omega, rfl, rfl⟩
  case round =>
    obtain ⟨k, nd, hk, rfl, rfl⟩ := hrel
    have Hk := Lib.hid hk
    by_cases hlt : k < n
    · obtain ⟨x, hx⟩ : ∃ x, xs[k]? = some x := ⟨xs[k]'(by rw [Hn.out]; exact hlt), List.getElem?_eq_getElem _⟩
      obtain ⟨g, o, rfl, c1, _⟩ := Ha.out k x hx
      obtain ⟨g', o', rfl, c2, _⟩ := Hb.out k x hx
      clear hk hx
      go_wp2_with fail
      go_quiet (fail)
      go_wp2_with fail
      go_roundg (gk - 1)
      case measure => have := Hk.out; omega
      case rel => exact ⟨k + 1, _, by have := Hk.out; omega, by go_num, rfl⟩
    · obtain rfl : k = n := by omega
      clear hk
      go_wp2_with fail
      go_ret
      exact ⟨rfl, _, rfl⟩
end Go.Proofs.YtoddoekmgkcomaaDoor
