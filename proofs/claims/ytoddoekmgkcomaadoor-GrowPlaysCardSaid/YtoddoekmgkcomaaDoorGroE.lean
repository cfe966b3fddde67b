/- The walk of paritysame.Disks at the same disks. -/
import Derived.Test.YtoddoekmgkcomaaDoorGroD
import Derived.Test.YtoddoekmgkcomaaDoorTexts
namespace Go.Proofs.YtoddoekmgkcomaaDoor
open Go.ChangeShapes Go.WideShapes Go.ChangeAt Go.RowKit
set_option linter.unusedVariables false
theorem quiet_drewG {P : Program} {f : FuncId} {args : Array Value} {w : World} {n : Nat} {v : Value}
    (h : Calls P f args (w.drewN n) fun e w' => e = .returned v ∧ ∃ k, (w.drewN n).drewN k = w') : Calls P f args (w.drewN n) fun e w'' => e = .returned v ∧ ∃ m, w'' = w.drewN m :=
  h.mono fun _ _ ⟨he, k, hm⟩ => ⟨he, n + k, by rw [← hm, World.drewN_drewN]⟩
set_option maxRecDepth 100000 in
theorem disks_same {w : World} {va vb : Value} {n : Nat} {D : Gr.Ds} (ha : DsM w va n D) (hb : DsM w vb n D) :
    Calls Tryd.prog 34 #[va, vb] w fun e w' => e = .returned (.bool true) ∧ ∃ k, w' = w.drewN k := by
  obtain ⟨pa, ca, rfl, ha1, ha2, ha3⟩ := ha.get
  obtain ⟨pb, cb, rfl, hb1, hb2, hb3⟩ := hb.get
  have HA := Lib.hid ha3
  have HB := Lib.hid hb3
  clear ha hb ha3 hb3
  go_enter Tryd.func34, Tryd.ntmps34
  go_wp2_with fail
  go_loopg [5, 6] n (fun gk v5 v6 wr => ∃ k nd : Nat, k + gk = n ∧ v5 = iv k ∧ wr = w.drewN nd)
  case atStart => exact ⟨0, 0, by omega, rfl, rfl⟩
  case round =>
    obtain ⟨k, nd, hk, rfl, hwr⟩ := hrel
    have Hk := Lib.hid hk
    have Hwr := Lib.hid hwr
    by_cases hkn : k < n
    · obtain ⟨ga, oa, ua, rfl, qa, _, sa⟩ := HA.out k hkn
      obtain ⟨gb, ob, ub, rfl, qb, _, sb⟩ := HB.out k hkn
      have d0 : wr.cell? ⟨ga, oa + k, none⟩ = some ua := by rw [hwr]; simpa using qa
      have d1 : wr.cell? ⟨gb, ob + k, none⟩ = some ub := by rw [hwr]; simpa using qb
      have hbd : ∀ j, Below w.heap.size w (wr.drewN j) := fun j => by rw [hwr]; exact bdrew (bdrew (Below.refl _ _) nd) j
      have HT : Hid (∀ j, Calls Tryd.prog 14 #[ua, ub] (wr.drewN j) fun e w' => e = .returned (.bool true) ∧ ∃ i, (wr.drewN j).drewN i = w') := Lib.hid (fun j => texts_eq (D k) ua ub _ (sa.below (hbd j)) (sb.below (hbd j)))
      clear hk qa qb sa sb hbd hwr
      go_wp2_with fail
      go_quiet ((go_at_call 14; exact quiet_drewG (HT.out _)))
      go_wp2_with fail
      go_roundg (gk - 1)
      case measure => have := Hk.out; omega
      case rel => exact ⟨k + 1, nd + nq, by have := Hk.out; omega, by go_num, by rw [Hwr.out, World.drewN_drewN]⟩
    · clear hk hwr
      go_wp2_with fail
      go_ret
      exact ⟨rfl, nd, Hwr.out⟩
end Go.Proofs.YtoddoekmgkcomaaDoor
