/- The walks of parityref2.Odds and of the law's own question 'fair'. -/
import Derived.Test.YtoddoekmgkcomaaDoorLockW
import Derived.Deep.RegionHeld3
namespace Go.Proofs.YtoddoekmgkcomaaDoor
open Go.ChangeShapes Go.WideShapes Go.ChangeAt Go.RowKit
set_option linter.unusedVariables false
theorem rodds_any (a b : Lk.L) (w : World) :
    Calls Tryd.prog 74 #[lv a, lv b] w fun e w' => e = .returned (.bool (Lk.odds a b)) ∧ Below w.heap.size w w' := by
  obtain ⟨aw, af, at', aa⟩ := a
  obtain ⟨bw, bf, bt, ba⟩ := b
  have H1 : Hid (Lk.odds ⟨aw, af, at', aa⟩ ⟨bw, bf, bt, ba⟩ = (decide (af < bt) && decide (bf < at') && (aa || ba))) := Lib.hid rfl
  by_cases c1 : af < bt
  case' pos => have d1 := dec_t c1
  case' neg => have d1 := dec_f c1
  all_goals
    have HD1 := Lib.hid d1
    by_cases c2 : bf < at'
    case' pos => have d2 := dec_t c2
    case' neg => have d2 := dec_f c2
    all_goals
      have HD2 := Lib.hid d2
      clear c1 c2
      cases aa <;> cases ba
      all_goals
        go_enter Tryd.func74, Tryd.ntmps74
        go_wp2
        go_ret
        exact ⟨by rw [H1.out, HD1.out, HD2.out]; rfl, ((Below.refl _ _).alloc (Nat.le_refl _) _).alloc (by simp) _⟩
theorem drewBG {w w1 : World} (h : Below w.drew.heap.size w.drew w1) : Below w.heap.size w w1 := (Below.refl _ _).drew.trans (h.mono (by simp))
/-- the cells of one lock of a row -/
theorem RowL.at {w wr : World} {v : Value} {ls : List Lk.L} (h : RowL w v ls) (hb : Below w.heap.size w wr) {j : Nat} {l : Lk.L} (hj : ls[j]? = some l) : ∃ g off cap, v = .slice (some ⟨g, off, none⟩) ls.length cap ∧ ls.length ≤ 9223372036854775807 ∧ g < wr.heap.size ∧
    wr.cell? ⟨g, off + j * 4, none⟩ = some (iv l.who) ∧ wr.cell? ⟨g, off + j * 4 + 1, none⟩ = some (iv l.fr) ∧ wr.cell? ⟨g, off + j * 4 + 2, none⟩ = some (iv l.to) ∧ wr.cell? ⟨g, off + j * 4 + 3, none⟩ = some (.bool l.al) := by
  obtain ⟨p, cap, rfl, hl, hc⟩ := h.below hb
  obtain ⟨g, off, rfl, hg, c⟩ := hc j l hj
  exact ⟨g, off, cap, rfl, hl, hg, c⟩
end Go.Proofs.YtoddoekmgkcomaaDoor
