/- The walk of the library's slices.Clone at lists of strings. -/
import Derived.Test.YtcldioneiededaaDoorBase
namespace Go.Proofs.YtcldioneiededaaDoor
open Go.ChangeShapes Go.WideShapes Go.ChangeAt Go.RowKit
set_option linter.unusedVariables false
theorem info_strS : (Tryd.prog.info? 9).map (fun i => (i.zero, i.size, i.bytes)) = some (some (.string ⟨#[]⟩), 1, 16) := by kernel_rfl
def ClonePostS (xs : List Value) (w : World) (e : Ending) (w' : World) : Prop :=
  ∃ v, e = .returned v ∧ w'.ownsRow w.heap.size 9 1 v xs.length xs ∧ Below w.heap.size w w'
set_option maxRecDepth 100000 in
theorem clone_str (xs : List Value) (h1 : ∀ u ∈ xs, u.oneCell' = true) (hs : xs.length ≤ 1000000) (v : Value) (w : World) (hv : Row w v xs) :
    Calls Tryd.prog 93 #[v] w (ClonePostS xs w) := by
  obtain ⟨i0, hi, hz0, hz1, hz2⟩ := info_parts info_strS
  have q22 : ∀ (w : World) (a : Option Addr) (n c n' c' : Nat), (binOp .eql 40 (.slice a n c) (.slice none n' c')).run Tryd.prog w = .ok (.bool a.isNone) w := fun w a n c n' c' => Lib.run_eql_slice_nil w _ _ a n c n' c' Tryd.underlying40
  obtain ⟨p, cap, rfl, h2, h3, h0, h4⟩ := hv
  cases p with
  | none =>
    obtain rfl : cap = 0 := h0 rfl
    obtain rfl : xs = [] := List.eq_nil_of_length_eq_zero (by omega)
    clear h0 h4
    go_enter Tryd.func93, Tryd.ntmps93
    go_wp2
    go_ret
    exact ⟨_, rfl, World.ownsRow_nil _ _ _ _, Below.refl _ _⟩
  | some ad =>
    have H4 := Lib.hid h4
    clear h4 h0
    go_enter Tryd.func93, Tryd.ntmps93
    go_wp2_with (at_builtin; refine wpList_append_own _ rfl _ _ 40 rfl w.heap.size 9 i0 (.string ⟨#[]⟩) 1 16 Tryd.underlying40 hi hz0 hz1 hz2 rfl (by decide) _ _ _ rfl (World.ownsRow_made w #[] 0 (Nat.le_refl _) (Nat.zero_le _) rfl) ad xs.length cap xs rfl ?qc1 ?qc2 ?qc3 ?qc4 ?qc5 ?qc6 ?_)
    case qc1 => simp
    case qc2 =>
      intro j u hj
      have hjn := (List.getElem?_eq_some_iff.1 hj).1
      obtain ⟨g, off, hp, h4⟩ := H4.out (by omega)
      injection hp with hp
      rw [hp, Addr.add_lit]
      have h := h4 j hjn
      rw [hj] at h
      exact ((Below.refl w.heap.size w).alloc (Nat.le_refl _) _).cell (World.block_lt_of_cell? w _ h) |>.trans h
    case qc3 => exact h1
    case qc4 => unfold maxLen; omega
    case qc5 => omega
    case qc6 => simp
    intro v' w1 hown hgrow _
    have Hown := Lib.hid hown
    clear hown
    go_wp2
    go_ret
    refine ⟨v', rfl, ?_, ?_⟩
    · exact Hown.out
    · exact ((Below.refl _ w).alloc (Nat.le_refl _) _).grown hgrow (by simp) (by intro k hk; simp [Value.ownBlock] at hk; omega)
end Go.Proofs.YtcldioneiededaaDoor
