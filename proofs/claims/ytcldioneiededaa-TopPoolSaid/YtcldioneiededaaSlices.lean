/- The walks of the library's slices.Index and slices.Clone at lists of ints. -/
import Derived.Test.YtcldioneiededaaBase
namespace Go.Proofs.Ytcldioneiededaa
open Go.ChangeShapes Go.WideShapes Go.ChangeAt Go.RowKit
set_option linter.unusedVariables false


/-- where a number stands first in a list; -1: nowhere -/
def idx (xs : List Int) (x : Int) : Int := if xs.idxOf x < xs.length then (xs.idxOf x : Nat) else -1
theorem idx_at {xs : List Int} {x : Int} {k : Nat} (hk : k < xs.length) (hno : ∀ m, m < k → xs[m]? ≠ some x) (hx : xs[k]? = some x) : idx xs x = k := by
  have h1 : xs.idxOf x = k := by
    have hle : xs.idxOf x ≤ k := by
      have hm : x ∈ xs := List.mem_of_getElem? hx
      rcases Nat.lt_or_ge k (xs.idxOf x) with h | h
      · exfalso
        have := List.not_of_lt_findIdx (p := (· == x)) (xs := xs) (i := k) h
        rw [List.getElem?_eq_getElem hk] at hx
        simp at hx
        simp [hx] at this
      · exact h
    rcases Nat.lt_or_ge (xs.idxOf x) k with h | h
    · exfalso
      have hlt : xs.idxOf x < xs.length := by omega
      apply hno _ h
      rw [List.getElem?_eq_getElem hlt]
      congr 1
      have := List.findIdx_getElem (p := (· == x)) (xs := xs) (w := hlt)
      exact beq_iff_eq.1 this
    · omega
  unfold idx; rw [h1, if_pos hk]
theorem idx_no {xs : List Int} {x : Int} (hno : ∀ m, m < xs.length → xs[m]? ≠ some x) : idx xs x = -1 := by
  unfold idx
  rw [if_neg]
  intro h
  apply hno _ h
  rw [List.getElem?_eq_getElem h]
  congr 1
  have := List.findIdx_getElem (p := (· == x)) (xs := xs) (w := h)
  exact beq_iff_eq.1 this

def IdxRel (xs : List Int) (x : Int) (i : Value) : Prop := ∃ k : Nat, k ≤ xs.length ∧ i = iv k ∧ ∀ m, m < k → xs[m]? ≠ some x
set_option maxRecDepth 100000 in
theorem index_any (xs : List Int) (x : Int) (v : Value) (w : World) (hv : Row w v (xs.map iv)) :
    Calls Try.prog 32 #[v, iv x] w fun e w' => e = .returned (iv (idx xs x)) ∧ w = w' := by
  obtain ⟨p, cap, rfl, hlen, hcap, hcells⟩ := hv.shape
  clear hv
  rw [List.length_map] at *
  unfold maxLen at hcap
  have hN : xs.length ≤ 9223372036854775807 := by omega
  have hno := fun h => idx_no (xs := xs) (x := x) h
  have hat := fun k h1 h2 h3 => idx_at (xs := xs) (x := x) (k := k) h1 h2 h3
  generalize hn : xs.length = n at *
  have Hn := Lib.hid hn
  have Hcells := Lib.hid hcells
  have Hno := Lib.hid hno
  have Hat := Lib.hid hat
  clear hn hcells hno hat hcap
  go_enter Try.func32, Try.ntmps32
  go_wp2_with fail
  go_loop [5, 8] (fun _ i => IdxRel xs x i) (fun _ i => n - (intOf i).toNat)
  case atStart => exact ⟨0, by omega, rfl, fun m hm => by omega⟩
  case round =>
    obtain ⟨k, hk, rfl, hm⟩ := hrel
    rw [Hn.out] at hk
    have Hm := Lib.hid hm
    clear hm
    by_cases hlt : k < n
    · obtain ⟨g, off, rfl, hc⟩ := Hcells.out (by omega)
      have hc' := hc k hlt
      obtain ⟨y, hy⟩ : ∃ y, xs[k]? = some y := ⟨xs[k]'(by rw [Hn.out]; exact hlt), List.getElem?_eq_getElem _⟩
      rw [List.getElem?_map, hy] at hc'
      have hc2 : w.cell? ⟨g, off + k, none⟩ = some (iv y) := hc'
      have Hy := Lib.hid hy
      clear hc hc' hy
      by_cases he : x = y
      · have ht : (x == y) = true := beq_t he
        have Hr := Lib.hid (Hat.out k hlt Hm.out (by rw [Hy.out, he]))
        clear he
        go_wp2_with fail
        go_ret
        exact ⟨ret_iv Hr.out.symm, rfl⟩
      · have ht : (x == y) = false := beq_f he
        have He := Lib.hid he
        clear he
        go_wp2_with fail
        go_round
        case rel =>
          refine ⟨k + 1, by rw [Hn.out]; omega, by go_num, fun m hm' => ?_⟩
          by_cases e : m = k
          · subst e; rw [Hy.out]; intro h; exact He.out (Option.some.inj h).symm
          · exact Hm.out m (by omega)
        case measure => simp [intOf]; omega
    · obtain rfl : k = n := by omega
      have Hr := Lib.hid (Hno.out Hm.out)
      clear hlt hk
      go_wp2_with fail
      go_ret
      exact ⟨ret_iv Hr.out.symm, rfl⟩

def ClonePost (xs : List Value) (w : World) (e : Ending) (w' : World) : Prop :=
  ∃ v, e = .returned v ∧ w'.ownsRow w.heap.size 3 1 v xs.length xs ∧ Below w.heap.size w w'
set_option maxRecDepth 100000 in
theorem clone_any (xs : List Value) (h1 : ∀ u ∈ xs, u.oneCell' = true) (hs : xs.length ≤ 1000000) (v : Value) (w : World) (hv : Row w v xs) :
    Calls Try.prog 30 #[v] w (ClonePost xs w) := by
  obtain ⟨i0, hi, hz0, hz1, hz2⟩ := info_parts info_int
  have q22 : ∀ (w : World) (a : Option Addr) (n c n' c' : Nat), (binOp .eql 22 (.slice a n c) (.slice none n' c')).run Try.prog w = .ok (.bool a.isNone) w := fun w a n c n' c' => Lib.run_eql_slice_nil w _ _ a n c n' c' Try.underlying22
  obtain ⟨p, cap, rfl, h2, h3, h0, h4⟩ := hv
  cases p with
  | none =>
    obtain rfl : cap = 0 := h0 rfl
    obtain rfl : xs = [] := List.eq_nil_of_length_eq_zero (by omega)
    clear h0 h4
    go_enter Try.func30, Try.ntmps30
    go_wp2
    go_ret
    exact ⟨_, rfl, World.ownsRow_nil _ _ _ _, Below.refl _ _⟩
  | some ad =>
    have H4 := Lib.hid h4
    clear h4 h0
    go_enter Try.func30, Try.ntmps30
    go_wp2_with (at_builtin; refine wpList_append_own _ rfl _ _ 22 rfl w.heap.size 3 i0 (.int .i64 0) 1 8 Try.underlying22 hi hz0 hz1 hz2 rfl (by decide) _ _ _ rfl (World.ownsRow_made w #[] 0 (Nat.le_refl _) (Nat.zero_le _) rfl) ad xs.length cap xs rfl ?qc1 ?qc2 ?qc3 ?qc4 ?qc5 ?qc6 ?_)
    case qc1 => simp
    case qc2 =>
      intro j u hj
      have hjn := (List.getElem?_eq_some_iff.1 hj).1
      obtain ⟨g, off, hp, h4⟩ := H4.out (by omega)
      injection hp with hp
      rw [hp, Addr.add_lit]
      have h := h4 j hjn
      rw [hj] at h
      exact ((Below.refl w.heap.size w).alloc (Nat.le_refl _) _).cell (World.block_lt_of_cell? w _ h) |>.trans h
    case qc3 => exact h1
    case qc4 => unfold maxLen; omega
    case qc5 => omega
    case qc6 => simp
    intro v' w1 hown hgrow _
    have Hown := Lib.hid hown
    clear hown
    go_wp2
    go_ret
    refine ⟨v', rfl, ?_, ?_⟩
    · exact Hown.out
    · exact ((Below.refl _ w).alloc (Nat.le_refl _) _).grown hgrow (by simp) (by intro k hk; simp [Value.ownBlock] at hk; omega)
end Go.Proofs.Ytcldioneiededaa
