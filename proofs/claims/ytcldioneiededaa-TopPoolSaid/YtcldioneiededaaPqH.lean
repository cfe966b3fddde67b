/- The walk of the library's slices.Clone at lists of strings. · An owned list of strings: a store into it; its marks. · The walks of pq.plus, pq.times. -/
import Derived.Test.YtcldioneiededaaBase
import Derived.Test.YtcldioneiededaaSlI
import Derived.Test.YtcldioneiededaaPqS
namespace Go.Proofs.Ytcldioneiededaa
open Go.ChangeShapes Go.WideShapes Go.ChangeAt Go.RowKit
set_option linter.unusedVariables false
theorem info_strS : (Try.prog.info? 9).map (fun i => (i.zero, i.size, i.bytes)) = some (some (.string ⟨#[]⟩), 1, 16) := by kernel_rfl
def ClonePostS (xs : List Value) (w : World) (e : Ending) (w' : World) : Prop :=
  ∃ v, e = .returned v ∧ w'.ownsRow w.heap.size 9 1 v xs.length xs ∧ Below w.heap.size w w'
set_option maxRecDepth 100000 in
theorem clone_str (xs : List Value) (h1 : ∀ u ∈ xs, u.oneCell' = true) (hs : xs.length ≤ 1000000) (v : Value) (w : World) (hv : Row w v xs) :
    Calls Try.prog 60 #[v] w (ClonePostS xs w) := by
  obtain ⟨i0, hi, hz0, hz1, hz2⟩ := info_parts info_strS
  have q22 : ∀ (w : World) (a : Option Addr) (n c n' c' : Nat), (binOp .eql 32 (.slice a n c) (.slice none n' c')).run Try.prog w = .ok (.bool a.isNone) w := fun w a n c n' c' => Lib.run_eql_slice_nil w _ _ a n c n' c' Try.underlying32
  obtain ⟨p, cap, rfl, h2, h3, h0, h4⟩ := hv
  cases p with
  | none =>
    obtain rfl : cap = 0 := h0 rfl
    obtain rfl : xs = [] := List.eq_nil_of_length_eq_zero (by omega)
    clear h0 h4
    go_enter Try.func60, Try.ntmps60
    go_wp2
    go_ret
    exact ⟨_, rfl, World.ownsRow_nil _ _ _ _, Below.refl _ _⟩
  | some ad =>
    have H4 := Lib.hid h4
    clear h4 h0
    go_enter Try.func60, Try.ntmps60
    go_wp2_with (at_builtin; refine wpList_append_own _ rfl _ _ 32 rfl w.heap.size 9 i0 (.string ⟨#[]⟩) 1 16 Try.underlying32 hi hz0 hz1 hz2 rfl (by decide) _ _ _ rfl (World.ownsRow_made w #[] 0 (Nat.le_refl _) (Nat.zero_le _) rfl) ad xs.length cap xs rfl ?qc1 ?qc2 ?qc3 ?qc4 ?qc5 ?qc6 ?_)
    case qc1 => simp
    case qc2 =>
      intro j u hj
      have hjn := (List.getElem?_eq_some_iff.1 hj).1
      obtain ⟨g, off, hp, h4⟩ := H4.out (by omega)
      injection hp with hp
      rw [hp, Addr.add_lit]
      have h := h4 j hjn
      rw [hj] at h
      exact ((Below.refl w.heap.size w).alloc (Nat.le_refl _) _).cell (World.block_lt_of_cell? w _ h) |>.trans h
    case qc3 => exact h1
    case qc4 => unfold maxLen; omega
    case qc5 => omega
    case qc6 => simp
    intro v' w1 hown hgrow _
    have Hown := Lib.hid hown
    clear hown
    go_wp2
    go_ret
    refine ⟨v', rfl, ?_, ?_⟩
    · exact Hown.out
    · exact ((Below.refl _ w).alloc (Nat.le_refl _) _).grown hgrow (by simp) (by intro k hk; simp [Value.ownBlock] at hk; omega)
end Go.Proofs.Ytcldioneiededaa
namespace Go.Proofs.Ytcldioneiededaa
open Go.ChangeShapes Go.WideShapes Go.ChangeAt Go.RowKit
theorem OwnR.fz {w : World} {base : Nat} {E : TypeId} {v : Value} {xs : List Value} (h : OwnR w base E v xs) {g : Nat} (hg : v.ownBlock = some g) (k : Nat) : w.frozen? ⟨g, k, none⟩ = false := by
  rcases h with ⟨rfl, _⟩ | ⟨g', o, cap, cur, rfl, _, hgb, _⟩
  · cases hg
  · obtain rfl := Option.some.inj hg
    exact frozen_of_row _ _ _ _ _ hgb
theorem OwnR.setStr {w : World} {base g o n cap k : Nat} {l : List ByteArray} (h : OwnR w base 9 (.slice (some ⟨g, o, none⟩) n cap) (l.map Value.string)) (hk : k < l.length) (s : ByteArray) :
    OwnR (w.setCell ⟨g, o + k, none⟩ (.string s)) base 9 (.slice (some ⟨g, o, none⟩) n cap) ((l.set k s).map Value.string) := by
  rcases h with ⟨hn, hx⟩ | ⟨g', o', cap', cur, hv', hb', hg', h1, h2, h3, h4⟩
  · cases hn
  · rw [List.length_map] at h1 h4 hv'
    injection hv' with e1 e2 e3
    injection e1 with e1
    injection e1 with e4 e5
    subst e4 e5 e3
    refine .inr ⟨g, o, cap, cur.setIfInBounds (o + k) (.string s), by rw [List.length_map, List.length_set, e2], hb', heap_setCell_same _ _ _ _ _ _ hg', by rw [List.length_map, List.length_set]; exact h1, h2, by rw [Array.size_setIfInBounds]; exact h3, fun j hj => ?_⟩
    rw [List.length_map, List.length_set] at hj
    rw [List.map_set, List.getElem?_set, List.length_map]
    by_cases e : k = j
    · subst e
      rw [Array.getElem?_setIfInBounds_self_of_lt (by omega), if_pos rfl, if_pos hk]
    · rw [Array.getElem?_setIfInBounds_ne (by omega), if_neg e]
      exact h4 j hj
end Go.Proofs.Ytcldioneiededaa
namespace Go.Proofs.Ytcldioneiededaa
open Go.ChangeShapes Go.WideShapes Go.ChangeAt Go.RowKit
set_option linter.unusedVariables false
theorem alloc_row (w : World) (vs : List Value) (E : TypeId) (hl : vs.length ≤ maxLen) : Row (w.alloc (.cells vs.toArray E)) (.slice (some ⟨w.heap.size, 0, none⟩) vs.length vs.length) vs := by
  refine ⟨some ⟨w.heap.size, 0, none⟩, vs.length, rfl, Nat.le_refl _, hl, (fun h => by cases h), fun _ => ⟨w.heap.size, 0, rfl, fun j hj => ?_⟩⟩
  rw [cell_of_row _ _ _ _ _ _ (heap_alloc_new w _), Nat.zero_add]
  simp
theorem plus_any (a b : ByteArray) (hs : b.size = a.size) (hn : a.size ≤ 1000000) (w : World) :
    Calls Try.prog 71 #[.string a, .string b] w fun e w' => e = .returned (.string (Gv.plusS a b)) ∧ Below w.heap.size w w' := by
  have hb1 : Below w.heap.size w (w.alloc (.cells #[.string a, .string b] 9)) := (Below.refl _ _).alloc (Nat.le_refl _) _
  have hz : (w.alloc (.cells #[.string a, .string b] 9)).heap.size = w.heap.size + 1 := by simp
  have hb2 : Below (w.alloc (.cells #[.string a, .string b] 9)).heap.size (w.alloc (.cells #[.string a, .string b] 9)) ((w.alloc (.cells #[.string a, .string b] 9)).alloc (.cells #[.int .u8 1, .int .u8 1] 5)) := (Below.refl _ _).alloc (Nat.le_refl _) _
  have r1 : Strs ((w.alloc (.cells #[.string a, .string b] 9)).alloc (.cells #[.int .u8 1, .int .u8 1] 5)) (.slice (some ⟨w.heap.size, 0, none⟩) 2 2) [a, b] := Row.below (alloc_row w [.string a, .string b] _ (by simp [maxLen])) hb2
  have r2 : RowB ((w.alloc (.cells #[.string a, .string b] 9)).alloc (.cells #[.int .u8 1, .int .u8 1] 5)) (.slice (some ⟨w.heap.size + 1, 0, none⟩) 2 2) [1, 1] := by
    have h := alloc_row (w.alloc (.cells #[.string a, .string b] 9)) [.int .u8 1, .int .u8 1] 5 (by simp [maxLen])
    rw [hz] at h; exact h
  have hall : ∀ s ∈ [a, b], s.size = size0 [a, b] := by
    intro s hs'; simp at hs'
    rcases hs' with rfl | rfl
    · rfl
    · exact hs
  have HS := Lib.hid (csum_any [a, b] [1, 1] hall hn (by simp) _ _ _ r1 r2)
  have HB := Lib.hid (hb1.trans (hb2.mono (by omega)))
  have hz2 := HB.out.size
  have he : Gv.sumS [a, b] (Gv.at' [1, 1]) = Gv.plusS a b := Gv.sumS_congr (fun i hi => by
    have : i = 0 ∨ i = 1 := by simp at hi; omega
    rcases this with rfl | rfl <;> rfl)
  have HE := Lib.hid he
  clear hb1 hb2 r1 r2 hall hs hn he hz
  go_enter Try.func71, Try.ntmps71
  go_wp2_with fail
  refine HS.out.mono ?_
  rintro e w' ⟨rfl, hb⟩
  have HB3 := Lib.hid (HB.out.trans (hb.mono hz2))
  clear hb
  go_wp2_with fail
  go_ret
  exact ⟨by rw [HE.out]; rfl, HB3.out⟩
theorem times_any (a : ByteArray) (c : UInt8) (hn : a.size ≤ 1000000) (w : World) :
    Calls Try.prog 72 #[.string a, bv c] w fun e w' => e = .returned (.string (Gv.timesS a c)) ∧ Below w.heap.size w w' := by
  have hb1 : Below w.heap.size w (w.alloc (.cells #[.string a] 9)) := (Below.refl _ _).alloc (Nat.le_refl _) _
  have hz : (w.alloc (.cells #[.string a] 9)).heap.size = w.heap.size + 1 := by simp
  have hb2 : Below (w.alloc (.cells #[.string a] 9)).heap.size (w.alloc (.cells #[.string a] 9)) ((w.alloc (.cells #[.string a] 9)).alloc (.cells #[bv c] 5)) := (Below.refl _ _).alloc (Nat.le_refl _) _
  have r1 : Strs ((w.alloc (.cells #[.string a] 9)).alloc (.cells #[bv c] 5)) (.slice (some ⟨w.heap.size, 0, none⟩) 1 1) [a] := Row.below (alloc_row w [.string a] _ (by simp [maxLen])) hb2
  have r2 : RowB ((w.alloc (.cells #[.string a] 9)).alloc (.cells #[bv c] 5)) (.slice (some ⟨w.heap.size + 1, 0, none⟩) 1 1) [c] := by
    have h := alloc_row (w.alloc (.cells #[.string a] 9)) [bv c] 5 (by simp [maxLen])
    rw [hz] at h; exact h
  have hall : ∀ s ∈ [a], s.size = size0 [a] := by
    intro s hs'; simp at hs'; subst hs'; rfl
  have HS := Lib.hid (csum_any [a] [c] hall hn (by simp) _ _ _ r1 r2)
  have HB := Lib.hid (hb1.trans (hb2.mono (by omega)))
  have hz2 := HB.out.size
  have he : Gv.sumS [a] (Gv.at' [c]) = Gv.timesS a c := Gv.sumS_congr (fun i hi => by
    have : i = 0 := by simp at hi; omega
    subst this; rfl)
  have HE := Lib.hid he
  clear hb1 hb2 r1 r2 hall hn he hz
  go_enter Try.func72, Try.ntmps72
  go_wp2_with fail
  refine HS.out.mono ?_
  rintro e w' ⟨rfl, hb⟩
  have HB3 := Lib.hid (HB.out.trans (hb.mono hz2))
  clear hb
  go_wp2_with fail
  go_ret
  exact ⟨by rw [HE.out]; rfl, HB3.out⟩
end Go.Proofs.Ytcldioneiededaa
