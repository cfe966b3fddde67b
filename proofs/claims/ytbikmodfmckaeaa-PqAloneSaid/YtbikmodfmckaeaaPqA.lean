/- The walk of the law PqAlone: it returns true. -/
import Derived.Test.YtbikmodfmckaeaaPqL
import Derived.BigQuiet
namespace Go.Proofs.Ytbikmodfmckaeaa
open Go.ChangeShapes Go.WideShapes Go.ChangeAt Go.RowKit
set_option linter.unusedVariables false
theorem pqF_two (a b : ByteArray) : Gv.pqF [a, b] = if b.size = a.size then (if a.size > 16 then 1 else 0) else 3 := by
  unfold Gv.pqF
  rw [if_pos (by show manyB ((2 : Nat) + 2 : Int) = true; decide)]
  unfold blkF
  simp only
  by_cases h : b.size = a.size
  · rw [if_pos h, if_pos (by simp [h])]
  · rw [if_neg h, if_neg (by simp [h])]
theorem enc4 (w : World) (p q : ByteArray) : Strs (w.alloc (.cells #[.string ⟨#[]⟩, .string ⟨#[]⟩, .string p, .string q] 9)) (.slice (some ⟨w.heap.size, 0, none⟩) 4 4) [⟨#[]⟩, ⟨#[]⟩, p, q] :=
  alloc_row w [.string ⟨#[]⟩, .string ⟨#[]⟩, .string p, .string q] _ (by simp [maxLen])
def lost2 : List Bool := [true, true, false, false]
theorem heal_alone (a b : ByteArray) (h : b.size = a.size) (h16 : a.size ≤ 16) : Gv.healF [⟨#[]⟩, ⟨#[]⟩, Gv.P [a, b], Gv.Q [a, b]] lost2 = 0 ∧ Gv.heal [⟨#[]⟩, ⟨#[]⟩, Gv.P [a, b], Gv.Q [a, b]] lost2 = [a, b, Gv.P [a, b], Gv.Q [a, b]] := by
  have hs : ∀ s ∈ [a, b], s.size = a.size := by
    intro s hs; simp at hs
    rcases hs with rfl | rfl
    · rfl
    · exact h
  have hP : (Gv.P [a, b]).size = a.size := by rw [Gv.P_size]; rfl
  have hQ : (Gv.Q [a, b]).size = a.size := by rw [Gv.Q_size]; rfl
  have hh : Gv.have' [⟨#[]⟩, ⟨#[]⟩, Gv.P [a, b], Gv.Q [a, b]] lost2 4 = [Gv.P [a, b], Gv.Q [a, b]] := rfl
  constructor
  · unfold Gv.healF
    rw [if_neg (by show ¬ manyB ((4 : Nat) : Int) = false; decide), if_neg (by simp [lost2])]
    show (if (Gv.have' [⟨#[]⟩, ⟨#[]⟩, Gv.P [a, b], Gv.Q [a, b]] lost2 4).length + 2 < 4 then (8 : Int) else blkF (Gv.have' [⟨#[]⟩, ⟨#[]⟩, Gv.P [a, b], Gv.Q [a, b]] lost2 4)) = 0
    rw [hh, if_neg (by simp)]
    unfold blkF
    simp only
    rw [if_pos (by simp [hP, hQ]), if_neg (by omega)]
  · refine Gv.heal_right (ds := [a, b]) (n := a.size) (x := 0) (y := 1) hs (by simp) (by simp) rfl (fun i hi h0 => ?_) (fun i hi => ?_)
    · have : i = 0 ∨ i = 1 ∨ i = 2 ∨ i = 3 := by simp at hi; omega
      rcases this with rfl | rfl | rfl | rfl
      · cases h0
      · cases h0
      · rfl
      · rfl
    · by_cases h4 : i < 4
      · have : i = 0 ∨ i = 1 ∨ i = 2 ∨ i = 3 := by omega
        rcases this with rfl | rfl | rfl | rfl
        · exact .inl rfl
        · exact .inr rfl
        · cases hi
        · cases hi
      · exfalso
        unfold Gv.lo lost2 at hi
        rw [List.getD_eq_getElem?_getD, List.getElem?_eq_none (by simp; omega)] at hi
        cases hi
set_option maxRecDepth 100000 in
set_option maxHeartbeats 2000000 in
theorem pqAlone_walk (a b : ByteArray) (ha : a.size ≤ maxLen) (hb : b.size ≤ maxLen) (w : World) :
    Calls Try.prog 7 #[.string a, .string b] w fun e w' => e = .returned (.bool true) ∧ Below w.heap.size w w' := by
  unfold maxLen at ha hb
  have hb1 : Below w.heap.size w (w.alloc (.cells #[.string a, .string b] 9)) := (Below.refl _ _).alloc (Nat.le_refl _) _
  have r1 : Strs (w.alloc (.cells #[.string a, .string b] 9)) (.slice (some ⟨w.heap.size, 0, none⟩) 2 2) [a, b] := alloc_row w [.string a, .string b] _ (by simp [maxLen])
  have HE := Lib.hid (encode_any [a, b] _ _ r1)
  unfold EncPost at HE
  have HB1 := Lib.hid hb1
  have hz1 := hb1.size
  have hpq := pqF_two a b
  have Hpq := Lib.hid hpq
  clear hb1 r1 hpq
  by_cases hs : b.size = a.size
  · by_cases h16 : a.size ≤ 16
    · have h0 : Gv.pqF [a, b] = 0 := by rw [Hpq.out, if_pos hs, if_neg (by omega)]
      simp only [h0, if_true] at HE
      obtain ⟨P, hP⟩ : ∃ P, P = Gv.P [a, b] := ⟨_, rfl⟩
      obtain ⟨Q, hQ⟩ : ∃ Q, Q = Gv.Q [a, b] := ⟨_, rfl⟩
      have hal := heal_alone a b hs h16
      rw [← hP, ← hQ] at hal HE
      have Hal := Lib.hid hal
      clear hs h16 h0 hal hP hQ
      go_enter Try.func7, Try.ntmps7
      go_wp2_with fail
      refine HE.out.mono ?_
      rintro e w2 ⟨rfl, hb2⟩
      have HB2 := Lib.hid (HB1.out.trans (hb2.mono hz1))
      have hz2 := HB2.out.size
      have hb3 : Below w2.heap.size w2 (w2.alloc (.cells #[.string ⟨#[]⟩, .string ⟨#[]⟩, .string P, .string Q] 9)) := (Below.refl _ _).alloc (Nat.le_refl _) _
      have hz3 : (w2.alloc (.cells #[.string ⟨#[]⟩, .string ⟨#[]⟩, .string P, .string Q] 9)).heap.size = w2.heap.size + 1 := by simp
      have hb4 : Below (w2.alloc (.cells #[.string ⟨#[]⟩, .string ⟨#[]⟩, .string P, .string Q] 9)).heap.size (w2.alloc (.cells #[.string ⟨#[]⟩, .string ⟨#[]⟩, .string P, .string Q] 9)) ((w2.alloc (.cells #[.string ⟨#[]⟩, .string ⟨#[]⟩, .string P, .string Q] 9)).alloc (.cells #[.bool true, .bool true, .bool false, .bool false] 4)) := (Below.refl _ _).alloc (Nat.le_refl _) _
      have r3 : Strs _ _ [⟨#[]⟩, ⟨#[]⟩, P, Q] := Row.below (enc4 w2 P Q) hb4
      have r4 : BoolR ((w2.alloc (.cells #[.string ⟨#[]⟩, .string ⟨#[]⟩, .string P, .string Q] 9)).alloc (.cells #[.bool true, .bool true, .bool false, .bool false] 4)) (.slice (some ⟨w2.heap.size + 1, 0, none⟩) 4 4) lost2 := by
        have h := alloc_row (w2.alloc (.cells #[.string ⟨#[]⟩, .string ⟨#[]⟩, .string P, .string Q] 9)) [.bool true, .bool true, .bool false, .bool false] 4 (by simp [maxLen])
        rw [hz3] at h; exact h
      have HH := Lib.hid (Heal_any [⟨#[]⟩, ⟨#[]⟩, P, Q] lost2 rfl (by simp) (by simp) _ _ _ r3 r4)
      have HB4 := Lib.hid ((HB2.out.trans (hb3.mono hz2)).trans (hb4.mono (by omega)))
      have hz4 := HB4.out.size
      clear hb2 hb3 hb4 r3 r4 hz3
      go_wp2_with fail
      refine HH.out.mono ?_
      rintro e w5 ⟨h1, _, hb5⟩
      obtain ⟨v5, rfl, hO5⟩ := h1 Hal.out.1
      rw [Hal.out.2] at hO5
      have HB5 := Lib.hid (HB4.out.trans (hb5.mono hz4))
      obtain ⟨g5, o5, c5, rfl, _, _, _, _, hc5, _⟩ := hO5.at0 (by simp)
      have k0 : w5.cell? ⟨g5, o5, none⟩ = some (.string a) := by have := hc5 0 (by simp); simpa using this
      have k1 : w5.cell? ⟨g5, o5 + 1, none⟩ = some (.string b) := by have := hc5 1 (by simp); simpa using this
      have k2 : w5.cell? ⟨g5, o5 + 2, none⟩ = some (.string P) := by have := hc5 2 (by simp); simpa using this
      have k3 : w5.cell? ⟨g5, o5 + 3, none⟩ = some (.string Q) := by have := hc5 3 (by simp); simpa using this
      simp only [List.length_map, List.length_cons, List.length_nil]
      clear h1 hb5 hO5 hc5 HH
      go_wp2_with fail
      go_ret
      exact ⟨rfl, HB5.out⟩
    · have h0 : Gv.pqF [a, b] = 1 := by rw [Hpq.out, if_pos hs, if_pos (by omega)]
      have h0' : ¬ (1 : Int) = 0 := by decide
      simp only [h0, if_neg h0'] at HE
      have t1 : (a.size : Int) = (b.size : Int) := by omega
      have t2 : (16 : Int) < (a.size : Int) := by omega
      have t3 : (16 : Int) < (b.size : Int) := by omega
      clear hs h16 h0 h0'
      go_enter Try.func7, Try.ntmps7
      go_wp2_with fail
      refine HE.out.mono ?_
      rintro e w2 ⟨rfl, hb2⟩
      have HB2 := Lib.hid (HB1.out.trans (hb2.mono hz1))
      clear hb2
      rw [errV_ne (by decide : (1 : Int) ≠ 0)]
      go_wp2_with fail
      all_goals
        go_ret
        exact ⟨rfl, HB2.out⟩
  · have h0 : Gv.pqF [a, b] = 3 := by rw [Hpq.out, if_neg hs]
    have h0' : ¬ (3 : Int) = 0 := by decide
    simp only [h0, if_neg h0'] at HE
    have t1 : ((a.size : Int) == (b.size : Int)) = false := beq_f (by omega)
    have t2 : ¬ (a.size : Int) = (b.size : Int) := by omega
    clear hs h0 h0'
    go_enter Try.func7, Try.ntmps7
    go_wp2_with fail
    refine HE.out.mono ?_
    rintro e w2 ⟨rfl, hb2⟩
    have HB2 := Lib.hid (HB1.out.trans (hb2.mono hz1))
    clear hb2
    rw [errV_ne (by decide : (3 : Int) ≠ 0)]
    go_wp2_with fail
    all_goals
      go_ret
      exact ⟨rfl, HB2.out⟩
end Go.Proofs.Ytbikmodfmckaeaa
