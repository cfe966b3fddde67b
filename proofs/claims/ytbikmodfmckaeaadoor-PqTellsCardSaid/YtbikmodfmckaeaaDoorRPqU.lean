/- The references' healing: plain sums, and Mix at two. · The references' Mix at three blocks. -/
import Derived.Test.YtbikmodfmckaeaaDoorRPqX
import Derived.Test.YtbikmodfmckaeaaDoorPqL
namespace Go.Proofs.YtbikmodfmckaeaaDoor
open Go.ChangeShapes Go.WideShapes Go.ChangeAt Go.RowKit
set_option linter.unusedVariables false
namespace Gv
theorem en_mix2 (a b : ByteArray) (x y : UInt8) {j : Nat} (h : j < a.size) : en (sumS [a, b] (at' [x, y])) j = Gf.mul x (en a j) ^^^ Gf.mul y (en b j) := by
  rw [en_sumS _ _ (show j < size0 [a, b] from h)]
  show (0 ^^^ Gf.mul x (en a j)) ^^^ Gf.mul y (en b j) = _
  rw [Gf.zero_add]
theorem mix_size (a b : ByteArray) (x y : UInt8) : (sumS [a, b] (at' [x, y])).size = a.size := sumS_size _ _
theorem mix_11 (a b : ByteArray) : sumS [a, b] (at' [1, 1]) = plusS a b := sumS_congr (fun i hi => by
  have : i = 0 ∨ i = 1 := by simp at hi; omega
  rcases this with rfl | rfl <;> rfl)
theorem mix_cc (a b : ByteArray) (c : UInt8) : sumS [a, b] (at' [c, c]) = timesS (plusS a b) c := by
  refine block_ext (n := a.size) (mix_size _ _ _ _) (by rw [times_size, plus_size]) (fun j hj => ?_)
  rw [en_mix2 _ _ _ _ hj, en_times _ _ (by rw [plus_size]; exact hj), en_plus _ _ hj]
  exact (Gf.mul_add _ _ _).symm
theorem two_first (s t : ByteArray) (a b c : UInt8) (h : Gf.mul c (a ^^^ b) = 1) : plusS s (sumS [s, t] (at' [Gf.mul a c, c])) = timesS (plusS (timesS s b) t) c := by
  refine block_ext (n := s.size) (plus_size _ _) (by rw [times_size, plus_size, times_size]) (fun j hj => ?_)
  rw [en_plus _ _ hj, en_mix2 _ _ _ _ hj, en_times _ _ (by rw [plus_size, times_size]; exact hj), en_plus _ _ (by rw [times_size]; exact hj), en_times _ _ hj]
  generalize en s j = u
  generalize en t j = v
  have e1 : u = Gf.mul (Gf.mul a c) u ^^^ Gf.mul c (Gf.mul b u) := by
    rw [Gf.mul_comm a c, ← Gf.mul_assoc c b u]
    rw [show Gf.mul (Gf.mul c a) u ^^^ Gf.mul (Gf.mul c b) u = Gf.mul (Gf.mul c a ^^^ Gf.mul c b) u from (Gf.add_mul _ _ _).symm]
    rw [show Gf.mul c a ^^^ Gf.mul c b = Gf.mul c (a ^^^ b) from (Gf.mul_add _ _ _).symm, h, Gf.one_mul]
  have e2 : Gf.mul c (Gf.mul b u ^^^ v) = Gf.mul c (Gf.mul b u) ^^^ Gf.mul c v := Gf.mul_add _ _ _
  rw [e2]
  generalize Gf.mul (Gf.mul a c) u = p at *
  generalize Gf.mul c (Gf.mul b u) = q at *
  generalize Gf.mul c v = r
  rw [e1, Gf.add_assoc, Gf.add_left_comm q p r, ← Gf.add_assoc p p, Gf.add_self, Gf.zero_add]
theorem two_second (s t : ByteArray) (x y : UInt8) : plusS s (plusS s (sumS [s, t] (at' [x, y]))) = sumS [s, t] (at' [x, y]) := by
  refine block_ext (n := s.size) (plus_size _ _) (mix_size _ _ _ _) (fun j hj => ?_)
  rw [en_plus _ _ hj, en_plus _ _ hj, ← Gf.add_assoc, Gf.add_self, Gf.zero_add]
end Gv
def Mix2Post (a b : ByteArray) (x y : UInt8) (w : World) (e : Ending) (w' : World) : Prop := e = .returned (.string (Gv.sumS [a, b] (Gv.at' [x, y]))) ∧ Below w.heap.size w w'
theorem mix2_any (a b : ByteArray) (x y : UInt8) (hs : b.size = a.size) (hn : a.size ≤ 900000) (w : World) :
    Calls Tryd.prog 52 #[.slice (some ⟨w.heap.size, 0, none⟩) 2 2, .slice (some ⟨w.heap.size + 1, 0, none⟩) 2 2] ((w.alloc (.cells #[.string a, .string b] 9)).alloc (.cells #[bv x, bv y] 5)) (Mix2Post a b x y w) := by
  have hb1 : Below w.heap.size w (w.alloc (.cells #[.string a, .string b] 9)) := (Below.refl _ _).alloc (Nat.le_refl _) _
  have hz : (w.alloc (.cells #[.string a, .string b] 9)).heap.size = w.heap.size + 1 := by simp
  have hb2 : Below (w.alloc (.cells #[.string a, .string b] 9)).heap.size (w.alloc (.cells #[.string a, .string b] 9)) ((w.alloc (.cells #[.string a, .string b] 9)).alloc (.cells #[bv x, bv y] 5)) := (Below.refl _ _).alloc (Nat.le_refl _) _
  have r1 : Strs ((w.alloc (.cells #[.string a, .string b] 9)).alloc (.cells #[bv x, bv y] 5)) (.slice (some ⟨w.heap.size, 0, none⟩) 2 2) [a, b] := Row.below (alloc_row w [.string a, .string b] _ (by simp [maxLen])) hb2
  have r2 : RowB ((w.alloc (.cells #[.string a, .string b] 9)).alloc (.cells #[bv x, bv y] 5)) (.slice (some ⟨w.heap.size + 1, 0, none⟩) 2 2) [x, y] := by
    have h := alloc_row (w.alloc (.cells #[.string a, .string b] 9)) [bv x, bv y] 5 (by simp [maxLen])
    rw [hz] at h; exact h
  have hall : ∀ s ∈ [a, b], s.size = size0 [a, b] := by
    intro s hs'; simp at hs'
    rcases hs' with rfl | rfl
    · rfl
    · exact hs
  refine (rmix_any [a, b] [x, y] hall hn (by simp) _ _ _ r1 r2).mono ?_
  rintro e w' ⟨rfl, hb⟩
  exact ⟨rfl, (hb1.trans (hb2.mono (by omega))).trans (hb.mono (by simp; omega))⟩
theorem mix11_any (a b : ByteArray) (hs : b.size = a.size) (hn : a.size ≤ 900000) (w : World) :
    Calls Tryd.prog 52 #[.slice (some ⟨w.heap.size, 0, none⟩) 2 2, .slice (some ⟨w.heap.size + 1, 0, none⟩) 2 2] ((w.alloc (.cells #[.string a, .string b] 9)).alloc (.cells #[.int .u8 1, .int .u8 1] 5)) fun e w' => e = .returned (.string (Gv.plusS a b)) ∧ Below w.heap.size w w' := by
  have h := mix2_any a b 1 1 hs hn w
  unfold Mix2Post at h
  rw [Gv.mix_11] at h
  exact h
theorem mix2n_any (a b : ByteArray) (x y : UInt8) (hs : b.size = a.size) (hn : a.size ≤ 900000) (w : World) (n : Nat) :
    Calls Tryd.prog 52 #[.slice (some ⟨w.heap.size, 0, none⟩) 2 2, .slice (some ⟨w.heap.size + 1, 0, none⟩) 2 2] (((w.alloc (.cells #[.string a, .string b] 9)).drewN n).alloc (.cells #[bv x, bv y] 5)) (Mix2Post a b x y w) := by
  have hb1 : Below w.heap.size w ((w.alloc (.cells #[.string a, .string b] 9)).drewN n) := bdrew ((Below.refl _ _).alloc (Nat.le_refl _) _) n
  have hz : ((w.alloc (.cells #[.string a, .string b] 9)).drewN n).heap.size = w.heap.size + 1 := by simp
  have hb2 : Below ((w.alloc (.cells #[.string a, .string b] 9)).drewN n).heap.size ((w.alloc (.cells #[.string a, .string b] 9)).drewN n) (((w.alloc (.cells #[.string a, .string b] 9)).drewN n).alloc (.cells #[bv x, bv y] 5)) := (Below.refl _ _).alloc (Nat.le_refl _) _
  have r1 : Strs (((w.alloc (.cells #[.string a, .string b] 9)).drewN n).alloc (.cells #[bv x, bv y] 5)) (.slice (some ⟨w.heap.size, 0, none⟩) 2 2) [a, b] := Row.below (Row.below (alloc_row w [.string a, .string b] _ (by simp [maxLen])) (bdrew (Below.refl _ _) n)) hb2
  have r2 : RowB (((w.alloc (.cells #[.string a, .string b] 9)).drewN n).alloc (.cells #[bv x, bv y] 5)) (.slice (some ⟨w.heap.size + 1, 0, none⟩) 2 2) [x, y] := by
    have h := alloc_row ((w.alloc (.cells #[.string a, .string b] 9)).drewN n) [bv x, bv y] 5 (by simp [maxLen])
    rw [hz] at h; exact h
  have hall : ∀ s ∈ [a, b], s.size = size0 [a, b] := by
    intro s hs'; simp at hs'
    rcases hs' with rfl | rfl
    · rfl
    · exact hs
  refine (rmix_any [a, b] [x, y] hall hn (by simp) _ _ _ r1 r2).mono ?_
  rintro e w' ⟨rfl, hb⟩
  exact ⟨rfl, (hb1.trans (hb2.mono (by omega))).trans (hb.mono (by simp; omega))⟩
end Go.Proofs.YtbikmodfmckaeaaDoor
namespace Go.Proofs.YtbikmodfmckaeaaDoor
open Go.ChangeShapes Go.WideShapes Go.ChangeAt Go.RowKit
set_option linter.unusedVariables false
namespace Gv
theorem en_mix3 (a b c : ByteArray) (x y z : UInt8) {j : Nat} (h : j < a.size) : en (sumS [a, b, c] (at' [x, y, z])) j = (Gf.mul x (en a j) ^^^ Gf.mul y (en b j)) ^^^ Gf.mul z (en c j) := by
  rw [en_sumS _ _ (show j < size0 [a, b, c] from h)]
  show ((0 ^^^ Gf.mul x (en a j)) ^^^ Gf.mul y (en b j)) ^^^ Gf.mul z (en c j) = _
  rw [Gf.zero_add]
theorem mix3_c (p a b : ByteArray) (c : UInt8) (h : a.size = p.size) : sumS [p, a, b] (at' [1, c, c]) = plusS p (timesS (plusS a b) c) := by
  refine block_ext (n := p.size) (sumS_size _ _) (plus_size _ _) (fun j hj => ?_)
  rw [en_mix3 _ _ _ _ _ _ hj, en_plus _ _ hj, en_times _ _ (by rw [plus_size, h]; exact hj), en_plus _ _ (by rw [h]; exact hj), Gf.one_mul, Gf.add_assoc]
  congr 1
  exact (Gf.mul_add _ _ _).symm
theorem mix3_1 (p a b : ByteArray) (h : a.size = p.size) : sumS [p, a, b] (at' [1, 1, 1]) = plusS p (plusS a b) := by
  refine block_ext (n := p.size) (sumS_size _ _) (plus_size _ _) (fun j hj => ?_)
  rw [en_mix3 _ _ _ _ _ _ hj, en_plus _ _ hj, en_plus _ _ (by rw [h]; exact hj), Gf.one_mul, Gf.one_mul, Gf.one_mul, Gf.add_assoc]
end Gv
theorem mix3_any (p a b : ByteArray) (x y z : UInt8) (ha : a.size = p.size) (hb : b.size = p.size) (hn : p.size ≤ 900000) (w : World) :
    Calls Tryd.prog 52 #[.slice (some ⟨w.heap.size, 0, none⟩) 3 3, .slice (some ⟨w.heap.size + 1, 0, none⟩) 3 3] ((w.alloc (.cells #[.string p, .string a, .string b] 9)).alloc (.cells #[bv x, bv y, bv z] 5)) fun e w' =>
      e = .returned (.string (Gv.sumS [p, a, b] (Gv.at' [x, y, z]))) ∧ Below w.heap.size w w' := by
  have hb1 : Below w.heap.size w (w.alloc (.cells #[.string p, .string a, .string b] 9)) := (Below.refl _ _).alloc (Nat.le_refl _) _
  have hz : (w.alloc (.cells #[.string p, .string a, .string b] 9)).heap.size = w.heap.size + 1 := by simp
  have hb2 : Below (w.alloc (.cells #[.string p, .string a, .string b] 9)).heap.size (w.alloc (.cells #[.string p, .string a, .string b] 9)) ((w.alloc (.cells #[.string p, .string a, .string b] 9)).alloc (.cells #[bv x, bv y, bv z] 5)) := (Below.refl _ _).alloc (Nat.le_refl _) _
  have r1 : Strs ((w.alloc (.cells #[.string p, .string a, .string b] 9)).alloc (.cells #[bv x, bv y, bv z] 5)) (.slice (some ⟨w.heap.size, 0, none⟩) 3 3) [p, a, b] := Row.below (alloc_row w [.string p, .string a, .string b] _ (by simp [maxLen])) hb2
  have r2 : RowB ((w.alloc (.cells #[.string p, .string a, .string b] 9)).alloc (.cells #[bv x, bv y, bv z] 5)) (.slice (some ⟨w.heap.size + 1, 0, none⟩) 3 3) [x, y, z] := by
    have h := alloc_row (w.alloc (.cells #[.string p, .string a, .string b] 9)) [bv x, bv y, bv z] 5 (by simp [maxLen])
    rw [hz] at h; exact h
  have hall : ∀ s ∈ [p, a, b], s.size = size0 [p, a, b] := by
    intro s hs'; simp at hs'
    rcases hs' with rfl | rfl | rfl
    · rfl
    · exact ha
    · exact hb
  refine (rmix_any [p, a, b] [x, y, z] hall hn (by simp) _ _ _ r1 r2).mono ?_
  rintro e w' ⟨rfl, hb⟩
  exact ⟨rfl, (hb1.trans (hb2.mono (by omega))).trans (hb.mono (by simp; omega))⟩
end Go.Proofs.YtbikmodfmckaeaaDoor
