/- The walk of the references' P and Q. · The references' healing: plain sums, and Mix at two. -/
import Derived.Test.YtcldioneiededaaDoorRPqW
import Derived.Test.YtcldioneiededaaDoorPqL
namespace Go.Proofs.YtcldioneiededaaDoor
open Go.ChangeShapes Go.WideShapes Go.ChangeAt Go.RowKit
set_option linter.unusedVariables false
def RPQRel (w : World) (n gk : Nat) (v4 v5 v6 v7 : Value) (wr : World) : Prop :=
  ∃ k : Nat, k + gk = n ∧ v7 = iv k ∧ v6 = bv (Gf.pow 2 k) ∧ wr.ownsRow w.heap.size 5 1 v4 k ((Gv.tab k (fun _ => 1)).map bv) ∧ wr.ownsRow w.heap.size 5 1 v5 k ((Gv.tab k (fun i => Gf.pow 2 i)).map bv) ∧
    (∀ g, v4.ownBlock = some g → v5.ownBlock ≠ some g) ∧ Below w.heap.size w wr
set_option maxRecDepth 100000 in
set_option maxHeartbeats 2000000 in
theorem rpq_any (ls : List ByteArray) (hall : ∀ s ∈ ls, s.size = size0 ls) (hn : size0 ls ≤ 900000) (hl9 : ls.length ≤ 1000) (v : Value) (w : World) (hv : Strs w v ls) :
    Calls Tryd.prog 63 #[v] w (OfPost ls w) := by
  have HV := Lib.hid hv
  have HAll := Lib.hid hall
  have HN9 := Lib.hid hn
  obtain ⟨p, cap, rfl, hl, _⟩ := hv.get
  obtain ⟨n, hn0⟩ : ∃ m, m = ls.length := ⟨_, rfl⟩
  rw [← hn0] at hl hl9 HV ⊢
  have Hn := Lib.hid hn0
  clear hv hall hn hn0
  go_enter Tryd.func63, Tryd.ntmps63
  go_wp2_with fail
  go_loopg [4, 5, 6, 7] n (fun gk v4 v5 v6 v7 wr => RPQRel w n gk v4 v5 v6 v7 wr)
  case atStart => exact ⟨0, by omega, rfl, rfl, World.ownsRow_nil _ _ _ _, World.ownsRow_nil _ _ _ _, (fun g h => by cases h), Below.refl _ _⟩
  case round =>
    obtain ⟨k, hk, rfl, rfl, hO4, hO5, hap, hB⟩ := hrel
    have Hk := Lib.hid hk
    have HO4 := Lib.hid hO4
    have HO5 := Lib.hid hO5
    have HAp := Lib.hid hap
    have HB := Lib.hid hB
    have hz := hB.size
    clear hk hO4 hO5 hap hB
    by_cases hkn : k < n
    · have hk9 : k + 1 ≤ 1000000 := by omega
      have hu1 := (tab_succ k (fun _ => 1)).symm
      have hu2 := (tab_succ k (fun i => Gf.pow 2 i)).symm
      have hu3 : Gf.mul (Gf.pow 2 k) 2 = Gf.pow 2 (k + 1) := by rw [Gf.mul_comm]; rfl
      have Hu1 := Lib.hid hu1
      have Hu2 := Lib.hid hu2
      have Hu3 := Lib.hid hu3
      obtain ⟨x, hx⟩ : ∃ x, x = Gf.pow 2 k := ⟨_, rfl⟩
      rw [← hx] at Hu2 Hu3
      rw [← hx]
      clear hu1 hu2 hu3 hx
      go_wp2_with (at_builtin; refine app1 w wr (bv 1) 5 50 rfl _ _ rfl w.heap.size Tryd.underlying50 info_byteV rfl _ k _ rfl _ rfl rfl HO4.out rfl hk9 (by decide) hz HB.out ?_)
      intro v8 w8 hown8 hb8 hgr8 hat8
      rw [Hu1.out] at hown8
      have hk8 := Kept.grown hgr8
      have HO8 := Lib.hid hown8
      have HB8 := Lib.hid hb8
      have hz8 := hb8.size
      have HO58 := Lib.hid (Kept.owns HO5.out hk8 (fun g hg e => HAp.out g e.symm hg))
      have HAp8 : Hid (∀ g, v8.ownBlock = some g → u5.ownBlock ≠ some g) := Lib.hid (fun g hg e => by
        rcases hat8 with h | h
        · rw [h] at hg; exact HAp.out g hg e
        · rw [h] at hg
          have h1 := Option.some.inj hg
          have h2 := (HO5.out.lt g e).2
          omega)
      clear hown8 hb8 hgr8 hat8 hk8 HO4 HO5 HAp HB
      go_wp2_with (at_builtin; refine app1 w w8 (bv x) 5 50 rfl _ _ rfl w.heap.size Tryd.underlying50 info_byteV rfl _ k _ rfl _ rfl rfl HO58.out rfl hk9 (by decide) hz8 HB8.out ?_)
      intro v9 w9 hown9 hb9 hgr9 hat9
      rw [Hu2.out] at hown9
      have hk9' := Kept.grown hgr9
      have HO9 := Lib.hid hown9
      have HB9 := Lib.hid hb9
      have hz9 := hb9.size
      have HO49 := Lib.hid (Kept.owns HO8.out hk9' (fun g hg e => HAp8.out g hg e.symm))
      have HAp9 : Hid (∀ g, v8.ownBlock = some g → v9.ownBlock ≠ some g) := Lib.hid (fun g hg e => by
        rcases hat9 with h | h
        · rw [h] at e; exact HAp8.out g hg e
        · rw [h] at e
          have h1 := Option.some.inj e
          have h2 := (HO8.out.lt g hg).2
          omega)
      clear hown9 hb9 hgr9 hat9 hk9' HO8 HO58 HAp8 HB8
      go_wp2_with fail
      refine (rmul_any x 2 _ _ rfl rfl _).mono ?_
      rintro e w' ⟨rfl, n1, rfl⟩
      rw [Hu3.out]
      have hbd : Below w9.heap.size w9 (w9.drewN n1) := bdrew (Below.refl _ _) n1
      have HOa := Lib.hid (owns_below HO49.out hbd)
      have HOb := Lib.hid (owns_below HO9.out hbd)
      have HBc := Lib.hid (HB9.out.trans (hbd.mono hz9))
      clear hbd HO49 HO9 HB9
      go_wp2_with fail
      go_roundg (gk - 1)
      case measure => have := Hk.out; omega
      case rel => exact ⟨k + 1, by have := Hk.out; omega, by go_num, rfl, HOa.out, HOb.out, HAp9.out, HBc.out⟩
    · have hkn' : k = n := by have := Hk.out; omega
      subst hkn'
      have hB4 : OwnB wr w.heap.size u4 (Gv.tab k (fun _ => 1)) := OwnR.of_owns HO4.out
      have hB5 : OwnB wr w.heap.size u5 (Gv.tab k (fun i => Gf.pow 2 i)) := OwnR.of_owns HO5.out
      have HP := Lib.hid (rmix_any ls (Gv.tab k (fun _ => 1)) HAll.out HN9.out (by rw [Gv.tab_len, Hn.out]; exact Nat.le_refl _) _ u4 wr (HV.out.below HB.out) (OwnB.row hB4))
      have heP : Gv.sumS ls (Gv.at' (Gv.tab k (fun _ => 1))) = Gv.P ls := Gv.sumS_congr (fun i hi => by unfold Gv.at'; rw [Gv.tab_at _ (by rw [Hn.out]; exact hi)])
      have heQ : Gv.sumS ls (Gv.at' (Gv.tab k (fun i => Gf.pow 2 i))) = Gv.Q ls := Gv.sumS_congr (fun i hi => by unfold Gv.at'; rw [Gv.tab_at _ (by rw [Hn.out]; exact hi)])
      unfold CSumPost at HP
      rw [heP] at HP
      have HeQ := Lib.hid heQ
      have HB5 := Lib.hid hB5
      obtain ⟨p4, n4, c4, rfl⟩ := hB4.slice
      obtain ⟨p5, n5, c5, rfl⟩ := hB5.slice
      clear hB4 hB5 heP heQ HO4 HO5
      go_wp2_with fail
      refine HP.out.mono ?_
      rintro e w1 ⟨rfl, hb1⟩
      have HQ := Lib.hid (rmix_any ls (Gv.tab k (fun i => Gf.pow 2 i)) HAll.out HN9.out (by rw [Gv.tab_len, Hn.out]; exact Nat.le_refl _) _ _ w1 ((HV.out.below HB.out).below hb1) (OwnB.row (OwnR.below HB5.out hb1)))
      unfold CSumPost at HQ
      rw [HeQ.out] at HQ
      have HB1 := Lib.hid (HB.out.trans (hb1.mono hz))
      have hz1 := HB1.out.size
      clear hb1 HP
      go_wp2_with fail
      refine HQ.out.mono ?_
      rintro e w2 ⟨rfl, hb2⟩
      have HB2 := Lib.hid (HB1.out.trans (hb2.mono hz1))
      clear hb2 HQ
      go_wp2_with fail
      go_ret2
      exact ⟨rfl, HB2.out⟩
end Go.Proofs.YtcldioneiededaaDoor
namespace Go.Proofs.YtcldioneiededaaDoor
open Go.ChangeShapes Go.WideShapes Go.ChangeAt Go.RowKit
set_option linter.unusedVariables false
namespace Gv
theorem en_mix2 (a b : ByteArray) (x y : UInt8) {j : Nat} (h : j < a.size) : en (sumS [a, b] (at' [x, y])) j = Gf.mul x (en a j) ^^^ Gf.mul y (en b j) := by
  rw [en_sumS _ _ (show j < size0 [a, b] from h)]
  show (0 ^^^ Gf.mul x (en a j)) ^^^ Gf.mul y (en b j) = _
  rw [Gf.zero_add]
theorem mix_size (a b : ByteArray) (x y : UInt8) : (sumS [a, b] (at' [x, y])).size = a.size := sumS_size _ _
theorem mix_11 (a b : ByteArray) : sumS [a, b] (at' [1, 1]) = plusS a b := sumS_congr (fun i hi => by
  have : i = 0 ∨ i = 1 := by simp at hi; omega
  rcases this with rfl | rfl <;> rfl)
theorem mix_cc (a b : ByteArray) (c : UInt8) : sumS [a, b] (at' [c, c]) = timesS (plusS a b) c := by
  refine block_ext (n := a.size) (mix_size _ _ _ _) (by rw [times_size, plus_size]) (fun j hj => ?_)
  rw [en_mix2 _ _ _ _ hj, en_times _ _ (by rw [plus_size]; exact hj), en_plus _ _ hj]
  exact (Gf.mul_add _ _ _).symm
theorem two_first (s t : ByteArray) (a b c : UInt8) (h : Gf.mul c (a ^^^ b) = 1) : plusS s (sumS [s, t] (at' [Gf.mul a c, c])) = timesS (plusS (timesS s b) t) c := by
  refine block_ext (n := s.size) (plus_size _ _) (by rw [times_size, plus_size, times_size]) (fun j hj => ?_)
  rw [en_plus _ _ hj, en_mix2 _ _ _ _ hj, en_times _ _ (by rw [plus_size, times_size]; exact hj), en_plus _ _ (by rw [times_size]; exact hj), en_times _ _ hj]
  generalize en s j = u
  generalize en t j = v
  have e1 : u = Gf.mul (Gf.mul a c) u ^^^ Gf.mul c (Gf.mul b u) := by
    rw [Gf.mul_comm a c, ← Gf.mul_assoc c b u]
    rw [show Gf.mul (Gf.mul c a) u ^^^ Gf.mul (Gf.mul c b) u = Gf.mul (Gf.mul c a ^^^ Gf.mul c b) u from (Gf.add_mul _ _ _).symm]
    rw [show Gf.mul c a ^^^ Gf.mul c b = Gf.mul c (a ^^^ b) from (Gf.mul_add _ _ _).symm, h, Gf.one_mul]
  have e2 : Gf.mul c (Gf.mul b u ^^^ v) = Gf.mul c (Gf.mul b u) ^^^ Gf.mul c v := Gf.mul_add _ _ _
  rw [e2]
  generalize Gf.mul (Gf.mul a c) u = p at *
  generalize Gf.mul c (Gf.mul b u) = q at *
  generalize Gf.mul c v = r
  rw [e1, Gf.add_assoc, Gf.add_left_comm q p r, ← Gf.add_assoc p p, Gf.add_self, Gf.zero_add]
theorem two_second (s t : ByteArray) (x y : UInt8) : plusS s (plusS s (sumS [s, t] (at' [x, y]))) = sumS [s, t] (at' [x, y]) := by
  refine block_ext (n := s.size) (plus_size _ _) (mix_size _ _ _ _) (fun j hj => ?_)
  rw [en_plus _ _ hj, en_plus _ _ hj, ← Gf.add_assoc, Gf.add_self, Gf.zero_add]
end Gv
def Mix2Post (a b : ByteArray) (x y : UInt8) (w : World) (e : Ending) (w' : World) : Prop := e = .returned (.string (Gv.sumS [a, b] (Gv.at' [x, y]))) ∧ Below w.heap.size w w'
theorem mix2_any (a b : ByteArray) (x y : UInt8) (hs : b.size = a.size) (hn : a.size ≤ 900000) (w : World) :
    Calls Tryd.prog 86 #[.slice (some ⟨w.heap.size, 0, none⟩) 2 2, .slice (some ⟨w.heap.size + 1, 0, none⟩) 2 2] ((w.alloc (.cells #[.string a, .string b] 9)).alloc (.cells #[bv x, bv y] 5)) (Mix2Post a b x y w) := by
  have hb1 : Below w.heap.size w (w.alloc (.cells #[.string a, .string b] 9)) := (Below.refl _ _).alloc (Nat.le_refl _) _
  have hz : (w.alloc (.cells #[.string a, .string b] 9)).heap.size = w.heap.size + 1 := by simp
  have hb2 : Below (w.alloc (.cells #[.string a, .string b] 9)).heap.size (w.alloc (.cells #[.string a, .string b] 9)) ((w.alloc (.cells #[.string a, .string b] 9)).alloc (.cells #[bv x, bv y] 5)) := (Below.refl _ _).alloc (Nat.le_refl _) _
  have r1 : Strs ((w.alloc (.cells #[.string a, .string b] 9)).alloc (.cells #[bv x, bv y] 5)) (.slice (some ⟨w.heap.size, 0, none⟩) 2 2) [a, b] := Row.below (alloc_row w [.string a, .string b] _ (by simp [maxLen])) hb2
  have r2 : RowB ((w.alloc (.cells #[.string a, .string b] 9)).alloc (.cells #[bv x, bv y] 5)) (.slice (some ⟨w.heap.size + 1, 0, none⟩) 2 2) [x, y] := by
    have h := alloc_row (w.alloc (.cells #[.string a, .string b] 9)) [bv x, bv y] 5 (by simp [maxLen])
    rw [hz] at h; exact h
  have hall : ∀ s ∈ [a, b], s.size = size0 [a, b] := by
    intro s hs'; simp at hs'
    rcases hs' with rfl | rfl
    · rfl
    · exact hs
  refine (rmix_any [a, b] [x, y] hall hn (by simp) _ _ _ r1 r2).mono ?_
  rintro e w' ⟨rfl, hb⟩
  exact ⟨rfl, (hb1.trans (hb2.mono (by omega))).trans (hb.mono (by simp; omega))⟩
theorem mix11_any (a b : ByteArray) (hs : b.size = a.size) (hn : a.size ≤ 900000) (w : World) :
    Calls Tryd.prog 86 #[.slice (some ⟨w.heap.size, 0, none⟩) 2 2, .slice (some ⟨w.heap.size + 1, 0, none⟩) 2 2] ((w.alloc (.cells #[.string a, .string b] 9)).alloc (.cells #[.int .u8 1, .int .u8 1] 5)) fun e w' => e = .returned (.string (Gv.plusS a b)) ∧ Below w.heap.size w w' := by
  have h := mix2_any a b 1 1 hs hn w
  unfold Mix2Post at h
  rw [Gv.mix_11] at h
  exact h
theorem mix2n_any (a b : ByteArray) (x y : UInt8) (hs : b.size = a.size) (hn : a.size ≤ 900000) (w : World) (n : Nat) :
    Calls Tryd.prog 86 #[.slice (some ⟨w.heap.size, 0, none⟩) 2 2, .slice (some ⟨w.heap.size + 1, 0, none⟩) 2 2] (((w.alloc (.cells #[.string a, .string b] 9)).drewN n).alloc (.cells #[bv x, bv y] 5)) (Mix2Post a b x y w) := by
  have hb1 : Below w.heap.size w ((w.alloc (.cells #[.string a, .string b] 9)).drewN n) := bdrew ((Below.refl _ _).alloc (Nat.le_refl _) _) n
  have hz : ((w.alloc (.cells #[.string a, .string b] 9)).drewN n).heap.size = w.heap.size + 1 := by simp
  have hb2 : Below ((w.alloc (.cells #[.string a, .string b] 9)).drewN n).heap.size ((w.alloc (.cells #[.string a, .string b] 9)).drewN n) (((w.alloc (.cells #[.string a, .string b] 9)).drewN n).alloc (.cells #[bv x, bv y] 5)) := (Below.refl _ _).alloc (Nat.le_refl _) _
  have r1 : Strs (((w.alloc (.cells #[.string a, .string b] 9)).drewN n).alloc (.cells #[bv x, bv y] 5)) (.slice (some ⟨w.heap.size, 0, none⟩) 2 2) [a, b] := Row.below (Row.below (alloc_row w [.string a, .string b] _ (by simp [maxLen])) (bdrew (Below.refl _ _) n)) hb2
  have r2 : RowB (((w.alloc (.cells #[.string a, .string b] 9)).drewN n).alloc (.cells #[bv x, bv y] 5)) (.slice (some ⟨w.heap.size + 1, 0, none⟩) 2 2) [x, y] := by
    have h := alloc_row ((w.alloc (.cells #[.string a, .string b] 9)).drewN n) [bv x, bv y] 5 (by simp [maxLen])
    rw [hz] at h; exact h
  have hall : ∀ s ∈ [a, b], s.size = size0 [a, b] := by
    intro s hs'; simp at hs'
    rcases hs' with rfl | rfl
    · rfl
    · exact hs
  refine (rmix_any [a, b] [x, y] hall hn (by simp) _ _ _ r1 r2).mono ?_
  rintro e w' ⟨rfl, hb⟩
  exact ⟨rfl, (hb1.trans (hb2.mono (by omega))).trans (hb.mono (by simp; omega))⟩
end Go.Proofs.YtcldioneiededaaDoor
