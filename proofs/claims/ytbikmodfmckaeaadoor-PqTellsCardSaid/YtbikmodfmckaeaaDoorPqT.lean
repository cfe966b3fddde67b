/- pq.Heal, pq.Locate, pq.Delta for all arguments. -/
import Derived.Test.YtbikmodfmckaeaaDoorPqD
import Derived.BigQuiet
namespace Go.Proofs.YtbikmodfmckaeaaDoor
open Go.ChangeShapes Go.WideShapes Go.ChangeAt Go.RowKit
set_option linter.unusedVariables false
theorem many_len {n : Nat} : manyB (n : Int) = true ↔ 3 ≤ n ∧ n ≤ 12 := by
  unfold manyB
  constructor
  · intro h; simp at h; omega
  · intro h; rw [dec_t (by omega), dec_t (by omega)]; rfl
theorem heal_tot (ps : List ByteArray) (ls : List Bool) (v vl : Value) (w : World) (hv : Strs w v ps) (hl : BoolR w vl ls) :
    Calls Tryd.prog 49 #[v, vl] w (HealQ ps ls w) := by
  cases hb : manyB (ps.length : Int) with
  | false =>
    obtain ⟨p, cap, rfl, _⟩ := hv.get
    have hf : Gv.healF ps ls = 1 := by unfold Gv.healF; rw [hb, if_pos rfl]
    have HM := Lib.hid (many_any (ps.length : Int) w)
    rw [hb] at HM
    have Hf := Lib.hid hf
    generalize ps.length = m at *
    clear hf hb hv
    go_enter Tryd.func49, Tryd.ntmps49
    go_wp2_with fail
    refine HM.out.mono ?_
    rintro e w' ⟨rfl, rfl⟩
    go_wp2_with fail
    go_ret2
    exact ⟨fun h => absurd (Hf.out.symm.trans h) (by decide), fun _ => by rw [Hf.out]; rfl, Below.refl _ _⟩
  | true =>
    have h12 := many_len.1 hb
    by_cases hll : ls.length = ps.length
    · exact Heal_any ps ls hll h12.1 h12.2 v vl w hv hl
    · obtain ⟨p, cap, rfl, _⟩ := hv.get
      obtain ⟨pl, cl, rfl, _⟩ := hl
      have hf : Gv.healF ps ls = 3 := by unfold Gv.healF; rw [hb, if_neg (by decide), if_pos hll]
      have HM := Lib.hid (many_any (ps.length : Int) w)
      rw [hb] at HM
      have Hf := Lib.hid hf
      rw [List.length_map]
      have t1 : ((ls.length : Int) != (ps.length : Int)) = true := bne_t (by omega)
      generalize ps.length = m at *
      generalize ls.length = n at *
      clear hf hb hv hll h12
      go_enter Tryd.func49, Tryd.ntmps49
      go_wp2_with fail
      refine HM.out.mono ?_
      rintro e w' ⟨rfl, rfl⟩
      go_wp2_with fail
      go_ret2
      exact ⟨fun h => absurd (Hf.out.symm.trans h) (by decide), fun _ => by rw [Hf.out]; rfl, Below.refl _ _⟩
def locT (ps : List ByteArray) : Int × Int := if manyB ps.length = false then (0, 1) else if blkF ps ≠ 0 then (0, blkF ps) else Gv.locate ps
theorem locate_tot (ps : List ByteArray) (v : Value) (w : World) (hv : Strs w v ps) :
    Calls Tryd.prog 51 #[v] w fun e w' => e = .returned (.tuple #[iv (locT ps).1, errV (locT ps).2]) ∧ Below w.heap.size w w' := by
  cases hb : manyB (ps.length : Int) with
  | false =>
    obtain ⟨p, cap, rfl, _⟩ := hv.get
    have hf : locT ps = (0, 1) := by unfold locT; rw [hb, if_pos rfl]
    have HM := Lib.hid (many_any (ps.length : Int) w)
    rw [hb] at HM
    have Hf := Lib.hid hf
    generalize ps.length = m at *
    clear hf hb hv
    go_enter Tryd.func51, Tryd.ntmps51
    go_wp2_with fail
    refine HM.out.mono ?_
    rintro e w' ⟨rfl, rfl⟩
    go_wp2_with fail
    go_ret2
    exact ⟨by rw [Hf.out]; rfl, Below.refl _ _⟩
  | true =>
    have h12 := many_len.1 hb
    by_cases h0 : blkF ps = 0
    · have hz := blkF_zero h0
      have hf : locT ps = Gv.locate ps := by unfold locT; rw [hb, if_neg (by decide), if_neg (by rw [h0]; simp)]
      rw [hf]
      exact locate_ok ps (size0 ps) h12.1 h12.2 hz.1 hz.2 v w hv
    · have HB := Lib.hid (blocks_any ps v w hv)
      obtain ⟨p, cap, rfl, _⟩ := hv.get
      have hf : locT ps = (0, blkF ps) := by unfold locT; rw [hb, if_neg (by decide), if_pos h0]
      have HM := Lib.hid (many_any (ps.length : Int) w)
      rw [hb] at HM
      have Hf := Lib.hid hf
      obtain ⟨f, hff⟩ : ∃ f, f = blkF ps := ⟨_, rfl⟩
      rw [← hff] at h0 HB Hf
      rw [errV_ne h0] at HB
      have He := Lib.hid (errV_ne h0)
      generalize ps.length = m at *
      clear hf hb hv h12 h0 hff
      go_enter Tryd.func51, Tryd.ntmps51
      go_wp2_with fail
      refine HM.out.mono ?_
      rintro e w' ⟨rfl, rfl⟩
      go_wp2_with fail
      refine HB.out.mono ?_
      rintro e w' ⟨he, rfl⟩
      obtain rfl : e = .returned (ev f) := he
      go_wp2_with fail
      go_ret2
      exact ⟨by rw [Hf.out, He.out]; rfl, Below.refl _ _⟩
def dltF (i : Int) (was now p q : ByteArray) : Int := if i < 0 ∨ 9 < i then 1 else blkF [was, now, p, q]
def DltPost (i : Int) (was now p q : ByteArray) (w : World) (e : Ending) (w' : World) : Prop :=
  (if dltF i was now p q = 0 then e = .returned (.tuple #[.string (Gv.plusS p (Gv.plusS was now)), .string (Gv.plusS q (Gv.timesS (Gv.plusS was now) (Gf.pow 2 i.toNat))), .nilIface]) else e = .returned (.tuple #[.string ⟨#[]⟩, .string ⟨#[]⟩, errV (dltF i was now p q)])) ∧ Below w.heap.size w w'
theorem delta_tot (i : Int) (was now p q : ByteArray) (w : World) :
    Calls Tryd.prog 54 #[iv i, .string was, .string now, .string p, .string q] w (DltPost i was now p q w) := by
  by_cases hi : i < 0 ∨ 9 < i
  · have hf : dltF i was now p q = 1 := if_pos hi
    have Hf := Lib.hid hf
    clear hf
    by_cases h1 : i < 0
    · clear hi
      go_enter Tryd.func54, Tryd.ntmps54
      go_wp2_with fail
      go_ret3
      exact ⟨by rw [Hf.out, if_neg (by decide)]; rfl, Below.refl _ _⟩
    · have h2 : 9 < i := by omega
      clear hi
      go_enter Tryd.func54, Tryd.ntmps54
      go_wp2_with fail
      go_ret3
      exact ⟨by rw [Hf.out, if_neg (by decide)]; rfl, Below.refl _ _⟩
  · have hf : dltF i was now p q = blkF [was, now, p, q] := if_neg hi
    obtain ⟨k, rfl⟩ : ∃ k : Nat, i = k := ⟨i.toNat, by omega⟩
    have hk : k ≤ 9 := by omega
    by_cases h0 : blkF [was, now, p, q] = 0
    · have hz := blkF_zero h0
      refine (delta_ok k was.size hk was now p q rfl (hz.1 now (by simp)) (hz.1 p (by simp)) (hz.1 q (by simp)) hz.2 w).mono ?_
      rintro e w' ⟨rfl, hb⟩
      exact ⟨by rw [hf, if_pos h0]; rfl, hb⟩
    · have hb0 : Below w.heap.size w (w.alloc (.cells #[.string was, .string now, .string p, .string q] 9)) := (Below.refl _ _).alloc (Nat.le_refl _) _
      have r0 : Strs (w.alloc (.cells #[.string was, .string now, .string p, .string q] 9)) (.slice (some ⟨w.heap.size, 0, none⟩) 4 4) [was, now, p, q] := alloc_row w [.string was, .string now, .string p, .string q] _ (by simp [maxLen])
      have HBl := Lib.hid (blocks_any _ _ _ r0)
      obtain ⟨f, hff⟩ : ∃ f, f = blkF [was, now, p, q] := ⟨_, rfl⟩
      rw [← hff] at h0 HBl hf
      rw [errV_ne h0] at HBl
      have He := Lib.hid (errV_ne h0)
      have Hf := Lib.hid hf
      have H0 := Lib.hid h0
      have HB0 := Lib.hid hb0
      have t0 : decide ((k : Int) < 0) = false := dec_f (by omega)
      have t1 : (k : Int) ≤ 9 := by omega
      clear hb0 r0 hf hff h0 hi
      go_enter Tryd.func54, Tryd.ntmps54
      go_wp2_with fail
      refine HBl.out.mono ?_
      rintro e w' ⟨he, rfl⟩
      obtain rfl : e = .returned (ev f) := he
      go_wp2_with fail
      go_ret3
      exact ⟨by rw [Hf.out, if_neg H0.out, He.out]; rfl, HB0.out⟩
end Go.Proofs.YtbikmodfmckaeaaDoor
