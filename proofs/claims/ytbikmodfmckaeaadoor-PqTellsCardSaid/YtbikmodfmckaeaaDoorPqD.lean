/- The walk of pq.Delta (blocks of one length); plain facts for the law PqHeals. -/
import Derived.Test.YtbikmodfmckaeaaDoorPqK
namespace Go.Proofs.YtbikmodfmckaeaaDoor
open Go.ChangeShapes Go.WideShapes Go.ChangeAt Go.RowKit
set_option linter.unusedVariables false
theorem blk_same {l : List ByteArray} {n : Nat} (h : ∀ s ∈ l, s.size = n) (h16 : n ≤ 16) : blkF l = 0 := by
  cases l with
  | nil => rfl
  | cons a t =>
    rw [blkF_good (s0 := a) rfl (fun j s hs => by rw [h s (List.mem_of_getElem? hs), h a List.mem_cons_self]), if_neg (by rw [h a List.mem_cons_self]; omega)]
set_option maxHeartbeats 1000000 in
theorem delta_ok (i n : Nat) (hi : i ≤ 9) (was now p q : ByteArray) (h1 : was.size = n) (h2 : now.size = n) (h3 : p.size = n) (h4 : q.size = n) (h16 : n ≤ 16) (w : World) :
    Calls Tryd.prog 54 #[iv i, .string was, .string now, .string p, .string q] w fun e w' =>
      e = .returned (.tuple #[.string (Gv.plusS p (Gv.plusS was now)), .string (Gv.plusS q (Gv.timesS (Gv.plusS was now) (Gf.pow 2 i))), .nilIface]) ∧ Below w.heap.size w w' := by
  have hb0 : Below w.heap.size w (w.alloc (.cells #[.string was, .string now, .string p, .string q] 9)) := (Below.refl _ _).alloc (Nat.le_refl _) _
  have r0 : Strs (w.alloc (.cells #[.string was, .string now, .string p, .string q] 9)) (.slice (some ⟨w.heap.size, 0, none⟩) 4 4) [was, now, p, q] := alloc_row w [.string was, .string now, .string p, .string q] _ (by simp [maxLen])
  have HBl := Lib.hid (blocks_any _ _ _ r0)
  rw [blk_same (n := n) (by intro s hs; simp at hs; rcases hs with rfl | rfl | rfl | rfl <;> assumption) h16] at HBl
  have HB0 := Lib.hid hb0
  have hz0 := hb0.size
  have HP0 := Lib.hid (plus_any was now (by omega) (by omega) (w.alloc (.cells #[.string was, .string now, .string p, .string q] 9)))
  have hds : (Gv.plusS was now).size = n := by rw [Gv.plus_size, h1]
  obtain ⟨d, hd⟩ : ∃ d, d = Gv.plusS was now := ⟨_, rfl⟩
  rw [← hd] at hds HP0 ⊢
  have t0 : decide ((i : Int) < 0) = false := dec_f (by omega)
  have t1 : (i : Int) ≤ 9 := by omega
  clear hb0 r0 hd
  go_enter Tryd.func54, Tryd.ntmps54
  go_wp2_with fail
  refine HBl.out.mono ?_
  rintro e w' ⟨he, rfl⟩
  obtain rfl : e = .returned .nilIface := he
  go_wp2_with fail
  refine HP0.out.mono ?_
  rintro e w1 ⟨rfl, hb1⟩
  have HB1 := Lib.hid (HB0.out.trans (hb1.mono hz0))
  have hz1 := HB1.out.size
  have HP1 := Lib.hid (plus_any p d (by omega) (by omega) w1)
  clear hb1 HP0 HBl HB0
  go_wp2_with fail
  refine HP1.out.mono ?_
  rintro e w2 ⟨rfl, hb2⟩
  have HB2 := Lib.hid (HB1.out.trans (hb2.mono hz1))
  have hz2 := HB2.out.size
  clear hb2 HP1 HB1
  go_wp2_with fail
  refine (power_any 2 i _ _ rfl rfl (by omega) w2).mono ?_
  rintro e w' ⟨rfl, rfl⟩
  have HT2 := Lib.hid (times_any d (Gf.pow 2 i) (by omega) w2)
  go_wp2_with fail
  refine HT2.out.mono ?_
  rintro e w3 ⟨rfl, hb3⟩
  have HB3 := Lib.hid (HB2.out.trans (hb3.mono hz2))
  have hz3 := HB3.out.size
  have hts : (Gv.timesS d (Gf.pow 2 i)).size = n := by rw [Gv.times_size, hds]
  have HP3 := Lib.hid (plus_any q (Gv.timesS d (Gf.pow 2 i)) (by omega) (by omega) w3)
  clear hb3 HT2 HB2
  go_wp2_with fail
  refine HP3.out.mono ?_
  rintro e w4 ⟨rfl, hb4⟩
  have HB4 := Lib.hid (HB3.out.trans (hb4.mono hz3))
  clear hb4 HP3 HB3
  go_wp2_with fail
  go_ret3
  exact ⟨rfl, HB4.out⟩
namespace Gv
theorem gone2 (m x y k : Nat) : (goneL (marks2 m x y) k).length ≤ 2 := by
  have hnd := gone_nodup (marks2 m x y) k
  have hm : ∀ j ∈ goneL (marks2 m x y) k, j = x ∨ j = y := fun j hj => (marks2_at.1 (gone_mem.1 hj).2).2
  generalize goneL (marks2 m x y) k = g at *
  match g, hnd, hm with
  | [], _, _ => simp
  | [a], _, _ => simp
  | [a, b], _, _ => simp
  | a :: b :: c :: t, hnd, hm =>
    exfalso
    have ha := hm a (by simp)
    have hb := hm b (by simp)
    have hc := hm c (by simp)
    simp at hnd
    omega
theorem have_conv {ps : List ByteArray} {ls : List Bool} {s : ByteArray} : ∀ m, s ∈ have' ps ls m → ∃ q, q < m ∧ lo ls q = false ∧ s = ps.getD q ⟨#[]⟩
  | 0, h => by cases h
  | m + 1, h => by
    unfold have' at h
    by_cases e : lo ls m = true
    · rw [if_pos e] at h
      obtain ⟨q, h1, h2, h3⟩ := have_conv m h
      exact ⟨q, by omega, h2, h3⟩
    · rw [if_neg e] at h
      rcases List.mem_append.1 h with h | h
      · obtain ⟨q, h1, h2, h3⟩ := have_conv m h
        exact ⟨q, by omega, h2, h3⟩
      · exact ⟨m, by omega, by simpa using e, by simpa using h⟩
/-- two lost, whatever stands there -/
theorem torn_heal {n k x y : Nat} {c ps : List ByteArray} (h : Cw n k c) (hk : 1 ≤ k) (hk10 : k ≤ 10) (h16 : n ≤ 16) (hl : ps.length = k + 2) (hp : ∀ i, i < k + 2 → i ≠ x → i ≠ y → ps.getD i ⟨#[]⟩ = c.getD i ⟨#[]⟩) :
    healF ps (marks2 (k + 2) x y) = 0 ∧ Gv.heal ps (marks2 (k + 2) x y) = c := by
  refine ⟨?_, h.heal (by omega) (by omega) hl hp⟩
  have hml : (marks2 (k + 2) x y).length = k + 2 := by unfold marks2; simp
  have hmany : manyB (ps.length : Int) = true := by unfold manyB; rw [hl, dec_t (by omega), dec_t (by omega)]; rfl
  have h1 := have_len ps (marks2 (k + 2) x y) (k + 2)
  have h2 := gone2 (k + 2) x y (k + 2)
  unfold healF
  rw [hmany, if_neg (by decide), if_neg (by rw [hml, hl]; simp), hl, if_neg (by omega)]
  refine blk_same (n := n) (fun s hs => ?_) h16
  obtain ⟨q, hq, h0, rfl⟩ := have_conv _ hs
  have hxy : ¬ (q = x ∨ q = y) := fun h => by rw [marks2_at.2 ⟨by omega, h⟩] at h0; cases h0
  rw [hp q hq (fun e => hxy (.inl e)) (fun e => hxy (.inr e))]
  exact h.sz (by omega) _ (getD_mem (by rw [h.len]; exact hq))
theorem marks_set {n x y : Nat} (hx : x < n) (hy : y < n) : ((List.replicate n false).set x true).set y true = marks2 n x y := by
  apply List.ext_getElem?
  intro i
  unfold marks2
  rw [List.getElem?_set, List.getElem?_set, List.length_set, List.length_replicate, List.getElem?_map]
  by_cases hi : i < n
  · rw [List.getElem?_range hi]
    by_cases e1 : y = i
    · subst e1; rw [if_pos rfl, if_pos hy]; simp
    · rw [if_neg e1]
      have e1' : ¬ i = y := fun h => e1 h.symm
      by_cases e2 : x = i
      · subst e2; rw [if_pos rfl, if_pos hx]; simp
      · have e2' : ¬ i = x := fun h => e2 h.symm
        rw [if_neg e2, List.getElem?_replicate, if_pos hi]; simp [e1', e2']
  · rw [if_neg (by omega), if_neg (by omega), List.getElem?_eq_none (by simp; omega), List.getElem?_eq_none (by simp; omega)]; rfl
theorem torn_two {c : List ByteArray} {x y : Nat} (hx : x < c.length) (hy : y < c.length) (junk now : ByteArray) : ((((c.set x junk).set y junk).set y (c.getD y ⟨#[]⟩)).set x now) = c.set x now := by
  refine list_ext (by simp) (fun i hi => ?_)
  simp only [List.length_set] at hi
  rw [set_getD (by simp; exact hx), set_getD (by simp; exact hy), set_getD (by simp; exact hy), set_getD (by exact hx), set_getD hx]
  by_cases e1 : i = x
  · rw [if_pos e1, if_pos e1]
  · rw [if_neg e1, if_neg e1]
    by_cases e2 : i = y
    · rw [if_pos e2, e2, if_neg (fun h => e1 (e2.trans h))]
    · rw [if_neg e2, if_neg e2, if_neg e1]
theorem locate_set {n k x : Nat} {c : List ByteArray} {now : ByteArray} (h : Cw n k c) (hk : 1 ≤ k) (hk10 : k ≤ 10) (hx : x < k + 2) (hn : now.size = n) : locate (c.set x now) = if now = c.getD x ⟨#[]⟩ then (-1, 0) else ((x : Int), 0) := by
  have hxc : x < c.length := by rw [h.len]; exact hx
  by_cases e : now = c.getD x ⟨#[]⟩
  · rw [if_pos e]
    have he : c.set x now = c := list_ext (by simp) (fun i hi => by
      rw [List.length_set] at hi
      rw [set_getD hxc]
      by_cases e1 : i = x
      · rw [if_pos e1, e1, e]
      · rw [if_neg e1])
    rw [he]; exact locate_clean h
  · rw [if_neg e]
    refine locate_one h (by omega) (by omega) (by rw [List.length_set, h.len]) (fun s hs => ?_) hx (fun j hj hne => by rw [set_getD hxc, if_neg hne]) (by rw [set_getD hxc, if_pos rfl]; exact e)
    rcases List.mem_or_eq_of_mem_set hs with h' | h'
    · exact h.sz (by omega) s h'
    · rw [h']; exact hn
end Gv
end Go.Proofs.YtbikmodfmckaeaaDoor
