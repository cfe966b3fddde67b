/- The walk of the law DiskBlank: it returns true. -/
import Derived.Test.YtangcjffiooapaaDoorDiskY
import Derived.Test.YtangcjffiooapaaDoorSame
namespace Go.Proofs.YtangcjffiooapaaDoor
open Go.ChangeShapes Go.WideShapes Go.ChangeAt Go.RowKit
set_option linter.unusedVariables false
namespace Dk
theorem blank_row {d : D} {i : Nat} (hi : i < d.many) (hl : i < d.rows.length) : (d.blank.rows.getD i ⟨#[]⟩) = noughts d.size := by
  unfold D.blank
  rw [List.getD_eq_getElem?_getD]
  show ((fresh d.many d.size d.rows)[i]?).getD _ = _
  rw [fresh_at hl, if_pos hi]; rfl
theorem made_ready {m z r : Nat} (h : r < m) : (made m z).ready r = 0 := by
  unfold D.ready made D.blank
  rw [if_neg Bool.false_ne_true, if_neg]
  show ¬ ((r : Int) < 0 ∨ (m : Int) ≤ r); omega
theorem made_no {m z : Nat} {row : Int} (h : row < 0 ∨ (m : Int) ≤ row) : (made m z).ready row = 1 := by
  unfold D.ready made D.blank
  rw [if_neg Bool.false_ne_true, if_pos]
  exact h
theorem noughts2 : noughts 2 = ⟨#[0, 0]⟩ := rfl
end Dk
theorem toList_eq {a b : ByteArray} (h : a = b) : (a.toList == b.toList) = true := by rw [h]; simp
set_option maxRecDepth 100000 in
theorem diskBlank_out (m : Nat) (row : Int) (s : ByteArray) (h1 : 1 ≤ m) (h2 : m ≤ 20) (hs : s.size ≤ maxLen) (hr : (Lit.int .i64 row).wf = true) (hx : s.size = 2) (hrow : row < 0 ∨ 0 ≤ row ∧ (m : Int) ≤ row) (w : World) (hg : Handle w) :
    Calls Tryd.prog 9 #[iv m, iv row, .string s] w fun e w' => e = .returned (.bool true) ∧ Below w.heap.size w w' := by
  have Hg := Lib.hid hg
  have Hr := Lib.hid hr
  have hd : ((s.size : Int) != 2) = false := bne_f (by omega)
  have hrd := Dk.made_no (m := m) (z := 2) (row := row) (by omega)
  have Hrd := Lib.hid hrd
  have e1 : ((Dk.made m 2).read row) = (⟨#[]⟩, 1) := by unfold Dk.D.read; rw [hrd, if_neg (by decide)]
  have E1 := Lib.hid e1
  clear hg hr hs hx hrd e1
  rcases hrow with h | ⟨h, h'⟩
  all_goals
    go_enter Tryd.func9, Tryd.ntmps9
    go_wp2_with fail
    refine (new_any m 2 h1 h2 (by omega) (by omega) _).mono ?_
    rintro e w1 ⟨rfl, hD, hB, _⟩
    have HD := Lib.hid hD
    have HB := Lib.hid hB
    have HG := Lib.hid (Hg.out.below (Nat.le_refl _) hB)
    clear hD hB
    go_wp2_with fail
    refine (read_any HD.out row Hr.out).mono ?_
    rintro e w' ⟨rfl, rfl⟩
    rw [E1.out]
    go_wp2_with fail
    refine (same_eq 1 _ HG.out).mono ?_
    rintro e w' ⟨rfl, hb⟩
    go_wp2_with fail
    go_ret
    exact ⟨rfl, HB.out.trans (hb.mono HB.out.size)⟩
set_option maxRecDepth 100000 in
theorem diskBlank_in (m r : Nat) (s : ByteArray) (h1 : 1 ≤ m) (h2 : m ≤ 20) (hx : s.size = 2) (hrow : r < m) (hr : (Lit.int .i64 (r : Int)).wf = true) (w : World) (hg : Handle w) :
    Calls Tryd.prog 9 #[iv m, iv r, .string s] w fun e w' => e = .returned (.bool true) ∧ Below w.heap.size w w' := by
  have Hg := Lib.hid hg
  have Hr := Lib.hid hr
  have hd : ((s.size : Int) != 2) = false := bne_f (by omega)
  have hz : s.size ≤ maxLen := by unfold maxLen; omega
  have Hz := Lib.hid hz
  obtain ⟨d1, hd1⟩ : ∃ d1, d1 = { (Dk.made m 2) with rows := (Dk.made m 2).rows.set r s, writes := 1 } := ⟨_, rfl⟩
  have e1 : (Dk.made m 2).write r s = (0, d1) := by
    unfold Dk.D.write
    rw [if_pos (Dk.made_ready hrow), if_pos (show s.size = (Dk.made m 2).size from hx), hd1, Int.toNat_natCast]; rfl
  have e2 : d1.fail = (0, { d1 with failed := true }) := by unfold Dk.D.fail; rw [hd1]; rfl
  obtain ⟨d2, hd2⟩ : ∃ d2, d2 = { d1 with failed := true } := ⟨_, rfl⟩
  rw [← hd2] at e2
  have e3 : d2.read r = (⟨#[]⟩, 6) := by unfold Dk.D.read Dk.D.ready; rw [hd2]; rfl
  have e4 : d2.replace = (0, Dk.D.blank { d2 with failed := false }) := by unfold Dk.D.replace; rw [hd2]; rfl
  obtain ⟨d3, hd3⟩ : ∃ d3, d3 = Dk.D.blank { d2 with failed := false } := ⟨_, rfl⟩
  rw [← hd3] at e4
  have e5 : d3.read r = (⟨#[0, 0]⟩, 0) := by
    have hz : d3.ready r = 0 := by
      have hf : d3.failed = false := by rw [hd3]; rfl
      have hm : d3.many = m := by rw [hd3, hd2, hd1]; rfl
      unfold Dk.D.ready; rw [hf, hm, if_neg Bool.false_ne_true, if_neg (by omega)]
    unfold Dk.D.read
    rw [if_pos hz, Int.toNat_natCast, hd3, Dk.blank_row (by rw [hd2, hd1]; exact hrow) (by rw [hd2, hd1]; show r < ((Dk.made m 2).rows.set r s).length; rw [List.length_set]; unfold Dk.made Dk.D.blank; rw [Dk.fresh_len]; show r < 20; omega)]
    rw [hd2, hd1]; rfl
  have e6 : d3.writes = 1 := by rw [hd3, hd2, hd1]; rfl
  have e7 : d3.failed = false := by rw [hd3, hd2, hd1]; rfl
  have hw0 : (Dk.made m 2).writes < 1000000 := by show 0 < 1000000; decide
  have E1 := Lib.hid e1
  have E2 := Lib.hid e2
  have E3 := Lib.hid e3
  have E4 := Lib.hid e4
  have E5 := Lib.hid e5
  have E6 := Lib.hid e6
  have E7 := Lib.hid e7
  have W0 := Lib.hid hw0
  clear hd1 hd2 hd3 e1 e2 e3 e4 e5 e6 e7 hr hx hz hg hw0
  have hq : ((r : Int) < 0) = False := by simp
  go_enter Tryd.func9, Tryd.ntmps9
  go_wp2_with fail
  refine (new_any m 2 h1 h2 (by omega) (by omega) _).mono ?_
  rintro e w1 ⟨rfl, hD, hB, hz0⟩
  have HD := Lib.hid hD
  have HB := Lib.hid hB
  clear hD hB
  go_wp2_with fail
  refine (write_any HD.out r Hr.out s Hz.out W0.out).mono ?_
  rw [E1.out]
  rintro e w2 ⟨he, hD, hK, hz1⟩
  obtain rfl : e = .returned .nilIface := he
  have HD2 := Lib.hid hD
  have HK2 := Lib.hid hK
  clear hD hK HD
  go_wp2_with fail
  refine (fail_any HD2.out).mono ?_
  rw [E2.out]
  rintro e w3 ⟨he, hD, hK, hz2⟩
  obtain rfl : e = .returned .nilIface := he
  have HD3 := Lib.hid hD
  have HK3 := Lib.hid (HK2.out.also hK)
  clear hD hK HD2
  go_wp2_with fail
  refine (read_any HD3.out r Hr.out).mono ?_
  rw [E3.out]
  rintro e w' ⟨rfl, rfl⟩
  go_wp2_with fail
  refine (replace_any HD3.out).mono ?_
  rw [E4.out]
  rintro e w4 ⟨he, hD, hK⟩
  obtain rfl : e = .returned .nilIface := he
  have HD4 := Lib.hid hD
  have HK4 := Lib.hid (HK3.out.also hK)
  clear hD hK HD3
  go_wp2_with fail
  refine (read_any HD4.out r Hr.out).mono ?_
  rw [E5.out]
  rintro e w' ⟨he, rfl⟩
  obtain rfl : e = .returned (.tuple #[.string ⟨#[0, 0]⟩, .nilIface]) := he
  have HB4 := Lib.hid (HB.out.trans (HK4.out.toBelow (by omega : w.heap.size ≤ w1.heap.size) (by intro k hk h; omega)))
  have HG := Lib.hid (Hg.out.below (Nat.le_refl _) HB4.out)
  go_wp2_with fail
  refine (same_eq 6 _ HG.out).mono ?_
  rintro e w5 ⟨rfl, hb⟩
  have HD5 := Lib.hid (HD4.out.below hb)
  have HB5 := Lib.hid (HB4.out.trans (hb.mono HB4.out.size))
  clear hb HD4 HB4
  go_wp2_with fail
  refine (writes_any HD5.out).mono ?_
  rw [E6.out]
  rintro e w' ⟨rfl, rfl⟩
  go_wp2_with fail
  refine (works_any HD5.out).mono ?_
  rw [E7.out]
  rintro e w' ⟨rfl, rfl⟩
  go_wp2_with fail
  go_ret
  exact ⟨rfl, HB5.out⟩
theorem diskBlank_len (m : Nat) (row : Int) (s : ByteArray) (h1 : 1 ≤ m) (h2 : m ≤ 20) (hs : s.size ≤ maxLen) (hx : s.size ≠ 2) (w : World) :
    Calls Tryd.prog 9 #[iv m, iv row, .string s] w fun e w' => e = .returned (.bool true) ∧ Below w.heap.size w w' := by
  have hd : ((s.size : Int) != 2) = true := bne_t (by omega)
  clear hs hx
  go_enter Tryd.func9, Tryd.ntmps9
  go_wp2_with fail
  refine (new_any m 2 h1 h2 (by omega) (by omega) _).mono ?_
  rintro e w1 ⟨rfl, hD, hB, _⟩
  have HB := Lib.hid hB
  clear hD hB
  go_wp2_with fail
  go_ret
  exact ⟨rfl, HB.out⟩
theorem diskBlank_no (x row : Int) (s : ByteArray) (h : x < 1 ∨ 1 ≤ x ∧ 20 < x) (w : World) :
    Calls Tryd.prog 9 #[iv x, iv row, .string s] w fun e w' => e = .returned (.bool true) ∧ Below w.heap.size w w' := by
  have hn : x < 1 ∨ 1 ≤ x ∧ 20 < x ∨ 1 ≤ x ∧ x ≤ 20 ∧ (2 : Int) < 1 ∨ 1 ≤ x ∧ x ≤ 20 ∧ 1 ≤ (2 : Int) ∧ 16 < (2 : Int) := by omega
  have Hn := Lib.hid hn
  clear hn
  rcases h with h | ⟨h, h'⟩
  all_goals
    go_enter Tryd.func9, Tryd.ntmps9
    go_wp2_with fail
    refine (new_no x 2 Hn.out _).mono ?_
    rintro e w' ⟨rfl, rfl⟩
    go_wp2_with fail
    go_ret
    exact ⟨rfl, Below.refl _ _⟩
theorem diskBlank_walk (x row : Int) (s : ByteArray) (hx : (Lit.int .i64 x).wf = true) (hr : (Lit.int .i64 row).wf = true) (hs : s.size ≤ maxLen) (w : World) (hg : Handle w) :
    Calls Tryd.prog 9 #[iv x, iv row, .string s] w fun e w' => e = .returned (.bool true) ∧ Below w.heap.size w w' := by
  by_cases h : 1 ≤ x ∧ x ≤ 20
  · obtain ⟨m, rfl⟩ : ∃ m : Nat, x = m := ⟨x.toNat, by omega⟩
    by_cases h2 : s.size = 2
    · by_cases h3 : 0 ≤ row ∧ row < m
      · obtain ⟨r, rfl⟩ : ∃ r : Nat, row = r := ⟨row.toNat, by omega⟩
        exact diskBlank_in m r s (by omega) (by omega) h2 (by omega) hr w hg
      · exact diskBlank_out m row s (by omega) (by omega) hs hr h2 (by omega) w hg
    · exact diskBlank_len m row s (by omega) (by omega) hs h2 w
  · exact diskBlank_no x row s (by omega) w
end Go.Proofs.YtangcjffiooapaaDoor
