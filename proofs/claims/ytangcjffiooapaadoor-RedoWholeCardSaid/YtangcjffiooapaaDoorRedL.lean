/- The walk of the law RedoWhole: it returns true. -/
import Derived.Test.YtangcjffiooapaaDoorRedC
import Derived.Test.YtangcjffiooapaaDoorSame
namespace Go.Proofs.YtangcjffiooapaaDoor
open Go.ChangeShapes Go.WideShapes Go.ChangeAt Go.RowKit
set_option linter.unusedVariables false
namespace Rd
def cell2 (x : W) : List Value := [iv x.pos, .string x.b]
def wr (bad : Int) (k : Nat) : W := ⟨if (k : Int) = bad then 4 else ((k % 4 : Nat) : Int), ⟨#[120]⟩⟩
def wrs (bad : Int) (n : Nat) : List W := (List.range n).map (wr bad)
def abcd : List ByteArray := [⟨#[97]⟩, ⟨#[98]⟩, ⟨#[99]⟩, ⟨#[100]⟩]
theorem wrs_len (bad : Int) (n : Nat) : (wrs bad n).length = n := by unfold wrs; simp
theorem wrs_succ (bad : Int) (n : Nat) : wrs bad (n + 1) = wrs bad n ++ [wr bad n] := by unfold wrs; rw [List.range_succ, List.map_append]; rfl
theorem cells_len (l : List W) : (l.flatMap cell2).length = l.length * 2 := by
  induction l with
  | nil => rfl
  | cons a t ih => rw [List.flatMap_cons, List.length_append, ih, List.length_cons]; show 2 + _ = _; omega
theorem cells_at : ∀ (l : List W) (j : Nat) (x : W), l[j]? = some x → (l.flatMap cell2)[j * 2]? = some (iv x.pos) ∧ (l.flatMap cell2)[j * 2 + 1]? = some (.string x.b)
  | [], j, x, h => by simp at h
  | a :: t, 0, x, h => by
    simp at h; subst h
    rw [List.flatMap_cons]; exact ⟨rfl, rfl⟩
  | a :: t, j + 1, x, h => by
    rw [List.getElem?_cons_succ] at h
    have ih := cells_at t j x h
    rw [List.flatMap_cons, show (j + 1) * 2 = j * 2 + 2 by omega]
    exact ⟨by rw [show j * 2 + 2 = (j * 2) + 1 + 1 by omega]; exact ih.1, by rw [show j * 2 + 2 + 1 = (j * 2 + 1) + 1 + 1 by omega]; exact ih.2⟩
theorem done_abcd (bad : Int) (N : Nat) (h : ∀ k : Nat, k < N → (k : Int) ≠ bad) : ∀ n, n ≤ N → ∀ j, j < 4 → (done abcd (wrs bad n))[j]? = some (if j < n then ⟨#[120]⟩ else abcd.getD j ⟨#[]⟩)
  | 0, _, j, hj => by
    have : j = 0 ∨ j = 1 ∨ j = 2 ∨ j = 3 := by omega
    rcases this with rfl | rfl | rfl | rfl <;> rfl
  | n + 1, hn, j, hj => by
    have ih := done_abcd bad N h n (by omega) j hj
    have hl : (done abcd (wrs bad n)).length = 4 := by rw [done_len]; rfl
    rw [wrs_succ, done_snoc, put1]
    have hp : (wr bad n).pos.toNat = n % 4 := by unfold wr; rw [if_neg (h n (by omega)), Int.toNat_natCast]
    rw [hp, List.getElem?_set]
    by_cases e : n % 4 = j
    · rw [if_pos e, if_pos (by omega), if_pos (by omega)]; rfl
    · rw [if_neg e, ih]
      by_cases h1 : j < n
      · rw [if_pos h1, if_pos (by omega)]
      · rw [if_neg h1, if_neg (by omega)]
theorem wrs_ok (bad : Int) (n : Nat) (hn : n ≤ 40) (h : ∀ k : Nat, k < n → (k : Int) ≠ bad) : (wrs bad n).any (badB 4) = false := by
  rw [List.any_eq_false]
  intro x hx
  unfold wrs at hx
  obtain ⟨k, hk, rfl⟩ := List.mem_map.1 hx
  rw [List.mem_range] at hk
  unfold wr badB
  rw [if_neg (h k hk)]
  simp [ByteArray.size]
  omega
theorem wrs_bad (bad n : Nat) (h : bad < n) : (wrs bad n).any (badB 4) = true := by
  rw [List.any_eq_true]
  refine ⟨wr bad bad, List.mem_map.2 ⟨bad, List.mem_range.2 h, rfl⟩, ?_⟩
  unfold wr badB; rw [if_pos rfl]; rfl
end Rd
theorem rowWr_of {w : World} {base : Nat} {v : Value} {n : Nat} {ls : List Rd.W} (h : w.ownsRow base 69 2 v n (ls.flatMap Rd.cell2)) (hn : ls.length = n) (h1 : n ≤ 1000) : RowWr w v ls := by
  rcases h.2 with ⟨rfl, h0⟩ | ⟨g, cap, cur, rfl, hb, hg, hnc, hcm, hcs, ht⟩
  · have hl := h.1
    have hnil : ls = [] := List.eq_nil_of_length_eq_zero (by omega)
    subst hnil
    exact ⟨none, 0, rfl, by simp, fun j l hj => by simp at hj⟩
  · refine ⟨some ⟨g, 0, none⟩, cap, by rw [hn], by omega, fun j l hj => ?_⟩
    have hjl := (List.getElem?_eq_some_iff.1 hj).1
    have hc := Rd.cells_at ls j l hj
    have hcl := Rd.cells_len ls
    refine ⟨g, 0, rfl, (Array.getElem?_eq_some_iff.1 hg).1, ?_, ?_⟩
    · rw [Nat.zero_add, h.cellAt _ (by rw [hcl] at *; omega)]; exact hc.1
    · rw [Nat.zero_add, h.cellAt _ (by rw [hcl] at *; omega)]; exact hc.2
theorem info_wr : (Tryd.prog.info? 69).map (fun i => (i.zero, i.size, i.bytes)) = some (some (.agg #[.int .i64 0, .string ⟨#[]⟩]), 2, 24) := by kernel_rfl
def RWRel (bad : Int) (w1 : World) (n gk : Nat) (v i : Value) (wr : World) : Prop :=
  ∃ k : Nat, k + gk = n ∧ i = iv k ∧ wr.ownsRow w1.heap.size 69 2 v k ((Rd.wrs bad k).flatMap Rd.cell2) ∧ Below w1.heap.size w1 wr
theorem abcd_row (w : World) : Row (w.alloc (.cells #[.string ⟨#[97]⟩, .string ⟨#[98]⟩, .string ⟨#[99]⟩, .string ⟨#[100]⟩] 9)) (.slice (some ⟨w.heap.size, 0, none⟩) 4 4) (Rd.abcd.map Value.string) := by
  refine ⟨some ⟨w.heap.size, 0, none⟩, 4, rfl, Nat.le_refl _, by decide, (fun h => by cases h), fun _ => ⟨w.heap.size, 0, rfl, fun j hj => ?_⟩⟩
  rw [cell_of_row _ _ _ _ _ _ (heap_alloc_new w _), Nat.zero_add]
  have hj2 : j < 4 := hj
  have h2 : j = 0 ∨ j = 1 ∨ j = 2 ∨ j = 3 := by omega
  rcases h2 with rfl | rfl | rfl | rfl <;> rfl
theorem abcd_F : cellsF Rd.abcd = 0 := by decide +kernel
set_option maxRecDepth 100000 in
set_option maxHeartbeats 4000000 in
theorem redoWhole_core (n : Nat) (h1 : 1 ≤ n) (h2 : n ≤ 40) (bad : Int) (w : World) (hg : Handle w) :
    Calls Tryd.prog 5 #[iv n, iv bad] w fun e w' => e = .returned (.bool true) ∧ Below w.heap.size w w' := by
  have Hg := Lib.hid hg
  obtain ⟨i0, hi, hz0, hz1, hz2⟩ := info_parts info_wr
  have HN := Lib.hid (redNew_any Rd.abcd abcd_F _ _ (abcd_row w))
  have hb0 : Below w.heap.size w (w.alloc (.cells #[.string ⟨#[97]⟩, .string ⟨#[98]⟩, .string ⟨#[99]⟩, .string ⟨#[100]⟩] 9)) := (Below.refl _ _).alloc (Nat.le_refl _) _
  have HB0 := Lib.hid hb0
  have hzz := hb0.size
  have n1 : ¬ (n : Int) < 1 := by omega
  have n2 : ¬ (40 : Int) < (n : Int) := by omega
  clear hg hb0
  go_enter Tryd.func5, Tryd.ntmps5
  go_wp2_with fail
  refine HN.out.mono ?_
  rintro e w1 ⟨b, rfl, hR, hb1⟩
  have HR := Lib.hid (hR.wide (F' := fun k => w.heap.size ≤ k) (fun k _ hk => Nat.le_trans hzz hk))
  have HB1 := Lib.hid (HB0.out.trans (hb1.mono hzz))
  have hz1' := HB1.out.size
  clear hR hb1 HN HB0
  go_wp2_with fail
  go_loopg [7, 8] n (fun gk v i wr => RWRel bad w1 n gk v i wr)
  case atStart => exact ⟨0, by omega, rfl, World.ownsRow_nil _ _ _ _, Below.refl _ _⟩
  case round =>
    obtain ⟨k, hk, rfl, hown, hb⟩ := hrel
    have Hk := Lib.hid hk
    have Hown := Lib.hid hown
    have HB := Lib.hid hb
    have hzr := hb.size
    clear hk hown hb
    by_cases hlt : k < n
    · have hsn := Rd.wrs_succ bad k
      have Hsn := Lib.hid hsn
      have hm : ((k : Int) % 4) = ((k % 4 : Nat) : Int) := (Int.natCast_emod k 4)
      clear hsn
      obtain ⟨p, hp⟩ : ∃ p, p = (Rd.wr bad k).pos := ⟨_, rfl⟩
      have Hp := Lib.hid hp
      have hz4 : wr.heap.size + 1 = (wr.alloc (.cells #[iv p, .string ⟨#[120]⟩] 69)).heap.size := by simp
      clear hp
      have Hm4 := Lib.hid hm
      clear hm
      go_upto_if 38 with (fail)
      go_cut [] (fun wq => ∃ wk, wk = wq ∧ wk = wr.alloc (.cells #[iv p, .string ⟨#[120]⟩] 69))
      case first => as_aux_lemma =>
        by_cases hkb : (k : Int) = bad
        · have tb : ((k : Int) == bad) = true := beq_t hkb
          have h4 : p = 4 := by rw [Hp.out]; unfold Rd.wr; rw [if_pos hkb]
          subst h4
          clear hkb
          go_wp2_with fail
          go_meet
          exact ⟨_, rfl, by simp⟩
        · have tb : ((k : Int) == bad) = false := beq_f hkb
          have h4 : p = (k : Int) % 4 := by rw [Hp.out]; unfold Rd.wr; rw [if_neg hkb, Hm4.out]
          have H4 := Lib.hid h4
          clear hkb h4
          go_wp2_with fail
          go_meet
          exact ⟨_, rfl, by rw [H4.out]⟩
      case rest =>
        obtain ⟨wk, rfl, hwk⟩ := hcut
        have hbk : Below wr.heap.size wr wk := by rw [hwk]; exact (Below.refl _ _).alloc (Nat.le_refl _) _
        have e0 : wk.cell? ⟨wr.heap.size, 0, none⟩ = some (iv p) := by rw [hwk]; simp
        have e1 : wk.cell? ⟨wr.heap.size, 1, none⟩ = some (.string ⟨#[120]⟩) := by rw [hwk]; simp
        have Hown1 := Lib.hid (owns_below Hown.out hbk)
        have HB1k := Lib.hid (HB.out.trans (hbk.mono hzr))
        have hz5 := HB1k.out.size
        obtain ⟨D, hD⟩ : ∃ D, D = wr.heap.size := ⟨_, rfl⟩
        rw [← hD] at e0 e1
        rw [← hD]
        clear hwk hbk hz4 hD
        go_wp2_with (at_builtin; (refine wpList_append_own _ rfl _ _ 67 rfl w1.heap.size 69 i0 _ 2 24 Tryd.underlying67 hi hz0 hz1 hz2 rfl (by decide) _ k _ rfl (Hown1.out.alloc _) ⟨wk.heap.size, 0, none⟩ 1 1 [iv p, .string ⟨#[120]⟩] rfl rfl ?k1 ?k2 ?k3 ?k4 ?k5 ?_))
        case k1 =>
          intro j u hj
          have hj2 : j = 0 ∨ j = 1 := by have := (List.getElem?_eq_some_iff.1 hj).1; simp at this; omega
          rw [Addr.add_lit, Nat.zero_add, World.cell?_alloc_at _ _ _ _ rfl]
          rcases hj2 with rfl | rfl <;> exact hj
        case k2 => intro u hu; simp at hu; rcases hu with rfl | rfl <;> rfl
        case k3 => unfold maxLen; omega
        case k4 => omega
        case k5 => simp; omega
        intro v1 w2 hown2 hgr2 _
        have HB2 : Hid (Below w1.heap.size w1 w2) := Lib.hid ((HB1k.out.alloc hz5 _).grown hgr2 (by simp; omega) (fun g e => (Hown1.out.lt g e).1))
        have Hown2 : Hid (w2.ownsRow w1.heap.size 69 2 v1 (k + 1) ((Rd.wrs bad (k + 1)).flatMap Rd.cell2)) := Lib.hid (by
          rw [Hsn.out, List.flatMap_append, show [Rd.wr bad k].flatMap Rd.cell2 = [iv p, .string ⟨#[120]⟩] by rw [Hp.out]; rfl]; exact hown2)
        clear hown2 hgr2 e0 e1
        go_wp2_with fail
        go_roundg (gk - 1)
        case measure => have := Hk.out; omega
        case rel => exact ⟨k + 1, by have := Hk.out; omega, by go_num, Hown2.out, HB2.out⟩
    · have hkn : k = n := by have := Hk.out; omega
      have hrow := rowWr_of Hown.out (Rd.wrs_len bad k) (by omega)
      subst hkn
      have hzr' : w.heap.size ≤ wr.heap.size := by omega
      have hRA := HR.out.below HB.out
      have HRA := Lib.hid hRA
      have hFN : ∀ q, wr.heap.size ≤ q → w.heap.size ≤ q := fun q hq => by omega
      have hput := put_any hRA hFN (by decide) (by decide) (by decide) (by decide) (Rd.wrs bad k) _ hrow
      obtain ⟨r, hr⟩ : ∃ r, r = Rd.put (Rd.new Rd.abcd) (Rd.wrs bad k) := ⟨_, rfl⟩
      rw [← hr] at hput
      have HPut := Lib.hid hput
      unfold RedPost at HPut
      have HBr := Lib.hid (HB1.out.trans (HB.out.mono hz1'))
      have Hz1 := Lib.hid hz1'
      clear hRA hFN hput hrow
      by_cases hbad : 0 ≤ bad ∧ bad < k
      · have hr1 : r = (1, Rd.new Rd.abcd) := by
          obtain ⟨q, rfl⟩ : ∃ q : Nat, bad = q := ⟨bad.toNat, by omega⟩
          rw [hr]; unfold Rd.put
          rw [if_neg (by simp [Rd.new]), if_neg (by rw [Rd.wrs_len]; omega), if_pos]
          exact Rd.wrs_bad q k (by omega)
        subst hr1
        have b1 : decide (0 ≤ bad) = true := dec_t hbad.1
        have b2 : decide (bad < (k : Int)) = true := dec_t hbad.2
        clear hbad hr
        go_wp2_with fail
        refine HPut.out.mono ?_
        rintro e w2 ⟨rfl, hR2, hk2⟩
        have HR2 := Lib.hid hR2
        have hb2 : Below w.heap.size wr w2 := hk2.toBelow hzr' (fun _ _ h => h)
        have HB2 := Lib.hid (HBr.out.trans hb2)
        have hz2 := HB2.out.size
        have HA := Lib.hid (all_any hR2 (by decide))
        clear hR2 hk2 hb2 HPut
        go_wp2_with fail
        refine HA.out.mono ?_
        rintro e w3 ⟨v, rfl, hown, hb3⟩
        obtain ⟨g, cap, hv, hgb, hgl, _, _, hce, _⟩ := owns_pos hown (by decide)
        have c0 : w3.cell? ⟨g, 0, none⟩ = some (.string ⟨#[97]⟩) := hce 0 (by decide)
        have c3 : w3.cell? ⟨g, 3, none⟩ = some (.string ⟨#[100]⟩) := hce 3 (by decide)
        have hv4 : v = .slice (some ⟨g, 0, none⟩) 4 cap := hv
        subst hv4
        have HB3 := Lib.hid (HB2.out.trans (hb3.mono hz2))
        have hz3 := HB3.out.size
        have HR3 := Lib.hid (HR2.out.below hb3)
        have HS := Lib.hid (same_eq 1 w3 (Hg.out.below (Nat.le_refl _) HB3.out))
        clear hv hown hb3 hce HA
        go_wp2_with fail
        refine HS.out.mono ?_
        rintro e w4 ⟨rfl, hb4⟩
        have HB4 := Lib.hid (HB3.out.trans (hb4.mono hz3))
        have HBy := Lib.hid (bytes_any (HR3.out.below hb4) (by decide))
        have d0 := (hb4.cell (p := ⟨g, 0, none⟩) hgl).trans c0
        have d3 := (hb4.cell (p := ⟨g, 3, none⟩) hgl).trans c3
        clear hb4 c0 c3 HS
        go_wp2_with fail
        refine HBy.out.mono ?_
        rintro e w5 ⟨rfl, rfl⟩
        go_wp2_with fail
        go_ret
        exact ⟨rfl, HB4.out⟩
      · have hbd : ∀ q : Nat, q < k → (q : Int) ≠ bad := fun q hq e => hbad ⟨by omega, by omega⟩
        have hr1 : r = (0, { Rd.step (Rd.new Rd.abcd) with bytes := [] ++ Rd.rcd (Rd.wrs bad k), cells := Rd.done Rd.abcd (Rd.wrs bad k) }) := by
          rw [hr]; unfold Rd.put
          rw [if_neg (by simp [Rd.new]), if_neg (by rw [Rd.wrs_len]; omega), if_neg (by rw [show (Rd.new Rd.abcd).cells.length = 4 from rfl, Rd.wrs_ok bad k (by omega) hbd]; simp), if_neg (by decide)]; rfl
        obtain ⟨s2, hs2⟩ : ∃ s2, s2 = ({ Rd.step (Rd.new Rd.abcd) with bytes := [] ++ Rd.rcd (Rd.wrs bad k), cells := Rd.done Rd.abcd (Rd.wrs bad k) } : Rd.R) := ⟨_, rfl⟩
        rw [← hs2] at hr1
        have hcl : s2.cells.length = 4 := by rw [hs2]; show (Rd.done Rd.abcd (Rd.wrs bad k)).length = 4; rw [Rd.done_len]; rfl
        have hc : ∀ j, j < 4 → s2.cells[j]? = some (if j < k then ⟨#[120]⟩ else Rd.abcd.getD j ⟨#[]⟩) := by rw [hs2]; exact Rd.done_abcd bad k hbd k (Nat.le_refl _)
        have hok : (Rd.wrs bad k).length ≤ 40 := by rw [Rd.wrs_len]; exact h2
        have hbl : s2.bytes.length ≤ 1000000 ∧ 2 ≤ s2.bytes.length := by
          have hf := Rd.flat_len (n := 5) (l := Rd.wrs bad k) (fun x hx => by
            unfold Rd.wrs at hx
            obtain ⟨q, _, rfl⟩ := List.mem_map.1 hx
            unfold Rd.wr
            split
            · simp [ByteArray.size]
            · simp [ByteArray.size]; omega)
          rw [hs2]
          show ([] ++ Rd.rcd (Rd.wrs bad k)).length ≤ 1000000 ∧ 2 ≤ ([] ++ Rd.rcd (Rd.wrs bad k)).length
          rw [List.nil_append, Rd.rcd_len, Rd.body_len]
          rw [Rd.wrs_len] at hf
          omega
        obtain ⟨m2, hm2⟩ : ∃ m2, m2 = s2.bytes.length := ⟨_, rfl⟩
        subst hr1
        have hm2a : (2 : Int) ≤ (m2 : Int) := by omega
        have Hm2 := Lib.hid hm2
        have Hbl := Lib.hid hbl
        have Hcl := Lib.hid hcl
        have Hc := Lib.hid hc
        have hcond : (decide (0 ≤ bad) = false) ∨ (decide (0 ≤ bad) = true ∧ decide (bad < (k : Int)) = false) := by
          by_cases h0 : 0 ≤ bad
          · exact .inr ⟨dec_t h0, dec_f (fun h => hbad ⟨h0, h⟩)⟩
          · exact .inl (dec_f h0)
        have h3x : (k : Int) > 3 ∨ (k : Int) ≤ 3 := by omega
        clear hbad hbd hr hs2 hcl hc hok hbl hm2
        go_wp2_with fail
        refine HPut.out.mono ?_
        rintro e w2 ⟨he, hR2, hk2⟩
        obtain rfl : e = .returned .nilIface := he
        have HR2 := Lib.hid hR2
        have hb2 : Below w.heap.size wr w2 := hk2.toBelow hzr' (fun _ _ h => h)
        have HB2 := Lib.hid (HBr.out.trans hb2)
        have hz2 := HB2.out.size
        have HA := Lib.hid (all_any hR2 (by rw [Hcl.out]; decide))
        clear hR2 hk2 hb2 HPut
        go_wp2_with fail
        refine HA.out.mono ?_
        rintro e w3 ⟨v, rfl, hown, hb3⟩
        rw [Hcl.out] at hown
        obtain ⟨g, cap, hv, hgb, hgl, _, _, hce, _⟩ := owns_pos hown (by decide)
        have hcj : ∀ j, j < 4 → w3.cell? ⟨g, j, none⟩ = some (.string (if j < k then ⟨#[120]⟩ else Rd.abcd.getD j ⟨#[]⟩)) := fun j hj => by
          rw [hce j hj, List.getElem?_map, Hc.out j hj]; rfl
        have c0 : w3.cell? ⟨g, 0, none⟩ = some (.string ⟨#[120]⟩) := by rw [hcj 0 (by decide), if_pos (by omega)]
        have c3 := hcj 3 (by decide)
        subst hv
        have HB3 := Lib.hid (HB2.out.trans (hb3.mono hz2))
        have HBy := Lib.hid (bytes_any (HR2.out.below hb3) Hbl.out.1)
        rw [← Hm2.out] at HBy
        clear hown hb3 hce HA hcj
        rcases hcond with q1 | ⟨q1, q2⟩
        all_goals
          rcases h3x with h3 | h3
          · rw [if_pos (by omega)] at c3
            have t3 : decide (3 < (k : Int)) = true := dec_t h3
            go_wp2_with fail
            refine HBy.out.mono ?_
            rintro e w5 ⟨rfl, rfl⟩
            go_wp2_with fail
            go_ret
            exact ⟨rfl, HB3.out⟩
          · rw [if_neg (by omega)] at c3
            have t3 : decide (3 < (k : Int)) = false := dec_f (by omega)
            have c3' : w3.cell? ⟨g, 3, none⟩ = some (.string ⟨#[100]⟩) := c3
            clear c3
            go_wp2_with fail
            refine HBy.out.mono ?_
            rintro e w5 ⟨rfl, rfl⟩
            go_wp2_with fail
            go_ret
            exact ⟨rfl, HB3.out⟩
theorem redoWhole_walk (n bad : Int) (hwn : (Lit.int .i64 n).wf = true) (hwb : (Lit.int .i64 bad).wf = true) (w : World) (hg : Handle w) :
    Calls Tryd.prog 5 #[iv n, iv bad] w fun e w' => e = .returned (.bool true) ∧ Below w.heap.size w w' := by
  by_cases h : 1 ≤ n ∧ n ≤ 40
  · obtain ⟨m, rfl⟩ : ∃ m : Nat, n = m := ⟨n.toNat, by omega⟩
    exact redoWhole_core m (by omega) (by omega) bad w hg
  · have hcond : (decide (n < 1) = true) ∨ (decide (n < 1) = false ∧ decide (40 < n) = true) := by
      by_cases h0 : n < 1
      · exact .inl (dec_t h0)
      · exact .inr ⟨dec_f h0, dec_t (by omega)⟩
    have HN := Lib.hid (redNew_any Rd.abcd abcd_F _ _ (abcd_row w))
    have hb0 : Below w.heap.size w (w.alloc (.cells #[.string ⟨#[97]⟩, .string ⟨#[98]⟩, .string ⟨#[99]⟩, .string ⟨#[100]⟩] 9)) := (Below.refl _ _).alloc (Nat.le_refl _) _
    have HB0 := Lib.hid hb0
    have hzz := hb0.size
    clear hg hb0 h hwn hwb
    rcases hcond with q1 | ⟨q1, q2⟩
    all_goals
      go_enter Tryd.func5, Tryd.ntmps5
      go_wp2_with fail
      refine HN.out.mono ?_
      rintro e w1 ⟨b, rfl, hR, hb1⟩
      have HB1 := Lib.hid (HB0.out.trans (hb1.mono hzz))
      clear hR hb1 HN HB0
      go_wp2_with fail
      go_ret
      exact ⟨rfl, HB1.out⟩
end Go.Proofs.YtangcjffiooapaaDoor
