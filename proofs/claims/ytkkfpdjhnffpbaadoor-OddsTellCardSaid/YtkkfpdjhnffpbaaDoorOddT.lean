/- The walk of the law OddsTell: it returns true. -/
import Derived.Test.YtkkfpdjhnffpbaaDoorROddB
import Derived.Deep.RegionHeld3
import Derived.Deep.AppendLies
import Derived.Deep.RegionLaw
namespace Go.Proofs.YtkkfpdjhnffpbaaDoor
open Go.ChangeShapes Go.WideShapes Go.ChangeAt Go.RowKit
set_option linter.unusedVariables false
theorem one_owns (w : World) : (w.alloc (.cells #[iv 1] 3)).ownsRow w.heap.size 3 1 (.slice (some ⟨w.heap.size, 0, none⟩) 1 1) 1 [iv 1] :=
  ⟨rfl, .inr ⟨w.heap.size, 1, #[iv 1], rfl, Nat.le_refl _, heap_alloc_new w _, Nat.le_refl _, by decide, by decide, rfl⟩⟩
theorem owns_lower {w : World} {B B' : Nat} {T : TypeId} {v : Value} {n : Nat} {xs : List Value} (h : w.ownsRow B T 1 v n xs) (hb : B' ≤ B) : w.ownsRow B' T 1 v n xs := by
  refine ⟨h.1, ?_⟩
  rcases h.2 with h2 | ⟨g, c, cur, hv, hbb, h3⟩
  · exact .inl h2
  · exact .inr ⟨g, c, cur, hv, by omega, h3⟩
namespace Od
def prow (i : Nat) : List Value := (List.range (i + 1)).map (fun j => iv (ch i j))
def pnext (i j : Nat) : List Value := (List.range j).map (fun q => iv (ch i q))
theorem prow_at {i j : Nat} (h : j < i + 1) : (prow i)[j]? = some (iv (ch i j)) := by unfold prow; rw [List.getElem?_map, List.getElem?_range h]; rfl
theorem pnext_succ (i j : Nat) : pnext i j ++ [iv (ch i j)] = pnext i (j + 1) := by unfold pnext; rw [List.range_succ, List.map_append]; rfl
theorem pnext_one (i : Nat) : pnext i 1 = [iv 1] := by unfold pnext; show [iv (ch i 0)] = _; rw [ch_zero]; rfl
theorem prow_len (i : Nat) : (prow i).length = i + 1 := by unfold prow; simp
theorem ch_self : ∀ n, ch n n = 1
  | 0 => rfl
  | n + 1 => by rw [ch_succ, ch_self n, ch_out n (n + 1) (by omega)]
end Od
set_option maxRecDepth 100000 in
set_option maxHeartbeats 8000000 in
theorem oddsTell_walk (n k m : Int) (vl : Value) (fails parity : Int) (hn : (Lit.int .i64 n).wf = true) (hk : (Lit.int .i64 k).wf = true) (hm : (Lit.int .i64 m).wf = true) (hf : (Lit.int .i64 fails).wf = true) (hp : (Lit.int .i64 parity).wf = true) (w : World) (hg : Handle w) (fl : ∃ l, Rows2 w vl l) :
    Calls Tryd.prog 3 #[iv n, iv k, iv m, vl, iv fails, iv parity] w fun e w' => e = .returned (.bool true) ∧ Below w.heap.size w w' := by
  obtain ⟨l, hl⟩ := fl
  have HL := Lib.hid hl
  obtain ⟨bc, hbc⟩ : ∃ b, b = decide (n < 0 ∨ 30 < n ∨ k < 0 ∨ n < k) := ⟨_, rfl⟩
  obtain ⟨ec, hec⟩ : ∃ e, e = Od.chE n k := ⟨_, rfl⟩
  obtain ⟨cv, hcv⟩ : ∃ e, e = Od.chV n k := ⟨_, rfl⟩
  obtain ⟨C, hC⟩ : ∃ e, e = Od.chk m l := ⟨_, rfl⟩
  obtain ⟨ef, hef⟩ : ∃ e, e = Od.faE m l fails parity := ⟨_, rfl⟩
  obtain ⟨fv, hfv⟩ : ∃ e, e = Od.faV m l fails parity := ⟨_, rfl⟩
  obtain ⟨ew, hew⟩ : ∃ e, e = Od.woE m l parity := ⟨_, rfl⟩
  obtain ⟨wv, hwv⟩ : ∃ e, e = Od.woV m l parity := ⟨_, rfl⟩
  have Hbc := Lib.hid hbc
  have Hec := Lib.hid hec
  have Hcv := Lib.hid hcv
  have HC := Lib.hid hC
  have Hef := Lib.hid hef
  have Hfv := Lib.hid hfv
  have Hew := Lib.hid hew
  have Hwv := Lib.hid hwv
  have Hg0 := Lib.hid hg
  have HB0 : Hid (Below w.heap.size w w) := Lib.hid (Below.refl _ _)
  have hz0 : w.heap.size ≤ w.heap.size := Nat.le_refl _
  have hmb := bounds_i64 hm
  clear hl hbc hec hcv hC hef hfv hew hwv hg hn hk hm hf hp
  go_enter Tryd.func3, Tryd.ntmps3
  go_upto_region 3 with (fail)
  go_cut [40] (fun z wq => z = .bool bc ∧ w = wq)
  case first => as_aux_lemma =>
    by_cases a1 : n < 0
    · obtain rfl : bc = true := by rw [Hbc.out]; exact dec_t (.inl a1)
      go_wp2_with fail
      go_meet
      exact ⟨rfl, rfl⟩
    · by_cases a2 : 30 < n
      · obtain rfl : bc = true := by rw [Hbc.out]; exact dec_t (.inr (.inl a2))
        go_wp2_with fail
        go_meet
        exact ⟨rfl, rfl⟩
      · by_cases a3 : k < 0
        · obtain rfl : bc = true := by rw [Hbc.out]; exact dec_t (.inr (.inr (.inl a3)))
          go_wp2_with fail
          go_meet
          exact ⟨rfl, rfl⟩
        · by_cases a4 : n < k
          · obtain rfl : bc = true := by rw [Hbc.out]; exact dec_t (.inr (.inr (.inr a4)))
            go_wp2_with fail
            go_meet
            exact ⟨rfl, rfl⟩
          · obtain rfl : bc = false := by rw [Hbc.out]; exact dec_f (by omega)
            go_wp2_with fail
            go_meet
            exact ⟨rfl, rfl⟩
  case rest =>
  obtain ⟨rfl, rfl⟩ := hcut
  go_upto_if 40 with (fail)
  go_cut [13, 14, 15, 16, 17, 18] (fun z u _ _ _ _ wq => z = iv ec ∧ u = iv cv ∧ ∃ wk, wk = wq ∧ Below w.heap.size w wk)
  case first =>
    cases bc with
    | true =>
      have h := of_decide_eq_true Hbc.out.symm
      obtain rfl : ec = 1 := by rw [Hec.out]; exact if_pos h
      obtain rfl : cv = 0 := by rw [Hcv.out]; unfold Od.chV; rw [← Hec.out]; rfl
      clear h
      go_wp2_with fail
      go_meet
      exact ⟨rfl, rfl, _, rfl, Below.refl _ _⟩
    | false =>
      have h := of_decide_eq_false Hbc.out.symm
      obtain rfl : ec = 0 := by rw [Hec.out]; exact if_neg h
      obtain ⟨nn, rfl⟩ : ∃ m : Nat, n = m := ⟨n.toNat, by omega⟩
      obtain ⟨kk, rfl⟩ : ∃ m : Nat, k = m := ⟨k.toNat, by omega⟩
      have hnn : nn ≤ 30 := by omega
      have hkk : kk ≤ nn := by omega
      have Hcv2 : Hid (cv = (Od.ch nn kk : Int)) := Lib.hid (by rw [Hcv.out]; unfold Od.chV; rw [if_pos Hec.out.symm]; rfl)
      have HO0 := Lib.hid (one_owns w)
      have HBa : Hid (Below w.heap.size w (w.alloc (.cells #[iv 1] 3))) := Lib.hid ((Below.refl _ _).alloc (Nat.le_refl _) _)
      clear h
      go_wp2_with fail
      go_loopg [15, 16, 17, 18] nn (fun gk v15 v16 v17 v18 wr => ∃ i : Nat, i + gk = nn ∧ v16 = iv i ∧ wr.ownsRow w.heap.size 3 1 v15 (i + 1) (Od.prow i) ∧ Below w.heap.size w wr)
      case atStart => exact ⟨0, by omega, rfl, HO0.out, HBa.out⟩
      case round =>
        clear HO0 HBa
        obtain ⟨gO, hgO⟩ : ∃ x : Nat, x = gk := ⟨_, rfl⟩
        obtain ⟨wO, hwO⟩ : ∃ x : World, x = wr := ⟨_, rfl⟩
        subst hgO hwO
        obtain ⟨i, hi, rfl, hO, hB⟩ := hrel
        have Hi := Lib.hid hi
        have HO := Lib.hid hO
        have HB := Lib.hid hB
        have hz := hB.size
        obtain ⟨g, o, c, hve, hrc, hcm, hcell⟩ := (OwnR.row (OwnR.of_owns hO)).pos (by rw [Od.prow_len]; omega)
        rw [Od.prow_len] at hve hrc hcell
        unfold maxLen at hcm
        subst hve
        have Hcell := Lib.hid hcell
        clear hi hO hB hcell
        by_cases hin : i < nn
        · have hiI : (i : Int) < (nn : Int) := by omega
          obtain ⟨R, hR⟩ : ∃ R, R = i + 1 := ⟨_, rfl⟩
          have HR := Lib.hid hR
          rw [← hR] at hrc ⊢
          have HN0 := Lib.hid (one_owns wO)
          have HNb : Hid (Below wO.heap.size wO (wO.alloc (.cells #[iv 1] 3))) := Lib.hid ((Below.refl _ _).alloc (Nat.le_refl _) _)
          clear hR
          go_wp2_with fail
          go_loopg [17, 18] i (fun gk v17 v18 wr => ∃ j : Nat, 1 ≤ j ∧ j + gk = i + 1 ∧ v18 = iv j ∧ wr.ownsRow wO.heap.size 3 1 v17 j (Od.pnext (i + 1) j) ∧ Below wO.heap.size wO wr)
          case atStart => exact ⟨1, by omega, by omega, rfl, by rw [Od.pnext_one]; exact HN0.out, HNb.out⟩
          case round =>
            clear HN0 HNb
            obtain ⟨j, hj1, hj, rfl, hO2, hB2⟩ := hrel
            have Hj := Lib.hid hj
            have HO2 := Lib.hid hO2
            have HB2 := Lib.hid hB2
            have hz2 := hB2.size
            clear hj hO2 hB2
            by_cases hjR : j < R
            · obtain ⟨q, hq⟩ : ∃ q, j = q + 1 := ⟨j - 1, by omega⟩
              have hR' := HR.out
              have d1 := Hcell.out q (by omega)
              rw [Od.prow_at (by omega)] at d1
              have d2 := Hcell.out j (by omega)
              rw [Od.prow_at (by omega)] at d2
              have d1' : wr.cell? ⟨g, o + q, none⟩ = some (iv (Od.ch i q)) := (HB2.out.cell (p := ⟨g, o + q, none⟩) (World.block_lt_of_cell? wO _ d1)).trans d1
              have d2' : wr.cell? ⟨g, o + j, none⟩ = some (iv (Od.ch i j)) := (HB2.out.cell (p := ⟨g, o + j, none⟩) (World.block_lt_of_cell? wO _ d2)).trans d2
              have hch : Od.ch (i + 1) j = Od.ch i q + Od.ch i j := by rw [hq, Od.ch_succ]
              obtain ⟨x, hx⟩ : ∃ x, x = Od.ch i q := ⟨_, rfl⟩
              obtain ⟨y, hy⟩ : ∃ x, x = Od.ch i j := ⟨_, rfl⟩
              have b1 := Od.ch_le i q
              have b2 := Od.ch_le i j
              have b3 : (2 : Nat) ^ i ≤ 2 ^ 30 := Nat.pow_le_pow_right (by omega) (by omega)
              have b4 : (2 : Nat) ^ 30 = 1073741824 := by decide
              rw [← hx] at d1' hch b1
              rw [← hy] at d2' hch b2
              have hwx : IntKind.i64.wrap ((x : Int) + (y : Int)) = ((x + y : Nat) : Int) := by rw [IntWalk.i64_in _ (by omega)]; omega
              have hwj : IntKind.i64.wrap ((j : Int) - 1) = (q : Int) := by rw [IntWalk.i64_in _ (by omega)]; omega
              have hnx : Od.pnext (i + 1) j ++ [iv ((x + y : Nat) : Int)] = Od.pnext (i + 1) (j + 1) := by rw [← hch, Od.pnext_succ]
              have Hnx := Lib.hid hnx
              have hjI : (j : Int) < (R : Int) := by omega
              have hqI : (q : Int) < (R : Int) := by omega
              have hj9 : j + 1 ≤ 1000000 := by omega
              obtain ⟨i0, hi0, hi1, hi2, hi3⟩ := info_parts info_int
              obtain ⟨z, hz'⟩ : ∃ z, z = x + y := ⟨_, rfl⟩
              rw [← hz'] at hwx Hnx
              have HU : Hid (∀ W, Below wr.heap.size wr W → W.ownsRow wO.heap.size 3 1 u17 j (Od.pnext (i + 1) j)) := Lib.hid (fun W hW => owns_below HO2.out hW)
              have D1 := Lib.hid d1
              have D2 := Lib.hid d2
              rw [← hx] at D1
              rw [← hy] at D2
              have hgO : g < wO.heap.size := World.block_lt_of_cell? wO _ d1
              have HBa : Hid (Below wO.heap.size wO (wr.alloc (.cells #[iv z] 3)).drew) := Lib.hid (HB2.out.trans (((Below.refl _ _).alloc (Nat.le_refl _) _).drew.mono hz2))
              clear d1 d2 hch hx hy b1 b2 b3 b4 hnx hq hR' hz'
              go_wp2_with fail
              go_region_held3 (fun w' => w'.cell? ⟨g, o + q, none⟩ = some (iv x) ∧ w'.cell? ⟨g, o + j, none⟩ = some (iv y))
                (first | exact ⟨d1', d2'⟩ | exact K1 | go_keep)
                (first | (refine step_append_lies _ (by rfl) _ _ _ (by rfl) wO.heap.size 3 i0 _ 1 8 Tryd.underlying23 hi0 hi1 hi2 hi3 rfl (by omega) u17 j (Od.pnext (i + 1) j) (by rfl) (HU.out _ ((Below.refl _ _).alloc (Nat.le_refl _) _).drew) ⟨wr.heap.size, 0, none⟩ 1 1 [iv z] (by rfl) (by rfl) (World.news_of_block (cs := #[iv z]) (t := 3) (fr := (0, 0)) (heap_alloc_new wr _)) (by intro u hu; simp at hu; subst hu; rfl) (by omega) (by unfold maxLen; omega) (by omega) (by simp; omega) (wr.heap.size + 1) (by simp) ?_; intro gg cap w1 hown1 hgrow hat hlt; have HO9 := Lib.hid hown1; have HB9 := Lib.hid (HBa.out.trans ((Kept.grown hgrow).toBelow HBa.out.size (fun b _ e => (OwnR.lt (OwnR.of_owns HO2.out) e.symm).1))); have K1 := And.intro ((HB9.out.cell (p := ⟨g, o + q, none⟩) hgO).trans D1.out) ((HB9.out.cell (p := ⟨g, o + j, none⟩) hgO).trans D2.out); clear hown1 hgrow hat hlt))
              rw [Hnx.out] at HO9
              clear K1 HBa D1 D2 HU HO2 HB2 d1' d2'
              go_wp2_with fail
              go_roundg (gk - 1)
              case measure => have := Hj.out; have := HR.out; omega
              case rel => exact ⟨j + 1, by omega, by have := Hj.out; have := HR.out; omega, by go_num, HO9.out, HB9.out⟩
            · have hjR' : j = i + 1 := by have := Hj.out; have := HR.out; omega
              have hjI : ¬ (j : Int) < (R : Int) := by omega
              have hnx : Od.pnext (i + 1) j ++ [iv 1] = Od.prow (i + 1) := by
                rw [hjR']
                have e : iv 1 = iv (Od.ch (i + 1) (i + 1)) := by rw [Od.ch_self]; rfl
                rw [e, Od.pnext_succ]; rfl
              have Hnx := Lib.hid hnx
              have hj9 : j + 1 ≤ 1000000 := by omega
              have HjR := Lib.hid hjR'
              clear hnx hjR'
              go_wp2_with (at_builtin; refine app1 wO wr _ 3 23 rfl _ _ rfl wO.heap.size Tryd.underlying23 info_int rfl _ j _ rfl _ rfl rfl HO2.out rfl hj9 (by decide) hz2 HB2.out ?_)
              intro v8 w8 hown8 hb8 _ _
              rw [Hnx.out, HjR.out] at hown8
              have HO8 := Lib.hid (owns_lower hown8 hz)
              have HB8 := Lib.hid (HB.out.trans (hb8.mono hz))
              clear hown8 hb8 HO2 HB2
              go_wp2_with fail
              go_roundg (gO - 1)
              case measure => have := Hi.out; omega
              case rel => exact ⟨i + 1, by have := Hi.out; omega, by go_num, HO8.out, HB8.out⟩
        · have hin' : i = nn := by have := Hi.out; omega
          have hiI : ¬ (i : Int) < (nn : Int) := by omega
          have d0 := Hcell.out kk (by omega)
          rw [hin', Od.prow_at (by omega), ← Hcv2.out] at d0
          have hkI : (kk : Int) < ((i + 1 : Nat) : Int) := by omega
          have hkI' : (kk : Int) < (i : Int) + 1 := by omega
          clear hin'
          go_wp2_with fail
          go_meet
          exact ⟨rfl, rfl, _, rfl, HB.out⟩
  case rest => as_aux_lemma =>
  obtain ⟨rfl, rfl, w1, rfl, hb1⟩ := hcut
  have Hg1 := Lib.hid (Hg0.out.below (Nat.le_refl _) hb1)
  have HB1 := Lib.hid (HB0.out.trans (hb1.mono hz0))
  have hz1 := HB1.out.size
  have HE := Lib.hid (choose_tot n k w1)
  rw [← Hec.out, ← Hcv.out] at HE
  clear hb1 Hg0
  go_wp2_with fail
  refine HE.out.mono ?_
  rintro e w' ⟨rfl, rfl⟩
  clear HE
  go_wp2_with fail
  refine (same_eq _ _ Hg1.out).mono ?_
  rintro e w2 ⟨rfl, hb2⟩
  have Hg2 := Lib.hid (Hg1.out.below (Nat.le_refl _) hb2)
  have HB2 := Lib.hid (HB1.out.trans (hb2.mono hz1))
  have hz2 := HB2.out.size
  have HE := Lib.hid (rstripes_any m l _ w2 (HL.out.below HB2.out))
  rw [← HC.out] at HE
  clear hb2 Hg1
  go_wp2_with fail
  refine HE.out.mono ?_
  rintro e w' ⟨rfl, n3, rfl⟩
  have hb3 : Below w2.heap.size w2 (w2.drewN n3) := bdrew (Below.refl _ _) n3
  obtain ⟨w3, hw3⟩ : ∃ x, x = w2.drewN n3 := ⟨_, rfl⟩
  rw [← hw3] at hb3 ⊢
  have Hg3 := Lib.hid (Hg2.out.below (Nat.le_refl _) hb3)
  have HB3 := Lib.hid (HB2.out.trans (hb3.mono hz2))
  have hz3 := HB3.out.size
  clear hb3 hw3 HE Hg2
  obtain ⟨bf, hbf⟩ : ∃ b, b = decide (C = 0 ∧ (fails < 0 ∨ m < fails ∨ parity < 0 ∨ 10 < parity)) := ⟨_, rfl⟩
  have Hbf := Lib.hid hbf
  clear hbf
  go_upto_region 20 with (fail)
  go_cut [110] (fun z wq => z = .bool bf ∧ w3 = wq)
  case first => as_aux_lemma =>
    by_cases h0 : C = 0
    · have hor : bf = decide (fails < 0 ∨ m < fails ∨ parity < 0 ∨ 10 < parity) := by rw [Hbf.out]; exact decide_eq_decide.2 ⟨fun h => h.2, fun h => ⟨h0, h⟩⟩
      have Hor := Lib.hid hor
      clear hor Hbf HC
      subst h0
      by_cases a1 : fails < 0
      · obtain rfl : bf = true := by rw [Hor.out]; exact dec_t (.inl a1)
        go_wp2_with fail
        go_meet
        exact ⟨rfl, rfl⟩
      · by_cases a2 : m < fails
        · obtain rfl : bf = true := by rw [Hor.out]; exact dec_t (.inr (.inl a2))
          go_wp2_with fail
          go_meet
          exact ⟨rfl, rfl⟩
        · by_cases a3 : parity < 0
          · obtain rfl : bf = true := by rw [Hor.out]; exact dec_t (.inr (.inr (.inl a3)))
            go_wp2_with fail
            go_meet
            exact ⟨rfl, rfl⟩
          · by_cases a4 : 10 < parity
            · obtain rfl : bf = true := by rw [Hor.out]; exact dec_t (.inr (.inr (.inr a4)))
              go_wp2_with fail
              go_meet
              exact ⟨rfl, rfl⟩
            · obtain rfl : bf = false := by rw [Hor.out]; exact dec_f (by omega)
              go_wp2_with fail
              go_meet
              exact ⟨rfl, rfl⟩
    · obtain rfl : bf = false := by rw [Hbf.out]; exact dec_f (fun h => h0 h.1)
      have t1 : (C == 0) = false := beq_f h0
      clear h0
      go_wp2_with fail
      go_meet
      exact ⟨rfl, rfl⟩
  case rest =>
  obtain ⟨rfl, rfl⟩ := hcut
  have hef2 : ef = if bf then 1 else C := by
    rw [Hef.out]; unfold Od.faE
    rw [← HC.out, Hbf.out]
    by_cases h0 : C = 0
    · rw [if_neg (show ¬ C ≠ 0 by simp [h0])]
      by_cases hs : fails < 0 ∨ m < fails ∨ parity < 0 ∨ 10 < parity
      · rw [if_pos hs, dec_t ⟨h0, hs⟩]; rfl
      · rw [if_neg hs, dec_f (fun h => hs h.2)]; exact h0.symm
    · rw [if_pos h0, dec_f (fun h => h0 h.1)]; rfl
  have Hef2 := Lib.hid hef2
  clear hef2
  go_upto_if 110 with (fail)
  go_cut [13] (fun z wq => z = iv ef ∧ w3 = wq)
  case first => as_aux_lemma =>
    cases bf with
    | true =>
      obtain rfl : ef = 1 := Hef2.out
      go_wp2_with fail
      go_meet
      exact ⟨rfl, rfl⟩
    | false =>
      obtain rfl : ef = C := Hef2.out
      go_wp2_with fail
      go_meet
      exact ⟨rfl, rfl⟩
  case rest =>
  obtain ⟨rfl, rfl⟩ := hcut
  go_upto_if 112 with (fail)
  go_cut [14] (fun z wq => z = iv fv ∧ ∃ wk, wk = wq ∧ Below w3.heap.size w3 wk)
  case first => as_aux_lemma =>
    by_cases h0 : ef = 0
    · have hF : Od.faE m l fails parity = 0 := Hef.out.symm.trans h0
      have hF2 := hF
      unfold Od.faE at hF2
      have hck : Od.chk m l = 0 := Classical.byContradiction (fun h => by rw [if_pos h] at hF2; exact h hF2)
      rw [if_neg (by simp [hck])] at hF2
      have hbd : ¬ (fails < 0 ∨ m < fails ∨ parity < 0 ∨ 10 < parity) := fun h => by rw [if_pos h] at hF2; cases hF2
      have hk0 := Od.chk_0 hck
      obtain ⟨mn, rfl⟩ : ∃ x : Nat, m = x := ⟨m.toNat, by omega⟩
      obtain ⟨fn, rfl⟩ : ∃ x : Nat, fails = x := ⟨fails.toNat, by omega⟩
      have hv : fv = (Od.cnt mn (Od.natss l) parity fn : Int) := by rw [Hfv.out]; unfold Od.faV; rw [if_pos hF]; rfl
      have HE := Lib.hid (rfatal_any mn (by omega) (by omega) l hk0.2.2.1 hk0.2.2.2 fn parity _ w3 (HL.out.below HB3.out))
      rw [← hv] at HE
      clear Hef2 Hef
      subst h0
      clear hF hF2 hck hbd hk0 hv
      go_wp2_with fail
      refine HE.out.mono ?_
      rintro e w4 ⟨rfl, hb⟩
      have Hb := Lib.hid hb
      clear hb HE
      go_wp2_with fail
      go_meet
      exact ⟨rfl, _, rfl, Hb.out⟩
    · obtain rfl : fv = 0 := by rw [Hfv.out]; unfold Od.faV; rw [if_neg (fun h => h0 (Hef.out.trans h))]
      have t1 : (ef == 0) = false := beq_f h0
      clear h0
      go_wp2_with fail
      go_meet
      exact ⟨rfl, _, rfl, Below.refl _ _⟩
  case rest =>
  obtain ⟨rfl, w4, rfl, hb4⟩ := hcut
  have Hg4 := Lib.hid (Hg3.out.below (Nat.le_refl _) hb4)
  have HB4 := Lib.hid (HB3.out.trans (hb4.mono hz3))
  have hz4 := HB4.out.size
  have HE := Lib.hid (ofatal_tot m l fails parity _ w4 (HL.out.below HB4.out))
  unfold OdPost at HE
  rw [← Hef.out, ← Hfv.out] at HE
  clear hb4 Hg3
  go_wp2_with fail
  refine HE.out.mono ?_
  rintro e w5 ⟨rfl, hb5⟩
  have Hg5 := Lib.hid (Hg4.out.below (Nat.le_refl _) hb5)
  have HB5 := Lib.hid (HB4.out.trans (hb5.mono hz4))
  have hz5 := HB5.out.size
  clear hb5 HE Hg4
  go_wp2_with fail
  refine (same_eq _ _ Hg5.out).mono ?_
  rintro e w6 ⟨rfl, hb6⟩
  have Hg6 := Lib.hid (Hg5.out.below (Nat.le_refl _) hb6)
  have HB6 := Lib.hid (HB5.out.trans (hb6.mono hz5))
  have hz6 := HB6.out.size
  clear hb6 Hg5
  obtain ⟨bw, hbw⟩ : ∃ b, b = decide (C = 0 ∧ (parity < 0 ∨ 10 < parity)) := ⟨_, rfl⟩
  have Hbw := Lib.hid hbw
  clear hbw
  go_upto_region 27 with (fail)
  go_cut [143] (fun z wq => z = .bool bw ∧ w6 = wq)
  case first => as_aux_lemma =>
    by_cases h0 : C = 0
    · have hor : bw = decide (parity < 0 ∨ 10 < parity) := by rw [Hbw.out]; exact decide_eq_decide.2 ⟨fun h => h.2, fun h => ⟨h0, h⟩⟩
      have Hor := Lib.hid hor
      clear hor Hbw HC Hbf Hef2
      subst h0
      by_cases a3 : parity < 0
      · obtain rfl : bw = true := by rw [Hor.out]; exact dec_t (.inl a3)
        go_wp2_with fail
        go_meet
        exact ⟨rfl, rfl⟩
      · by_cases a4 : 10 < parity
        · obtain rfl : bw = true := by rw [Hor.out]; exact dec_t (.inr a4)
          go_wp2_with fail
          go_meet
          exact ⟨rfl, rfl⟩
        · obtain rfl : bw = false := by rw [Hor.out]; exact dec_f (by omega)
          go_wp2_with fail
          go_meet
          exact ⟨rfl, rfl⟩
    · obtain rfl : bw = false := by rw [Hbw.out]; exact dec_f (fun h => h0 h.1)
      have t1 : (C == 0) = false := beq_f h0
      clear h0
      go_wp2_with fail
      go_meet
      exact ⟨rfl, rfl⟩
  case rest => as_aux_lemma =>
  obtain ⟨rfl, rfl⟩ := hcut
  have hew2 : ew = if bw then 1 else C := by
    rw [Hew.out]; unfold Od.woE
    rw [← HC.out, Hbw.out]
    by_cases h0 : C = 0
    · rw [if_neg (show ¬ C ≠ 0 by simp [h0])]
      by_cases hs : parity < 0 ∨ 10 < parity
      · rw [if_pos hs, dec_t ⟨h0, hs⟩]; rfl
      · rw [if_neg hs, dec_f (fun h => hs h.2)]; exact h0.symm
    · rw [if_pos h0, dec_f (fun h => h0 h.1)]; rfl
  have Hew2 := Lib.hid hew2
  clear hew2
  go_upto_if 143 with (fail)
  go_cut [22] (fun z wq => z = iv ew ∧ w6 = wq)
  case first => as_aux_lemma =>
    cases bw with
    | true =>
      obtain rfl : ew = 1 := Hew2.out
      go_wp2_with fail
      go_meet
      exact ⟨rfl, rfl⟩
    | false =>
      obtain rfl : ew = C := Hew2.out
      go_wp2_with fail
      go_meet
      exact ⟨rfl, rfl⟩
  case rest =>
  obtain ⟨rfl, rfl⟩ := hcut
  go_upto_if 145 with (fail)
  go_cut [14, 24] (fun z _ wq => z = iv wv ∧ ∃ wk, wk = wq ∧ Below w6.heap.size w6 wk)
  case first => as_aux_lemma =>
    by_cases h0 : ew = 0
    · have hF : Od.woE m l parity = 0 := Hew.out.symm.trans h0
      have hF2 := hF
      unfold Od.woE at hF2
      have hck : Od.chk m l = 0 := Classical.byContradiction (fun h => by rw [if_pos h] at hF2; exact h hF2)
      have hk0 := Od.chk_0 hck
      obtain ⟨mn, rfl⟩ : ∃ x : Nat, m = x := ⟨m.toNat, by omega⟩
      have hv : wv = Od.worst mn (Od.natss l) parity := by rw [Hwv.out]; unfold Od.woV; rw [if_pos hF]; rfl
      have Hv := Lib.hid hv
      have HE : Hid (∀ (f : Nat) W, Below w6.heap.size w6 W → Calls Tryd.prog 10 #[iv mn, vl, iv f, iv parity] W fun e w' => e = .returned (iv (Od.cnt mn (Od.natss l) parity f)) ∧ Below W.heap.size W w') := Lib.hid (fun f W hW => rfatal_any mn (by omega) (by omega) l hk0.2.2.1 hk0.2.2.2 f parity _ W ((HL.out.below HB6.out).below hW))
      clear Hew2 Hew
      subst h0
      have hmn : mn ≤ 10 := by omega
      clear hF hF2 hck hk0 hv
      go_wp2_with fail
      go_loopg [14, 24] (mn + 2) (fun gk v14 v24 wr => (∃ i : Nat, i + gk = mn + 2 ∧ i ≤ mn + 1 ∧ v24 = iv i ∧ v14 = iv (-1) ∧ (∀ j, j < i → Od.cnt mn (Od.natss l) parity j = 0) ∧ Below w6.heap.size w6 wr) ∨ (∃ i : Nat, i + gk + 1 = mn + 2 ∧ i ≤ mn + 1 ∧ v24 = iv ((i + 1 : Nat) : Int) ∧ v14 = iv i ∧ wv = i ∧ Below w6.heap.size w6 wr))
      case atStart => exact .inl ⟨0, by omega, by omega, rfl, rfl, (fun j hj => by omega), Below.refl _ _⟩
      case round =>
        rcases hrel with ⟨i, hi, hi2, rfl, rfl, hno, hB⟩ | ⟨i, hi, hi2, rfl, rfl, hwv, hB⟩
        · have Hi := Lib.hid hi
          have Hno := Lib.hid hno
          have HB := Lib.hid hB
          have hz := hB.size
          clear hi hno hB
          by_cases him : i ≤ mn
          · have hiI : (i : Int) ≤ (mn : Int) := by omega
            have HE2 := Lib.hid (HE.out i wr HB.out)
            obtain ⟨c, hc⟩ : ∃ c, c = Od.cnt mn (Od.natss l) parity i := ⟨_, rfl⟩
            rw [← hc] at HE2
            have Hc := Lib.hid hc
            clear hc
            go_wp2_with fail
            refine HE2.out.mono ?_
            rintro e w7 ⟨rfl, hb7⟩
            have HB7 := Lib.hid (HB.out.trans (hb7.mono hz))
            clear hb7 HE2
            by_cases hc0 : 0 < c
            · have t1 : (0 : Int) < (c : Int) := by omega
              have Hw := Lib.hid (Hv.out.trans (Od.worst_hit (by omega) (by rw [← Hc.out]; exact hc0) Hno.out))
              go_wp2_with fail
              go_roundg (gk - 1)
              case measure => have := Hi.out; omega
              case rel => exact .inr ⟨i, by have := Hi.out; omega, by omega, by go_num, rfl, Hw.out, HB7.out⟩
            · have t1 : ¬ (0 : Int) < (c : Int) := by omega
              go_wp2_with fail
              go_roundg (gk - 1)
              case measure => have := Hi.out; omega
              case rel =>
                refine .inl ⟨i + 1, by have := Hi.out; omega, by omega, by go_num, rfl, fun j hj => ?_, HB7.out⟩
                by_cases e : j = i
                · subst e; rw [← Hc.out]; omega
                · exact Hno.out j (by omega)
          · have hi' : i = mn + 1 := by omega
            have hiI : ¬ (i : Int) ≤ (mn : Int) := by omega
            have Hw := Lib.hid (Hv.out.trans (Od.worst_miss (fun j hj => Hno.out j (by omega))))
            go_wp2_with fail
            go_meet
            exact ⟨by rw [Hw.out], _, rfl, HB.out⟩
        · have HB := Lib.hid hB
          have hwv' := hwv
          subst hwv'
          have t2 : ¬ (i : Int) < 0 := by omega
          have t3 : decide ((i : Int) < 0) = false := dec_f t2
          clear hB
          by_cases him : i + 1 ≤ mn
          · have hiI : ((i + 1 : Nat) : Int) ≤ (mn : Int) := by omega
            go_wp2_with fail
            go_meet
            exact ⟨rfl, _, rfl, HB.out⟩
          · have hiI : ¬ ((i + 1 : Nat) : Int) ≤ (mn : Int) := by omega
            go_wp2_with fail
            go_meet
            exact ⟨rfl, _, rfl, HB.out⟩
    · obtain rfl : wv = 0 := by rw [Hwv.out]; unfold Od.woV; rw [if_neg (fun h => h0 (Hew.out.trans h))]
      have t1 : (ew == 0) = false := beq_f h0
      clear h0
      go_wp2_with fail
      go_meet
      exact ⟨rfl, _, rfl, Below.refl _ _⟩
  case rest =>
  obtain ⟨rfl, w7, rfl, hb7⟩ := hcut
  have Hg7 := Lib.hid (Hg6.out.below (Nat.le_refl _) hb7)
  have HB7 := Lib.hid (HB6.out.trans (hb7.mono hz6))
  have hz7 := HB7.out.size
  have HE := Lib.hid (oworst_tot m l parity _ w7 (HL.out.below HB7.out))
  unfold OdPost at HE
  rw [← Hew.out, ← Hwv.out] at HE
  clear hb7 Hg6
  go_wp2_with fail
  refine HE.out.mono ?_
  rintro e w8 ⟨rfl, hb8⟩
  have Hg8 := Lib.hid (Hg7.out.below (Nat.le_refl _) hb8)
  have HB8 := Lib.hid (HB7.out.trans (hb8.mono hz7))
  have hz8 := HB8.out.size
  clear hb8 HE Hg7
  go_wp2_with fail
  refine (same_eq _ _ Hg8.out).mono ?_
  rintro e w9 ⟨rfl, hb9⟩
  have Hg9 := Lib.hid (Hg8.out.below (Nat.le_refl _) hb9)
  have HB9 := Lib.hid (HB8.out.trans (hb9.mono hz8))
  have hz9 := HB9.out.size
  clear hb9 Hg8
  go_wp2_with fail
  go_ret
  exact ⟨rfl, HB9.out⟩
end Go.Proofs.YtkkfpdjhnffpbaaDoor
