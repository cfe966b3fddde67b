/- The walk of the law ScrubMends: it returns true. -/
import Derived.Test.YtcldioneiededaaDoorScrM
import Derived.Test.YtcldioneiededaaDoorScrS
import Derived.Test.YtcldioneiededaaDoorArR
namespace Go.Proofs.YtcldioneiededaaDoor
open Go.ChangeShapes Go.WideShapes Go.ChangeAt Go.RowKit
set_option linter.unusedVariables false
theorem Ar.told_rest {p : Nat → Option Nat} {r k : Nat} (hr : r ≤ k) (h : ∀ row, r ≤ row → p row = none) : Ar.told p k = Ar.told p r := by
  induction k with
  | zero => obtain rfl : r = 0 := by omega
            rfl
  | succ k ih =>
    by_cases e : r = k + 1
    · rw [e]
    · rw [Ar.told_skip (h k (by omega)), ih (by omega)]
theorem strl_ne {a b : ByteArray} (h : a ≠ b) : (a.toList == b.toList) = false ∧ ¬ a.toList = b.toList := by
  have h1 : ¬ a.toList = b.toList := fun e => h (by
    rw [ByteArray.toList_eq, ByteArray.toList_eq] at e
    exact ByteArray.ext (Array.toList_inj.1 e))
  exact ⟨beq_eq_false_iff_ne.2 h1, h1⟩
structure SMid (n rows K E M gw cw k : Nat) (w : World) (s t : Ar.S) (p : Nat → Option Nat) (vw : Value) (wr : World) : Prop where
  pk : Ar.Pk n rows 2 k s t p
  ary : AryOk (fun q => w.heap.size ≤ q ∧ q < E) K wr w.heap.size t
  was : wr.ownsRow E 9 1 (.slice (some ⟨gw, 0, none⟩) M cw) M (tabS M s.blk)
  want : wr.ownsRow E 29 2 vw (Ar.told p k).length (spc (Ar.told p k))
  bel : Below w.heap.size w wr
  wE : w.heap.size ≤ E
  Ew : E ≤ wr.heap.size
namespace SMid
variable {n rows K K' E M gw cw k : Nat} {w : World} {s t t' : Ar.S} {p p' : Nat → Option Nat} {vw : Value} {wr w' : World}
theorem below (h : SMid n rows K E M gw cw k w s t p vw wr) (hb : Below wr.heap.size wr w') : SMid n rows K E M gw cw k w s t p vw w' :=
  ⟨h.pk, h.ary.below hb, owns_below h.was hb, owns_below h.want hb, h.bel.trans (hb.mono h.bel.size), h.wE, Nat.le_trans h.Ew hb.size⟩
theorem skip (h : SMid n rows K E M gw cw k w s t p vw wr) : SMid n rows K E M gw cw (k + 1) w s t p vw wr :=
  ⟨Ar.pk_skip h.pk, h.ary, h.was, by rw [Ar.told_skip (h.pk.rest k (Nat.le_refl _))]; exact h.want, h.bel, h.wE, h.Ew⟩
theorem keeps (h : SMid n rows K E M gw cw k w s t p vw wr) (hK : Kept (fun q => w.heap.size ≤ q ∧ q < E) wr w') : w'.ownsRow E 9 1 (.slice (some ⟨gw, 0, none⟩) M cw) M (tabS M s.blk) ∧ w'.ownsRow E 29 2 vw (Ar.told p k).length (spc (Ar.told p k)) ∧ Below w.heap.size w w' :=
  ⟨Kept.owns h.was hK (fun g hg hh => by have h1 := (h.was.lt g hg).1; have h2 : g < E := hh.2; omega), Kept.owns h.want hK (fun g hg hh => by have h1 := (h.want.lt g hg).1; have h2 : g < E := hh.2; omega), h.bel.trans (hK.toBelow (B := w.heap.size) h.bel.size (fun q _ hh => hh.1))⟩
theorem cell (h : SMid n rows K E M gw cw k w s t p vw wr) {j : Nat} (hj : j < M) : wr.cell? ⟨gw, j, none⟩ = some (.string (s.blk j)) := by
  rw [h.was.cellAt j (by omega)]; unfold tabS; rw [List.getElem?_map, List.getElem?_range hj]; rfl
end SMid
theorem strl_eqL (b : ByteArray) : (b.toList == b.toList) = true := by simp
theorem own_ne3 {w : World} {b1 b2 z1 z2 : Nat} {e1 e2 : TypeId} {v v' : Value} {n n' : Nat} {xs xs' : List Value} (h : w.ownsRow b1 e1 z1 v n xs) (h' : w.ownsRow b2 e2 z2 v' n' xs') (he : e1 ≠ e2) : ∀ g, v.ownBlock = some g → v'.ownBlock ≠ some g := by
  intro g hg hg'
  rcases h.2 with ⟨rfl, _⟩ | ⟨g1, c1, cur1, rfl, _, k1, _⟩
  · cases hg
  · rcases h'.2 with ⟨rfl, _⟩ | ⟨g2, c2, cur2, rfl, _, k2, _⟩
    · cases hg'
    · cases hg
      cases hg'
      exact at_apart k1 k2 he rfl
def M2Rel (E K B M : Nat) (s : Ar.S) (w w1 : World) (gk : Nat) (v14 v15 : Value) (wr : World) : Prop :=
  ∃ k : Nat, k + gk = M ∧ v15 = iv k ∧ wr.ownsRow E 9 1 v14 k (tabS k s.blk) ∧ AryOk (fun q => B ≤ q ∧ q < E) K wr B s ∧ Below E w1 wr
def M3Rel (n rows E M gw cw N : Nat) (w : World) (s : Ar.S) (K : Nat) (gk : Nat) (v18 v19 : Value) (wr : World) : Prop :=
  ∃ (r : Nat) (t : Ar.S) (p : Nat → Option Nat), r + gk = N ∧ v19 = iv r ∧ SMid n rows (K + r) E M gw cw r w s t p v18 wr
def M6Rel (n r d : Nat) (t : Ar.S) (x : ByteArray) (wO : World) (gk : Nat) (v26 v27 : Value) (wr : World) : Prop :=
  ∃ (i : Nat) (b : Bool), i + gk = n ∧ v27 = iv i ∧ v26 = .bool b ∧ wO = wr ∧ (b = true ↔ ∃ j, j < i ∧ Ar.dk n r j = d ∧ t.c d r = x)
def M8Rel (n rows K E M gw cw : Nat) (w : World) (s t : Ar.S) (vw : Value) (gk : Nat) (v : Value) (wr : World) : Prop :=
  ∃ y : Nat, y + gk = M ∧ v = iv y ∧ AryOk (fun q => w.heap.size ≤ q ∧ q < E) K wr w.heap.size t ∧ wr.ownsRow E 9 1 (.slice (some ⟨gw, 0, none⟩) M cw) M (tabS M s.blk) ∧ Below w.heap.size w wr
set_option maxRecDepth 100000 in
set_option maxHeartbeats 8000000 in
theorem scrubMends_yes (n rows : Nat) (ls : List ByteArray) (xs : List Int) (x : ByteArray) (h3 : 3 ≤ n) (h10 : n ≤ 10) (h1 : 1 ≤ rows) (h2 : rows ≤ 20) (hls : ∀ s ∈ ls, s.size ≤ maxLen) (hx : x.size ≤ maxLen) (v v3 : Value) (w : World) (hv : Strs w v ls) (hv3 : Row w v3 (xs.map iv)) (hg : Handle w) :
    Calls Tryd.prog 7 #[iv n, iv rows, v, v3, .string x] w fun e w' => e = .returned (.bool true) ∧ Below w.heap.size w w' := by
  have Hg := Lib.hid hg
  have Hls := Lib.hid hls
  clear hg hls
  have HN := Lib.hid (aNew_yes n rows 2 h3 h10 h1 h2 (by omega) (by omega) w)
  have hm9 : rows * (n - 2) ≤ 20 * 8 := Nat.mul_le_mul h2 (by omega)
  have hm1 : 1 * 1 ≤ rows * (n - 2) := Nat.mul_le_mul h1 (by omega)
  have hmI : (rows : Int) * ((n : Int) - 2) = ((rows * (n - 2) : Nat) : Int) := by rw [Int.natCast_mul, show ((n - 2 : Nat) : Int) = (n : Int) - 2 by omega]
  have hw1 : IntKind.i64.wrap ((n : Int) - 2) = (n : Int) - 2 := IntWalk.i64_in _ (by omega)
  have hw2 : IntKind.i64.wrap ((rows : Int) * ((n : Int) - 2)) = ((rows * (n - 2) : Nat) : Int) := by rw [hmI]; exact IntWalk.i64_in _ (by omega)
  have hs0 := Ar.s0_wh h3 h10 h1 h2 (show 1 ≤ 2 by omega) (show 2 ≤ 16 by omega)
  obtain ⟨M, hM⟩ : ∃ M, M = rows * (n - 2) := ⟨_, rfl⟩
  rw [← hM] at hm9 hm1 hw2
  have HM := Lib.hid hM
  obtain ⟨p, cap, rfl, hl0, hc⟩ := hv.get
  obtain ⟨L, hL⟩ : ∃ L, L = ls.length := ⟨_, rfl⟩
  rw [← hL] at hl0 ⊢
  have hcs : ∀ y, y < L → ∃ g off s0, p = some ⟨g, off, none⟩ ∧ w.cell? ⟨g, off + y, none⟩ = some (.string s0) ∧ g < w.heap.size ∧ s0.size ≤ maxLen := fun y hy => by
    have e := List.getElem?_eq_getElem (l := ls) (i := y) (by omega)
    obtain ⟨g, off, q1, q2, q3⟩ := hc y _ e
    exact ⟨g, off, _, q1, q2, q3, Hls.out _ (List.getElem_mem _)⟩
  have Hc := Lib.hid hcs
  obtain ⟨pp, pc, rfl, pl1, pl2, pl3⟩ := hv3.shape
  rw [List.length_map] at pl1 pl3 ⊢
  obtain ⟨PL, hPL⟩ : ∃ PL, PL = xs.length := ⟨_, rfl⟩
  rw [← hPL] at pl1 pl3 ⊢
  have hps : ∀ y, y < PL → ∃ g off q, pp = some ⟨g, off, none⟩ ∧ w.cell? ⟨g, off + y, none⟩ = some (iv q) ∧ g < w.heap.size := fun y hy => by
    obtain ⟨g, off, q1, q2⟩ := pl3 (by omega)
    have := q2 y hy
    rw [List.getElem?_map, List.getElem?_eq_getElem (by omega)] at this
    exact ⟨g, off, _, q1, this, World.block_lt_of_cell? w _ this⟩
  have Hps := Lib.hid hps
  unfold maxLen at pl2 hx
  have HL := Lib.hid hL
  have HS0 := Lib.hid hs0
  have td1 : decide (n ≤ 2) = false := dec_f (by omega)
  obtain ⟨N, hN⟩ : ∃ N, N = min L M := ⟨_, rfl⟩
  obtain ⟨N2, hN2⟩ : ∃ N2, N2 = min rows PL := ⟨_, rfl⟩
  have hPL9 : PL ≤ 9223372036854775807 := by omega
  have Hpl3 := Lib.hid hPL
  clear hmI hM hc hL hv hs0 hcs hv3 hps pl3 hPL
  go_enter Tryd.func7, Tryd.ntmps7
  go_wp2_with fail
  refine HN.out.mono ?_
  rintro e w1 ⟨rfl, hA, hB⟩
  have hz1 := hB.size
  have HA := Lib.hid hA
  have HB := Lib.hid hB
  clear hA hB HN
  go_upto_block 0 with (fail)
  go_cut [] (fun wq => ∃ wk K, wk = wq ∧ K ≤ 200 ∧ WMid w.heap.size n rows 2 K w wk)
  case first => as_aux_lemma =>
    go_wp2_with fail
    go_loopg [13] N (fun gk v11 wr => W1Rel w.heap.size n rows 2 N w gk v11 wr)
    case atStart => exact ⟨0, by omega, rfl, _, HS0.out, HA.out, HB.out⟩
    case round =>
      clear HA HB
      obtain ⟨y, hy, rfl, s, hW, hA, hB⟩ := hrel
      have Hy := Lib.hid hy
      have HW := Lib.hid hW
      have HA := Lib.hid hA
      have HB := Lib.hid hB
      have hzr := hB.size
      clear hy hW hA hB
      by_cases hyL : y < L
      · obtain ⟨g, off, s0, rfl, hcl, hgl, hsz⟩ := Hc.out y hyL
        by_cases hyM : y < M
        · have c0 := (HB.out.cell (p := ⟨g, off + y, none⟩) hgl).trans hcl
          have hs9 := hsz
          unfold maxLen at hs9
          by_cases h22 : s0.size = 2
          · have hw := Ar.wh_write HW.out (y := y) (x := s0) (by rw [← HM.out]; exact hyM) h22
            have HWr := Lib.hid (aWrite HA.out (by omega) (y : Int) (by omega) (by omega) s0 hsz)
            have HW2 := Lib.hid hw.2.1
            have t1 : ((s0.size : Int) == 2) = true := beq_t (by omega)
            rw [hw.1, errV_0] at HWr
            clear hw h22 hcl hsz
            go_wp2_with fail
            refine HWr.out.mono ?_
            rintro e w2 ⟨rfl, hA2, hK2⟩
            have HA2 := Lib.hid hA2
            have HB2 := Lib.hid (HB.out.trans (hK2.toBelow (B := w.heap.size) hzr (fun p _ h => h)))
            clear hA2 hK2
            go_wp2_with fail
            go_roundg (gk - 1)
            case measure => have := Hy.out; omega
            case rel => exact ⟨y + 1, by have := Hy.out; omega, by go_num, _, HW2.out, HA2.out, HB2.out⟩
          · have t1 : ((s0.size : Int) == 2) = false := beq_f (by omega)
            clear h22 hcl hsz
            go_wp2_with fail
            go_roundg (gk - 1)
            case measure => have := Hy.out; omega
            case rel => exact ⟨y + 1, by have := Hy.out; omega, by go_num, _, HW.out, HA.out.more (by omega), HB.out⟩
        · have hyn : y = N := by have := Hy.out; omega
          clear hcl hgl hsz
          go_wp2_with fail
          go_meet
          exact ⟨_, y, rfl, by omega, s, HW.out, HA.out, HB.out⟩
      · have hyn : y = N := by have := Hy.out; omega
        go_wp2_with fail
        go_meet
        exact ⟨_, y, rfl, by omega, s, HW.out, HA.out, HB.out⟩
  case rest =>
    obtain ⟨wO, K, hwO, hK, s, hW, hA, hB⟩ := hcut
    clear HA HB Hc
    obtain ⟨E, hE⟩ : ∃ E, E = wO.heap.size := ⟨_, rfl⟩
    have hzO := hB.size
    have HAE : Hid (AryOk (fun p => w.heap.size ≤ p ∧ p < E) K wO w.heap.size s) := Lib.hid (hA.wide (fun k hk h => ⟨h, by rw [hE]; exact hk⟩))
    have HW := Lib.hid hW
    have HB := Lib.hid hB
    have HE := Lib.hid hE
    subst hwO
    clear hA hB hW hE
    go_upto_block 2 with (fail)
    go_cut [14] (fun v14 wq => ∃ wk gw cw, wk = wq ∧ v14 = .slice (some ⟨gw, 0, none⟩) M cw ∧ M ≤ cw ∧ cw ≤ maxLen ∧ SMid n rows K E M gw cw 0 w s s (fun _ => none) (.slice none 0 0) wk)
    case first => as_aux_lemma =>
      go_wp2_with fail
      go_loopg [14, 15, 16, 17] M (fun gk v14 v15 v16 v17 wr => M2Rel E K w.heap.size M s w wO gk v14 v15 wr)
      case atStart => exact ⟨0, by omega, rfl, World.ownsRow_nil _ _ _ _, HAE.out, Below.refl _ _⟩
      case round =>
        clear HAE
        obtain ⟨k, hk, rfl, hO, hA, hB2⟩ := hrel
        have Hk := Lib.hid hk
        have HO := Lib.hid hO
        have HA := Lib.hid hA
        have HB2 := Lib.hid hB2
        have hzr := hB2.size
        clear hk hO hA hB2
        by_cases hlt : k < M
        · have HRd := Lib.hid (aRead HA.out (k : Int) (by omega) (by omega))
          rw [Ar.wh_read HW.out (y := k) (by rw [← HM.out]; exact hlt), errV_0] at HRd
          have hts := tabS_succ k s.blk
          obtain ⟨xb, hxb⟩ : ∃ xb, xb = s.blk k := ⟨_, rfl⟩
          rw [← hxb] at HRd hts
          have Hts := Lib.hid hts
          clear hts hxb
          go_wp2_with fail
          refine HRd.out.mono ?_
          rintro e w2 ⟨rfl, hb2⟩
          have HO2 := Lib.hid (owns_below HO.out hb2)
          have HA2 := Lib.hid (HA.out.below hb2)
          have HBO := Lib.hid (HB2.out.trans (hb2.mono (by rw [HE.out]; exact hzr)))
          have hz2 := hb2.size
          have hEz : E ≤ w2.heap.size := by rw [HE.out]; omega
          have hk9 : k + 1 ≤ 1000000 := by omega
          clear hb2
          go_wp2_with (at_builtin; refine app1 w2 w2 (.string xb) 9 40 rfl _ _ rfl E Tryd.underlying40 info_strY rfl _ k _ rfl _ rfl rfl HO2.out rfl hk9 (by decide) hEz (Below.refl _ _) ?_)
          intro v9 w9 hO9 hB9 hg9 _
          have HO9 : Hid (w9.ownsRow E 9 1 v9 (k + 1) (tabS (k + 1) s.blk)) := Lib.hid (by rw [Hts.out]; exact hO9)
          have HA9 := Lib.hid (HA2.out.kept (Kept.grown hg9) (fun q hq e => by have h1 := (HO2.out.lt q e.symm).1; have h2 : q < E := hq.2; omega))
          have HB9 := Lib.hid (HBO.out.trans (hB9.mono (by rw [HE.out]; exact Nat.le_refl _)))
          clear hO9 hB9 hg9
          go_wp2_with fail
          go_roundg (gk - 1)
          case measure => have := Hk.out; omega
          case rel => exact ⟨k + 1, by have := Hk.out; omega, by go_num, HO9.out, HA9.out, HB9.out⟩
        · have hkM : k = M := by have := Hk.out; omega
          subst hkM
          obtain ⟨gw, cw, hv14, _, _, hcw1, hcw2, _, _⟩ := owns_pos HO.out (by omega)
          subst hv14
          have HSM : Hid (SMid n rows K E k gw cw 0 w s s (fun _ => none) (.slice none 0 0) wr) := Lib.hid ⟨Ar.pk_start HW.out, HA.out, HO.out, World.ownsRow_nil _ _ _ _, HB.out.trans (HB2.out.mono (by rw [HE.out]; exact hzO)), by rw [HE.out]; exact hzO, by rw [HE.out]; exact hzr⟩
          go_wp2_with fail
          go_meet
          exact ⟨_, _, _, rfl, rfl, hcw1, hcw2, HSM.out⟩
    case rest =>
      obtain ⟨w3, gw, cw, hw3, rfl, hcw1, hcw2, hSM⟩ := hcut
      subst hw3
      have HSM := Lib.hid hSM
      unfold maxLen at hcw2
      clear hSM HAE HB
      go_upto_block 4 with (fail)
      go_cut [18] (fun v18 wq => ∃ wk t p K2, wk = wq ∧ K2 ≤ 300 ∧ SMid n rows K2 E M gw cw rows w s t p v18 wk)
      case first => as_aux_lemma =>
        have hr0 : ∀ wr vw t p r, r ≤ rows → SMid n rows (K + r) E M gw cw r w s t p vw wr → SMid n rows (K + r) E M gw cw rows w s t p vw wr := fun wr vw t p r hr h =>
          ⟨⟨h.pk.al, h.pk.row, fun row hrow => h.pk.rest row (by omega)⟩, h.ary, h.was, by rw [Ar.told_rest hr h.pk.rest]; exact h.want, h.bel, h.wE, h.Ew⟩
        have Hr0 := Lib.hid hr0
        clear hr0
        go_wp2_with fail
        go_loopg [18, 19, 20, 21, 22, 23, 24, 25, 26, 27] N2 (fun gk v18 v19 v20 v21 v22 v23 v24 v25 v26 v27 wr => M3Rel n rows E M gw cw N2 w s K gk v18 v19 wr)
        case atStart => exact ⟨0, s, fun _ => none, by omega, rfl, HSM.out⟩
        case round =>
          clear HSM
          obtain ⟨gO, hgO⟩ : ∃ x : Nat, x = gk := ⟨_, rfl⟩
          subst hgO
          obtain ⟨r, t, p, hr, rfl, hS⟩ := hrel
          have Hr := Lib.hid hr
          have HS := Lib.hid hS
          clear hr hS
          by_cases hlt : r < rows
          · by_cases hltp : r < PL
            · have b1 : decide (r < PL) = true := dec_t hltp
              obtain ⟨g, off, q, rfl, hcq, hgq⟩ := Hps.out r hltp
              have c0 := (HS.out.bel.cell (p := ⟨g, off + r, none⟩) hgq).trans hcq
              clear hcq
              have hskip : ∀ (v20 : Int), True := fun _ => trivial
              clear hskip
              by_cases hq0 : 0 ≤ q
              · by_cases hqn : q < (n : Int)
                · by_cases hx2 : x.size = 2
                  · have t1 : ((x.size : Int) != 2) = false := bne_f (by omega)
                    obtain ⟨d, rfl⟩ : ∃ d : Nat, q = d := ⟨q.toNat, by omega⟩
                    have hdn : d < n := by omega
                    have e1 := HS.out.pk.al.er
                    have e2 := HS.out.pk.al.en
                    have hrf := rawF_in (s := t) (r := r) (by rw [e1]; exact hlt)
                    have hpf := Ar.S.parts_full HS.out.pk.al.ok (HS.out.pk.al.many hlt)
                    have HRaw := Lib.hid (aRaw HS.out.ary (r : Int))
                    have Hrf := Lib.hid hrf
                    have Hpf := Lib.hid hpf
                    have E2 := Lib.hid e2
                    have HOr := Lib.hid (fun w' => order_yes (n : Int) (r : Int) (by omega) (by omega) (by omega) (by omega) w')
                    have hpk := Ar.pk_poke HS.out.pk hlt hdn hx2
                    have Hpk := Lib.hid hpk
                    clear hx2 e1 e2 hrf hpf hpk
                    go_wp2_with fail
                    refine HRaw.out.mono ?_
                    rintro e w4 ⟨v1, v2, rfl, hP, hL, hB4⟩
                    rw [Hrf.out.1, errV_0]
                    rw [Hrf.out.2.1, t.parts_len, E2.out] at hP
                    obtain ⟨gp, cp, rfl, _, _, hp3, hp4, hp5, _⟩ := owns_pos hP (by omega)
                    obtain ⟨pm, cm, hvm, _, _⟩ := (row_of_owns hL).1.shape
                    have HS4 := Lib.hid (HS.out.below hB4)
                    have hgp4 : gp < w4.heap.size := (hP.lt gp rfl).2
                    have hpc : ∀ i, i < n → w4.cell? ⟨gp, i, none⟩ = some (.string (t.c (Ar.dk n r i) r)) := fun i hi => by
                      rw [hp5 i hi, Hpf.out, List.getElem?_map]
                      have : (t.full r)[i]? = some (t.c (Ar.dk t.n r i) r) := by
                        unfold Ar.S.full
                        rw [List.getElem?_map, List.getElem?_range (by rw [E2.out]; exact hi)]; rfl
                      rw [this, E2.out]; rfl
                    have Hpc := Lib.hid hpc
                    unfold maxLen at hp4
                    clear hP hL hB4 HRaw hp5 hpc hvm
                    go_wp2_with fail
                    refine (HOr.out w4).mono ?_
                    rintro e w5 ⟨vo, rfl, hO5, hB5⟩
                    rw [Int.toNat_natCast, ordN_eq (by omega)] at hO5
                    obtain ⟨go, co, rfl, _, hgo5, ho3, ho4, ho5, _⟩ := owns_pos hO5 (by omega)
                    have HS5 := Lib.hid (HS4.out.below hB5)
                    have Hod : Hid (∀ i, i < n → w5.cell? ⟨go, i, none⟩ = some (iv (Ar.dk n r i))) := Lib.hid (fun i hi => (ho5 i hi).trans (ordN_get hi))
                    have Hpc5 : Hid (∀ i, i < n → w5.cell? ⟨gp, i, none⟩ = some (.string (t.c (Ar.dk n r i) r))) := Lib.hid (fun i hi => (hB5.cell (p := ⟨gp, i, none⟩) hgp4).trans (Hpc.out i hi))
                    unfold maxLen at ho4
                    clear hO5 hB5 ho5 Hpc HS4
                    go_wp2_with fail
                    go_loopg [26, 27] n (fun gk v26 v27 wr => M6Rel n r d t x w5 gk v26 v27 wr)
                    case atStart => exact ⟨0, false, by omega, rfl, rfl, rfl, ⟨(fun h => by cases h), (fun h => by obtain ⟨j, hj, _⟩ := h; omega)⟩⟩
                    case round =>
                      obtain ⟨i, bs, hi, rfl, rfl, rfl, hbs⟩ := hrel
                      have Hi := Lib.hid hi
                      have Hbs := Lib.hid hbs
                      clear hi hbs
                      by_cases hin : i < n
                      · have o5 := Hod.out i hin
                        have p5 := Hpc5.out i hin
                        obtain ⟨di, hdi⟩ : ∃ di, di = Ar.dk n r i := ⟨_, rfl⟩
                        rw [← hdi] at o5 p5
                        have Hdi := Lib.hid hdi
                        obtain ⟨y, hy⟩ : ∃ y, y = t.c di r := ⟨_, rfl⟩
                        rw [← hy] at p5
                        have Hy := Lib.hid hy
                        clear hdi hy
                        cases bs with
                        | true =>
                          go_wp2_with fail
                          go_roundg (gk - 1)
                          case measure => have := Hi.out; omega
                          case rel => exact ⟨i + 1, true, by have := Hi.out; omega, by go_num, rfl, rfl, by
                            constructor
                            · intro _
                              obtain ⟨j, hj, h2⟩ := Hbs.out.1 (by first | rfl | trivial)
                              exact ⟨j, by omega, h2⟩
                            · intro _; rfl⟩
                        | false =>
                          have hno : ∀ j, j < i → ¬ (Ar.dk n r j = d ∧ t.c d r = x) := fun j hj h => by
                            have := Hbs.out.2 ⟨j, hj, h⟩
                            cases this
                          have Hno := Lib.hid hno
                          clear hno
                          by_cases hde : di = d
                          · have td : ((di : Int) == (d : Int)) = true := beq_t (by omega)
                            by_cases hyx : y = x
                            · have hsl := strl_eqL x
                              subst hyx
                              have Hde := Lib.hid hde
                              clear hde
                              go_wp2_with fail
                              go_roundg (gk - 1)
                              case measure => have := Hi.out; omega
                              case rel => exact ⟨i + 1, true, by have := Hi.out; omega, by go_num, rfl, rfl, by
                                constructor
                                · intro _; exact ⟨i, by omega, by rw [← Hdi.out]; exact Hde.out, by rw [← Hde.out]; exact Hy.out.symm⟩
                                · intro _; rfl⟩
                            · obtain ⟨hs1, hs2⟩ := strl_ne hyx
                              have Hde := Lib.hid hde
                              have Hyx := Lib.hid hyx
                              clear hde hyx
                              go_wp2_with fail
                              go_roundg (gk - 1)
                              case measure => have := Hi.out; omega
                              case rel => exact ⟨i + 1, false, by have := Hi.out; omega, by go_num, rfl, rfl, by
                                constructor
                                · intro h; cases h
                                · rintro ⟨j, hj, h2, h3⟩
                                  exfalso
                                  by_cases e : j = i
                                  · exact Hyx.out (by rw [Hy.out, Hde.out]; exact h3)
                                  · exact Hno.out j (by omega) ⟨h2, h3⟩⟩
                          · have td : ((di : Int) == (d : Int)) = false := beq_f (by omega)
                            have Hde := Lib.hid hde
                            clear hde
                            go_wp2_with fail
                            go_roundg (gk - 1)
                            case measure => have := Hi.out; omega
                            case rel => exact ⟨i + 1, false, by have := Hi.out; omega, by go_num, rfl, rfl, by
                              constructor
                              · intro h; cases h
                              · rintro ⟨j, hj, h2, h3⟩
                                exfalso
                                by_cases e : j = i
                                · exact Hde.out (by rw [Hdi.out, ← e]; exact h2)
                                · exact Hno.out j (by omega) ⟨h2, h3⟩⟩
                      · have hie : i = n := by have := Hi.out; omega
                        have hbx : bs = true ↔ t.c d r = x := by
                          rw [Hbs.out]
                          constructor
                          · rintro ⟨_, _, _, h⟩; exact h
                          · intro h; exact ⟨Ar.ix n r d, by rw [hie]; exact Ar.ix_lt (by omega), Ar.dk_ix (by omega) (by omega) hdn, h⟩
                        have hts : t.c d r = s.c d r := Ar.pk_same HS5.out.pk hlt hdn
                        rw [hts] at hbx
                        have HPk := Lib.hid (aPoke HS5.out.ary (by omega) (d : Int) (r : Int) x (by unfold maxLen; exact hx))
                        rw [Hpk.out.1, errV_0] at HPk
                        have Hbx := Lib.hid hbx
                        clear hbx hts
                        go_wp2_with fail
                        refine HPk.out.mono ?_
                        rintro e w6 ⟨rfl, hA6, hK6⟩
                        obtain ⟨k1, k2, k3⟩ := HS5.out.keeps hK6
                        have hz6 := hK6.size
                        have hE6 : E ≤ w6.heap.size := Nat.le_trans HS5.out.Ew hz6
                        have hwE := HS5.out.wE
                        cases bs with
                        | true =>
                          have hsx := Hbx.out.1 rfl
                          have HS7 : Hid (SMid n rows (K + (r + 1)) E M gw cw (r + 1) w s (t.setC d r x) p u18 w6) := Lib.hid ⟨Hpk.out.2.1 hsx, hA6, k1, by rw [Ar.told_skip (HS5.out.pk.rest r (Nat.le_refl _))]; exact k2, k3, hwE, hE6⟩
                          clear hA6 hK6 k1 k2 k3 hsx HS5 HS
                          go_wp2_with fail
                          go_roundg (gO - 1)
                          case measure => have := Hr.out; omega
                          case rel => exact ⟨r + 1, _, _, by have := Hr.out; omega, by go_num, HS7.out⟩
                        | false =>
                          have hsx : s.c d r ≠ x := fun h => by have := Hbx.out.2 h; cases this
                          have hpk7 := Hpk.out.2.2 hsx
                          have HO7 := Lib.hid k2
                          have HW7 := Lib.hid k1
                          have HA7 := Lib.hid hA6
                          have HB7 := Lib.hid k3
                          have Hpk7 := Lib.hid hpk7
                          have htl := Ar.told_len p r
                          obtain ⟨m, hm⟩ : ∃ m, m = (Ar.told p r).length := ⟨_, rfl⟩
                          rw [← hm] at HO7 htl
                          have Hm := Lib.hid hm
                          obtain ⟨i0, hi0, hz0, hz1', hz2⟩ := info_parts info_spot
                          clear hA6 hK6 k1 k2 k3 hsx hpk7 hm HS5 HS
                          go_wp2_with (at_builtin; (refine wpList_append_own _ rfl _ _ 55 rfl E 29 i0 _ 2 16 Tryd.underlying55 hi0 hz0 hz1' hz2 rfl (by decide) _ m _ rfl (HO7.out.alloc _) ⟨w6.heap.size, 0, none⟩ 1 1 [iv d, iv r] rfl rfl ?k1 ?k2 ?k3 ?k4 ?k5 ?_))
                          case k1 =>
                            intro j u hj
                            have hj2 : j = 0 ∨ j = 1 := by have := (List.getElem?_eq_some_iff.1 hj).1; simp at this; omega
                            rw [Addr.add_lit, Nat.zero_add, World.cell?_alloc_at _ _ _ _ rfl]
                            rcases hj2 with rfl | rfl <;> exact hj
                          case k2 => intro u hu; simp at hu; rcases hu with rfl | rfl <;> rfl
                          case k3 => unfold maxLen; omega
                          case k4 => omega
                          case k5 => simp; omega
                          intro v9 w9 hO9 hg9 _
                          have hkg : Kept (fun q => some q = u18.ownBlock) w6 w9 := ((Kept.refl _ w6).alloc _).also (Kept.grown hg9)
                          have hup : Ar.told (Ar.up p r (some d)) (r + 1) = Ar.told p r ++ [(d, r)] := Ar.told_up
                          have hsp9 : spc (Ar.told p r ++ [(d, r)]) = spc (Ar.told p r) ++ [iv d, iv r] := by unfold spc; rw [List.flatMap_append]; rfl
                          have HS9 : Hid (SMid n rows (K + (r + 1)) E M gw cw (r + 1) w s (t.setC d r x) (Ar.up p r (some d)) v9 w9) := Lib.hid ⟨Hpk7.out, HA7.out.kept hkg (fun q hq e => by have h1 := (HO7.out.lt q e.symm).1; have h2 : q < E := hq.2; omega), Kept.owns HW7.out hkg (fun g hg e => own_ne3 HO7.out HW7.out (by decide) g e.symm hg), by
                            rw [hup, List.length_append, ← Hm.out, hsp9]; exact hO9, HB7.out.trans (hkg.toBelow (B := w.heap.size) HB7.out.size (fun q _ e => by have h1 := (HO7.out.lt q e.symm).1; omega)), hwE, Nat.le_trans hE6 hkg.size⟩
                          clear hO9 hg9 hkg hup hsp9
                          go_wp2_with fail
                          go_roundg (gO - 1)
                          case measure => have := Hr.out; omega
                          case rel => exact ⟨r + 1, _, _, by have := Hr.out; omega, by go_num, HS9.out⟩
                  · have t1 : ((x.size : Int) != 2) = true := bne_t (by omega)
                    clear hx2
                    have HS2 := Lib.hid HS.out.skip
                    go_wp2_with fail
                    go_roundg (gO - 1)
                    case measure => have := Hr.out; omega
                    case rel => exact ⟨r + 1, t, p, by have := Hr.out; omega, by go_num, by have h := HS2.out; exact ⟨h.pk, h.ary.more (by omega), h.was, h.want, h.bel, h.wE, h.Ew⟩⟩
                · have HS2 := Lib.hid HS.out.skip
                  go_wp2_with fail
                  go_roundg (gO - 1)
                  case measure => have := Hr.out; omega
                  case rel => exact ⟨r + 1, t, p, by have := Hr.out; omega, by go_num, by have h := HS2.out; exact ⟨h.pk, h.ary.more (by omega), h.was, h.want, h.bel, h.wE, h.Ew⟩⟩
              · have HS2 := Lib.hid HS.out.skip
                go_wp2_with fail
                go_roundg (gO - 1)
                case measure => have := Hr.out; omega
                case rel => exact ⟨r + 1, t, p, by have := Hr.out; omega, by go_num, by have h := HS2.out; exact ⟨h.pk, h.ary.more (by omega), h.was, h.want, h.bel, h.wE, h.Ew⟩⟩
            · have b1 : decide (r < PL) = false := dec_f hltp
              have HS2 := Lib.hid (Hr0.out _ _ _ _ r (by omega) HS.out)
              go_wp2_with fail
              go_meet
              exact ⟨_, t, p, K + r, rfl, by omega, HS2.out⟩
          · have hrr : rows ≤ r := by omega
            have hr2 : r = rows := by have := Hr.out; omega
            have HS2 := Lib.hid (Hr0.out _ _ _ _ r (by omega) HS.out)
            go_wp2_with fail
            go_meet
            exact ⟨_, t, p, K + r, rfl, by omega, HS2.out⟩
      case rest =>
        obtain ⟨w4, t, p, K2, hw4, hK2, hS⟩ := hcut
        subst hw4
        have HS := Lib.hid hS
        clear hS HSM
        obtain ⟨a1, a2, a3, a4, _, _⟩ := Ar.pk_all HW.out HS.out.pk.al HS.out.pk.row
        have en := HS.out.pk.al.en
        have er := HS.out.pk.al.er
        have hHnd : ∀ wA w', Below w.heap.size w wA → Kept (fun q => w.heap.size ≤ q ∧ q < E) wA w' → Handle w' := fun wA w' hb hk => Hg.out.below (Nat.le_refl _) (hb.trans (hk.toBelow (B := w.heap.size) hb.size (fun q _ h => h.1)))
        have HHnd := Lib.hid hHnd
        have HAll := Lib.hid (sAll HS.out.ary (by omega) (fun k h => by have := HS.out.Ew; have := h.2; omega) (fun w' hk => hHnd _ w' HS.out.bel hk))
        rw [en, er] at HAll
        obtain ⟨u, hu⟩ : ∃ u, u = t.scrubTo rows := ⟨_, rfl⟩
        rw [← hu] at HAll a1 a2 a3 a4
        have hun : u.1.n = n ∧ u.1.rows = rows := by
          have h := t.scrubTo_same rows
          rw [← hu] at h
          exact ⟨h.1.trans en, h.2.1.trans er⟩
        have Hun := Lib.hid hun
        have A1 := Lib.hid a1
        have A2 := Lib.hid a2
        have A3 := Lib.hid a3
        have A4 := Lib.hid a4
        have htl := Ar.told_len p rows
        clear a1 a2 a3 a4 en er hHnd hu hun
        go_wp2_with fail
        refine HAll.out.mono ?_
        rintro e w5 ⟨v5, rfl, hO5, hA5, hK5⟩
        rw [A1.out] at hO5
        obtain ⟨k1, k2, k3⟩ := HS.out.keeps hK5
        have HB5 := Lib.hid k3
        have HWas5 := Lib.hid k1
        have HWant5 := Lib.hid k2
        have HO5 := Lib.hid hO5
        have hE5 : E ≤ w5.heap.size := Nat.le_trans HS.out.Ew hK5.size
        have hE4 := HS.out.Ew
        have HAll2 := Lib.hid (sAll (K := K2 + rows) hA5 (by omega) (fun k h => by have h9 : k < E := h.2; omega) (fun w' hk => HHnd.out _ w' HB5.out hk))
        rw [Hun.out.1, Hun.out.2] at HAll2
        clear hO5 hA5 hK5 k1 k2 k3 HAll
        go_wp2_with fail
        refine HAll2.out.mono ?_
        rintro e w6 ⟨v6, rfl, hO6, hA6, hK6⟩
        rw [A2.out] at hO6
        have hl0 : ∃ p6 c6, v6 = .slice p6 0 c6 := by
          rcases hO6.2 with ⟨h, _⟩ | ⟨g6, c6, cur6, h, _⟩
          · exact ⟨_, _, h⟩
          · exact ⟨_, c6, h⟩
        obtain ⟨p6, c6, rfl⟩ := hl0
        have HB6 := Lib.hid (HB5.out.trans (hK6.toBelow (B := w.heap.size) HB5.out.size (fun q _ h => h.1)))
        have HWas6 := Lib.hid (Kept.owns HWas5.out hK6 (fun g hg hh => by have h1 := (HWas5.out.lt g hg).1; have h2 : g < E := hh.2; omega))
        have HWant6 := Kept.owns HWant5.out hK6 (fun g hg hh => by have h1 := (HWant5.out.lt g hg).1; have h2 : g < E := hh.2; omega)
        have HGot6 := Kept.owns HO5.out hK6 (fun g hg hh => by have h1 := (HO5.out.lt g hg).1; have h2 : g < E := hh.2; omega)
        have HSp := Lib.hid (spots_eq (Ar.told p rows) v5 u18 w6 (rowSp_of HGot6 rfl (by omega)) (rowSp_of HWant6 rfl (by omega)))
        have HA6 := Lib.hid hA6
        clear hO6 hA6 hK6 HWant6 HGot6 HAll2 HWant5 HO5 HWas5
        go_wp2_with fail
        refine HSp.out.mono ?_
        rintro e w7 ⟨rfl, hb7⟩
        have HB7 := Lib.hid (HB6.out.trans (hb7.mono HB6.out.size))
        have HWas7 := Lib.hid (owns_below HWas6.out hb7)
        have HA7 := Lib.hid (HA6.out.below hb7)
        clear hb7 HSp HWas6 HA6 HB6
        go_wp2_with fail
        go_loopg [32, 33, 34] M (fun gk v32 v33 v34 wr => M8Rel n rows (K2 + rows + rows) E M gw cw w s (u.1.scrubTo rows).1 (.slice none 0 0) gk v32 wr)
        case atStart => exact ⟨0, by omega, rfl, by
          have h := HA7.out
          exact h.more (by omega), HWas7.out, HB7.out⟩
        case round =>
          clear HA7 HWas7 HB7
          obtain ⟨y, hy, rfl, hA, hWs, hB⟩ := hrel
          have Hy := Lib.hid hy
          have HAr := Lib.hid hA
          have HWs := Lib.hid hWs
          have HBr := Lib.hid hB
          clear hy hA hWs hB
          by_cases hyM : y < M
          · have HRd := Lib.hid (aRead HAr.out (y : Int) (by omega) (by omega))
            rw [Ar.wh_read A3.out (y := y) (by rw [← HM.out]; exact hyM), A4.out y (by rw [← HM.out]; exact hyM), errV_0] at HRd
            obtain ⟨xb, hxb⟩ : ∃ xb, xb = s.blk y := ⟨_, rfl⟩
            rw [← hxb] at HRd
            have Hxb := Lib.hid hxb
            have hsl := strl_eqL xb
            clear hxb
            go_wp2_with fail
            refine HRd.out.mono ?_
            rintro e w8 ⟨rfl, hb8⟩
            have HA8 := Lib.hid (HAr.out.below hb8)
            have HW8 := owns_below HWs.out hb8
            have c8 : w8.cell? ⟨gw, y, none⟩ = some (.string xb) := by
              rw [HW8.cellAt y (by omega), Hxb.out]; unfold tabS; rw [List.getElem?_map, List.getElem?_range hyM]; rfl
            have HW9 := Lib.hid HW8
            have HB8 := Lib.hid (HBr.out.trans (hb8.mono HBr.out.size))
            clear hb8 HW8
            go_wp2_with fail
            go_roundg (gk - 1)
            case measure => have := Hy.out; omega
            case rel => exact ⟨y + 1, by have := Hy.out; omega, by go_num, HA8.out, HW9.out, HB8.out⟩
          · have hye : y = M := by have := Hy.out; omega
            go_wp2_with fail
            go_ret
            exact ⟨rfl, HBr.out⟩
set_option maxRecDepth 100000 in
set_option maxHeartbeats 2000000 in
theorem scrubMends_no (n rows : Int) (v v3 : Value) (x : ByteArray) (h : aNewF n rows 2 ≠ 0) (w : World) :
    Calls Tryd.prog 7 #[iv n, iv rows, v, v3, .string x] w fun e w' => e = .returned (.bool true) ∧ Below w.heap.size w w' := by
  have HN := Lib.hid (aNew_no n rows 2 h w)
  have hc : n < 3 ∨ (3 ≤ n ∧ 10 < n) ∨ (3 ≤ n ∧ n ≤ 10 ∧ rows < 1) ∨ (3 ≤ n ∧ n ≤ 10 ∧ 1 ≤ rows ∧ 20 < rows) := by
    unfold aNewF at h
    by_cases hc : n < 3 ∨ 10 < n ∨ rows < 1 ∨ 20 < rows ∨ (2 : Int) < 1 ∨ 16 < (2 : Int)
    · omega
    · rw [if_neg hc] at h; exact absurd rfl h
  clear h
  rcases hc with h1 | ⟨h1, h2⟩ | ⟨h1, h2, h3⟩ | ⟨h1, h2, h3, h4⟩
  all_goals
    go_enter Tryd.func7, Tryd.ntmps7
    go_wp2_with fail
    refine HN.out.mono ?_
    rintro e w1 ⟨rfl, hB⟩
    have HB := Lib.hid hB
    clear hB
    go_wp2_with fail
    go_ret
    exact ⟨rfl, HB.out⟩
theorem scrubMends_walk (n rows : Int) (v v3 : Value) (x : ByteArray) (hn : (Lit.int .i64 n).wf = true) (hr : (Lit.int .i64 rows).wf = true) (hx : x.size ≤ maxLen) (w : World) (hg : Handle w) (hv : ∃ ss, Strs w v ss ∧ ∀ s ∈ ss, s.size ≤ maxLen) (hv3 : ∃ xs : List Int, Row w v3 (xs.map (Value.int .i64)) ∧ ∀ n ∈ xs, (Lit.int .i64 n).wf = true) :
    Calls Tryd.prog 7 #[iv n, iv rows, v, v3, .string x] w fun e w' => e = .returned (.bool true) ∧ Below w.heap.size w w' := by
  obtain ⟨ss, hs, hls⟩ := hv
  obtain ⟨xs, hxs, _⟩ := hv3
  by_cases h : aNewF n rows 2 = 0
  · have hc : 3 ≤ n ∧ n ≤ 10 ∧ 1 ≤ rows ∧ rows ≤ 20 := by
      unfold aNewF at h
      by_cases hc : n < 3 ∨ 10 < n ∨ rows < 1 ∨ 20 < rows ∨ (2 : Int) < 1 ∨ 16 < (2 : Int)
      · rw [if_pos hc] at h; exact absurd h (by decide)
      · omega
    obtain ⟨m, rfl⟩ : ∃ m : Nat, n = m := ⟨n.toNat, by omega⟩
    obtain ⟨r, rfl⟩ : ∃ r : Nat, rows = r := ⟨rows.toNat, by omega⟩
    exact scrubMends_yes m r ss xs x (by omega) (by omega) (by omega) (by omega) hls hx v v3 w hs hxs hg
  · exact scrubMends_no n rows v v3 x h w
end Go.Proofs.YtcldioneiededaaDoor
