/- The walk of the law TopGrows: it returns true. -/
import Derived.Test.YtcldioneiededaaDoorScrM
import Derived.Test.YtcldioneiededaaDoorGroN
import Derived.Test.YtcldioneiededaaDoorOne
import Derived.Test.YtcldioneiededaaDoorScrP
namespace Go.Proofs.YtcldioneiededaaDoor
open Go.ChangeShapes Go.WideShapes Go.ChangeAt Go.RowKit
set_option linter.unusedVariables false
theorem strl_eqG (b : ByteArray) : (b.toList == b.toList) = true := by simp
def z2 : ByteArray := ⟨#[0, 0]⟩
/-- an array, and its cells in a list of the law's own -/
structure GMid (n rows K b E k : Nat) (w : World) (s : Ar.S) (cs : List ByteArray) (v : Value) (wr : World) : Prop where
  ary : AryOk (fun q => b ≤ q ∧ q < E) K wr b s
  own : wr.ownsRow E 9 1 v k (cs.map Value.string)
  len : cs.length = k
  sz : ∀ x ∈ cs, x.size = 2
  bel : Below w.heap.size w wr
  wb : w.heap.size ≤ b
  bE : b ≤ E
  Ew : E ≤ wr.heap.size
theorem GMid.below {n rows K b E k : Nat} {w : World} {s : Ar.S} {cs : List ByteArray} {v : Value} {wr w' : World} (h : GMid n rows K b E k w s cs v wr) (hb : Below wr.heap.size wr w') : GMid n rows K b E k w s cs v w' :=
  ⟨h.ary.below hb, owns_below h.own hb, h.len, h.sz, h.bel.trans (hb.mono h.bel.size), h.wb, h.bE, Nat.le_trans h.Ew hb.size⟩
theorem GMid.step {n rows K K' b E k : Nat} {w : World} {s s' : Ar.S} {cs : List ByteArray} {v : Value} {wr w' : World} (h : GMid n rows K b E k w s cs v wr) (ha : AryOk (fun q => b ≤ q ∧ q < E) K' w' b s') (hK : Kept (fun q => b ≤ q ∧ q < E) wr w') : GMid n rows K' b E k w s' cs v w' :=
  ⟨ha, Kept.owns h.own hK (fun g hg hh => by have h1 := (h.own.lt g hg).1; have h2 : g < E := hh.2; omega), h.len, h.sz, h.bel.trans (hK.toBelow (B := w.heap.size) h.bel.size (fun q _ hh => by have h1 := h.wb; have h2 : b ≤ q := hh.1; omega)), h.wb, h.bE, Nat.le_trans h.Ew hK.size⟩
def G1Rel (n rows b E M : Nat) (w : World) (gk : Nat) (v12 v13 : Value) (wr : World) : Prop :=
  ∃ (k : Nat) (s : Ar.S) (cs : List ByteArray), k + gk = M ∧ v13 = iv k ∧ Ar.Wh n rows 2 s ∧ (∀ i, i < k → cs.getD i ⟨#[]⟩ = s.blk i) ∧ GMid n rows k b E k w s cs v12 wr
def G2Rel (n rows b E M K N : Nat) (w : World) (s : Ar.S) (cs : List ByteArray) (v12 : Value) (gk : Nat) (v15 : Value) (wr : World) : Prop :=
  ∃ (r : Nat) (t : Ar.S) (p : Nat → Option Nat), r + gk = N ∧ v15 = iv r ∧ Ar.Pk n rows 2 r s t p ∧ GMid n rows (K + r) b E M w t cs v12 wr
def G3Rel (n rows b E M K E3 gb : Nat) (w : World) (u : Ar.S) (cs : List ByteArray) (v12 : Value) (gk : Nat) (v18 : Value) (wr : World) : Prop :=
  ∃ i : Nat, i + gk = M ∧ v18 = iv i ∧ GMid n rows K b E M w u cs v12 wr ∧ GroOk (fun k => E3 ≤ k) wr gb (n - 2) i cs ∧ E3 ≤ wr.heap.size
theorem info_strT : (Tryd.prog.info? 9).map (fun i => (i.zero, i.size, i.bytes)) = some (some (.string ⟨#[]⟩), 1, 16) := by kernel_rfl
set_option maxRecDepth 100000 in
set_option maxHeartbeats 2000000 in
theorem topGrows_no (n rows : Int) (v v3 : Value) (h : aNewF n rows 2 ≠ 0) (w : World) :
    Calls Tryd.prog 10 #[iv n, iv rows, v, v3] w fun e w' => e = .returned (.bool true) ∧ Below w.heap.size w w' := by
  have HN := Lib.hid (fun w' => aNew_no n rows 2 h w')
  have hc : n < 3 ∨ (3 ≤ n ∧ 10 < n) ∨ (3 ≤ n ∧ n ≤ 10 ∧ rows < 1) ∨ (3 ≤ n ∧ n ≤ 10 ∧ 1 ≤ rows ∧ 20 < rows) := by
    unfold aNewF at h
    by_cases hc : n < 3 ∨ 10 < n ∨ rows < 1 ∨ 20 < rows ∨ (2 : Int) < 1 ∨ 16 < (2 : Int)
    · omega
    · rw [if_neg hc] at h; exact absurd rfl h
  clear h
  rcases hc with h1 | ⟨h1, h2⟩ | ⟨h1, h2, h3⟩ | ⟨h1, h2, h3, h4⟩
  all_goals
    have HOne := Lib.hid (one_any w)
    go_enter Tryd.func10, Tryd.ntmps10
    go_wp2_with fail
    refine HOne.out.mono ?_
    rintro e w0 ⟨rfl, hB0⟩
    have HB0 := Lib.hid hB0
    have hz0 := hB0.size
    clear hB0 HOne
    go_wp2_with fail
    refine (HN.out w0).mono ?_
    rintro e w1 ⟨rfl, hB⟩
    have HB := Lib.hid (HB0.out.trans (hB.mono hz0))
    clear hB
    go_wp2_with fail
    go_ret
    exact ⟨rfl, HB.out⟩
set_option maxRecDepth 100000 in
set_option maxHeartbeats 2000000 in
theorem topGrows_big (n rows : Nat) (v v3 : Value) (h3 : 3 ≤ n) (h10 : n ≤ 10) (h1 : 1 ≤ rows) (h2 : rows ≤ 20) (hbig : 40 < rows * (n - 2)) (w : World) :
    Calls Tryd.prog 10 #[iv n, iv rows, v, v3] w fun e w' => e = .returned (.bool true) ∧ Below w.heap.size w w' := by
  have HN := Lib.hid (fun w' => aNew_yes n rows 2 h3 h10 h1 h2 (by omega) (by omega) w')
  have hm9 : rows * (n - 2) ≤ 20 * 8 := Nat.mul_le_mul h2 (by omega)
  have hm1 : 1 * 1 ≤ rows * (n - 2) := Nat.mul_le_mul h1 (by omega)
  have hmI : (rows : Int) * ((n : Int) - 2) = ((rows * (n - 2) : Nat) : Int) := by rw [Int.natCast_mul, show ((n - 2 : Nat) : Int) = (n : Int) - 2 by omega]
  have hw1 : IntKind.i64.wrap ((n : Int) - 2) = (n : Int) - 2 := IntWalk.i64_in _ (by omega)
  have hw2 : IntKind.i64.wrap ((rows : Int) * ((n : Int) - 2)) = ((rows * (n - 2) : Nat) : Int) := by rw [hmI]; exact IntWalk.i64_in _ (by omega)
  obtain ⟨M, hM⟩ : ∃ M, M = rows * (n - 2) := ⟨_, rfl⟩
  rw [← hM] at hm9 hm1 hw2
  have HM := Lib.hid hM
  rw [← hM] at hbig
  have hbI : (40 : Int) < (M : Int) := by omega
  clear hmI hM
  have HOne := Lib.hid (one_any w)
  go_enter Tryd.func10, Tryd.ntmps10
  go_wp2_with fail
  refine HOne.out.mono ?_
  rintro e w0 ⟨rfl, hB0⟩
  have HB0 := Lib.hid hB0
  have hz0 := hB0.size
  clear hB0 HOne
  go_wp2_with fail
  refine (HN.out w0).mono ?_
  rintro e w1 ⟨rfl, hA, hB⟩
  have HB := Lib.hid (HB0.out.trans (hB.mono hz0))
  clear hA hB
  go_wp2_with fail
  go_ret
  exact ⟨rfl, HB.out⟩
set_option maxRecDepth 100000 in
set_option maxHeartbeats 8000000 in
theorem topGrows_yes (n rows : Nat) (ls : List ByteArray) (xs : List Int) (h3 : 3 ≤ n) (h10 : n ≤ 10) (h1 : 1 ≤ rows) (h2 : rows ≤ 20) (hsm : rows * (n - 2) ≤ 40) (hls : ∀ s ∈ ls, s.size ≤ maxLen) (v v3 : Value) (w : World) (hv : Strs w v ls) (hv3 : Row w v3 (xs.map iv)) (hg : Handle w) :
    Calls Tryd.prog 10 #[iv n, iv rows, v, v3] w fun e w' => e = .returned (.bool true) ∧ Below w.heap.size w w' := by
  have Hg := Lib.hid hg
  have Hls := Lib.hid hls
  clear hg hls
  have HN := Lib.hid (fun w' => aNew_yes n rows 2 h3 h10 h1 h2 (by omega) (by omega) w')
  have hm9 : rows * (n - 2) ≤ 20 * 8 := Nat.mul_le_mul h2 (by omega)
  have hm1 : 1 * 1 ≤ rows * (n - 2) := Nat.mul_le_mul h1 (by omega)
  have hmI : (rows : Int) * ((n : Int) - 2) = ((rows * (n - 2) : Nat) : Int) := by rw [Int.natCast_mul, show ((n - 2 : Nat) : Int) = (n : Int) - 2 by omega]
  have hw1 : IntKind.i64.wrap ((n : Int) - 2) = (n : Int) - 2 := IntWalk.i64_in _ (by omega)
  have hw2 : IntKind.i64.wrap ((rows : Int) * ((n : Int) - 2)) = ((rows * (n - 2) : Nat) : Int) := by rw [hmI]; exact IntWalk.i64_in _ (by omega)
  obtain ⟨M, hM⟩ : ∃ M, M = rows * (n - 2) := ⟨_, rfl⟩
  rw [← hM] at hm9 hm1 hw2
  have HM := Lib.hid hM
  rw [← hM] at hsm
  have hs0 := Ar.s0_wh h3 h10 h1 h2 (show 1 ≤ 2 by omega) (show 2 ≤ 16 by omega)
  obtain ⟨p, cap, rfl, hl0, hc⟩ := hv.get
  obtain ⟨L, hL⟩ : ∃ L, L = ls.length := ⟨_, rfl⟩
  rw [← hL] at hl0 ⊢
  have hcs : ∀ y, y < L → ∃ g off s0, p = some ⟨g, off, none⟩ ∧ w.cell? ⟨g, off + y, none⟩ = some (.string s0) ∧ g < w.heap.size ∧ s0.size ≤ maxLen := fun y hy => by
    have e := List.getElem?_eq_getElem (l := ls) (i := y) (by omega)
    obtain ⟨g, off, q1, q2, q3⟩ := hc y _ e
    exact ⟨g, off, _, q1, q2, q3, Hls.out _ (List.getElem_mem _)⟩
  have Hc := Lib.hid hcs
  obtain ⟨pp, pc, rfl, pl1, pl2, pl3⟩ := hv3.shape
  rw [List.length_map] at pl1 pl3 ⊢
  obtain ⟨PL, hPL⟩ : ∃ PL, PL = xs.length := ⟨_, rfl⟩
  rw [← hPL] at pl1 pl3 ⊢
  have hps : ∀ y, y < PL → ∃ g off q, pp = some ⟨g, off, none⟩ ∧ w.cell? ⟨g, off + y, none⟩ = some (iv q) ∧ g < w.heap.size := fun y hy => by
    obtain ⟨g, off, q1, q2⟩ := pl3 (by omega)
    have := q2 y hy
    rw [List.getElem?_map, List.getElem?_eq_getElem (by omega)] at this
    exact ⟨g, off, _, q1, this, World.block_lt_of_cell? w _ this⟩
  have Hps := Lib.hid hps
  unfold maxLen at pl2
  have HS0 := Lib.hid hs0
  obtain ⟨N2, hN2⟩ : ∃ N2, N2 = min rows PL := ⟨_, rfl⟩
  have hPL9 : PL ≤ 9223372036854775807 := by omega
  clear hmI hM hc hL hv hs0 hcs hv3 hps pl3 hPL
  have HOne := Lib.hid (one_any w)
  go_enter Tryd.func10, Tryd.ntmps10
  go_wp2_with fail
  refine HOne.out.mono ?_
  rintro e w0 ⟨rfl, hB0⟩
  have HB0 := Lib.hid hB0
  have hz0 := hB0.size
  clear hB0 HOne
  go_wp2_with fail
  refine (HN.out w0).mono ?_
  rintro e w1 ⟨rfl, hA, hB⟩
  obtain ⟨b, hb⟩ : ∃ b, b = w0.heap.size := ⟨_, rfl⟩
  obtain ⟨E, hE⟩ : ∃ E, E = w1.heap.size := ⟨_, rfl⟩
  rw [← hb] at hA hz0 ⊢
  have hbE : b ≤ E := by rw [hb, hE]; exact hB.size
  have HGM : Hid (GMid n rows 0 b E 0 w (Ar.s0 n rows 2) [] (.slice none 0 0) w1) := Lib.hid ⟨hA.wide (fun k hk h => ⟨h, by rw [hE]; exact hk⟩), World.ownsRow_nil _ _ _ _, rfl, (fun x h => by cases h), HB0.out.trans (hB.mono (by omega)), hz0, hbE, by rw [hE]; exact Nat.le_refl _⟩
  clear hA hB hb hE HB0 HN
  go_upto_block 0 with (fail)
  go_cut [12] (fun v12 wq => ∃ wk s cs gc cc, wk = wq ∧ v12 = .slice (some ⟨gc, 0, none⟩) M cc ∧ M ≤ cc ∧ cc ≤ maxLen ∧ Ar.Wh n rows 2 s ∧ (∀ i, i < M → cs.getD i ⟨#[]⟩ = s.blk i) ∧ GMid n rows M b E M w s cs v12 wk)
  case first => as_aux_lemma =>
    go_wp2_with fail
    go_loopg [12, 13, 14] M (fun gk v12 v13 v14 wr => G1Rel n rows b E M w gk v12 v13 wr)
    case atStart => exact ⟨0, _, [], by omega, rfl, HS0.out, fun i hi => by omega, HGM.out⟩
    case round =>
      clear HGM
      obtain ⟨k, s, cs, hk, rfl, hW, hcb, hG⟩ := hrel
      have Hk := Lib.hid hk
      have HW := Lib.hid hW
      have Hcb := Lib.hid hcb
      have HG := Lib.hid hG
      have hzr := hG.bel.size
      clear hk hW hcb hG
      by_cases hlt : k < M
      · have hlen := HG.out.len
        have HWr : Hid (∀ (x : ByteArray), x.size = 2 → Calls Tryd.prog 18 #[.pointer (some ⟨b, 0, none⟩), iv k, .string x] wr (AryPost (fun q => b ≤ q ∧ q < E) (k + 1) b .nilIface (s.write k x).2 wr)) := Lib.hid (fun x hx => by
          have h := aWrite HG.out.ary (by omega) (k : Int) (by omega) (by omega) x (by unfold maxLen; omega)
          rw [(Ar.wh_write HW.out (y := k) (x := x) (by rw [← HM.out]; exact hlt) hx).1, errV_0] at h
          exact h)
        have HNx : Hid (∀ (x : ByteArray), x.size = 2 → ∀ w2 w9 v9, AryPost (fun q => b ≤ q ∧ q < E) (k + 1) b .nilIface (s.write k x).2 wr (.returned .nilIface) w2 → w9.ownsRow E 9 1 v9 (k + 1) (cs.map Value.string ++ [.string x]) → Kept (fun q => some q = u12.ownBlock) w2 w9 → G1Rel n rows b E M w (gk - 1) v9 (iv ((k : Int) + 1)) w9) := Lib.hid (fun x hx w2 w9 v9 hp ho hkp => by
          have hw := Ar.wh_write HW.out (y := k) (x := x) (by rw [← HM.out]; exact hlt) hx
          have h2 := HG.out.step hp.2.1 hp.2.2
          refine ⟨k + 1, _, cs ++ [x], by have := Hk.out; omega, by go_num, hw.2.1, fun i hi => ?_, ?_⟩
          · rw [hw.2.2 i (by rw [← HM.out]; omega), List.getD_eq_getElem?_getD]
            by_cases e : i = k
            · rw [if_pos e, e, List.getElem?_append_right (by omega), hlen, Nat.sub_self]; rfl
            · rw [if_neg e, List.getElem?_append_left (by omega), ← List.getD_eq_getElem?_getD]
              exact Hcb.out i (by omega)
          · refine ⟨h2.ary.kept hkp (fun q hq e => by have h3 := (h2.own.lt q e.symm).1; have h4 : q < E := hq.2; omega), by rw [List.map_append]; exact ho, by rw [List.length_append, hlen]; rfl, fun y hy => ?_, h2.bel.trans (hkp.toBelow (B := w.heap.size) h2.bel.size (fun q _ e => by have h3 := (h2.own.lt q e.symm).1; have := h2.wb; have := h2.bE; omega)), h2.wb, h2.bE, Nat.le_trans h2.Ew hkp.size⟩
            rcases List.mem_append.1 hy with h | h
            · exact HG.out.sz y h
            · rw [List.mem_singleton.1 h]; exact hx)
        have hcase : ∃ x : ByteArray, x.size = 2 ∧ ((k < L ∧ ∃ g off, p = some ⟨g, off, none⟩ ∧ w.cell? ⟨g, off + k, none⟩ = some (.string x) ∧ g < w.heap.size) ∨ (x = z2 ∧ (¬ k < L ∨ (k < L ∧ ∃ g off s0, p = some ⟨g, off, none⟩ ∧ w.cell? ⟨g, off + k, none⟩ = some (.string s0) ∧ g < w.heap.size ∧ s0.size ≤ maxLen ∧ s0.size ≠ 2)))) := by
          by_cases hkL : k < L
          · obtain ⟨g, off, s0, q1, q2, q3, q4⟩ := Hc.out k hkL
            by_cases h22 : s0.size = 2
            · exact ⟨s0, h22, .inl ⟨hkL, g, off, q1, q2, q3⟩⟩
            · exact ⟨z2, rfl, .inr ⟨rfl, .inr ⟨hkL, g, off, s0, q1, q2, q3, q4, h22⟩⟩⟩
          · exact ⟨z2, rfl, .inr ⟨rfl, .inl hkL⟩⟩
        obtain ⟨x, hx2, hcase⟩ := hcase
        have HWx := Lib.hid (HWr.out x hx2)
        have HNy := Lib.hid (HNx.out x hx2)
        have HOw := Lib.hid HG.out.own
        have hEw := HG.out.Ew
        have hk9 : k + 1 ≤ 1000000 := by omega
        have Hx2 := Lib.hid hx2
        clear HWr HNx hlen
        rcases hcase with ⟨hkL, g, off, rfl, hcl, hgl⟩ | ⟨hxz, hkL | ⟨hkL, g, off, s0, rfl, hcl, hgl, hs9, h22⟩⟩
        · have c0 := (HG.out.bel.cell (p := ⟨g, off + k, none⟩) hgl).trans hcl
          have t1 : ((x.size : Int) == 2) = true := beq_t (by omega)
          clear hcl hx2
          go_wp2_with fail
          refine HWx.out.mono ?_
          intro e w2 hpost
          have hpe := hpost.1
          subst hpe
          have HPo := Lib.hid hpost
          have HO2 := Lib.hid (HG.out.step hpost.2.1 hpost.2.2).own
          have hE2 := (HG.out.step hpost.2.1 hpost.2.2).Ew
          clear hpost
          go_wp2_with (at_builtin; refine app1 w2 w2 (.string _) 9 40 rfl _ _ rfl E Tryd.underlying40 info_strT rfl _ k _ rfl _ rfl rfl HO2.out rfl hk9 (by decide) hE2 (Below.refl _ _) ?_)
          intro v9 w9 hO9 hB9 hg9 _
          have HN9 := Lib.hid (HNy.out w2 w9 v9 HPo.out hO9 (Kept.grown hg9))
          clear hO9 hB9 hg9
          go_wp2_with fail
          go_roundg (gk - 1)
          case measure => have := Hk.out; omega
          case rel => exact HN9.out
        · have hx3 : x = ⟨#[0, 0]⟩ := hxz
          subst hx3
          clear hx2 hxz
          go_wp2_with fail
          refine HWx.out.mono ?_
          intro e w2 hpost
          have hpe := hpost.1
          subst hpe
          have HPo := Lib.hid hpost
          have HO2 := Lib.hid (HG.out.step hpost.2.1 hpost.2.2).own
          have hE2 := (HG.out.step hpost.2.1 hpost.2.2).Ew
          clear hpost
          go_wp2_with (at_builtin; refine app1 w2 w2 (.string _) 9 40 rfl _ _ rfl E Tryd.underlying40 info_strT rfl _ k _ rfl _ rfl rfl HO2.out rfl hk9 (by decide) hE2 (Below.refl _ _) ?_)
          intro v9 w9 hO9 hB9 hg9 _
          have HN9 := Lib.hid (HNy.out w2 w9 v9 HPo.out hO9 (Kept.grown hg9))
          clear hO9 hB9 hg9
          go_wp2_with fail
          go_roundg (gk - 1)
          case measure => have := Hk.out; omega
          case rel => exact HN9.out
        · have c0 := (HG.out.bel.cell (p := ⟨g, off + k, none⟩) hgl).trans hcl
          unfold maxLen at hs9
          have t1 : ((s0.size : Int) == 2) = false := beq_f (by omega)
          have hx3 : x = ⟨#[0, 0]⟩ := hxz
          subst hx3
          clear hcl hx2 hxz h22
          go_wp2_with fail
          refine HWx.out.mono ?_
          intro e w2 hpost
          have hpe := hpost.1
          subst hpe
          have HPo := Lib.hid hpost
          have HO2 := Lib.hid (HG.out.step hpost.2.1 hpost.2.2).own
          have hE2 := (HG.out.step hpost.2.1 hpost.2.2).Ew
          clear hpost
          go_wp2_with (at_builtin; refine app1 w2 w2 (.string _) 9 40 rfl _ _ rfl E Tryd.underlying40 info_strT rfl _ k _ rfl _ rfl rfl HO2.out rfl hk9 (by decide) hE2 (Below.refl _ _) ?_)
          intro v9 w9 hO9 hB9 hg9 _
          have HN9 := Lib.hid (HNy.out w2 w9 v9 HPo.out hO9 (Kept.grown hg9))
          clear hO9 hB9 hg9
          go_wp2_with fail
          go_roundg (gk - 1)
          case measure => have := Hk.out; omega
          case rel => exact HN9.out
      · have hkM : k = M := by have := Hk.out; omega
        subst hkM
        obtain ⟨gc, cc, hv12, _, _, hc1, hc2, _, _⟩ := owns_pos HG.out.own (by omega)
        subst hv12
        go_wp2_with fail
        go_meet
        exact ⟨_, s, cs, gc, cc, rfl, rfl, hc1, hc2, HW.out, Hcb.out, HG.out⟩
  case rest =>
    obtain ⟨w2, s, cs, gc, cc, hwk2, rfl, hc1, hc2, hW, hcb, hG⟩ := hcut
    subst hwk2
    have HW := Lib.hid hW
    have Hcb := Lib.hid hcb
    have HG := Lib.hid hG
    unfold maxLen at hc2
    clear HGM hW hcb hG Hc
    go_upto_block 2 with (fail)
    go_cut [] (fun wq => ∃ wk t p K2, wk = wq ∧ K2 ≤ 300 ∧ Ar.Pk n rows 2 rows s t p ∧ GMid n rows K2 b E M w t cs (.slice (some ⟨gc, 0, none⟩) M cc) wk)
    case first => as_aux_lemma =>
      have hpk0 : ∀ t p r, r ≤ rows → Ar.Pk n rows 2 r s t p → Ar.Pk n rows 2 rows s t p := fun t p r hr h => ⟨h.al, h.row, fun row hrow => h.rest row (by omega)⟩
      have Hpk0 := Lib.hid hpk0
      clear hpk0
      go_wp2_with fail
      go_loopg [15] N2 (fun gk v15 wr => G2Rel n rows b E M M N2 w s cs (.slice (some ⟨gc, 0, none⟩) M cc) gk v15 wr)
      case atStart => exact ⟨0, s, fun _ => none, by omega, rfl, Ar.pk_start HW.out, HG.out⟩
      case round =>
        clear HG
        obtain ⟨r, t, p, hr, rfl, hP, hG⟩ := hrel
        have Hr := Lib.hid hr
        have HP := Lib.hid hP
        have HGr := Lib.hid hG
        clear hr hP hG
        by_cases hlt : r < rows
        · by_cases hltp : r < PL
          · have b1 : decide (r < PL) = true := dec_t hltp
            obtain ⟨g, off, q, rfl, hcq, hgq⟩ := Hps.out r hltp
            have c0 := (HGr.out.bel.cell (p := ⟨g, off + r, none⟩) hgq).trans hcq
            clear hcq
            by_cases hq0 : 0 ≤ q
            · by_cases hqn : q < (n : Int)
              · obtain ⟨d, rfl⟩ : ∃ d : Nat, q = d := ⟨q.toNat, by omega⟩
                have hdn : d < n := by omega
                have hpk := Ar.pk_poke HP.out (x := ⟨#[7, 9]⟩) hlt hdn rfl
                have HPk := Lib.hid (aPoke HGr.out.ary (by omega) (d : Int) (r : Int) ⟨#[7, 9]⟩ (by decide))
                rw [hpk.1, errV_0] at HPk
                have Hpk := Lib.hid hpk
                clear hpk
                go_wp2_with fail
                refine HPk.out.mono ?_
                rintro e w6 ⟨rfl, hA6, hK6⟩
                have HG6 := Lib.hid (HGr.out.step hA6 hK6)
                have hex : ∃ p', Ar.Pk n rows 2 (r + 1) s (t.setC d r ⟨#[7, 9]⟩) p' := by
                  by_cases hsx : s.c d r = ⟨#[7, 9]⟩
                  · exact ⟨_, Hpk.out.2.1 hsx⟩
                  · exact ⟨_, Hpk.out.2.2 hsx⟩
                obtain ⟨p', hp'⟩ := hex
                have HP' := Lib.hid hp'
                clear hA6 hK6 hp'
                go_wp2_with fail
                go_roundg (gk - 1)
                case measure => have := Hr.out; omega
                case rel => exact ⟨r + 1, _, _, by have := Hr.out; omega, by go_num, HP'.out, HG6.out⟩
              · go_wp2_with fail
                go_roundg (gk - 1)
                case measure => have := Hr.out; omega
                case rel => exact ⟨r + 1, t, p, by have := Hr.out; omega, by go_num, Ar.pk_skip HP.out, by have h := HGr.out; exact ⟨h.ary.more (by omega), h.own, h.len, h.sz, h.bel, h.wb, h.bE, h.Ew⟩⟩
            · go_wp2_with fail
              go_roundg (gk - 1)
              case measure => have := Hr.out; omega
              case rel => exact ⟨r + 1, t, p, by have := Hr.out; omega, by go_num, Ar.pk_skip HP.out, by have h := HGr.out; exact ⟨h.ary.more (by omega), h.own, h.len, h.sz, h.bel, h.wb, h.bE, h.Ew⟩⟩
          · have b1 : decide (r < PL) = false := dec_f hltp
            have HP2 := Lib.hid (Hpk0.out t p r (by omega) HP.out)
            go_wp2_with fail
            go_meet
            exact ⟨_, t, p, M + r, rfl, by omega, HP2.out, HGr.out⟩
        · have hrr : rows ≤ r := by omega
          have hr2 : r = rows := by have := Hr.out; omega
          have HP2 := Lib.hid (Hpk0.out t p r (by omega) HP.out)
          go_wp2_with fail
          go_meet
          exact ⟨_, t, p, M + r, rfl, by omega, HP2.out, HGr.out⟩
    case rest =>
      obtain ⟨w3, t, p, K2, hw3, hK2, hP, hG⟩ := hcut
      subst hw3
      have HG3 := Lib.hid hG
      obtain ⟨_, _, _, _, a5, a6⟩ := Ar.pk_all HW.out hP.al hP.row
      have en := hP.al.en
      have er := hP.al.er
      have hwb := hG.wb
      have HAll := Lib.hid (sAll hG.ary (by omega) (fun k h => by have := hG.Ew; have h9 : k < E := h.2; omega) (fun w' hk => Hg.out.below (Nat.le_refl _) (hG.bel.trans (hk.toBelow (B := w.heap.size) hG.bel.size (fun q _ h => by have h9 : b ≤ q := h.1; omega)))))
      rw [en, er] at HAll
      obtain ⟨u, hu⟩ : ∃ u, u = t.scrubTo rows := ⟨_, rfl⟩
      rw [← hu] at HAll a5 a6
      have A5 := Lib.hid a5
      have A6 := Lib.hid a6
      clear a5 a6 en er hu hP hG HG
      go_wp2_with fail
      refine HAll.out.mono ?_
      rintro e w5 ⟨v5, rfl, hO5, hA5, hK5⟩
      have HG5 := Lib.hid (HG3.out.step hA5 hK5)
      have hlen := HG5.out.len
      have hcf : cellsF cs = 0 := by
        unfold cellsF
        rw [hlen, if_neg (by omega), if_neg]
        intro h
        obtain ⟨y, hy, hy2⟩ := List.any_eq_true.1 h
        have := HG5.out.sz y hy
        have := of_decide_eq_true hy2
        omega
      have hown := HG5.out.own
      rw [← hlen] at hown
      have HGN := Lib.hid (gnew_any cs (n - 2) (by omega) (by omega) hcf _ w5 (row_of_owns hown).1)
      rw [hlen] at HGN
      have hn2 : (n : Int) - 2 = ((n - 2 : Nat) : Int) := by omega
      have Hn2 := Lib.hid hn2
      have HLen := Lib.hid hlen
      clear hO5 hA5 hK5 HAll hcf hown hn2 hlen HG3
      go_wp2_with fail
      rw [Hn2.out]
      refine HGN.out.mono ?_
      rintro e w6 ⟨gb, rfl, hGr, hB6⟩
      obtain ⟨E3, hE3⟩ : ∃ E3, E3 = w5.heap.size := ⟨_, rfl⟩
      rw [← hE3] at hGr
      have HGr := Lib.hid hGr
      have HG6 := Lib.hid (HG5.out.below hB6)
      have h36 : E3 ≤ w6.heap.size := by rw [hE3]; exact hB6.size
      have hE3' : E ≤ E3 := by rw [hE3]; exact HG5.out.Ew
      have hgc3 : gc < E3 := by rw [hE3]; exact (HG5.out.own.lt gc rfl).2
      clear hGr hB6 HGN HG5 hE3
      go_wp2_with fail
      go_loopg [18, 19, 20, 21, 22, 23, 24] M (fun gk v18 v19 v20 v21 v22 v23 v24 wr => G3Rel n rows b E M (K2 + rows) E3 gb w u.1 cs (.slice (some ⟨gc, 0, none⟩) M cc) gk v18 wr)
      case atStart => exact ⟨0, by omega, rfl, HG6.out, HGr.out, h36⟩
      case round =>
        clear HG6 HGr h36
        obtain ⟨i, hi, rfl, hG, hGr, h36⟩ := hrel
        have Hi := Lib.hid hi
        have HG := Lib.hid hG
        have HGr := Lib.hid hGr
        clear hi hG hGr
        by_cases hiM : i < M
        · have hlen := HLen.out
          have HSt := Lib.hid (gstep_any HGr.out (fun k hk => by omega) (by omega) (by omega) (by omega) (by omega))
          unfold GStepPost at HSt
          obtain ⟨bb, hbb⟩ : ∃ bb, bb = decide (i + 1 < cs.length) := ⟨_, rfl⟩
          rw [← hbb] at HSt
          clear hlen hbb
          go_wp2_with fail
          refine HSt.out.mono ?_
          rintro e w7 ⟨rfl, hGr7, hK7⟩
          have HG7 := Lib.hid (by
            have h := HG.out
            exact (⟨h.ary.kept hK7 (fun q hq e => by have h1 : q < E := hq.2; have h2 : E3 ≤ q := e; omega), Kept.owns h.own hK7 (fun g hg e => by have h2 : E3 ≤ g := e; have h3 : gc = g := Option.some.inj hg; omega), h.len, h.sz, h.bel.trans (hK7.toBelow (B := w.heap.size) h.bel.size (fun q _ e => by have h2 : E3 ≤ q := e; have := h.wb; have := h.bE; omega)), h.wb, h.bE, Nat.le_trans h.Ew hK7.size⟩ : GMid n rows (K2 + rows) b E M w u.1 cs (.slice (some ⟨gc, 0, none⟩) M cc) w7))
          have HGr7 := Lib.hid hGr7
          have h37 : E3 ≤ w7.heap.size := Nat.le_trans h36 hK7.size
          have hlen2 := HLen.out
          have HRd := Lib.hid (gread_any hGr7 (by omega) (by omega) (by omega) (by omega) (i : Int))
          have hrv : rdV cs (i : Int) = cs.getD i ⟨#[]⟩ ∧ rdF cs (i : Int) = 0 := by
            unfold rdV rdF
            rw [if_neg (by omega), if_neg (by omega), Int.toNat_natCast]
            exact ⟨rfl, rfl⟩
          have hbl := A6.out i (by rw [← HM.out]; exact hiM)
          rw [hrv.1, hrv.2, Hcb.out i hiM, errV_0] at HRd
          have hrd := Ar.wh_read A5.out (y := i) (by rw [← HM.out]; exact hiM)
          rw [hbl] at hrd
          obtain ⟨x, hx⟩ : ∃ x, x = s.blk i := ⟨_, rfl⟩
          rw [← hx] at HRd hrd
          have Hrd := Lib.hid hrd
          have hsl := strl_eqG x
          clear hGr7 hK7 hlen2 hrv hbl hrd hx HSt
          go_wp2_with fail
          refine HRd.out.mono ?_
          rintro e w8 ⟨rfl, hb8⟩
          have HG8 := Lib.hid (HG7.out.below hb8)
          have HGr8 := Lib.hid (HGr7.out.below hb8)
          have h38 : E3 ≤ w8.heap.size := Nat.le_trans h37 hb8.size
          have HRa := Lib.hid (aRead HG8.out.ary (i : Int) (by omega) (by omega))
          rw [Hrd.out, errV_0] at HRa
          clear hb8 HRd
          go_wp2_with fail
          refine HRa.out.mono ?_
          rintro e w9 ⟨rfl, hb9⟩
          have HG9 := Lib.hid (HG8.out.below hb9)
          have HGr9 := Lib.hid (HGr8.out.below hb9)
          have h39 : E3 ≤ w9.heap.size := Nat.le_trans h38 hb9.size
          clear hb9 HRa
          go_wp2_with fail
          go_roundg (gk - 1)
          case measure => have := Hi.out; omega
          case rel => exact ⟨i + 1, by have := Hi.out; omega, by go_num, HG9.out, HGr9.out, h39⟩
        · have hiM2 : i = M := by have := Hi.out; omega
          go_wp2_with fail
          go_ret
          exact ⟨rfl, HG.out.bel⟩
theorem topGrows_walk (n rows : Int) (v v3 : Value) (hn : (Lit.int .i64 n).wf = true) (hr : (Lit.int .i64 rows).wf = true) (w : World) (hg : Handle w) (hv : ∃ ss, Strs w v ss ∧ ∀ s ∈ ss, s.size ≤ maxLen) (hv3 : ∃ xs : List Int, Row w v3 (xs.map (Value.int .i64)) ∧ ∀ n ∈ xs, (Lit.int .i64 n).wf = true) :
    Calls Tryd.prog 10 #[iv n, iv rows, v, v3] w fun e w' => e = .returned (.bool true) ∧ Below w.heap.size w w' := by
  obtain ⟨ss, hs, hls⟩ := hv
  obtain ⟨xs, hxs, _⟩ := hv3
  by_cases h : aNewF n rows 2 = 0
  · have hc : 3 ≤ n ∧ n ≤ 10 ∧ 1 ≤ rows ∧ rows ≤ 20 := by
      unfold aNewF at h
      by_cases hc : n < 3 ∨ 10 < n ∨ rows < 1 ∨ 20 < rows ∨ (2 : Int) < 1 ∨ 16 < (2 : Int)
      · rw [if_pos hc] at h; exact absurd h (by decide)
      · omega
    obtain ⟨m, rfl⟩ : ∃ m : Nat, n = m := ⟨n.toNat, by omega⟩
    obtain ⟨r, rfl⟩ : ∃ r : Nat, rows = r := ⟨rows.toNat, by omega⟩
    by_cases hb : 40 < r * (m - 2)
    · exact topGrows_big m r v v3 (by omega) (by omega) (by omega) (by omega) hb w
    · exact topGrows_yes m r ss xs (by omega) (by omega) (by omega) (by omega) (by omega) hls v v3 w hs hxs hg
  · exact topGrows_no n rows v v3 h w
end Go.Proofs.YtcldioneiededaaDoor
