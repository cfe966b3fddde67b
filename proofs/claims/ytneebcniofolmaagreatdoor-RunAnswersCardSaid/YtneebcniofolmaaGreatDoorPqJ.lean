/- The walk of pq.heal. -/
import Derived.Test.YtneebcniofolmaaGreatDoorPqI
import Derived.Test.YtneebcniofolmaaGreatDoorBlk
import Derived.Deep.AppendLies
import Derived.Maps.AppendAt
import Derived.Deep.CutBlock
import Derived.Deep.DeepCutAuto
namespace Go.Proofs.YtneebcniofolmaaGreatDoor
open Go.ChangeShapes Go.WideShapes Go.ChangeAt Go.RowKit
set_option linter.unusedVariables false
theorem info_intH : (Tryz.prog.info? 3).map (fun i => (i.zero, i.size, i.bytes)) = some (some (.int .i64 0), 1, 8) := by kernel_rfl
/-- what is lost -/
abbrev BoolR (w : World) (v : Value) (ls : List Bool) : Prop := Row w v (ls.map Value.bool)
theorem BoolR.get {w : World} {v : Value} {ls : List Bool} (h : BoolR w v ls) {j : Nat} (hj : j < ls.length) : ∃ g o cap, v = .slice (some ⟨g, o, none⟩) ls.length cap ∧ g < w.heap.size ∧ w.cell? ⟨g, o + j, none⟩ = some (.bool (Gv.lo ls j)) := by
  obtain ⟨g, o, cap, hv, h1, h2, h3⟩ := Row.pos h (by rw [List.length_map]; omega)
  rw [List.length_map] at hv
  have hc := h3 j (by rw [List.length_map]; exact hj)
  rw [List.getElem?_map, List.getElem?_eq_getElem hj] at hc
  refine ⟨g, o, cap, hv, World.block_lt_of_cell? w _ hc, hc.trans ?_⟩
  unfold Gv.lo
  rw [List.getD_eq_getElem?_getD, List.getElem?_eq_getElem hj]; rfl
theorem Strs.at' {w : World} {v : Value} {ps : List ByteArray} (h : Strs w v ps) {j : Nat} (hj : j < ps.length) : ∃ g o cap, v = .slice (some ⟨g, o, none⟩) ps.length cap ∧ g < w.heap.size ∧ w.cell? ⟨g, o + j, none⟩ = some (.string (ps.getD j ⟨#[]⟩)) := by
  obtain ⟨g, o, cap, hv, h1, h2, h3⟩ := Row.pos h (by rw [List.length_map]; omega)
  rw [List.length_map] at hv
  have hc := h3 j (by rw [List.length_map]; exact hj)
  rw [List.getElem?_map, List.getElem?_eq_getElem hj] at hc
  refine ⟨g, o, cap, hv, World.block_lt_of_cell? w _ hc, hc.trans ?_⟩
  rw [List.getD_eq_getElem?_getD, List.getElem?_eq_getElem hj]; rfl
theorem heal_keep {base go n co kk gl ol : Nat} {os hd : List ByteArray} {b0 b1 : Bool} {p0 q0 : ByteArray} {nq : Nat} {wr wH : World} (hdl : hd.length = kk) (hol : os.length = n) (hO : OwnR wH base 9 (.slice (some ⟨go, 0, none⟩) n co) ((hd ++ os.drop kk).map Value.string)) (hK : Kept (· = go) (wr.drewN nq) wH)
    (hp0 : p0 = os.getD kk ⟨#[]⟩) (hq0 : q0 = os.getD (kk + 1) ⟨#[]⟩) (k0 : wr.cell? ⟨go, kk, none⟩ = some (.string p0)) (k1 : wr.cell? ⟨go, kk + 1, none⟩ = some (.string q0)) (m0 : wr.cell? ⟨gl, ol + kk, none⟩ = some (.bool b0)) (m1 : wr.cell? ⟨gl, ol + (kk + 1), none⟩ = some (.bool b1)) (hne : gl ≠ go) (hkn : kk + 2 = n) :
    wH.cell? ⟨go, kk, none⟩ = some (.string p0) ∧ wH.cell? ⟨go, kk + 1, none⟩ = some (.string q0) ∧ wH.cell? ⟨gl, ol + kk, none⟩ = some (.bool b0) ∧ wH.cell? ⟨gl, ol + (kk + 1), none⟩ = some (.bool b1) := by
  subst hp0 hq0
  have hl : (hd ++ os.drop kk).length = n := by rw [List.length_append, List.length_drop, hdl]; omega
  obtain ⟨gx, ox, cx, hvx, _, _, _, _, hcx, _⟩ := hO.at0 (by rw [List.length_map]; omega)
  injection hvx with e1 e2 e3
  injection e1 with e1
  injection e1 with e4 e5
  subst e4 e5
  have cell : ∀ j, kk ≤ j → j < n → wH.cell? ⟨go, j, none⟩ = some (.string (os.getD j ⟨#[]⟩)) := by
    intro j hj hjn
    have h := hcx j (by rw [List.length_map]; omega)
    rw [Nat.zero_add] at h
    rw [h, List.getElem?_map, List.getElem?_append_right (by omega), List.getElem?_drop, hdl, show kk + (j - kk) = j by omega, List.getElem?_eq_getElem (by omega), List.getD_eq_getElem?_getD, List.getElem?_eq_getElem (by omega)]; rfl
  exact ⟨cell kk (Nat.le_refl _) (by omega), cell (kk + 1) (by omega) (by omega), hK.cell m0 hne, hK.cell m1 hne⟩
theorem Gv.healed_sz {d : List ByteArray} {n : Nat} (h : ∀ s ∈ d, s.size = n) (h0 : 0 < d.length) (g : List Nat) (p q : ByteArray) (lp lq : Bool) : ∀ s ∈ Gv.healed d g p q lp lq, s.size = n := by
  have hP : (Gv.P d).size = n := by rw [Gv.P_size, Gv.size0_of h h0]
  have hQ : (Gv.Q d).size = n := by rw [Gv.Q_size, Gv.size0_of h h0]
  have hset : ∀ (l : List ByteArray) (i : Nat) (x : ByteArray), (∀ s ∈ l, s.size = n) → x.size = n → ∀ s ∈ l.set i x, s.size = n := by
    intro l i x h1 h2 s hs'
    rcases List.mem_or_eq_of_mem_set hs' with h | h
    · exact h1 s h
    · rw [h]; exact h2
  unfold Gv.healed
  split
  · simp only
    have hx : ∀ u v, (Gv.timesS (Gv.plusS (Gv.timesS (Gv.plusS (Gv.P d) p) u) (Gv.plusS (Gv.Q d) q)) v).size = n := by
      intro u v
      rw [Gv.times_size, Gv.plus_size, Gv.times_size, Gv.plus_size, hP]
    exact hset _ _ _ (hset _ _ _ h (hx _ _)) (by rw [Gv.plus_size, Gv.plus_size, hP])
  · split
    · exact hset _ _ _ h (by rw [Gv.plus_size, hP])
    · split
      · exact hset _ _ _ h (by rw [Gv.times_size, Gv.plus_size, hQ])
      · exact h
  · exact h
theorem ends_set {hd os : List ByteArray} {kk n : Nat} (hdl : hd.length = kk) (hol : os.length = n) (hkn : kk + 2 = n) (P Q : ByteArray) : ((hd ++ os.drop kk).set kk P).set (kk + 1) Q = hd ++ [P, Q] := by
  apply List.ext_getElem?
  intro j
  have h1 : (os.drop kk).length = 2 := by rw [List.length_drop]; omega
  rw [List.getElem?_set, List.getElem?_set, List.length_set, List.length_append, hdl, h1]
  by_cases e1 : kk + 1 = j
  · subst e1
    rw [if_pos rfl, if_pos (by omega), List.getElem?_append_right (by omega), hdl, show kk + 1 - kk = 1 by omega]; rfl
  · rw [if_neg e1]
    by_cases e2 : kk = j
    · subst e2
      rw [if_pos rfl, if_pos (by omega), List.getElem?_append_right (by omega), hdl, Nat.sub_self]; rfl
    · rw [if_neg e2]
      by_cases e3 : j < kk
      · rw [List.getElem?_append_left (by omega), List.getElem?_append_left (by omega)]
      · rw [List.getElem?_eq_none (by rw [List.length_append]; omega), List.getElem?_eq_none (by rw [List.length_append]; simp; omega)]
theorem Gv.healed_len (d : List ByteArray) (g : List Nat) (p q : ByteArray) (lp lq : Bool) : (Gv.healed d g p q lp lq).length = d.length := by
  unfold Gv.healed
  split
  · simp
  · split
    · simp
    · split <;> simp
  · rfl
def HlRel1 (ps : List ByteArray) (ls : List Bool) (w : World) (n gk : Nat) (v6 i : Value) (wr : World) : Prop :=
  ∃ k : Nat, k + gk = n ∧ i = iv k ∧ v6 = iv (Gv.lastSz ps ls k) ∧ wr = w
def HlRel2 (ps : List ByteArray) (ls : List Bool) (w w1 : World) (g o n cap kk sz gk : Nat) (v10 i : Value) (wr : World) : Prop :=
  ∃ k : Nat, k + gk = n ∧ i = iv k ∧ OwnR wr w.heap.size 9 (.slice (some ⟨g, o, none⟩) n cap) ((Gv.outs ps ls sz k).map Value.string) ∧
    wr.ownsRow w1.heap.size 3 1 v10 (Gv.goneL ls (min k kk)).length ((Gv.goneL ls (min k kk)).map (fun j => iv (j : Nat))) ∧ Below w.heap.size w wr ∧ w1.heap.size ≤ wr.heap.size
def HealPost (ps : List ByteArray) (ls : List Bool) (w : World) (e : Ending) (w' : World) : Prop :=
  ∃ v, e = .returned v ∧ OwnR w' w.heap.size 9 v ((Gv.heal ps ls).map Value.string) ∧ Below w.heap.size w w'
set_option maxRecDepth 100000 in
set_option maxHeartbeats 2000000 in
theorem heal_any (ps : List ByteArray) (ls : List Bool) (sz : Nat) (h3 : 3 ≤ ps.length) (h12 : ps.length ≤ 250) (hll : ls.length = ps.length) (hsz : ∀ i, i < ps.length → Gv.lo ls i = false → (ps.getD i ⟨#[]⟩).size = sz) (hsz9 : sz ≤ 1000000)
    (hex : ∃ i, i < ps.length ∧ Gv.lo ls i = false) (h2 : (Gv.goneL ls (ps.length - 2)).length ≤ 2) (v vl : Value) (w : World) (hv : Strs w v ps) (hl : BoolR w vl ls) :
    Calls Tryz.prog 129 #[v, vl] w (HealPost ps ls w) := by
  have HV := Lib.hid hv
  have HL := Lib.hid hl
  obtain ⟨gv, ov, cv, rfl, v1, v2, v3⟩ := Row.pos hv (by rw [List.length_map]; omega)
  obtain ⟨gl, ol, cl, rfl, l1, l2, l3⟩ := Row.pos hl (by rw [List.length_map]; omega)
  rw [List.length_map] at v1 l1
  simp only [List.length_map] at HV HL ⊢
  have hzl := World.block_lt_of_cell? w _ (l3 0 (by rw [List.length_map]; omega) |>.trans (List.getElem?_eq_getElem (by rw [List.length_map]; omega)))
  rw [hll] at HL l1 ⊢
  obtain ⟨n, hn⟩ : ∃ n, n = ps.length := ⟨_, rfl⟩
  rw [← hn] at h3 h12 hll hsz hex h2 v1 l1 HV HL ⊢
  have HC := Lib.hid (clone_str (ps.map Value.string) (by intro u hu; obtain ⟨x, _, rfl⟩ := List.mem_map.1 hu; rfl) (by rw [List.length_map]; omega) _ w hv)
  simp only [List.length_map] at HC
  rw [← hn] at HC
  unfold ClonePostS at HC
  rw [List.length_map, ← hn] at HC
  have hcs : ∀ j, j < n → w.cell? ⟨gv, ov + j, none⟩ = some (.string (ps.getD j ⟨#[]⟩)) := by
    intro j hj
    have := v3 j (by rw [List.length_map]; omega)
    rw [this, List.getElem?_map, List.getElem?_eq_getElem (by omega), List.getD_eq_getElem?_getD, List.getElem?_eq_getElem (by omega)]; rfl
  have hcl : ∀ j, j < n → w.cell? ⟨gl, ol + j, none⟩ = some (.bool (Gv.lo ls j)) := by
    intro j hj
    have := l3 j (by rw [List.length_map]; omega)
    rw [this, List.getElem?_map, List.getElem?_eq_getElem (by omega)]
    unfold Gv.lo
    rw [List.getD_eq_getElem?_getD, List.getElem?_eq_getElem (by omega)]; rfl
  have Hcs := Lib.hid hcs
  have Hcl := Lib.hid hcl
  have Hsz := Lib.hid hsz
  have Hex := Lib.hid hex
  have Hn := Lib.hid hn
  have H2 := Lib.hid h2
  have Hll := Lib.hid hll
  have hw2 : IntKind.i64.wrap ((n : Int) - 2) = ((n - 2 : Nat) : Int) := (IntWalk.i64_in _ (by omega)).trans (by omega)
  obtain ⟨kk, hkk⟩ : ∃ kk, kk = n - 2 := ⟨_, rfl⟩
  rw [← hkk] at hw2
  have Hkn := Lib.hid (show kk + 2 = n by omega)
  have hkn1 : kk < n := by omega
  have hk1 : 1 ≤ kk := by omega
  unfold maxLen at v2 l2
  clear hv hl v3 l3 hcs hcl hsz hex h2 hll hkk hn
  go_enter Tryz.func129, Tryz.ntmps129
  go_wp2_with fail
  go_loopg [6, 7, 8, 17] n (fun gk v6 v7 v8 v17 wr => HlRel1 ps ls w n gk v6 v17 wr)
  case atStart => exact ⟨0, by omega, rfl, rfl, rfl⟩
  case round =>
    obtain ⟨wO, hwO⟩ : ∃ x : World, x = wr := ⟨_, rfl⟩
    obtain ⟨gO, hgO⟩ : ∃ x : Nat, x = gk := ⟨_, rfl⟩
    subst hwO hgO
    obtain ⟨k, hk, rfl, rfl, hwr⟩ := hrel
    subst hwr
    have Hk := Lib.hid hk
    clear hk
    by_cases hlt : k < n
    · have c0 := Hcs.out k hlt
      have c1 := Hcl.out k hlt
      have hstep : Gv.lastSz ps ls (k + 1) = if Gv.lo ls k then Gv.lastSz ps ls k else (ps.getD k ⟨#[]⟩).size := rfl
      have Hst := Lib.hid hstep
      generalize ps.getD k ⟨#[]⟩ = x at *
      cases hb : Gv.lo ls k with
      | true =>
        rw [hb] at c1 Hst
        clear hstep hb
        go_wp2_with fail
        go_roundg (gO - 1)
        case measure => have := Hk.out; omega
        case rel => exact ⟨k + 1, by have := Hk.out; omega, by go_num, by rw [Hst.out]; rfl, rfl⟩
      | false =>
        rw [hb] at c1 Hst
        clear hstep hb
        go_wp2_with fail
        go_roundg (gO - 1)
        case measure => have := Hk.out; omega
        case rel => exact ⟨k + 1, by have := Hk.out; omega, by go_num, by rw [Hst.out]; rfl, rfl⟩
    · have hkn2 : k = n := by have := Hk.out; omega
      have hls : Gv.lastSz ps ls k = sz := by
        rw [hkn2]
        exact Gv.lastSz_eq _ (fun i hi h => Hsz.out i hi h) Hex.out
      rw [hls]
      clear hlt Hk hls
      go_wp2_with fail
      refine HC.out.mono ?_
      rintro e w1 ⟨v1', rfl, hown, hb1⟩
      obtain ⟨go, co, rfl, hgb, hgl, hco1, hco2, _, _⟩ := owns_pos hown (by omega)
      have HO1 := Lib.hid (OwnR.of_owns hown)
      have HB1 := Lib.hid hb1
      have hz1 := hb1.size
      obtain ⟨i0, hi, hi1, hi2, hi3⟩ := info_parts info_intH
      have HI := Lib.hid hi
      have mk := fun W => make_bytesV sz hsz9 W
      have HMk := Lib.hid mk
      unfold maxLen at hco2
      clear hown hb1 HC hi mk
      go_wp2_with fail
      go_loopg [10, 11, 34] n (fun gk v10 v11 v34 wr' => HlRel2 ps ls wO w1 go 0 n co kk sz gk v10 v34 wr')
      case atStart => exact ⟨0, by omega, rfl, by rw [Gv.outs_zero]; exact HO1.out, by rw [Nat.zero_min]; exact World.ownsRow_nil _ _ _ _, HB1.out, Nat.le_refl _⟩
      case round =>
        obtain ⟨q, hq, rfl, hO, hG, hB, hzw⟩ := hrel
        have Hq := Lib.hid hq
        have HO := Lib.hid hO
        have HG := Lib.hid hG
        have HB := Lib.hid hB
        clear hq hO hG hB HO1 HB1
        by_cases hlt : q < n
        · have c1 := (HB.out.cell (p := ⟨gl, ol + q, none⟩) hzl).trans (Hcl.out q hlt)
          have hqn : q < ps.length := by rw [← Hn.out]; exact hlt
          have hpl := Hn.out
          cases hb : Gv.lo ls q with
          | false =>
            rw [hb] at c1
            have ho := Gv.outs_no ps ls sz q hb
            have hg : Gv.goneL ls (min (q + 1) kk) = Gv.goneL ls (min q kk) := by
              by_cases h : q < kk
              · rw [Nat.min_eq_left (by omega), Nat.min_eq_left (by omega), Gv.gone_succ, hb]; rfl
              · rw [Nat.min_eq_right (by omega), Nat.min_eq_right (by omega)]
            have Ho := Lib.hid ho
            have Hg := Lib.hid hg
            clear ho hg hb hpl
            go_wp2_with fail
            go_roundg (gk - 1)
            case measure => have := Hq.out; omega
            case rel => exact ⟨q + 1, by have := Hq.out; omega, by go_num, by rw [Ho.out]; exact HO.out, by rw [Hg.out]; exact HG.out, HB.out, hzw⟩
          | true =>
            rw [hb] at c1
            have ho := Gv.outs_yes ps ls sz q hqn hb
            have Ho := Lib.hid ho
            have mk := HMk.out wr
            obtain ⟨wm, hwm⟩ : ∃ wm, wm = wr.alloc (.cells (madeCells #[.int .u8 0] sz) 5) := ⟨_, rfl⟩
            have cv := conv_ownB (wr.alloc (.cells (madeCells #[.int .u8 0] sz) 5)) wr.heap.size _ _ (owns_made sz hsz9 wr)
            have hzr : (⟨(Gv.tab sz (fun _ => 0)).toArray⟩ : ByteArray) = Gv.zer sz := rfl
            have hbm : Below wr.heap.size wr wm := by rw [hwm]; exact (Below.refl _ _).alloc (Nat.le_refl _) _
            have hzmm := hbm.size
            rw [hzr] at cv
            rw [← hwm] at mk cv
            have HOm := Lib.hid (HO.out.below hbm)
            have HGm := Lib.hid (owns_below HG.out hbm)
            have HBm := Lib.hid (HB.out.trans (hbm.mono HB.out.size))
            obtain ⟨zs, hzs⟩ : ∃ zs, zs = Gv.zer sz := ⟨_, rfl⟩
            rw [← hzs] at cv Ho
            obtain ⟨gx, ox, cx, hvx, _, hgx, _, _, hcx, hfx⟩ := HOm.out.at0 (by rw [List.length_map, Gv.outs_len]; omega)
            injection hvx with e1 e2 e3
            injection e1 with e1
            injection e1 with e4 e5
            subst e4 e5
            have cq : ∃ s0 : ByteArray, wm.cell? ⟨go, q, none⟩ = some (.string s0) := by
              have h := hcx q (by rw [List.length_map, Gv.outs_len]; exact hqn)
              rw [Nat.zero_add] at h
              rw [h, List.getElem?_map, List.getElem?_eq_getElem (by rw [Gv.outs_len]; exact hqn)]; exact ⟨_, rfl⟩
            obtain ⟨s0, cq⟩ := cq
            have fq : wm.frozen? ⟨go, q, none⟩ = false := by have h := hfx q; exact h
            clear hcx hfx e2 e3 ho hwm hbm hzr hzs hpl
            have HOs : Hid (OwnR (wm.setCell ⟨go, q, none⟩ (.string zs)) wO.heap.size 9 (.slice (some ⟨go, 0, none⟩) n co) ((Gv.outs ps ls sz (q + 1)).map Value.string)) := Lib.hid (by
              rw [Ho.out]
              have h := HOm.out.setStr (by rw [Gv.outs_len]; exact hqn) zs
              rw [Nat.zero_add] at h
              exact h)
            have HGs := Lib.hid (Kept.owns HGm.out ((Kept.self go wm).set1 q (.string zs)) (fun g hg e => by have := (HGm.out.lt g hg).1; omega))
            have HBs := Lib.hid (HBm.out.setCell (p := ⟨go, q, none⟩) hgb (.string zs))
            clear HOm HGm HBm HO HG HB
            by_cases hqk : q < kk
            · have hg : Gv.goneL ls (min (q + 1) kk) = Gv.goneL ls (min q kk) ++ [q] := by
                rw [Nat.min_eq_left (by omega), Nat.min_eq_left (by omega), Gv.gone_succ, hb]; rfl
              have hgl250 : (Gv.goneL ls (min q kk)).length ≤ 250 := by
                have : (Gv.goneL ls (min q kk)).length ≤ min q kk := by
                  unfold Gv.goneL
                  exact Nat.le_trans (List.length_filter_le _ _) (by rw [List.length_range]; exact Nat.le_refl _)
                omega
              have Hg := Lib.hid hg
              have hi := HI.out
              have HGa := Lib.hid (HGs.out.alloc (.cells #[iv q] 3))
              have hzs2 : (wm.setCell ⟨go, q, none⟩ (.string zs)).heap.size = wm.heap.size := by simp
              have hz9 : w1.heap.size ≤ wm.heap.size := Nat.le_trans hzw hzmm
              clear hg hb
              go_wp2_with (at_builtin; refine wpList_append_own_at _ rfl _ _ 30 rfl w1.heap.size 3 i0 (.int .i64 0) 1 8 Tryz.underlying30 hi hi1 hi2 hi3 rfl (by decide) _ (Gv.goneL ls (min q kk)).length _ rfl HGa.out ⟨wm.heap.size, 0, none⟩ 1 1 [iv q] rfl rfl ?n1 ?n2 ?n3 ?n4 ?n5 ?_)
              case n2 => rfl
              case n3 => unfold maxLen; omega
              case n4 => omega
              case n5 => omega
              intro v9 w9 hown9 hgr9 _ hat9
              have hk9 : Kept (fun k => some k = u10.ownBlock) (wm.setCell ⟨go, q, none⟩ (.string zs)) w9 := (Kept.new _ ((Below.refl _ _).alloc (Nat.le_refl _) _)).also (Kept.grown hgr9)
              have hv10 := fun g hg => (HGs.out.lt g hg).1
              have HO9 := Lib.hid (HOs.out.kept hk9 (fun g hg e => by
                have h1 : go = g := Option.some.inj hg
                have := hv10 g e.symm
                omega))
              have HB9 := Lib.hid (HBs.out.trans (hk9.toBelow (by have := HBs.out.size; exact this) (fun g _ e => by have := hv10 g e.symm; omega)))
              have hz99 : w1.heap.size ≤ w9.heap.size := by have := hk9.size; omega
              have HG9 : Hid (w9.ownsRow w1.heap.size 3 1 v9 (Gv.goneL ls (min (q + 1) kk)).length ((Gv.goneL ls (min (q + 1) kk)).map (fun j => iv (j : Nat)))) := Lib.hid (by
                rw [Hg.out, List.length_append, List.length_singleton, List.map_append]; exact hown9)
              clear hown9 hgr9 hat9 hk9 hi HGa
              go_wp2_with fail
              go_roundg (gk - 1)
              case measure => have := Hq.out; omega
              case rel => exact ⟨q + 1, by have := Hq.out; omega, by go_num, HO9.out, HG9.out, HB9.out, hz99⟩
            · have hg : Gv.goneL ls (min (q + 1) kk) = Gv.goneL ls (min q kk) := by
                rw [Nat.min_eq_right (by omega), Nat.min_eq_right (by omega)]
              have Hg := Lib.hid hg
              have hzs2 : (wm.setCell ⟨go, q, none⟩ (.string zs)).heap.size = wm.heap.size := by simp
              have hz99 : w1.heap.size ≤ (wm.setCell ⟨go, q, none⟩ (.string zs)).heap.size := by omega
              clear hg hb hzs2
              go_wp2_with fail
              go_roundg (gk - 1)
              case measure => have := Hq.out; omega
              case rel => exact ⟨q + 1, by have := Hq.out; omega, by go_num, HOs.out, by rw [Hg.out]; exact HGs.out, HBs.out, hz99⟩
        · have hqn : q = n := by have := Hq.out; omega
          have hmin : min q kk = kk := by omega
          rw [hqn] at HO
          rw [hmin] at HG
          clear hlt Hq hmin
          obtain ⟨os, hos⟩ : ∃ os, os = Gv.outs ps ls sz n := ⟨_, rfl⟩
          obtain ⟨gn, hgn⟩ : ∃ gn, gn = Gv.goneL ls kk := ⟨_, rfl⟩
          have hol : os.length = n := by rw [hos, Gv.outs_len]; exact Hn.out.symm
          have hosz : ∀ s ∈ os, s.size = sz := by
            intro s hs
            rw [hos] at hs
            unfold Gv.outs at hs
            obtain ⟨i, hi, rfl⟩ := List.mem_map.1 hs
            rw [List.mem_range, ← Hn.out] at hi
            by_cases hlo : Gv.lo ls i = true
            · rw [if_pos ⟨hi, hlo⟩]; exact Gv.zer_size sz
            · rw [if_neg (fun h => hlo h.2)]; exact Hsz.out i hi (by simpa using hlo)
          have hgm : ∀ j ∈ gn, j < kk := fun j hj => by rw [hgn] at hj; exact (Gv.gone_mem.1 hj).1
          have hnd : gn.Nodup := by rw [hgn]; exact Gv.gone_nodup _ _
          have hg2 : gn.length ≤ 2 := by rw [hgn]; have h := H2.out; rw [show n - 2 = kk by have := Hkn.out; omega] at h; exact h
          rw [← hos] at HO
          rw [← hgn] at HG
          obtain ⟨gx, ox, cx, hvx, _, hgx, _, _, hcx, hfx⟩ := HO.out.at0 (by rw [List.length_map]; omega)
          injection hvx with e1 e2 e3
          injection e1 with e1
          injection e1 with e4 e5
          subst e4 e5
          have cell : ∀ j, j < n → wr.cell? ⟨go, j, none⟩ = some (.string (os.getD j ⟨#[]⟩)) := by
            intro j hj
            have h := hcx j (by rw [List.length_map]; omega)
            rw [Nat.zero_add] at h
            rw [h, List.getElem?_map, List.getElem?_eq_getElem (by omega), List.getD_eq_getElem?_getD, List.getElem?_eq_getElem (by omega)]; rfl
          have k0 := cell kk (by omega)
          have k1 := cell (kk + 1) (by have := Hkn.out; omega)
          have m0 := (HB.out.cell (p := ⟨gl, ol + kk, none⟩) hzl).trans (Hcl.out kk (by omega))
          have m1 := (HB.out.cell (p := ⟨gl, ol + (kk + 1), none⟩) hzl).trans (Hcl.out (kk + 1) (by have := Hkn.out; omega))
          have hps : (os.getD kk ⟨#[]⟩).size = sz := hosz _ (Gv.getD_mem (by omega))
          have hqs : (os.getD (kk + 1) ⟨#[]⟩).size = sz := hosz _ (Gv.getD_mem (by have := Hkn.out; omega))
          have hoff : ∀ g', u10.ownBlock = some g' → g' ≠ go := by
            intro g' hg' e
            have := (HG.out.lt g' hg').1
            omega
          obtain ⟨p0, hp0⟩ : ∃ p0, p0 = os.getD kk ⟨#[]⟩ := ⟨_, rfl⟩
          obtain ⟨q0, hq0⟩ : ∃ q0, q0 = os.getD (kk + 1) ⟨#[]⟩ := ⟨_, rfl⟩
          obtain ⟨b0, hb0⟩ : ∃ b0, b0 = Gv.lo ls kk := ⟨_, rfl⟩
          obtain ⟨b1, hb1⟩ : ∃ b1, b1 = Gv.lo ls (kk + 1) := ⟨_, rfl⟩
          rw [← hp0] at k0 hps
          rw [← hq0] at k1 hqs
          rw [← hb0] at m0
          rw [← hb1] at m1
          have Hp0 := Lib.hid hp0
          have Hq0 := Lib.hid hq0
          have Hb0 := Lib.hid hb0
          have Hb1 := Lib.hid hb1
          clear hp0 hq0 hb0 hb1
          have hpre : ∀ nq, HPre (wr.drewN nq) wO.heap.size go 0 n co kk sz os gn u10 p0 q0 :=
            fun nq => { own := HO.out.below (bdrew (Below.refl _ _) nq), len := hol, kn := by omega, k1 := hk1, k250 := by omega, szs := hosz, sz9 := hsz9, low := hgm, row := Row.below (row_of_owns HG.out).1 (bdrew (Below.refl _ _) nq), off := hoff, ps := hps, qs := hqs }
          have HH := Lib.hid (fun nq => healed_any (hpre nq) hnd hg2 b0 b1)
          have Hos := Lib.hid hos
          have Hgn := Lib.hid hgn
          have hA : IntKind.i64.wrap ((kk : Int) + 1) = ((kk + 1 : Nat) : Int) := (IntWalk.i64_in _ (by omega)).trans (by omega)
          have hA2 : (kk : Int) + 1 < (n : Int) := by have := Hkn.out; omega
          have hA3 : (0 : Int) ≤ (kk : Int) + 1 := by omega
          have hkI : (kk : Int) < (n : Int) := by omega
          have hkI2 : ((kk + 1 : Nat) : Int) < (n : Int) := by have := Hkn.out; omega
          have hkI3 : (kk : Int) ≤ (co : Int) := by omega
          have hqI : (n : Int) ≤ (q : Int) := by omega
          clear hos hgn hpre hcx hfx cell e2 e3 hgm hnd hg2 hps hqs
          have hgo : go < wr.heap.size := hgx
          have hgl2 : gl < wr.heap.size := Nat.lt_of_lt_of_le hzl HB.out.size
          have hne : gl ≠ go := by omega
          unfold HealdPost at HH
          obtain ⟨hd, hhd⟩ : ∃ hd, hd = Gv.healed (os.take kk) gn p0 q0 b0 b1 := ⟨_, rfl⟩
          have hdl : hd.length = kk := by rw [hhd, Gv.healed_len, List.length_take]; omega
          rw [← hhd] at HH
          have hds : ∀ s ∈ hd, s.size = sz := by rw [hhd]; exact Gv.healed_sz (fun s hs => hosz s (List.mem_of_mem_take hs)) (by rw [List.length_take]; omega) _ _ _ _ _
          have Hds := Lib.hid hds
          clear hds hosz
          have Hhd := Lib.hid hhd
          have Hdl := Lib.hid hdl
          clear hhd hdl
          go_wp2_with fail
          go_region_held3 (fun w' => w'.cell? ⟨go, kk, none⟩ = some (.string p0) ∧ w'.cell? ⟨go, kk + 1, none⟩ = some (.string q0) ∧ w'.cell? ⟨gl, ol + kk, none⟩ = some (.bool b0) ∧ w'.cell? ⟨gl, ol + (kk + 1), none⟩ = some (.bool b1))
            (first
              | exact ⟨k0, k1, m0, m1⟩
              | exact kH
              | go_keep)
            (first
              | (go_at_call 145; (refine (HH.out 1).mono ?_); rintro e wH ⟨rfl, hOH, hKH⟩; have HOH := Lib.hid hOH; have HBH := Lib.hid ((bdrew HB.out _).trans (hKH.toBelow (B := wO.heap.size) HB.out.size (fun k _ h => by rw [h]; exact hgb))); have kH := heal_keep Hdl.out hol hOH hKH Hp0.out Hq0.out k0 k1 m0 m1 hne Hkn.out; clear hOH hKH))
          have hT : OwnR wH wO.heap.size 9 (.slice (some ⟨go, 0, none⟩) kk co) (hd.map Value.string) := by
            have h := HOH.out.head0 (k := kk) (by rw [List.length_map, List.length_append, Hdl.out]; omega)
            rw [← List.map_take, List.take_append_of_le_length (by rw [Hdl.out]; exact Nat.le_refl _), List.take_of_length_le (by rw [Hdl.out]; exact Nat.le_refl _)] at h
            exact h
          have hs0 : size0 hd = sz := Gv.size0_of Hds.out (by rw [Hdl.out]; exact hk1)
          have HOf := Lib.hid (of_any hd (fun s hs => by rw [hs0]; exact Hds.out s hs) (by omega) (by rw [Hdl.out]; omega) _ wH hT.row)
          unfold OfPost at HOf
          clear hT hs0 kH k0 k1 m0 m1
          go_wp2_with fail
          refine HOf.out.mono ?_
          rintro e wF ⟨rfl, hbF⟩
          have HOF := Lib.hid (HOH.out.below hbF)
          have HBF := Lib.hid (HBH.out.trans (hbF.mono HBH.out.size))
          have hlF : (hd ++ os.drop kk).length = n := by rw [List.length_append, List.length_drop, Hdl.out, hol]; have := Hkn.out; omega
          obtain ⟨gx, ox, cx, hvx, _, hgx9, _, _, hcx, hfx⟩ := HOF.out.at0 (by rw [List.length_map]; omega)
          injection hvx with e1 e2 e3
          injection e1 with e1
          injection e1 with e4 e5
          subst e4 e5
          have cell : ∀ j, j < n → ∃ s0 : ByteArray, wF.cell? ⟨go, j, none⟩ = some (.string s0) := by
            intro j hj
            have h := hcx j (by rw [List.length_map]; omega)
            rw [Nat.zero_add] at h
            exact ⟨(hd ++ os.drop kk)[j], by rw [h, List.getElem?_map, List.getElem?_eq_getElem (by omega)]; rfl⟩
          obtain ⟨s0, ck0⟩ := cell kk (by omega)
          obtain ⟨s1, ck1⟩ := cell (kk + 1) (by have := Hkn.out; omega)
          have fk0 := hfx kk
          have fk1 := hfx (kk + 1)
          obtain ⟨Ps, hPs⟩ : ∃ Ps, Ps = Gv.P hd := ⟨_, rfl⟩
          obtain ⟨Qs, hQs⟩ : ∃ Qs, Qs = Gv.Q hd := ⟨_, rfl⟩
          rw [← hPs, ← hQs]
          have HPs := Lib.hid hPs
          have HQs := Lib.hid hQs
          clear hbF HOf HOH HBH hcx cell e2 e3 hPs hQs
          go_wp2_with fail
          go_ret
          refine ⟨_, rfl, ?_, (HBF.out.setCell (p := ⟨go, kk, none⟩) hgb _).setCell (p := ⟨go, kk + 1, none⟩) hgb _⟩
          have h1 := HOF.out.setStr (k := kk) (by rw [hlF]; omega) Ps
          rw [Nat.zero_add] at h1
          have h2 := h1.setStr (k := kk + 1) (by rw [List.length_set, hlF]; have := Hkn.out; omega) Qs
          rw [Nat.zero_add, ends_set Hdl.out hol Hkn.out] at h2
          have he : Gv.heal ps ls = hd ++ [Ps, Qs] := by
            rw [HPs.out, HQs.out]
            have hl9 : Gv.lastSz ps ls ps.length = sz := by
              obtain ⟨i, hi, h0⟩ := Hex.out
              exact Gv.lastSz_eq _ (fun i hi h => Hsz.out i (by rw [Hn.out]; exact hi) h) ⟨i, by rw [← Hn.out]; exact hi, h0⟩
            have hk9 : ps.length - 2 = kk := by rw [← Hn.out]; have := Hkn.out; omega
            unfold Gv.heal
            simp only [hl9, hk9]
            rw [← Hn.out, ← Hos.out, ← Hgn.out, ← Hp0.out, ← Hq0.out, ← Hb0.out, ← Hb1.out, ← Hhd.out]
          rw [he]
          exact h2
end Go.Proofs.YtneebcniofolmaaGreatDoor
