/- The walks of the references' Stairs at no column, and Inverse. -/
import Derived.Test.YtbikmodfmckaeaaDoorRMatE
namespace Go.Proofs.YtbikmodfmckaeaaDoor
open Go.ChangeShapes Go.WideShapes Go.ChangeAt Go.RowKit
set_option linter.unusedVariables false
set_option maxRecDepth 100000 in
set_option maxHeartbeats 4000000 in
theorem rstairs_none (m : Mx.Mt) (n L : Nat) (h0 : 0 < n) (hL9 : L ≤ 1000) (hn9 : n ≤ 1000) (v : Value) (w : World) (hv : RowsM w v (lt n L m)) :
    Calls Tryd.prog 30 #[v, iv 0] w fun e w' => ∃ u, e = .returned (.tuple #[u, iv 0]) ∧ Below w.heap.size w w' := by
  have HV := Lib.hid hv
  obtain ⟨pa, ca, rfl, hca1, hca2, _⟩ := hv.shape
  rw [lt_len] at HV hca1 ⊢
  unfold maxLen at hca2
  clear hv
  go_enter Tryd.func30, Tryd.ntmps30
  go_wp2_with fail
  go_loopg [6, 7, 8] n (fun gk v6 v7 v8 wr => RCpRel n L m w gk v6 v7 wr)
  case atStart => exact ⟨[], by simp, rfl, RowsO.nil _ _ _, ApV.nil, Below.refl _ _⟩
  case round =>
    obtain ⟨vs, hi, rfl, hR, hA, hB⟩ := hrel
    obtain ⟨i, hie⟩ : ∃ i, i = vs.length := ⟨_, rfl⟩
    rw [← hie] at hi ⊢
    have Hie := Lib.hid hie
    have Hi := Lib.hid hi
    have HR := Lib.hid hR
    have HA := Lib.hid hA
    have HB := Lib.hid hB
    have hz := hB.size
    clear hi hR hA hB hie
    by_cases hin : i < n
    · obtain ⟨ga, oa, cx, p2, c2, hva, hga, cra, hrb⟩ := HV.out.at (lt_get L m hin)
      injection hva with epa q8 q9
      have Hepa := Lib.hid epa
      rw [Gv.tab_len] at cra hrb
      have d0 : wr.cell? ⟨ga, oa + i, none⟩ = some (.slice p2 L c2) := (HB.out.cell (p := ⟨ga, oa + i, none⟩) hga).trans cra
      have HRB := Lib.hid (hrb.below HB.out)
      have hl9 : (Gv.tab L (m i)).length ≤ 140737488351232 := by rw [Gv.tab_len]; omega
      have hiI : (i : Int) < (n : Int) := by omega
      have hi9 : i + 1 ≤ 1000000 := by omega
      rw [epa]
      clear epa q8 q9 cra hrb
      go_wp2_with (at_builtin; refine copyB _ rfl _ _ rfl rfl (Gv.tab L (m i)) _ HRB.out rfl hl9 ?_)
      intro v8 w8 hO8 hb8
      rw [Gv.tab_len] at hO8
      have hO9 : OwnB w8 wr.heap.size v8 (Gv.tab L (m i)) := OwnR.of_owns hO8
      have hBr := HB.out.trans (hb8.mono hz)
      have HBr := Lib.hid hBr
      have hzr := hBr.size
      have HR2 := Lib.hid (HR.out.below hb8)
      have H9 := Lib.hid (OwnR.mono hO9 hz)
      have hub : ∀ g, v8.ownBlock = some g → u6.ownBlock ≠ some g := fun g h1 h2 => by
        have k1 := (OwnR.lt hO9 h1).1
        have k2 := (OwnR.lt (OwnR.of_owns HR.out.own) h2).2
        omega
      have hfr : ∀ (j : Nat) u' b, vs[j]? = some u' → u'.ownBlock = some b → v8.ownBlock ≠ some b := fun j u' b hj hb e => by
        have h1 := (List.getElem?_eq_some_iff.1 hj).1
        rw [← Hie.out] at h1
        have k2 := (OwnR.lt (HR.out.rows j u' _ hj (lt_get L m (by omega))).1 hb).2
        have k1 := (OwnR.lt hO9 e).1
        omega
      have HAp := Lib.hid (HA.out.push hfr)
      have Hub := Lib.hid hub
      have hlen : ∀ (j : Nat) u, vs[j]? = some u → ∃ r, (lt n L m)[j]? = some r := fun j u hu => by
        have h1 := (List.getElem?_eq_some_iff.1 hu).1
        rw [← Hie.out] at h1
        exact ⟨_, lt_get L m (by omega)⟩
      have Hlen := Lib.hid hlen
      have hown : w8.ownsRow w.heap.size 22 1 u6 i vs := by have h := HR2.out.own; rw [← Hie.out] at h; exact h
      have Hown := Lib.hid hown
      obtain ⟨p8, n8, c8, rfl⟩ := hO9.slice
      obtain ⟨p5, n5, c5, rfl⟩ := (OwnR.of_owns hown).slice
      clear hub hfr hlen hBr hown hO9 hO8 hb8 d0
      go_wp2_with (at_builtin; refine app1 w w8 (.slice p8 n8 c8) 22 44 rfl _ _ rfl w.heap.size Tryd.underlying44 info_rowC rfl _ i _ rfl _ rfl rfl Hown.out rfl hi9 (by decide) hzr HBr.out ?_)
      intro v9 w9 hown9 hb9 hgr9 hat9
      rw [Hie.out] at hown9
      have hR9 := HR2.out.push Hlen.out (by rw [← Hie.out]; exact lt_get L m hin) H9.out Hub.out hown9 hgr9 hat9
      have HR9 := Lib.hid hR9
      have HB9 := Lib.hid hb9
      have hl9 : (vs ++ [Value.slice p8 n8 c8]).length = i + 1 := by rw [List.length_append, ← Hie.out]; rfl
      have Hl9 := Lib.hid hl9
      clear hown9 hb9 hgr9 hat9 hR9 hl9 HR HR2 H9 Hub Hlen Hown HBr HA
      go_wp2_with fail
      rw [← Hepa.out]
      go_roundg (gk - 1)
      case measure => have := Hi.out; omega
      case rel => exact ⟨_, by rw [Hl9.out]; have := Hi.out; omega, by rw [Hl9.out]; go_num, HR9.out, HAp.out, HB9.out⟩
    · have hin' : i = n := by have := Hi.out; omega
      clear HR HA
      go_wp2_with fail
      go_loopg [9, 10, 11, 12, 13, 14, 15, 16, 17] 0 (fun gk v9 v10 v11 v12 v13 v14 v15 v16 v17 wr' => gk = 0 ∧ v9 = iv 0 ∧ v10 = iv 0 ∧ wr' = wr)
      case atStart => exact ⟨rfl, rfl, rfl, rfl⟩
      case round =>
        obtain ⟨_, rfl, rfl, hwe⟩ := hrel
        subst hwe
        go_wp2_with fail
        go_ret2
        exact ⟨_, rfl, HB.out⟩
set_option maxRecDepth 100000 in
/-- a list of bytes appended to one of one's own -/
theorem spreadB {ops : Array Oper} {rest : List Oper} {o : Oper} {a : Act} {Q : Exit → Act → World → Prop} (w : World) (hgd : o.guard = none) (s x : Operand)
    (ho : o.op = .call { callee := .builtin .append, args := #[s, x], argTypes := #[22, 22] }) (base : Nat) (hbase : base ≤ w.heap.size) (v0 : Value) (n : Nat) (xs : List Value) (hs : a.eval s = v0) (hown : w.ownsRow base 5 1 v0 n xs)
    (l : List UInt8) (v : Value) (hv : RowB w v l) (hx : a.eval x = v) (hl : n + l.length ≤ 140737488351232)
    (hK : ∀ v' w', w'.ownsRow base 5 1 v' (n + l.length) (xs ++ l.map bv) → Below base w w' → wpList Tryd.prog ops Q rest (a.put o.dst v') w') :
    wpList Tryd.prog ops Q (o :: rest) a w := by
  obtain ⟨i0, hi, hz0, hz1, hz2⟩ := info_parts info_byteV
  obtain ⟨p, cap, rfl, h1, h2, h0, h3⟩ := hv
  rw [List.length_map] at *
  cases p with
  | none =>
    obtain rfl : cap = 0 := h0 rfl
    obtain rfl : l = [] := List.eq_nil_of_length_eq_zero (by omega)
    exact wpList_append_own_none hgd s x 22 ho base 5 i0 1 Tryd.underlying22 hi _ _ _ hs hown hx (hK _ _ (by simpa using hown) (Below.refl _ _))
  | some ad =>
    refine wpList_append_own _ hgd s x 22 ho base 5 i0 (.int .u8 0) 1 1 Tryd.underlying22 hi hz0 hz1 hz2 rfl (by decide) _ _ _ hs hown ad l.length cap (l.map bv) hx (by simp) ?_ (by intro u hu; obtain ⟨y, _, rfl⟩ := List.mem_map.1 hu; rfl) (by unfold maxLen; omega) (by omega) hbase ?_
    · intro j u hj
      have hjn := (List.getElem?_eq_some_iff.1 hj).1
      rw [List.length_map] at hjn
      obtain ⟨g, off, hp, h4⟩ := h3 (by omega)
      injection hp with hp
      rw [hp, Addr.add_lit]
      exact (h4 j hjn).trans hj
    · intro v' w' hO hg _
      exact hK v' w' hO ((Kept.grown hg).toBelow hbase (fun k _ e => (OwnR.lt (OwnR.of_owns hown) e.symm).1))
def RIvRel (m : Mx.Mt) (n : Nat) (w w3 : World) (gk : Nat) (v11 v12 : Value) (wr : World) : Prop :=
  ∃ vs : List Value, vs.length + gk = n ∧ v12 = iv vs.length ∧ RowsO wr w.heap.size v11 vs (lt n n (Mx.iv' n m)) ∧ (∀ g, v11.ownBlock = some g → w3.heap.size ≤ g) ∧ Below w3.heap.size w3 wr
def RIvPost (m : Mx.Mt) (n : Nat) (w : World) (e : Ending) (w' : World) : Prop :=
  Below w.heap.size w w' ∧ ((Mx.rk n n m = n ∧ ∃ v, e = .returned (.tuple #[v, .bool true]) ∧ RowsM w' v (lt n n (Mx.iv' n m))) ∨ (Mx.rk n n m < n ∧ e = .returned (.tuple #[.slice none 0 0, .bool false])))
set_option maxRecDepth 100000 in
set_option maxHeartbeats 8000000 in
theorem rinverse_any (m : Mx.Mt) (n : Nat) (h0 : 0 < n) (hn9 : n ≤ 100) (v : Value) (w : World) (hv : RowsM w v (lt n n m)) :
    Calls Tryd.prog 28 #[v] w (RIvPost m n w) := by
  have HV := Lib.hid hv
  obtain ⟨pa, ca, rfl, hca1, hca2, _⟩ := hv.shape
  rw [lt_len] at HV hca1 ⊢
  unfold maxLen at hca2
  have HU := Lib.hid (runit_any n (by omega) w)
  unfold CaPost at HU
  clear hv
  go_enter Tryd.func28, Tryd.ntmps28
  go_wp2_with fail
  refine HU.out.mono ?_
  rintro e w1 ⟨vu, rfl, hU, hb1⟩
  obtain ⟨pu, cu, rfl, _, _, _⟩ := hU.shape
  rw [lt_len] at hU ⊢
  have HU1 := Lib.hid hU
  have HB1 := Lib.hid hb1
  clear hU hb1 HU
  go_wp2_with fail
  go_loopg [6, 7, 8] n (fun gk v6 v7 v8 wr => ∃ vs : List Value, vs.length + gk = n ∧ v7 = iv vs.length ∧ RowsO wr w1.heap.size v6 vs (lt n (n + n) (Mx.both n m)) ∧ Below w1.heap.size w1 wr)
  case atStart => exact ⟨[], by simp, rfl, RowsO.nil _ _ _, Below.refl _ _⟩
  case round =>
    obtain ⟨vs, hi, rfl, hR, hB1⟩ := hrel
    have hB := HB1.out.trans (hB1.mono HB1.out.size)
    obtain ⟨i, hie⟩ : ∃ i, i = vs.length := ⟨_, rfl⟩
    rw [← hie] at hi ⊢
    have Hie := Lib.hid hie
    have Hi := Lib.hid hi
    have HR := Lib.hid hR
    have HB := Lib.hid hB
    have HBu := Lib.hid hB1
    have hz := hB.size
    have hz1 := hB1.size
    clear hi hR hB hB1 hie
    by_cases hin : i < n
    · obtain ⟨ga, oa, cx, p2, c2, hva, hga, cra, hrb⟩ := HV.out.at (lt_get n m hin)
      injection hva with epa q8 q9
      have Hepa := Lib.hid epa
      rw [Gv.tab_len] at cra hrb
      have d0 : wr.cell? ⟨ga, oa + i, none⟩ = some (.slice p2 n c2) := (HB.out.cell (p := ⟨ga, oa + i, none⟩) hga).trans cra
      have HRB := Lib.hid (hrb.below HB.out)
      obtain ⟨gu, ou, cy, p3, c3, hvu, hgu, cru, hrbu⟩ := HU1.out.at (lt_get n Mx.un hin)
      injection hvu with epu r8 r9
      have Hepu := Lib.hid epu
      rw [Gv.tab_len] at cru hrbu
      have d1 : wr.cell? ⟨gu, ou + i, none⟩ = some (.slice p3 n c3) := (HBu.out.cell (p := ⟨gu, ou + i, none⟩) hgu).trans cru
      have HRU := Lib.hid (hrbu.below HBu.out)
      have hl9 : (Gv.tab n (m i)).length ≤ 140737488351232 := by rw [Gv.tab_len]; omega
      have hl8 : n + (Gv.tab n (Mx.un i)).length ≤ 140737488351232 := by rw [Gv.tab_len]; omega
      have hiI : (i : Int) < (n : Int) := by omega
      have hi9 : i + 1 ≤ 1000000 := by omega
      rw [epa, epu]
      clear epa q8 q9 cra hrb epu r8 r9 cru hrbu
      go_wp2_with (at_builtin; refine copyB _ rfl _ _ rfl rfl (Gv.tab n (m i)) _ HRB.out rfl hl9 ?_)
      intro v8 w8 hO8 hb8
      rw [Gv.tab_len] at hO8
      have hown8 : w8.ownsRow wr.heap.size 5 1 v8 n ((Gv.tab n (m i)).map bv) := hO8
      have HO8 := Lib.hid hown8
      have HRU8 := Lib.hid (HRU.out.below hb8)
      have d2 : w8.cell? ⟨gu, ou + i, none⟩ = some (.slice p3 n c3) := (hb8.cell (p := ⟨gu, ou + i, none⟩) (World.block_lt_of_cell? wr _ d1)).trans d1
      have HB8 := Lib.hid hb8
      have hz8 := hb8.size
      clear hO8 hown8 hb8 d0 d1
      go_wp2_with (at_builtin; refine spreadB w8 rfl _ _ rfl wr.heap.size hz8 _ n _ rfl HO8.out (Gv.tab n (Mx.un i)) _ HRU8.out rfl hl8 ?_)
      intro v8 w7 hO7 hb7
      rw [Gv.tab_len, ← List.map_append, tab_app] at hO7
      have hO9 : OwnB w7 wr.heap.size v8 (Gv.tab (n + n) (Mx.both n m i)) := OwnR.of_owns hO7
      have hbb : Below wr.heap.size wr w7 := HB8.out.trans hb7
      have hBr := HBu.out.trans (hbb.mono hz1)
      have HBr := Lib.hid hBr
      have hzr := hBr.size
      have HR2 := Lib.hid (HR.out.below hbb)
      have H9 := Lib.hid (OwnR.mono hO9 hz1)
      have hub : ∀ g, v8.ownBlock = some g → u6.ownBlock ≠ some g := fun g h1 h2 => by
        have k1 := (OwnR.lt hO9 h1).1
        have k2 := (OwnR.lt (OwnR.of_owns HR.out.own) h2).2
        omega
      have Hub := Lib.hid hub
      have hlen : ∀ (j : Nat) u, vs[j]? = some u → ∃ r, (lt n (n + n) (Mx.both n m))[j]? = some r := fun j u hu => by
        have h1 := (List.getElem?_eq_some_iff.1 hu).1
        rw [← Hie.out] at h1
        exact ⟨_, lt_get (n + n) (Mx.both n m) (by omega)⟩
      have Hlen := Lib.hid hlen
      have hown : w7.ownsRow w1.heap.size 22 1 u6 i vs := by have h := HR2.out.own; rw [← Hie.out] at h; exact h
      have Hown := Lib.hid hown
      obtain ⟨p8, n8, c8, rfl⟩ := hO9.slice
      obtain ⟨p5, n5, c5, rfl⟩ := (OwnR.of_owns hown).slice
      clear hub hlen hBr hown hO9 hO7 hb7 hbb d2 HB8 HO8 HRU8
      go_wp2_with (at_builtin; refine app1 w1 w7 (.slice p8 n8 c8) 22 44 rfl _ _ rfl w1.heap.size Tryd.underlying44 info_rowC rfl _ i _ rfl _ rfl rfl Hown.out rfl hi9 (by decide) hzr HBr.out ?_)
      intro v9 w9 hown9 hb9 hgr9 hat9
      rw [Hie.out] at hown9
      have hR9 := HR2.out.push Hlen.out (by rw [← Hie.out]; exact lt_get (n + n) (Mx.both n m) hin) H9.out Hub.out hown9 hgr9 hat9
      have HR9 := Lib.hid hR9
      have HB9 := Lib.hid hb9
      have hl9 : (vs ++ [Value.slice p8 n8 c8]).length = i + 1 := by rw [List.length_append, ← Hie.out]; rfl
      have Hl9 := Lib.hid hl9
      clear hown9 hb9 hgr9 hat9 hR9 hl9 HR HR2 H9 Hub Hlen Hown HBr
      go_wp2_with fail
      rw [← Hepa.out, ← Hepu.out]
      go_roundg (gk - 1)
      case measure => have := Hi.out; omega
      case rel => exact ⟨_, by rw [Hl9.out]; have := Hi.out; omega, by rw [Hl9.out]; go_num, HR9.out, HB9.out⟩
    · have hin' : i = n := by have := Hi.out; omega
      have hzM := hz
      have hM0 : RowsM wr u6 (lt n (n + n) (Mx.both n m)) := HR.out.rowsM (by rw [← Hie.out, hin', lt_len])
      have HS := Lib.hid (rstairs_any (Mx.both n m) n (n + n) n h0 (by omega) (by omega) (by omega) (by omega) _ wr hM0)
      unfold RStPost at HS
      obtain ⟨R, hR⟩ : ∃ R, R = (Mx.el n (Mx.both n m) n).2 := ⟨_, rfl⟩
      obtain ⟨E, hE⟩ : ∃ E, E = (Mx.el n (Mx.both n m) n).1 := ⟨_, rfl⟩
      rw [← hR, ← hE] at HS
      have HRk : Hid (R = Mx.rk n n m) := Lib.hid (hR.trans (Mx.rk_both n m))
      have hRn : R ≤ n := by rw [hR]; exact (Mx.el_inv n _ n).len
      have HE := Lib.hid hE
      subst hin'
      obtain ⟨n, hn⟩ : ∃ n, n = i := ⟨_, rfl⟩
      subst hn
      clear hM0 HR hR hE hin Hi HU1 HBu hz1
      go_wp2_with fail
      refine HS.out.mono ?_
      rintro e w3 ⟨g, c, bs, rfl, hF, hb3⟩
      obtain ⟨_, _, hnc, hcm, _, _⟩ := hF.outer h0
      unfold maxLen at hcm
      have HF := Lib.hid hF
      have HB3 := Lib.hid (HB.out.trans (hb3.mono hz))
      have hz3 := HB3.out.size
      clear hF hb3 HS HB hz
      by_cases hRl : R < n
      · have hRI : (R : Int) < (n : Int) := by omega
        have HPost : Hid (RIvPost m n w (.returned (.tuple #[.slice none 0 0, .bool false])) w3) := Lib.hid ⟨HB3.out, .inr ⟨by rw [← HRk.out]; exact hRl, rfl⟩⟩
        clear hRl
        go_wp2_with fail
        go_ret2
        exact HPost.out
      · have hRe : R = n := by omega
        subst hRe
        obtain ⟨n, hn⟩ : ∃ n, n = R := ⟨_, rfl⟩
        subst hn
        have t1 : ¬ (n : Int) < (n : Int) := by omega
        clear hRl hRn
        go_wp2_with fail
        go_loopg [11, 12] n (fun gk v11 v12 wr => RIvRel m n w w3 gk v11 v12 wr)
        case atStart => exact ⟨[], by simp, rfl, RowsO.nil _ _ _, (fun g hg => by cases hg), Below.refl _ _⟩
        case round =>
          obtain ⟨vs, hi, rfl, hR, hu, hB⟩ := hrel
          obtain ⟨i, hie⟩ : ∃ i, i = vs.length := ⟨_, rfl⟩
          rw [← hie] at hi ⊢
          have Hie := Lib.hid hie
          have Hi := Lib.hid hi
          have HR := Lib.hid hR
          have Hu := Lib.hid hu
          have HB := Lib.hid hB
          have hz := hB.size
          clear hi hR hB hie hu
          by_cases hin : i < n
          · have hF := HF.out.below HB.out
            obtain ⟨_, _, _, _, hcc, _⟩ := hF.outer h0
            have hr := hF.rows i hin
            have hlt := (OwnR.lt (HF.out.rows i hin) (g := (bs i).1) rfl).2
            have d1 := hcc i hin
            rw [Nat.zero_add] at d1
            obtain ⟨xb, hxb⟩ : ∃ x, x = bs i := ⟨_, rfl⟩
            rw [← hxb] at d1 hr hlt
            obtain ⟨pb, ob, cb⟩ := xb
            have d1' : wr.cell? ⟨g, i, none⟩ = some (.slice (some ⟨pb, ob, none⟩) (n + n) cb) := d1
            have hr' : OwnB wr w.heap.size (.slice (some ⟨pb, ob, none⟩) (n + n) cb) (Gv.tab (n + n) (E i)) := OwnR.mono hr hzM
            have hlt' : pb < w3.heap.size := hlt
            obtain ⟨_, _, hx4, hx5, hx6, _, _⟩ := OwnB.cells hr' (by rw [Gv.tab_len]; omega)
            have hdr := OwnR.drop hr' (k := n) (by omega)
            rw [show n + n - n = n by omega, ← List.map_drop, tab_drop] at hdr
            have hO9 : OwnB wr w.heap.size (.slice (some ⟨pb, ob + n, none⟩) n (cb - n)) (Gv.tab n (Mx.iv' n m i)) := by
              have e : Gv.tab n (Mx.iv' n m i) = Gv.tab n (fun j => E i (n + j)) := by rw [HE.out]; rfl
              rw [e]; exact hdr
            have hub : ∀ g', (Value.slice (some ⟨pb, ob + n, none⟩) n (cb - n)).ownBlock = some g' → u11.ownBlock ≠ some g' := fun g' h1 h2 => by
              injection h1 with h1
              have h1' : pb = g' := h1
              have := Hu.out g' h2
              omega
            have Hub := Lib.hid hub
            have H9 := Lib.hid hO9
            have hlen : ∀ (j : Nat) u, vs[j]? = some u → ∃ r, (lt n n (Mx.iv' n m))[j]? = some r := fun j u hu => by
              have h1 := (List.getElem?_eq_some_iff.1 hu).1
              rw [← Hie.out] at h1
              exact ⟨_, lt_get n (Mx.iv' n m) (by omega)⟩
            have Hlen := Lib.hid hlen
            have hi9 : i + 1 ≤ 1000000 := by omega
            have hown : wr.ownsRow w3.heap.size 22 1 u11 i vs := by
              have h := HR.out.own
              rw [← Hie.out] at h
              refine ⟨h.1, ?_⟩
              rcases h.2 with h2 | ⟨g2, c2, cur2, hv2, _, h3⟩
              · exact .inl h2
              · exact .inr ⟨g2, c2, cur2, hv2, Hu.out g2 (by rw [hv2]; rfl), h3⟩
            have Hown := Lib.hid hown
            obtain ⟨p5, n5, c5, rfl⟩ := (OwnR.of_owns hown).slice
            have hcb : ¬ cb = n := by omega
            have hcbn : n + n ≤ cb := by omega
            unfold maxLen at hx6
            clear hcc hr hlt hxb d1 hr' hx4 hdr hO9 hub hlen hown hF
            go_wp2_with (at_builtin; refine app1 w3 wr (.slice (some ⟨pb, ob + n, none⟩) n (cb - n)) 22 44 rfl _ _ rfl w3.heap.size Tryd.underlying44 info_rowC rfl _ i _ rfl _ rfl rfl Hown.out rfl hi9 (by decide) hz HB.out ?_)
            intro v9 w9 hown9 hb9 hgr9 hat9
            rw [Hie.out] at hown9
            have hub9 : ∀ g, v9.ownBlock = some g → w3.heap.size ≤ g := fun g hg => (OwnR.lt (OwnR.of_owns hown9) hg).1
            have hown9' : w9.ownsRow w.heap.size 22 1 v9 (vs.length + 1) (vs ++ [.slice (some ⟨pb, ob + n, none⟩) n (cb - n)]) := by
              refine ⟨hown9.1, ?_⟩
              rcases hown9.2 with h2 | ⟨g2, c2, cur2, hv2, hbb, h3⟩
              · exact .inl h2
              · exact .inr ⟨g2, c2, cur2, hv2, by omega, h3⟩
            have hR9 := HR.out.push Hlen.out (by rw [← Hie.out]; exact lt_get n (Mx.iv' n m) hin) H9.out Hub.out hown9' hgr9 hat9
            have HR9 := Lib.hid hR9
            have HB9 := Lib.hid hb9
            have Hu9 := Lib.hid hub9
            have hl9 : (vs ++ [Value.slice (some ⟨pb, ob + n, none⟩) n (cb - n)]).length = i + 1 := by rw [List.length_append, ← Hie.out]; rfl
            have Hl9 := Lib.hid hl9
            clear hown9 hb9 hgr9 hat9 hR9 hl9 HR H9 Hub Hlen Hown hub9 hown9' Hu
            go_wp2_with fail
            go_roundg (gk - 1)
            case measure => have := Hi.out; omega
            case rel => exact ⟨_, by rw [Hl9.out]; have := Hi.out; omega, by rw [Hl9.out]; go_num, HR9.out, Hu9.out, HB9.out⟩
          · have hin' : i = n := by have := Hi.out; omega
            have HPost : Hid (RIvPost m n w (.returned (.tuple #[u11, .bool true])) wr) := Lib.hid ⟨HB3.out.trans (HB.out.mono hz3), .inl ⟨HRk.out.symm, _, rfl, HR.out.rowsM (by rw [← Hie.out, hin', lt_len])⟩⟩
            clear HR
            go_wp2_with fail
            go_ret2
            exact HPost.out
end Go.Proofs.YtbikmodfmckaeaaDoor
