/- The walks of the references' polynomials: Trim, Eval, Sum. -/
import Derived.Test.YtbikmodfmckaeaaDoorRefX
import Derived.Test.YtbikmodfmckaeaaDoorPolB
import Derived.Laws.AppendOwnNone
namespace Go.Proofs.YtbikmodfmckaeaaDoor
open Go.ChangeShapes Go.WideShapes Go.ChangeAt Go.RowKit
set_option linter.unusedVariables false
set_option maxRecDepth 100000 in
/-- a list of bytes appended to nil: a copy of one's own -/
theorem copyB {ops : Array Oper} {rest : List Oper} {o : Oper} {a : Act} {Q : Exit → Act → World → Prop} (w : World) (hgd : o.guard = none) (s x : Operand)
    (ho : o.op = .call { callee := .builtin .append, args := #[s, x], argTypes := #[22, 22] }) (hs : a.eval s = .slice none 0 0) (l : List UInt8) (v : Value) (hv : RowB w v l) (hx : a.eval x = v) (hl : l.length ≤ 140737488351232)
    (hK : ∀ v' w', w'.ownsRow w.heap.size 5 1 v' l.length (l.map bv) → Below w.heap.size w w' → wpList Tryd.prog ops Q rest (a.put o.dst v') w') :
    wpList Tryd.prog ops Q (o :: rest) a w := by
  obtain ⟨i0, hi, hz0, hz1, hz2⟩ := info_parts info_byteV
  obtain ⟨p, cap, rfl, h1, h2, h0, h3⟩ := hv
  rw [List.length_map] at *
  cases p with
  | none =>
    obtain rfl : cap = 0 := h0 rfl
    obtain rfl : l = [] := List.eq_nil_of_length_eq_zero (by omega)
    exact wpList_append_own_none hgd s x 22 ho w.heap.size 5 i0 1 Tryd.underlying22 hi _ _ _ hs (World.ownsRow_nil w w.heap.size 5 1) hx (hK _ _ (World.ownsRow_nil w w.heap.size 5 1) (Below.refl _ _))
  | some ad =>
    refine wpList_append_own _ hgd s x 22 ho w.heap.size 5 i0 (.int .u8 0) 1 1 Tryd.underlying22 hi hz0 hz1 hz2 rfl (by decide) _ _ _ hs (World.ownsRow_nil w w.heap.size 5 1) ad l.length cap (l.map bv) hx (by simp) ?_ (by intro u hu; obtain ⟨y, _, rfl⟩ := List.mem_map.1 hu; rfl) (by unfold maxLen; omega) (by omega) (Nat.le_refl _) ?_
    · intro j u hj
      have hjn := (List.getElem?_eq_some_iff.1 hj).1
      rw [List.length_map] at hjn
      obtain ⟨g, off, hp, h4⟩ := h3 (by omega)
      injection hp with hp
      rw [hp, Addr.add_lit]
      exact (h4 j hjn).trans hj
    · intro v' w' hO hg _
      rw [Nat.zero_add, List.nil_append] at hO
      exact hK v' w' hO ⟨hg.os, hg.tape, hg.output, hg.size, fun k hk => hg.block k hk (by simp [Value.ownBlock])⟩
set_option maxRecDepth 100000 in
theorem rtrim_any (l : List UInt8) (hl : l.length ≤ 140737488351232) (v : Value) (w : World) (hv : RowB w v l) :
    Calls Tryd.prog 11 #[v] w (TrimPost l w) := by
  have HV := Lib.hid hv
  obtain ⟨p, cap, rfl, h1, h2⟩ := hv.shape
  obtain ⟨n, hn⟩ : ∃ n, n = l.length := ⟨_, rfl⟩
  rw [← hn] at h1 HV hl ⊢
  have Hn := Lib.hid hn
  unfold maxLen at h2
  clear hv hn
  go_enter Tryd.func11, Tryd.ntmps11
  go_wp2_with fail
  go_loopg [3] n (fun gk v3 wr => TrimRel l w gk v3 wr)
  case atStart => exact ⟨rfl, by rw [Hn.out], by rw [Hn.out]; exact Nat.le_refl _, rfl⟩
  case round =>
    obtain ⟨rfl, ht, hg, hwr⟩ := hrel
    subst hwr
    have Ht := Lib.hid ht
    rw [← Hn.out] at hg
    clear ht
    have hrow : Pl.tn l n = gk → RowB wr (.slice p gk cap) (Pl.trim l) ∧ (Pl.trim l).length ≤ 140737488351232 := by
      intro hgk
      have hr := row_headP HV.out (k := gk) (by rw [List.length_map, ← Hn.out]; exact hg)
      unfold RowB
      have e : (Pl.trim l).map bv = (l.map bv).take gk := by unfold Pl.trim; rw [← Hn.out, hgk, List.map_take]
      rw [e]
      refine ⟨hr, ?_⟩
      rw [Pl.trim_len, ← Hn.out, hgk]; omega
    have Hrow := Lib.hid hrow
    clear hrow
    cases gk with
    | zero =>
      have hz : Pl.tn l n = 0 := by rw [Hn.out, ← Ht.out]; rfl
      obtain ⟨hR, hR9⟩ := Hrow.out hz
      have HR := Lib.hid hR
      have HR9 := Lib.hid hR9
      clear Hrow hz hR hR9
      go_wp2_with (at_builtin; refine copyB _ rfl _ _ rfl rfl (Pl.trim l) _ HR.out rfl HR9.out ?_)
      intro v' w' hO hb
      have HO := Lib.hid hO
      have HB := Lib.hid hb
      clear hO hb
      go_wp2_with fail
      go_ret
      exact ⟨_, rfl, OwnR.of_owns HO.out, HB.out⟩
    | succ q =>
      obtain ⟨g, o, cc, hv2, _, _, _, hc⟩ := HV.out.cellAt (j := q) (by rw [← Hn.out]; omega)
      injection hv2 with e1 e2 e3
      have hw : IntKind.i64.wrap ((q : Int) + 1 - 1) = (q : Int) := (IntWalk.i64_in _ (by omega)).trans (by omega)
      have hw2 : IntKind.i64.wrap (((q + 1 : Nat) : Int) - 1) = (q : Int) := (IntWalk.i64_in _ (by omega)).trans (by omega)
      have hw3 : IntKind.i64.wrap (q : Int) = (q : Int) := IntWalk.i64_in _ (by omega)
      have hqn : (q : Int) < (n : Int) := by omega
      have hp0 : (0 : Int) < (q : Int) + 1 := by omega
      have htq : Pl.tn l (q + 1) = if Pl.cf l q = 0 then Pl.tn l q else q + 1 := rfl
      have Htq := Lib.hid htq
      have hcc : wr.cell? ⟨g, o + q, none⟩ = some (bv (Pl.cf l q)) := hc
      generalize Pl.cf l q = x at *
      have He1 := Lib.hid e1
      rw [e1] at Hrow ⊢
      clear e1 e2 e3 hc htq
      by_cases hx : x = 0
      · subst hx
        go_wp2_with fail
        rw [← He1.out]
        go_roundg q
        case measure => omega
        case rel => exact ⟨by go_num, (Htq.out.trans (if_pos trivial)).symm.trans Ht.out, by rw [← Hn.out]; omega, rfl⟩
      · have hne := bv_ne hx
        have hz : Pl.tn l n = q + 1 := by rw [Hn.out, ← Ht.out, Htq.out, if_neg hx]
        obtain ⟨hR, hR9⟩ := Hrow.out hz
        have HR := Lib.hid hR
        have HR9 := Lib.hid hR9
        clear Hrow hz hx hR hR9
        go_wp2_with (at_builtin; refine copyB _ rfl _ _ rfl rfl (Pl.trim l) _ HR.out rfl HR9.out ?_)
        intro v' w' hO hb
        have HO := Lib.hid hO
        have HB := Lib.hid hb
        clear hO hb
        go_wp2_with fail
        go_ret
        exact ⟨_, rfl, OwnR.of_owns HO.out, HB.out⟩
def REvRel (l : List UInt8) (x : UInt8) (w : World) (n gk : Nat) (v5 v6 v7 : Value) (wr : World) : Prop :=
  ∃ q nd : Nat, q + gk = n ∧ v5 = bv (Gv.xsum q (fun j => Gf.mul (Pl.cf l j) (Gf.pow x j))) ∧ v6 = bv (Gf.pow x q) ∧ v7 = iv q ∧ wr = w.drewN nd
set_option maxRecDepth 100000 in
theorem reval_any (l : List UInt8) (x : UInt8) (v : Value) (w : World) (hv : RowB w v l) :
    Calls Tryd.prog 12 #[v, bv x] w fun e w' => e = .returned (bv (Pl.ev l x)) ∧ ∃ n, w.drewN n = w' := by
  have HV := Lib.hid hv
  obtain ⟨p, cap, rfl, h1, h2⟩ := hv.shape
  obtain ⟨n, hn⟩ : ∃ n, n = l.length := ⟨_, rfl⟩
  rw [← hn] at h1 HV ⊢
  have Hn := Lib.hid hn
  unfold maxLen at h2
  clear hv hn
  go_enter Tryd.func12, Tryd.ntmps12
  go_wp2_with fail
  go_loopg [5, 6, 7] n (fun gk v5 v6 v7 wr => REvRel l x w n gk v5 v6 v7 wr)
  case atStart => exact ⟨0, 0, by omega, rfl, rfl, rfl, rfl⟩
  case round =>
    obtain ⟨q, nd, hq, rfl, rfl, rfl, hwr⟩ := hrel
    have Hq := Lib.hid hq
    obtain ⟨s, hs⟩ : ∃ s, s = Gv.xsum q (fun j => Gf.mul (Pl.cf l j) (Gf.pow x j)) := ⟨_, rfl⟩
    obtain ⟨t, ht⟩ : ∃ t, t = Gf.pow x q := ⟨_, rfl⟩
    rw [← hs, ← ht]
    have Hs := Lib.hid hs
    have Ht := Lib.hid ht
    have Hwr := Lib.hid hwr
    by_cases hlt : q < n
    · obtain ⟨g, o, cc, hv2, _, _, _, hc⟩ := HV.out.cellAt (j := q) (by rw [← Hn.out]; omega)
      injection hv2 with e1 e2 e3
      have He1 := Lib.hid e1
      have hc' : w.cell? ⟨g, o + q, none⟩ = some (bv (Pl.cf l q)) := hc
      have d0 : wr.cell? ⟨g, o + q, none⟩ = some (bv (Pl.cf l q)) := by rw [hwr]; simpa using hc'
      obtain ⟨y, hy⟩ : ∃ y, y = Pl.cf l q := ⟨_, rfl⟩
      rw [← hy] at d0
      have hn1 : Gf.add s (Gf.mul y t) = Gv.xsum (q + 1) (fun j => Gf.mul (Pl.cf l j) (Gf.pow x j)) := by rw [Gv.xsum_succ, hs, hy, ht, Gf.add_def]
      have hn2 : Gf.mul t x = Gf.pow x (q + 1) := by rw [ht, Gf.mul_comm]; rfl
      have Hn1 := Lib.hid hn1
      have Hn2 := Lib.hid hn2
      rw [e1]
      clear e1 e2 e3 hc hc' hq hs ht hy hn1 hn2 hwr
      go_wp2_with fail
      refine (rmul_any y t _ _ rfl rfl _).mono ?_
      rintro e w' ⟨rfl, n1, rfl⟩
      generalize Gf.mul y t = m at *
      go_wp2_with fail
      refine (rplus_any s m _ _ rfl rfl _).mono ?_
      rintro e w' ⟨rfl, n2, rfl⟩
      rw [Hn1.out]
      go_wp2_with fail
      refine (rmul_any t x _ _ rfl rfl _).mono ?_
      rintro e w' ⟨rfl, n3, rfl⟩
      rw [Hn2.out]
      go_wp2_with fail
      rw [← He1.out]
      go_roundg (gk - 1)
      case measure => have := Hq.out; omega
      case rel => exact ⟨q + 1, nd + (n1 + n2 + n3), by have := Hq.out; omega, rfl, rfl, by go_num, by rw [Hwr.out, World.drewN_drewN]⟩
    · obtain rfl : q = n := by omega
      have hfin : s = Pl.ev l x := by rw [hs]; unfold Pl.ev; rw [← Hn.out]
      have Hfin := Lib.hid hfin
      clear hq hs ht hwr hfin
      go_wp2_with fail
      go_ret
      exact ⟨by rw [Hfin.out]; rfl, nd, Hwr.out.symm⟩
def RSumRel (a b : List UInt8) (w : World) (n gk : Nat) (v5 v6 : Value) (wr : World) : Prop :=
  ∃ q : Nat, q + gk = n ∧ v6 = iv q ∧ wr.ownsRow w.heap.size 5 1 v5 q ((Gv.tab q (fun j => Pl.cf a j ^^^ Pl.cf b j)).map bv) ∧ Below w.heap.size w wr
theorem tab_succ (q : Nat) (f : Nat → UInt8) : (Gv.tab (q + 1) f).map bv = (Gv.tab q f).map bv ++ [bv (f q)] := by
  unfold Gv.tab; rw [List.range_succ]; simp
set_option maxRecDepth 100000 in
set_option maxHeartbeats 2000000 in
theorem rsum_any (a b : List UInt8) (ha9 : a.length ≤ 900000) (hb9 : b.length ≤ 900000) (va vb : Value) (w : World) (ha : RowB w va a) (hb : RowB w vb b) :
    Calls Tryd.prog 15 #[va, vb] w (TrimPost (Pl.plus a b) w) := by
  have HA := Lib.hid ha
  have HBb := Lib.hid hb
  obtain ⟨pa, ca, rfl, ha1, ha2⟩ := ha.shape
  obtain ⟨pb, cb, rfl, hb1, hb2⟩ := hb.shape
  obtain ⟨la, hla⟩ : ∃ la, la = a.length := ⟨_, rfl⟩
  obtain ⟨lb, hlb⟩ : ∃ lb, lb = b.length := ⟨_, rfl⟩
  rw [← hla] at ha1 HA ha9 ⊢
  rw [← hlb] at hb1 HBb hb9 ⊢
  have Hla := Lib.hid hla
  have Hlb := Lib.hid hlb
  unfold maxLen at ha2 hb2
  clear ha hb hla hlb
  obtain ⟨n, hn⟩ : ∃ n, n = max la lb := ⟨_, rfl⟩
  have Hn := Lib.hid hn
  clear hn
  go_enter Tryd.func15, Tryd.ntmps15
  go_wp2_with fail
  go_loopg [5, 6, 7, 8, 9] n (fun gk v5 v6 v7 v8 v9 wr => RSumRel a b w n gk v5 v6 wr)
  case atStart => exact ⟨0, by omega, rfl, World.ownsRow_nil _ _ _ _, Below.refl _ _⟩
  case round =>
    obtain ⟨q, hq, rfl, hO, hB⟩ := hrel
    have Hq := Lib.hid hq
    have HO := Lib.hid hO
    have HB := Lib.hid hB
    have hz := hB.size
    clear hO hB hq
    by_cases hqn : q < n
    · have hq9 : q + 1 ≤ 1000000 := by have := Hn.out; omega
      obtain ⟨y, hy⟩ : ∃ y, y = Pl.cf a q := ⟨_, rfl⟩
      obtain ⟨z, hz'⟩ : ∃ z, z = Pl.cf b q := ⟨_, rfl⟩
      have hs : Gf.add y z = Pl.cf a q ^^^ Pl.cf b q := by rw [hy, hz', Gf.add_def]
      by_cases hla : q < la
      · obtain ⟨ga, oa, cca, hv2, hga, _, _, hca⟩ := HA.out.cellAt (j := q) (by rw [← Hla.out]; exact hla)
        injection hv2 with e1 e2 e3
        have He1 := Lib.hid e1
        have d0 : wr.cell? ⟨ga, oa + q, none⟩ = some (bv (Pl.cf a q)) := (HB.out.cell (p := ⟨ga, oa + q, none⟩) hga).trans hca
        rw [← hy] at d0
        rw [e1]
        clear e1 e2 e3 hca
        by_cases hlb : q < lb
        · obtain ⟨gb, ob, ccb, hv2, hgb, _, _, hcb⟩ := HBb.out.cellAt (j := q) (by rw [← Hlb.out]; exact hlb)
          injection hv2 with e1 e2 e3
          have He2 := Lib.hid e1
          have d1 : wr.cell? ⟨gb, ob + q, none⟩ = some (bv (Pl.cf b q)) := (HB.out.cell (p := ⟨gb, ob + q, none⟩) hgb).trans hcb
          rw [← hz'] at d1
          rw [e1]
          clear e1 e2 e3 hcb
          have HS := Lib.hid hs
          clear hs hy hz'
          go_wp2_with fail
          refine (rplus_any y z _ _ rfl rfl _).mono ?_
          rintro e w' ⟨rfl, n1, rfl⟩
          rw [HS.out]
          obtain ⟨w5, hw5⟩ : ∃ x : World, x = wr.drewN n1 := ⟨_, rfl⟩
          rw [← hw5]
          have hb5 : Below wr.heap.size wr w5 := by rw [hw5]; exact bdrew (Below.refl _ _) n1
          have HO5 := Lib.hid (owns_below HO.out hb5)
          have HB5 := Lib.hid (HB.out.trans (hb5.mono hz))
          have hz5 := HB5.out.size
          clear hw5 hb5 HO HB
          go_wp2_with (at_builtin; refine app1 w w5 _ 5 22 rfl _ _ rfl w.heap.size Tryd.underlying22 info_byteV rfl _ q _ rfl _ rfl rfl HO5.out rfl hq9 (by decide) hz5 HB5.out ?_)
          intro v8 w8 hown8 hb8 hgr8 hat8
          rw [← tab_succ q (fun j => Pl.cf a j ^^^ Pl.cf b j)] at hown8
          have HO8 := Lib.hid hown8
          have HB8 := Lib.hid hb8
          clear hown8 hb8 hgr8 hat8 HO5 HB5
          go_wp2_with fail
          rw [← He1.out, ← He2.out]
          go_roundg (gk - 1)
          case measure => have := Hq.out; omega
          case rel => exact ⟨q + 1, by have := Hq.out; omega, by go_num, HO8.out, HB8.out⟩
        · obtain rfl : z = 0 := by rw [hz']; exact Pl.cf_out (by rw [← Hlb.out]; omega)
          have HS := Lib.hid hs
          clear hs hy hz'
          go_wp2_with fail
          refine (rplus_any y 0 _ _ rfl rfl _).mono ?_
          rintro e w' ⟨rfl, n1, rfl⟩
          rw [HS.out]
          obtain ⟨w5, hw5⟩ : ∃ x : World, x = wr.drewN n1 := ⟨_, rfl⟩
          rw [← hw5]
          have hb5 : Below wr.heap.size wr w5 := by rw [hw5]; exact bdrew (Below.refl _ _) n1
          have HO5 := Lib.hid (owns_below HO.out hb5)
          have HB5 := Lib.hid (HB.out.trans (hb5.mono hz))
          have hz5 := HB5.out.size
          clear hw5 hb5 HO HB
          go_wp2_with (at_builtin; refine app1 w w5 _ 5 22 rfl _ _ rfl w.heap.size Tryd.underlying22 info_byteV rfl _ q _ rfl _ rfl rfl HO5.out rfl hq9 (by decide) hz5 HB5.out ?_)
          intro v8 w8 hown8 hb8 hgr8 hat8
          rw [← tab_succ q (fun j => Pl.cf a j ^^^ Pl.cf b j)] at hown8
          have HO8 := Lib.hid hown8
          have HB8 := Lib.hid hb8
          clear hown8 hb8 hgr8 hat8 HO5 HB5
          go_wp2_with fail
          rw [← He1.out]
          go_roundg (gk - 1)
          case measure => have := Hq.out; omega
          case rel => exact ⟨q + 1, by have := Hq.out; omega, by go_num, HO8.out, HB8.out⟩
      · obtain rfl : y = 0 := by rw [hy]; exact Pl.cf_out (by rw [← Hla.out]; omega)
        by_cases hlb : q < lb
        · obtain ⟨gb, ob, ccb, hv2, hgb, _, _, hcb⟩ := HBb.out.cellAt (j := q) (by rw [← Hlb.out]; exact hlb)
          injection hv2 with e1 e2 e3
          have He2 := Lib.hid e1
          have d1 : wr.cell? ⟨gb, ob + q, none⟩ = some (bv (Pl.cf b q)) := (HB.out.cell (p := ⟨gb, ob + q, none⟩) hgb).trans hcb
          rw [← hz'] at d1
          rw [e1]
          clear e1 e2 e3 hcb
          have HS := Lib.hid hs
          clear hs hy hz'
          go_wp2_with fail
          refine (rplus_any 0 z _ _ rfl rfl _).mono ?_
          rintro e w' ⟨rfl, n1, rfl⟩
          rw [HS.out]
          obtain ⟨w5, hw5⟩ : ∃ x : World, x = wr.drewN n1 := ⟨_, rfl⟩
          rw [← hw5]
          have hb5 : Below wr.heap.size wr w5 := by rw [hw5]; exact bdrew (Below.refl _ _) n1
          have HO5 := Lib.hid (owns_below HO.out hb5)
          have HB5 := Lib.hid (HB.out.trans (hb5.mono hz))
          have hz5 := HB5.out.size
          clear hw5 hb5 HO HB
          go_wp2_with (at_builtin; refine app1 w w5 _ 5 22 rfl _ _ rfl w.heap.size Tryd.underlying22 info_byteV rfl _ q _ rfl _ rfl rfl HO5.out rfl hq9 (by decide) hz5 HB5.out ?_)
          intro v8 w8 hown8 hb8 hgr8 hat8
          rw [← tab_succ q (fun j => Pl.cf a j ^^^ Pl.cf b j)] at hown8
          have HO8 := Lib.hid hown8
          have HB8 := Lib.hid hb8
          clear hown8 hb8 hgr8 hat8 HO5 HB5
          go_wp2_with fail
          rw [← He2.out]
          go_roundg (gk - 1)
          case measure => have := Hq.out; omega
          case rel => exact ⟨q + 1, by have := Hq.out; omega, by go_num, HO8.out, HB8.out⟩
        · have := Hn.out; omega
    · have hqn' : q = n := by have := Hq.out; omega
      have hna : ¬ q < la := by have := Hn.out; omega
      have hnb : ¬ q < lb := by have := Hn.out; omega
      have hOB : OwnB wr w.heap.size u5 (Pl.plus a b) := by
        unfold OwnB Pl.plus
        rw [← Hla.out, ← Hlb.out, ← Hn.out, ← hqn']
        exact OwnR.of_owns HO.out
      have hpl : (Pl.plus a b).length ≤ 140737488351232 := by rw [Pl.plus_len, ← Hla.out, ← Hlb.out]; omega
      have HT := Lib.hid (rtrim_any (Pl.plus a b) hpl _ _ (OwnB.row hOB))
      obtain ⟨p5, n5, c5, rfl⟩ := hOB.slice
      clear hOB hpl HO
      go_wp2_with fail
      refine HT.out.mono ?_
      rintro e w1 ⟨v1, rfl, hO1, hb1⟩
      have HO1 := Lib.hid (OwnR.mono hO1 hz)
      have HB1 := Lib.hid (HB.out.trans (hb1.mono hz))
      clear hO1 hb1 HT
      go_wp2_with fail
      go_ret
      exact ⟨_, rfl, HO1.out, HB1.out⟩
end Go.Proofs.YtbikmodfmckaeaaDoor
