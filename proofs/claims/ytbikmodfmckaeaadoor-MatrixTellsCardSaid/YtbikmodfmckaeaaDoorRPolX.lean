/- The walks of the references' polynomials: Product, Times. -/
import Derived.Test.YtbikmodfmckaeaaDoorRPolW
namespace Go.Proofs.YtbikmodfmckaeaaDoor
open Go.ChangeShapes Go.WideShapes Go.ChangeAt Go.RowKit
set_option linter.unusedVariables false
theorem quiet_drew {P : Program} {f : FuncId} {args : Array Value} {w : World} {n : Nat} {v : Value}
    (h : Calls P f args (w.drewN n) fun e w' => e = .returned v ∧ ∃ k, (w.drewN n).drewN k = w') : Calls P f args (w.drewN n) fun e w'' => e = .returned v ∧ ∃ m, w'' = w.drewN m :=
  h.mono fun _ _ ⟨he, k, hm⟩ => ⟨he, n + k, by rw [← hm, World.drewN_drewN]⟩
def pf (a b : List UInt8) (q : Nat) (i : Nat) : UInt8 := Gf.mul (Pl.cf a i) (if i ≤ q then Pl.cf b (q - i) else 0)
theorem pf_cm (a b : List UInt8) (q : Nat) : Gv.xsum (min (q + 1) a.length) (pf a b q) = Pl.cm a b q := by
  unfold Pl.cm
  by_cases h : a.length ≤ q + 1
  · rw [Nat.min_eq_right h]; rfl
  · rw [Nat.min_eq_left (by omega)]
    exact (Pl.xsum_more (by omega) (fun j hj => by unfold pf; rw [if_neg (by omega), Gf.mul_zero])).symm
theorem prod_trim (a b : List UInt8) : Pl.trim (Gv.tab (a.length + b.length - 1) (Pl.cm a b)) = Pl.trim (Pl.conv a b) := by
  apply Pl.trim_eq
  intro j
  rw [Pl.cf_tab, Pl.cf_conv]
  split
  · rfl
  · exact (Pl.cm_out (by omega)).symm
def RPrRel (a b : List UInt8) (w : World) (n gk : Nat) (v5 v6 : Value) (wr : World) : Prop :=
  ∃ q : Nat, q + gk = n ∧ v6 = iv q ∧ wr.ownsRow w.heap.size 5 1 v5 q ((Gv.tab q (Pl.cm a b)).map bv) ∧ Below w.heap.size w wr
def RPrIn (a b : List UInt8) (q : Nat) (wO : World) (m gk : Nat) (v7 v8 : Value) (wr : World) : Prop :=
  ∃ i nd : Nat, i + gk = m ∧ v7 = bv (Gv.xsum i (pf a b q)) ∧ v8 = iv i ∧ wr = wO.drewN nd
set_option maxRecDepth 100000 in
set_option maxHeartbeats 2000000 in
theorem rprod_any (a b : List UInt8) (ha9 : a.length ≤ 400000) (hb9 : b.length ≤ 400000) (va vb : Value) (w : World) (ha : RowB w va a) (hb : RowB w vb b) :
    Calls Tryd.prog 16 #[va, vb] w (TrimPost (Pl.conv a b) w) := by
  have HA := Lib.hid ha
  have HBb := Lib.hid hb
  obtain ⟨pa, ca, rfl, ha1, ha2⟩ := ha.shape
  obtain ⟨pb, cb, rfl, hb1, hb2⟩ := hb.shape
  obtain ⟨la, hla⟩ : ∃ la, la = a.length := ⟨_, rfl⟩
  obtain ⟨lb, hlb⟩ : ∃ lb, lb = b.length := ⟨_, rfl⟩
  rw [← hla] at ha1 HA ha9 ⊢
  rw [← hlb] at hb1 HBb hb9 ⊢
  have Hla := Lib.hid hla
  have Hlb := Lib.hid hlb
  unfold maxLen at ha2 hb2
  clear ha hb hla hlb
  go_enter Tryd.func16, Tryd.ntmps16
  go_wp2_with fail
  go_loopg [5, 6, 7, 8] (la + lb - 1) (fun gk v5 v6 v7 v8 wr => RPrRel a b w (la + lb - 1) gk v5 v6 wr)
  case atStart => exact ⟨0, by omega, rfl, World.ownsRow_nil _ _ _ _, Below.refl _ _⟩
  case round =>
    obtain ⟨gO, hgO⟩ : ∃ x : Nat, x = gk := ⟨_, rfl⟩
    obtain ⟨wO, hwO⟩ : ∃ x : World, x = wr := ⟨_, rfl⟩
    subst hgO hwO
    obtain ⟨q, hq, rfl, hO, hB⟩ := hrel
    have Hq := Lib.hid hq
    have HO := Lib.hid hO
    have HB := Lib.hid hB
    have hz := hB.size
    clear hO hB hq
    by_cases hqn : q + 1 < la + lb
    · have hq9 : q + 1 ≤ 1000000 := by omega
      have tq : decide ((q : Int) + 1 < (la : Int) + (lb : Int)) = true := dec_t (by omega)
      go_wp2_with fail
      go_loopg [7, 8] (min (q + 1) la) (fun gk v7 v8 wr => RPrIn a b q wO (min (q + 1) la) gk v7 v8 wr)
      case atStart => exact ⟨0, 0, by omega, rfl, rfl, rfl⟩
      case round =>
        obtain ⟨i, nd, hi, rfl, rfl, hwr⟩ := hrel
        have Hi := Lib.hid hi
        have Hwr := Lib.hid hwr
        obtain ⟨s, hs⟩ : ∃ s, s = Gv.xsum i (pf a b q) := ⟨_, rfl⟩
        rw [← hs]
        have Hs := Lib.hid hs
        by_cases hiq : i ≤ q
        · by_cases hia : i < la
          · have hnext := Gv.xsum_succ i (pf a b q)
            rw [← hs] at hnext
            by_cases hib : q - i < lb
            · have hibI : (q : Int) - (i : Int) < (lb : Int) := by omega
              obtain ⟨ga, oa, cca, hv2, hga, _, _, hca⟩ := HA.out.cellAt (j := i) (by rw [← Hla.out]; exact hia)
              injection hv2 with e1 e2 e3
              have He1 := Lib.hid e1
              have d0 : wr.cell? ⟨ga, oa + i, none⟩ = some (bv (Pl.cf a i)) := by
                have h : wO.cell? ⟨ga, oa + i, none⟩ = some (bv (Pl.cf a i)) := (HB.out.cell (p := ⟨ga, oa + i, none⟩) hga).trans hca
                rw [hwr]; simpa using h
              rw [e1]
              clear e1 e2 e3 hca
              obtain ⟨gb, ob, ccb, hv2, hgb, _, _, hcb⟩ := HBb.out.cellAt (j := q - i) (by rw [← Hlb.out]; exact hib)
              injection hv2 with e1 e2 e3
              have He2 := Lib.hid e1
              have d1 : wr.cell? ⟨gb, ob + (q - i), none⟩ = some (bv (Pl.cf b (q - i))) := by
                have h : wO.cell? ⟨gb, ob + (q - i), none⟩ = some (bv (Pl.cf b (q - i))) := (HB.out.cell (p := ⟨gb, ob + (q - i), none⟩) hgb).trans hcb
                rw [hwr]; simpa using h
              rw [e1]
              have hpf : pf a b q i = Gf.mul (Pl.cf a i) (Pl.cf b (q - i)) := by unfold pf; rw [if_pos hiq]
              obtain ⟨y, hy⟩ : ∃ y, y = Pl.cf a i := ⟨_, rfl⟩
              obtain ⟨z, hz'⟩ : ∃ z, z = Pl.cf b (q - i) := ⟨_, rfl⟩
              rw [← hy] at d0
              rw [← hz'] at d1
              have hn1 : Gf.add s (Gf.mul y z) = Gv.xsum (i + 1) (pf a b q) := by rw [hnext, hpf, hy, hz', Gf.add_def]
              have Hn1 := Lib.hid hn1
              obtain ⟨m, hm⟩ : ∃ m, m = Gf.mul y z := ⟨_, rfl⟩
              rw [← hm] at Hn1
              have Hm := Lib.hid hm
              obtain ⟨s2, hs2⟩ : ∃ s2, s2 = Gf.add s m := ⟨_, rfl⟩
              have Hs2 := Lib.hid hs2
              obtain ⟨d, hd⟩ : ∃ d, d = q - i := ⟨_, rfl⟩
              have hdI : (q : Int) - (i : Int) = (d : Int) := by omega
              rw [← hd] at d1
              have HMu : Hid (∀ W : World, Calls Tryd.prog 56 #[bv y, bv z] W fun e w' => e = .returned (bv m) ∧ ∃ n, W.drewN n = w') := Lib.hid (fun W => by rw [hm]; exact rmul_any y z _ _ rfl rfl W)
              have HPl : Hid (∀ W : World, Calls Tryd.prog 35 #[bv s, bv m] W fun e w' => e = .returned (bv s2) ∧ ∃ n, W.drewN n = w') := Lib.hid (fun W => by rw [hs2]; exact rplus_any s m _ _ rfl rfl W)
              clear e1 e2 e3 hcb hpf hnext hy hz' hn1 hs hwr hi hm hs2 hd
              go_wp2_with fail
              go_quiet (first | (go_at_call 56; exact quiet_drew (HMu.out _)) | (go_at_call 35; exact quiet_drew (HPl.out _)))
              go_wp2_with fail
              rw [← He1.out, ← He2.out]
              go_roundg (gk - 1)
              case measure => have := Hi.out; omega
              case rel => exact ⟨i + 1, nd + nq, by have := Hi.out; omega, by rw [Hs2.out, Hn1.out], by go_num, by rw [Hwr.out, World.drewN_drewN]⟩
            · have hibI : ¬ (q : Int) - (i : Int) < (lb : Int) := by omega
              have hn1 : s = Gv.xsum (i + 1) (pf a b q) := by
                rw [hnext]; unfold pf
                rw [if_pos hiq, Pl.cf_out (l := b) (by rw [← Hlb.out]; omega), Gf.mul_zero]; exact (Gf.add_zero s).symm
              have Hn1 := Lib.hid hn1
              clear hnext hn1 hs hwr hi
              go_wp2_with fail
              go_roundg (gk - 1)
              case measure => have := Hi.out; omega
              case rel => exact ⟨i + 1, nd, by have := Hi.out; omega, by rw [← Hn1.out], by go_num, Hwr.out⟩
          · have t1 : ¬ (i : Int) < (la : Int) := by omega
            have hfin : s = Pl.cm a b q := by
              have h := Hi.out
              have h2 : i = min (q + 1) a.length := by rw [← Hla.out]; omega
              rw [hs, h2, pf_cm]
            have hb5 : Below wO.heap.size wO wr := by rw [hwr]; exact bdrew (Below.refl _ _) nd
            have HO5 := Lib.hid (owns_below HO.out hb5)
            have HB5 := Lib.hid (HB.out.trans (hb5.mono hz))
            have hz5 := HB5.out.size
            rw [hfin]
            have hap := (tab_succ q (Pl.cm a b)).symm
            have Hap := Lib.hid hap
            obtain ⟨y, hy⟩ : ∃ y, y = Pl.cm a b q := ⟨_, rfl⟩
            rw [← hy] at Hap ⊢
            clear hfin hb5 hs hwr hi hap hy
            go_wp2_with (at_builtin; refine app1 w wr _ 5 22 rfl _ _ rfl w.heap.size Tryd.underlying22 info_byteV rfl _ q _ rfl _ rfl rfl HO5.out rfl hq9 (by decide) hz5 HB5.out ?_)
            intro v8 w8 hown8 hb8 hgr8 hat8
            rw [Hap.out] at hown8
            have HO8 := Lib.hid hown8
            have HB8 := Lib.hid hb8
            clear hown8 hb8 hgr8 hat8 HO5 HB5
            go_wp2_with fail
            go_roundg (gO - 1)
            case measure => have := Hq.out; omega
            case rel => exact ⟨q + 1, by have := Hq.out; omega, by go_num, HO8.out, HB8.out⟩
        · have t1 : ¬ (i : Int) ≤ (q : Int) := by omega
          have hfin : s = Pl.cm a b q := by
            have h := Hi.out
            have h2 : i = min (q + 1) a.length := by rw [← Hla.out]; omega
            rw [hs, h2, pf_cm]
          have hb5 : Below wO.heap.size wO wr := by rw [hwr]; exact bdrew (Below.refl _ _) nd
          have HO5 := Lib.hid (owns_below HO.out hb5)
          have HB5 := Lib.hid (HB.out.trans (hb5.mono hz))
          have hz5 := HB5.out.size
          rw [hfin]
          have hap := (tab_succ q (Pl.cm a b)).symm
          have Hap := Lib.hid hap
          obtain ⟨y, hy⟩ : ∃ y, y = Pl.cm a b q := ⟨_, rfl⟩
          rw [← hy] at Hap ⊢
          clear hfin hb5 hs hwr hi hap hy
          go_wp2_with (at_builtin; refine app1 w wr _ 5 22 rfl _ _ rfl w.heap.size Tryd.underlying22 info_byteV rfl _ q _ rfl _ rfl rfl HO5.out rfl hq9 (by decide) hz5 HB5.out ?_)
          intro v8 w8 hown8 hb8 hgr8 hat8
          rw [Hap.out] at hown8
          have HO8 := Lib.hid hown8
          have HB8 := Lib.hid hb8
          clear hown8 hb8 hgr8 hat8 HO5 HB5
          go_wp2_with fail
          go_roundg (gO - 1)
          case measure => have := Hq.out; omega
          case rel => exact ⟨q + 1, by have := Hq.out; omega, by go_num, HO8.out, HB8.out⟩
    · have hqn' : q = la + lb - 1 := by have := Hq.out; omega
      have t1 : ¬ (q : Int) + 1 < (la : Int) + (lb : Int) := by omega
      have hOB : OwnB wO w.heap.size u5 (Gv.tab (a.length + b.length - 1) (Pl.cm a b)) := by
        unfold OwnB
        rw [← Hla.out, ← Hlb.out, ← hqn']
        exact OwnR.of_owns HO.out
      have hpl : (Gv.tab (a.length + b.length - 1) (Pl.cm a b)).length ≤ 140737488351232 := by rw [Gv.tab_len, ← Hla.out, ← Hlb.out]; omega
      have HT := Lib.hid (rtrim_any _ hpl _ _ (OwnB.row hOB))
      unfold TrimPost at HT
      rw [prod_trim] at HT
      obtain ⟨p5, n5, c5, rfl⟩ := hOB.slice
      clear hOB hpl HO
      go_wp2_with fail
      refine HT.out.mono ?_
      rintro e w1 ⟨v1, rfl, hO1, hb1⟩
      have HO1 := Lib.hid (OwnR.mono hO1 hz)
      have HB1 := Lib.hid (HB.out.trans (hb1.mono hz))
      clear hO1 hb1 HT
      go_wp2_with fail
      go_ret
      exact ⟨_, rfl, HO1.out, HB1.out⟩
theorem owns_madeF (n : Nat) (hn : n ≤ 1000000) (w : World) : (w.alloc (.cells (madeCells #[.int .u8 0] n) 5)).ownsRow w.heap.size 5 1 (.slice (some ⟨w.heap.size, 0, none⟩) n n) n ((Gv.tab n (fun _ => 0)).map bv) := by
  have hl : (madeCells #[Value.int .u8 0] n).toList = List.replicate n (.int .u8 0) := toList_madeCells_one _ _
  have hs : (madeCells #[Value.int .u8 0] n).size = n := by rw [← Array.length_toList, hl, List.length_replicate]
  refine ⟨by rw [List.length_map, Gv.tab_len]; omega, .inr ⟨w.heap.size, n, _, rfl, Nat.le_refl _, heap_alloc_new w _, Nat.le_refl _, by unfold maxLen; omega, by rw [hs]; omega, ?_⟩⟩
  rw [hl, Gv.tab_zero, List.map_replicate, Nat.mul_one, List.take_of_length_le (by simp)]; rfl
def shf (l : List UInt8) (y : UInt8) (k : Nat) (j : Nat) : UInt8 := if k ≤ j then Gf.mul (Pl.cf l (j - k)) y else 0
def shl (l : List UInt8) (y : UInt8) (k : Nat) : List UInt8 := Gv.tab (k + l.length) (shf l y k)
theorem shl_len (l : List UInt8) (y : UInt8) (k : Nat) : (shl l y k).length = k + l.length := Gv.tab_len _ _
theorem cf_shl (l : List UInt8) (y : UInt8) (k j : Nat) : Pl.cf (shl l y k) j = shf l y k j := by
  unfold shl
  rw [Pl.cf_tab]
  split
  · rfl
  · unfold shf
    split
    · rw [Pl.cf_out (by omega), Gf.zero_mul]
    · rfl
def RTmRel (l : List UInt8) (y : UInt8) (k : Nat) (w : World) (n gk : Nat) (v7 v8 : Value) (wr : World) : Prop :=
  ∃ q : Nat, q + gk = n ∧ v8 = iv q ∧ wr.ownsRow w.heap.size 5 1 v7 (k + q) ((Gv.tab (k + q) (shf l y k)).map bv) ∧ Below w.heap.size w wr
set_option maxRecDepth 100000 in
set_option maxHeartbeats 2000000 in
theorem rtimes_any (l : List UInt8) (hl9 : l.length ≤ 400000) (y : UInt8) (k : Nat) (hk9 : k ≤ 400000) (v : Value) (w : World) (hv : RowB w v l) :
    Calls Tryd.prog 61 #[v, bv y, iv k] w (TimesPost (shl l y k) w) := by
  have HV := Lib.hid hv
  obtain ⟨p, cap, rfl, h1, h2⟩ := hv.shape
  obtain ⟨n, hn⟩ : ∃ n, n = l.length := ⟨_, rfl⟩
  rw [← hn] at h1 HV hl9 ⊢
  have Hn := Lib.hid hn
  unfold maxLen at h2
  have hmk := make_bytesV k (by omega)
  have hb0 : Below w.heap.size w (w.alloc (.cells (madeCells #[.int .u8 0] k) 5)) := (Below.refl _ _).alloc (Nat.le_refl _) _
  have hO0 : (w.alloc (.cells (madeCells #[.int .u8 0] k) 5)).ownsRow w.heap.size 5 1 (.slice (some ⟨w.heap.size, 0, none⟩) k k) (k + 0) ((Gv.tab (k + 0) (shf l y k)).map bv) := by
    rw [Nat.add_zero, Gv.tab_ext (g := fun _ => 0) (fun j hj => by unfold shf; rw [if_neg (by omega)])]
    exact owns_madeF k (by omega) w
  have HO0 := Lib.hid hO0
  have HB0 := Lib.hid hb0
  clear hv hn hb0 hO0
  go_enter Tryd.func61, Tryd.ntmps61
  go_wp2_with fail
  go_loopg [7, 8, 9] n (fun gk v7 v8 v9 wr => RTmRel l y k w n gk v7 v8 wr)
  case atStart => exact ⟨0, by omega, rfl, HO0.out, HB0.out⟩
  case round =>
    clear HO0 HB0
    obtain ⟨q, hq, rfl, hO, hB⟩ := hrel
    have Hq := Lib.hid hq
    have HO := Lib.hid hO
    have HB := Lib.hid hB
    have hz := hB.size
    clear hO hB hq
    by_cases hqn : q < n
    · have hq9 : k + q + 1 ≤ 1000000 := by omega
      obtain ⟨g, o, cc, hv2, hg, _, _, hc⟩ := HV.out.cellAt (j := q) (by rw [← Hn.out]; exact hqn)
      injection hv2 with e1 e2 e3
      have He1 := Lib.hid e1
      have d0 : wr.cell? ⟨g, o + q, none⟩ = some (bv (Pl.cf l q)) := (HB.out.cell (p := ⟨g, o + q, none⟩) hg).trans hc
      obtain ⟨x, hx⟩ : ∃ x, x = Pl.cf l q := ⟨_, rfl⟩
      rw [← hx] at d0
      have hap : (Gv.tab (k + q) (shf l y k)).map bv ++ [bv (Gf.mul x y)] = (Gv.tab (k + (q + 1)) (shf l y k)).map bv := by
        rw [show k + (q + 1) = k + q + 1 by omega, tab_succ]
        congr 3
        unfold shf; rw [if_pos (by omega), show k + q - k = q by omega, hx]
      have Hap := Lib.hid hap
      rw [e1]
      clear e1 e2 e3 hc hx hap
      go_wp2_with fail
      refine (rmul_any x y _ _ rfl rfl _).mono ?_
      rintro e w' ⟨rfl, n1, rfl⟩
      generalize Gf.mul x y = z at *
      obtain ⟨w5, hw5⟩ : ∃ x : World, x = wr.drewN n1 := ⟨_, rfl⟩
      rw [← hw5]
      have hb5 : Below wr.heap.size wr w5 := by rw [hw5]; exact bdrew (Below.refl _ _) n1
      have HO5 := Lib.hid (owns_below HO.out hb5)
      have HB5 := Lib.hid (HB.out.trans (hb5.mono hz))
      have hz5 := HB5.out.size
      clear hw5 hb5 HO HB d0
      go_wp2_with (at_builtin; refine app1 w w5 _ 5 22 rfl _ _ rfl w.heap.size Tryd.underlying22 info_byteV rfl _ (k + q) _ rfl _ rfl rfl HO5.out rfl hq9 (by decide) hz5 HB5.out ?_)
      intro v8 w8 hown8 hb8 hgr8 hat8
      rw [Hap.out] at hown8
      have HO8 := Lib.hid hown8
      have HB8 := Lib.hid hb8
      clear hown8 hb8 hgr8 hat8 HO5 HB5
      go_wp2_with fail
      rw [← He1.out]
      go_roundg (gk - 1)
      case measure => have := Hq.out; omega
      case rel => exact ⟨q + 1, by have := Hq.out; omega, by go_num, HO8.out, HB8.out⟩
    · obtain rfl : q = n := by have := Hq.out; omega
      have hOB : OwnB wr w.heap.size u7 (shl l y k) := by
        unfold OwnB shl
        rw [← Hn.out]
        exact OwnR.of_owns HO.out
      have HOB := Lib.hid hOB
      clear hOB HO
      go_wp2_with fail
      go_ret
      exact ⟨_, rfl, HOB.out, HB.out⟩
end Go.Proofs.YtbikmodfmckaeaaDoor
