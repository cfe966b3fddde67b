/- The walk of the references' Stairs. -/
import Derived.Test.YtbikmodfmckaeaaDoorRMatD
namespace Go.Proofs.YtbikmodfmckaeaaDoor
open Go.ChangeShapes Go.WideShapes Go.ChangeAt Go.RowKit
set_option linter.unusedVariables false
def RCpRel (n L : Nat) (m : Mx.Mt) (w : World) (gk : Nat) (v6 v7 : Value) (wr : World) : Prop :=
  ∃ vs : List Value, vs.length + gk = n ∧ v7 = iv vs.length ∧ RowsO wr w.heap.size v6 vs (lt n L m) ∧ ApV vs ∧ Below w.heap.size w wr
def RStRel (m : Mx.Mt) (w : World) (g c n L C gk : Nat) (v9 v10 : Value) (wr : World) : Prop :=
  ∃ q : Nat, q + gk = C ∧ v10 = iv q ∧ v9 = iv (Mx.el n m q).2 ∧ ∃ bs, MatF wr w.heap.size g 0 c n L bs (Mx.el n m q).1 ∧ Below w.heap.size w wr
def RStX (l : List UInt8) (t : UInt8) (wS : World) (B p o n c gk : Nat) (i : Value) (wr : World) : Prop :=
  ∃ k : Nat, k + gk = n ∧ i = iv k ∧ OwnB wr B (.slice (some ⟨p, o, none⟩) n c) (Gv.tab n (Gv.upto k (fun j => Gf.mul (Gv.at' l j) t) (Gv.at' l))) ∧ Kept (fun x => x = p) wS wr
def RStI (m2 m3 : Mx.Mt) (w : World) (g c n L gk : Nat) (bs : Nat → Plc) (v15 : Value) (wr : World) : Prop :=
  ∃ i : Nat, i + gk = n ∧ v15 = iv i ∧ MatF wr w.heap.size g 0 c n L bs (fun r => if r < i then m3 r else m2 r) ∧ Below w.heap.size w wr
def RStJ (f h : Nat → UInt8) (wI : World) (B p o L c gk : Nat) (v17 : Value) (wr : World) : Prop :=
  ∃ j : Nat, j + gk = L ∧ v17 = iv j ∧ OwnB wr B (.slice (some ⟨p, o, none⟩) L c) (Gv.tab L (Gv.upto j f h)) ∧ Kept (fun x => x = p) wI wr
def RStPost (m : Mx.Mt) (n L C : Nat) (w : World) (e : Ending) (w' : World) : Prop :=
  ∃ g c bs, e = .returned (.tuple #[.slice (some ⟨g, 0, none⟩) n c, iv (Mx.el n m C).2]) ∧ MatF w' w.heap.size g 0 c n L bs (Mx.el n m C).1 ∧ Below w.heap.size w w'
set_option maxRecDepth 100000 in
set_option maxHeartbeats 8000000 in
theorem rstairs_any (m : Mx.Mt) (n L C : Nat) (h0 : 0 < n) (hL0 : 0 < L) (hCL : C ≤ L) (hL9 : L ≤ 1000) (hn9 : n ≤ 1000) (v : Value) (w : World) (hv : RowsM w v (lt n L m)) :
    Calls Tryd.prog 30 #[v, iv C] w (RStPost m n L C w) := by
  have HV := Lib.hid hv
  obtain ⟨pa, ca, rfl, hca1, hca2, _⟩ := hv.shape
  rw [lt_len] at HV hca1 ⊢
  unfold maxLen at hca2
  clear hv
  go_enter Tryd.func30, Tryd.ntmps30
  go_wp2_with fail
  go_loopg [6, 7, 8] n (fun gk v6 v7 v8 wr => RCpRel n L m w gk v6 v7 wr)
  case atStart => exact ⟨[], by simp, rfl, RowsO.nil _ _ _, ApV.nil, Below.refl _ _⟩
  case round =>
    obtain ⟨vs, hi, rfl, hR, hA, hB⟩ := hrel
    obtain ⟨i, hie⟩ : ∃ i, i = vs.length := ⟨_, rfl⟩
    rw [← hie] at hi ⊢
    have Hie := Lib.hid hie
    have Hi := Lib.hid hi
    have HR := Lib.hid hR
    have HA := Lib.hid hA
    have HB := Lib.hid hB
    have hz := hB.size
    clear hi hR hA hB hie
    by_cases hin : i < n
    · obtain ⟨ga, oa, cx, p2, c2, hva, hga, cra, hrb⟩ := HV.out.at (lt_get L m hin)
      injection hva with epa q8 q9
      have Hepa := Lib.hid epa
      rw [Gv.tab_len] at cra hrb
      have d0 : wr.cell? ⟨ga, oa + i, none⟩ = some (.slice p2 L c2) := (HB.out.cell (p := ⟨ga, oa + i, none⟩) hga).trans cra
      have HRB := Lib.hid (hrb.below HB.out)
      have hl9 : (Gv.tab L (m i)).length ≤ 140737488351232 := by rw [Gv.tab_len]; omega
      have hiI : (i : Int) < (n : Int) := by omega
      have hi9 : i + 1 ≤ 1000000 := by omega
      rw [epa]
      clear epa q8 q9 cra hrb
      go_wp2_with (at_builtin; refine copyB _ rfl _ _ rfl rfl (Gv.tab L (m i)) _ HRB.out rfl hl9 ?_)
      intro v8 w8 hO8 hb8
      rw [Gv.tab_len] at hO8
      have hO9 : OwnB w8 wr.heap.size v8 (Gv.tab L (m i)) := OwnR.of_owns hO8
      have hBr := HB.out.trans (hb8.mono hz)
      have HBr := Lib.hid hBr
      have hzr := hBr.size
      have HR2 := Lib.hid (HR.out.below hb8)
      have H9 := Lib.hid (OwnR.mono hO9 hz)
      have hub : ∀ g, v8.ownBlock = some g → u6.ownBlock ≠ some g := fun g h1 h2 => by
        have k1 := (OwnR.lt hO9 h1).1
        have k2 := (OwnR.lt (OwnR.of_owns HR.out.own) h2).2
        omega
      have hfr : ∀ (j : Nat) u' b, vs[j]? = some u' → u'.ownBlock = some b → v8.ownBlock ≠ some b := fun j u' b hj hb e => by
        have h1 := (List.getElem?_eq_some_iff.1 hj).1
        rw [← Hie.out] at h1
        have k2 := (OwnR.lt (HR.out.rows j u' _ hj (lt_get L m (by omega))).1 hb).2
        have k1 := (OwnR.lt hO9 e).1
        omega
      have HAp := Lib.hid (HA.out.push hfr)
      have Hub := Lib.hid hub
      have hlen : ∀ (j : Nat) u, vs[j]? = some u → ∃ r, (lt n L m)[j]? = some r := fun j u hu => by
        have h1 := (List.getElem?_eq_some_iff.1 hu).1
        rw [← Hie.out] at h1
        exact ⟨_, lt_get L m (by omega)⟩
      have Hlen := Lib.hid hlen
      have hown : w8.ownsRow w.heap.size 22 1 u6 i vs := by have h := HR2.out.own; rw [← Hie.out] at h; exact h
      have Hown := Lib.hid hown
      obtain ⟨p8, n8, c8, rfl⟩ := hO9.slice
      obtain ⟨p5, n5, c5, rfl⟩ := (OwnR.of_owns hown).slice
      clear hub hfr hlen hBr hown hO9 hO8 hb8 d0
      go_wp2_with (at_builtin; refine app1 w w8 (.slice p8 n8 c8) 22 44 rfl _ _ rfl w.heap.size Tryd.underlying44 info_rowC rfl _ i _ rfl _ rfl rfl Hown.out rfl hi9 (by decide) hzr HBr.out ?_)
      intro v9 w9 hown9 hb9 hgr9 hat9
      rw [Hie.out] at hown9
      have hR9 := HR2.out.push Hlen.out (by rw [← Hie.out]; exact lt_get L m hin) H9.out Hub.out hown9 hgr9 hat9
      have HR9 := Lib.hid hR9
      have HB9 := Lib.hid hb9
      have hl9 : (vs ++ [Value.slice p8 n8 c8]).length = i + 1 := by rw [List.length_append, ← Hie.out]; rfl
      have Hl9 := Lib.hid hl9
      clear hown9 hb9 hgr9 hat9 hR9 hl9 HR HR2 H9 Hub Hlen Hown HBr HA
      go_wp2_with fail
      rw [← Hepa.out]
      go_roundg (gk - 1)
      case measure => have := Hi.out; omega
      case rel => exact ⟨_, by rw [Hl9.out]; have := Hi.out; omega, by rw [Hl9.out]; go_num, HR9.out, HAp.out, HB9.out⟩
    · have hin' : i = n := by have := Hi.out; omega
      obtain ⟨g, c, bs0, rfl, hM0⟩ := HR.out.matF HA.out (by rw [← Hie.out]; exact hin') h0 hL0
      obtain ⟨hBg, _, hnc, hcm, _, _⟩ := hM0.outer h0
      unfold maxLen at hcm
      have HM0 := Lib.hid hM0
      subst hin'
      obtain ⟨n, hn⟩ : ∃ n, n = i := ⟨_, rfl⟩
      subst hn
      have hB0 : w.heap.size ≤ wr.heap.size := hz
      clear hM0 HR HA hin Hi
      go_wp2_with fail
      go_loopg [9, 10, 11, 12, 13, 14, 15, 16, 17] C (fun gk v9 v10 v11 v12 v13 v14 v15 v16 v17 wr => RStRel m w g c n L C gk v9 v10 wr)
      case atStart => exact ⟨0, by omega, rfl, rfl, bs0, HM0.out, HB.out⟩
      case round =>
        clear HM0 HB hz hB0
        obtain ⟨gO, hgO⟩ : ∃ x : Nat, x = gk := ⟨_, rfl⟩
        subst hgO
        obtain ⟨q, hq, rfl, rfl, bs, hM, hBe⟩ := hrel
        have Hq := Lib.hid hq
        have HBe := Lib.hid hBe
        have hz := hBe.size
        obtain ⟨r, hr⟩ : ∃ r, r = (Mx.el n m q).2 := ⟨_, rfl⟩
        obtain ⟨m0, hm0⟩ : ∃ m0, m0 = (Mx.el n m q).1 := ⟨_, rfl⟩
        have hEl : Mx.el n m q = (m0, r) := by rw [hr, hm0]
        have HEl := Lib.hid hEl
        have hrn : r ≤ n := by rw [hr]; exact (Mx.el_inv n m q).len
        rw [← hm0] at hM
        rw [← hr]
        have HM := Lib.hid hM
        clear hq hBe hM hr hm0 hEl
        by_cases hqC : q < C
        · have hqL : q < L := by omega
          have hqI : (q : Int) < (L : Int) := by omega
          obtain ⟨k, hk⟩ : ∃ k, k = Mx.pv n (m0, r) q := ⟨_, rfl⟩
          have hkg := Mx.pv_ge (n := n) (s := (m0, r)) q hrn
          have hps := pv_spec (q := q) (m := m0) hrn
          rw [← hk] at hkg hps
          have Hps := Lib.hid hps
          have Hk := Lib.hid hk
          obtain ⟨wO, hwO⟩ : ∃ x : World, x = wr := ⟨_, rfl⟩
          subst hwO
          clear hps hk
          go_wp2_with fail
          go_loopg [11] (k - r) (fun gk v11 wr => ∃ i : Nat, i + gk = k ∧ r ≤ i ∧ v11 = iv i ∧ wr = wO)
          case atStart => exact ⟨r, by omega, Nat.le_refl _, rfl, rfl⟩
          case round =>
            obtain ⟨i, hi, hri, rfl, hwr⟩ := hrel
            subst hwr
            obtain ⟨wO, hwO⟩ : ∃ x : World, x = wr := ⟨_, rfl⟩
            subst hwO
            have Hi := Lib.hid hi
            by_cases hik : i < k
            · have hin : i < n := by omega
              obtain ⟨_, hgs, _, _, hcc, _⟩ := HM.out.outer h0
              have d1 := hcc i hin
              rw [Nat.zero_add] at d1
              obtain ⟨_, _, hz1, hz2, hz3, hcx, hz4⟩ := OwnB.cells (HM.out.rows i hin) (by rw [Gv.tab_len]; omega)
              have d2 := hcx q hqL
              rw [show Gv.at' (Gv.tab L (m0 i)) q = 0 by show List.getD _ _ _ = _; rw [Gv.tab_at _ hqL]; exact Hps.out.1 i hri hik] at d2
              obtain ⟨x, hx⟩ : ∃ x, x = bs i := ⟨_, rfl⟩
              rw [← hx] at d1 d2
              obtain ⟨b, ob, cb⟩ := x
              have d1' : wO.cell? ⟨g, i, none⟩ = some (.slice (some ⟨b, ob, none⟩) L cb) := d1
              have d2' : wO.cell? ⟨b, ob + q, none⟩ = some (bv 0) := d2
              have hiI : (i : Int) < (n : Int) := by omega
              clear d1 d2 hcc hz1 hz2 hz3 hcx hz4 hx hi
              go_wp2_with fail
              go_roundg (gk - 1)
              case measure => have := Hi.out; omega
              case rel => exact ⟨i + 1, by have := Hi.out; omega, by omega, by go_num, rfl⟩
            · obtain rfl : i = k := by omega
              by_cases hkn : i < n
              · have hst : Mx.el n m (q + 1) = (Mx.clr m0 r i q, r + 1) := by
                  show Mx.st n (Mx.el n m q) q = _
                  rw [HEl.out]; unfold Mx.st; rw [← Hk.out, if_pos hkn]
                have Hst := Lib.hid hst
                have hrl : r < n := by omega
                obtain ⟨hBg, hgs, _, _, hcc, hfz⟩ := HM.out.outer h0
                have d1 := hcc i hkn
                have d0 := hcc r hrl
                have f1 := hfz i
                have f0 := hfz r
                rw [Nat.zero_add] at d1 d0
                have hO := HM.out.rows i hkn
                obtain ⟨_, _, hz1, hz2, hz3, hcx, hz4⟩ := OwnB.cells hO (by rw [Gv.tab_len]; omega)
                have d2 := hcx q hqL
                obtain ⟨x, hx⟩ : ∃ x, x = m0 i q := ⟨_, rfl⟩
                have hxne : x ≠ 0 := by rw [hx]; exact Hps.out.2 hkn
                rw [show Gv.at' (Gv.tab L (m0 i)) q = x by show List.getD _ _ _ = _; rw [Gv.tab_at _ hqL, hx]] at d2
                obtain ⟨x2, hx2⟩ : ∃ y, y = bs i := ⟨_, rfl⟩
                obtain ⟨x1, hx1⟩ : ∃ y, y = bs r := ⟨_, rfl⟩
                have hng := HM.out.ng i hkn
                rw [← hx2] at d1 d2 hO hng
                rw [← hx1] at d0
                have Hx1 := Lib.hid hx1
                have Hx2 := Lib.hid hx2
                clear hx1 hx2
                obtain ⟨p1, o1, c1⟩ := x1
                obtain ⟨p2, o2, c2⟩ := x2
                have d0' : wO.cell? ⟨g, r, none⟩ = some (.slice (some ⟨p1, o1, none⟩) L c1) := d0
                have d1' : wO.cell? ⟨g, i, none⟩ = some (.slice (some ⟨p2, o2, none⟩) L c2) := d1
                have d2' : wO.cell? ⟨p2, o2 + q, none⟩ = some (bv x) := d2
                have hng' : p2 ≠ g := hng
                have d3 : (wO.setCell ⟨g, i, none⟩ (.slice (some ⟨p1, o1, none⟩) L c1)).cell? ⟨p2, o2 + q, none⟩ = some (bv x) :=
                  ((Kept.self g wO).set1 _ _).cell d2' (fun e => hng' e)
                have hbne := bv_ne hxne
                have hbne2 := bne_of_beq hbne
                have hiI : (i : Int) < (n : Int) := by omega
                have hrI : (r : Int) < (n : Int) := by omega
                have hin9 : ((i : Int) == (n : Int)) = false := beq_f (by omega)
                have HIv : Hid (∀ W : World, Calls Tryd.prog 34 #[bv x] W fun e w' => e = .returned (bv (Gf.inv x)) ∧ ∃ n, W.drewN n = w') := Lib.hid (fun W => rinv_any x hxne _ rfl W)
                have HO := Lib.hid hO
                have Hx := Lib.hid hx
                clear d0 d1 d2 hcc hfz hz1 hz2 hz3 hcx hz4 hO hng hx hi hst hxne
                obtain ⟨wA, hwA⟩ : ∃ y, y = wO.setCell ⟨g, i, none⟩ (.slice (some ⟨p1, o1, none⟩) L c1) := ⟨_, rfl⟩
                rw [← hwA] at d3
                have HwA := Lib.hid hwA
                clear hwA
                go_wp2_with fail
                rw [show wO.setCell ⟨g, i, none⟩ (.slice (some ⟨p1, o1, none⟩) L c1) = wA from HwA.out.symm]
                refine (HIv.out wA).mono ?_
                rintro e w' ⟨rfl, n1, rfl⟩
                obtain ⟨wS, hwS⟩ : ∃ y, y = wA.drewN n1 := ⟨_, rfl⟩
                rw [← hwS]
                obtain ⟨t, ht⟩ : ∃ y, y = Gf.inv x := ⟨_, rfl⟩
                rw [← ht]
                have hkS : Kept (fun z => z = p2) wA wS := by rw [hwS]; exact (Kept.refl _ _).drewN n1
                have hOS : OwnB wS w.heap.size (.slice (some ⟨p2, o2, none⟩) L c2) (Gv.tab L (m0 i)) := by
                  rw [hwS, HwA.out]
                  exact OwnR.below (OwnB.other HO.out (fun e => hng' (by injection e))) (bdrew (Below.refl _ _) n1)
                have HKS := Lib.hid hkS
                have HOS := Lib.hid hOS
                have Ht := Lib.hid ht
                clear hwS hkS hOS ht HIv HO d3 hbne hbne2
                go_wp2_with fail
                go_loopg [14] L (fun gk v14 wr => RStX (Gv.tab L (m0 i)) t wS w.heap.size p2 o2 L c2 gk v14 wr)
                case atStart => exact ⟨0, by omega, rfl, by rw [Gv.upto_zero, show Gv.tab L (Gv.at' (Gv.tab L (m0 i))) = Gv.tab L (m0 i) from Gv.tab_ext (fun j hj => by show List.getD _ _ _ = _; rw [Gv.tab_at _ hj])]; exact HOS.out, Kept.refl _ _⟩
                case round =>
                  clear HOS
                  obtain ⟨k, hk, rfl, hO, hK⟩ := hrel
                  have Hkk := Lib.hid hk
                  have HO := Lib.hid hO
                  have HK := Lib.hid hK
                  clear hk hO hK
                  by_cases hkL : k < L
                  · obtain ⟨_, hgp, hx1, _, _, hc, hf⟩ := OwnB.cells HO.out (by rw [Gv.tab_len]; omega)
                    have e0 := hc k hkL
                    have fo := hf (o2 + k)
                    clear hx1
                    rw [show Gv.at' (Gv.tab L (Gv.upto k (fun j => Gf.mul (Gv.at' (Gv.tab L (m0 i)) j) t) (Gv.at' (Gv.tab L (m0 i))))) k = m0 i k by
                      show List.getD _ _ _ = _; rw [Gv.tab_at _ hkL, Gv.upto_at]; show List.getD _ _ _ = _; rw [Gv.tab_at _ hkL]] at e0
                    obtain ⟨y, hy⟩ : ∃ y, y = m0 i k := ⟨_, rfl⟩
                    rw [← hy] at e0
                    have hO2 : ∀ W, Kept (fun z => z = p2) wr W → OwnB W w.heap.size (.slice (some ⟨p2, o2, none⟩) L c2) (Gv.tab L (Gv.upto k (fun j => Gf.mul (Gv.at' (Gv.tab L (m0 i)) j) t) (Gv.at' (Gv.tab L (m0 i))))) → OwnB (W.setCell ⟨p2, o2 + k, none⟩ (bv (Gf.mul y t))) w.heap.size (.slice (some ⟨p2, o2, none⟩) L c2) (Gv.tab L (Gv.upto (k + 1) (fun j => Gf.mul (Gv.at' (Gv.tab L (m0 i)) j) t) (Gv.at' (Gv.tab L (m0 i))))) := fun W _ hW => by
                      have h1 := OwnB.setAt hW (k := k) (by rw [Gv.tab_len]; exact hkL) (Gf.mul y t)
                      rw [← Gv.upto_set]
                      have e9 : Gf.mul (Gv.at' (Gv.tab L (m0 i)) k) t = Gf.mul y t := by rw [show Gv.at' (Gv.tab L (m0 i)) k = m0 i k by show List.getD _ _ _ = _; rw [Gv.tab_at _ hkL], hy]
                      rw [e9]
                      exact h1
                    have HO2 := Lib.hid hO2
                    have HMu : Hid (∀ W : World, Calls Tryd.prog 56 #[bv y, bv t] W fun e w' => e = .returned (bv (Gf.mul y t)) ∧ ∃ n, W.drewN n = w') := Lib.hid (fun W => rmul_any y t _ _ rfl rfl W)
                    have hkI : (k : Int) < (L : Int) := by omega
                    clear hc hf hy hO2
                    go_wp2_with fail
                    refine (HMu.out _).mono ?_
                    rintro e w' ⟨rfl, n2, rfl⟩
                    have hO3 := Lib.hid (HO2.out _ ((Kept.refl _ _).drewN n2) (OwnR.below HO.out (bdrew (Below.refl _ _) n2)))
                    have hK3 := Lib.hid ((HK.out.drewN n2).set1 (o2 + k) (bv (Gf.mul y t)))
                    clear HMu HO2
                    go_wp2_with fail
                    go_roundg (gk - 1)
                    case measure => have := Hkk.out; omega
                    case rel => exact ⟨k + 1, by have := Hkk.out; omega, by go_num, hO3.out, hK3.out⟩
                  · have hkL' : k = L := by have := Hkk.out; omega
                    subst hkL'
                    rw [Gv.tab_upto] at HO
                    have hKA := HKS.out.also HK.out
                    have hKA' : Kept (fun z => z = (bs i).1) (wO.setCell ⟨g, 0 + i, none⟩ (sv k (bs r))) wr := by
                      rw [← Hx1.out, ← Hx2.out, Nat.zero_add]
                      have h := hKA
                      rw [HwA.out] at h; exact h
                    have hOB : OwnB wr w.heap.size (sv k (bs i)) (Gv.tab k (fun j => Gf.mul (Gv.at' (Gv.tab k (m0 i)) j) t)) := by rw [← Hx2.out]; exact HO.out
                    have hMB := HM.out.swapBy hrl hkn hKA' hOB
                    rw [Nat.zero_add, ← Hx2.out] at hMB
                    have hOut := OwnR.kept (OwnR.setAt HM.out.out (k := i) (by rw [rvs_len]; exact hkn) (sv k (bs r))) hKA' (fun b hb' => by cases hb'; exact fun e => HM.out.ng i hkn e.symm)
                    obtain ⟨_, _, hzz, _, _, hcr, hfr⟩ := OwnR.cells hOut (by rw [List.length_set, rvs_len]; exact h0)
                    clear hzz
                    obtain ⟨u0, e0⟩ : ∃ u, wr.cell? ⟨g, r, none⟩ = some u := by
                      have h := hcr r hrl
                      rw [Nat.zero_add] at h
                      rw [h]
                      exact ⟨_, List.getElem?_eq_getElem (by rw [List.length_set, rvs_len]; exact hrl)⟩
                    have f0 := hfr r
                    have hp2B : w.heap.size ≤ p2 := (OwnR.lt HO.out (g := p2) rfl).1
                    have hBA : Below w.heap.size w wr := by
                      have h1 : Below w.heap.size w wA := by rw [HwA.out]; exact HBe.out.setCell (p := ⟨g, i, none⟩) hBg _
                      exact h1.trans (hKA.toBelow h1.size (fun b _ e => by rw [e]; exact hp2B))
                    obtain ⟨m2, hm2⟩ : ∃ m2, m2 = Mx.sc r t (Mx.sw r i m0) := ⟨_, rfl⟩
                    have hM2 := hMB.ext (m' := m2) (fun a ha j hj => by
                      rw [hm2]; unfold Mx.sc
                      by_cases e : a = r
                      · subst e
                        rw [if_pos rfl, if_pos rfl]
                        show Gf.mul (List.getD _ _ _) t = Gf.mul (m0 (Mx.sg a i a) j) t
                        rw [Gv.tab_at _ hj]
                        unfold Mx.sg; rw [if_pos rfl]
                      · rw [if_neg e, if_neg e])
                    obtain ⟨wB, hwB⟩ : ∃ y, y = wr.setCell ⟨g, r, none⟩ (.slice (some ⟨p2, o2, none⟩) k c2) := ⟨_, rfl⟩
                    have hM3 : MatF wB w.heap.size g 0 c n k (fun a => bs (Mx.sg r i a)) m2 := by rw [hwB]; exact hM2
                    have hBB : Below w.heap.size w wB := by rw [hwB]; exact hBA.setCell (p := ⟨g, r, none⟩) hBg _
                    obtain ⟨bs', hbs'⟩ : ∃ bs', bs' = fun a => bs (Mx.sg r i a) := ⟨_, rfl⟩
                    have hbr : bs' r = (p2, o2, c2) := by rw [hbs']; show bs (Mx.sg r i r) = _; unfold Mx.sg; rw [if_pos rfl]; exact Hx2.out.symm
                    rw [← hbs'] at hM3
                    obtain ⟨m3, hm3⟩ : ∃ m3, m3 = Mx.ls r (fun a => m2 a q) m2 := ⟨_, rfl⟩
                    have hcl : Mx.clr m0 r i q = m3 := by
                      unfold Mx.clr
                      have e5 : Gf.inv (Mx.sw r i m0 r q) = t := by
                        rw [Ht.out, Hx.out]
                        show Gf.inv (m0 (Mx.sg r i r) q) = _
                        unfold Mx.sg; rw [if_pos rfl]
                      rw [e5, ← hm2, hm3]
                    rw [hcl] at Hst
                    have HMB := Lib.hid hM3
                    have HBB := Lib.hid hBB
                    have HwB := Lib.hid hwB
                    have Hbr := Lib.hid hbr
                    have Hm3 := Lib.hid hm3
                    clear hKA hKA' hOB hMB hOut hcr hfr hBA hm2 hM2 hwB hM3 hBB hbs' hbr hm3 hcl HK HO HKS HM HBe f1 d0' d1' d2' Hx1 Hx2 Hx Ht Hps Hk
                    obtain ⟨L, hLk⟩ : ∃ L, L = k := ⟨_, rfl⟩
                    subst hLk
                    go_wp2_with fail
                    rw [show wr.setCell ⟨g, r, none⟩ (.slice (some ⟨p2, o2, none⟩) L c2) = wB from HwB.out.symm]
                    clear HwB e0 f0
                    go_loopg [15, 16, 17] n (fun gk v15 v16 v17 wr => RStI m2 m3 w g c n L gk bs' v15 wr)
                    case atStart => exact ⟨0, by omega, rfl, HMB.out.ext (fun a _ j _ => by rw [if_neg (by omega)]), HBB.out⟩
                    case round =>
                      clear HMB HBB
                      obtain ⟨gP, hgP⟩ : ∃ x : Nat, x = gk := ⟨_, rfl⟩
                      subst hgP
                      obtain ⟨a, ha, rfl, hMi, hBi⟩ := hrel
                      have Ha := Lib.hid ha
                      have HMi := Lib.hid hMi
                      have HBi := Lib.hid hBi
                      clear ha hMi hBi
                      by_cases han : a < n
                      · have haI : (a : Int) < (n : Int) := by omega
                        by_cases har : a = r
                        · subst har
                          have te : ((a : Int) == (a : Int)) = true := beq_t rfl
                          go_wp2_with fail
                          go_roundg (gP - 1)
                          case measure => have := Ha.out; omega
                          case rel =>
                            refine ⟨a + 1, by have := Ha.out; omega, by go_num, HMi.out.ext (fun b _ j _ => ?_), HBi.out⟩
                            by_cases eb : b = a
                            · subst eb
                              rw [if_neg (by omega), if_pos (by omega), Hm3.out]; unfold Mx.ls; rw [if_pos rfl]
                            · by_cases hlt : b < a
                              · rw [if_pos hlt, if_pos (by omega)]
                              · rw [if_neg hlt, if_neg (by omega)]
                        · have te : ((a : Int) == (r : Int)) = false := beq_f (by omega)
                          obtain ⟨_, _, _, _, hcc, _⟩ := HMi.out.outer h0
                          have d1 := hcc a han
                          rw [Nat.zero_add] at d1
                          have hOa := HMi.out.rows a han
                          rw [if_neg (by omega)] at hOa
                          have hOr := HMi.out.rows r hrl
                          rw [Hbr.out] at hOr
                          have hrow : (if r < a then m3 r else m2 r) = m2 r := by
                            by_cases hh : r < a
                            · rw [if_pos hh, Hm3.out]; funext j; unfold Mx.ls; rw [if_pos rfl]
                            · rw [if_neg hh]
                          rw [hrow] at hOr
                          obtain ⟨x3, hx3⟩ : ∃ y, y = bs' a := ⟨_, rfl⟩
                          have hap := HMi.out.ap a r han hrl har
                          have hng3 := HMi.out.ng a han
                          rw [← hx3] at d1 hOa hap hng3
                          rw [Hbr.out] at hap
                          have Hx3 := Lib.hid hx3
                          obtain ⟨p3, o3, c3⟩ := x3
                          have hap' : p3 ≠ p2 := hap
                          have hng' : p3 ≠ g := hng3
                          obtain ⟨_, _, hz1, _, _, hca, _⟩ := OwnB.cells hOa (by rw [Gv.tab_len]; omega)
                          clear hz1
                          have d2 := hca q hqL
                          obtain ⟨t, ht⟩ : ∃ y, y = m2 a q := ⟨_, rfl⟩
                          rw [show Gv.at' (Gv.tab L (m2 a)) q = t by show List.getD _ _ _ = _; rw [Gv.tab_at _ hqL, ht]] at d2
                          have d1' : wr.cell? ⟨g, a, none⟩ = some (.slice (some ⟨p3, o3, none⟩) L c3) := d1
                          have d2' : wr.cell? ⟨p3, o3 + q, none⟩ = some (bv t) := d2
                          have HOa := Lib.hid hOa
                          have HOr := Lib.hid hOr
                          have D1 := Lib.hid d1'
                          have Ht := Lib.hid ht
                          obtain ⟨wI, hwI⟩ : ∃ y : World, y = wr := ⟨_, rfl⟩
                          subst hwI
                          clear hcc d1 d2 hca hOa hOr hrow hx3 hap hng3 ht
                          go_wp2_with fail
                          clear d1' d2'
                          go_loopg [17] L (fun gk v17 wr => RStJ (m3 a) (m2 a) wI w.heap.size p3 o3 L c3 gk v17 wr)
                          case atStart => exact ⟨0, by omega, rfl, by rw [Gv.upto_zero]; exact HOa.out, Kept.refl _ _⟩
                          case round =>
                            clear HOa
                            obtain ⟨j, hj, rfl, hO, hK⟩ := hrel
                            have Hj := Lib.hid hj
                            have HO := Lib.hid hO
                            have HK := Lib.hid hK
                            clear hj hO hK
                            by_cases hjL : j < L
                            · have hjI : (j : Int) < (L : Int) := by omega
                              obtain ⟨_, hg3, hz1, _, _, hc, hf⟩ := OwnB.cells HO.out (by rw [Gv.tab_len]; omega)
                              clear hz1
                              have e3 := hc j hjL
                              have fo := hf (o3 + j)
                              rw [show Gv.at' (Gv.tab L (Gv.upto j (m3 a) (m2 a))) j = m2 a j by show List.getD _ _ _ = _; rw [Gv.tab_at _ hjL, Gv.upto_at]] at e3
                              obtain ⟨_, _, hz1, _, _, hc2, _⟩ := OwnB.cells HOr.out (by rw [Gv.tab_len]; omega)
                              clear hz1
                              have e2 := HK.out.cell (hc2 j hjL) (fun e => hap' e.symm)
                              rw [show Gv.at' (Gv.tab L (m2 r)) j = m2 r j by show List.getD _ _ _ = _; rw [Gv.tab_at _ hjL]] at e2
                              have e1 := HK.out.cell D1.out (fun e => hng' e.symm)
                              obtain ⟨y, hy⟩ : ∃ y, y = m2 a j := ⟨_, rfl⟩
                              obtain ⟨z, hz'⟩ : ∃ y, y = m2 r j := ⟨_, rfl⟩
                              rw [← hy] at e3
                              rw [← hz'] at e2
                              obtain ⟨mm, hmm⟩ : ∃ x, x = Gf.mul t z := ⟨_, rfl⟩
                              obtain ⟨a2, ha2⟩ : ∃ x, x = Gf.add y mm := ⟨_, rfl⟩
                              have hnx : m3 a j = a2 := by
                                rw [Hm3.out]; unfold Mx.ls; rw [if_neg har, ha2, hmm, Gf.add_def, hy, hz', Ht.out, Gf.mul_comm]
                              have HO2 : Hid (∀ k, OwnB ((wr.drewN k).setCell ⟨p3, o3 + j, none⟩ (bv a2)) w.heap.size (.slice (some ⟨p3, o3, none⟩) L c3) (Gv.tab L (Gv.upto (j + 1) (m3 a) (m2 a)))) := Lib.hid (fun k => by
                                have h1 := OwnB.setAt (OwnR.below HO.out (bdrew (Below.refl _ _) k)) (k := j) (by rw [Gv.tab_len]; exact hjL) a2
                                rw [← Gv.upto_set, hnx]
                                exact h1)
                              have HK2 : Hid (∀ k, Kept (fun x => x = p3) wI ((wr.drewN k).setCell ⟨p3, o3 + j, none⟩ (bv a2))) := Lib.hid (fun k => (HK.out.drewN k).set1 _ _)
                              have HMu : Hid (∀ W : World, Calls Tryd.prog 56 #[bv t, bv z] W fun e w' => e = .returned (bv mm) ∧ ∃ n, W.drewN n = w') := Lib.hid (fun W => by rw [hmm]; exact rmul_any t z _ _ rfl rfl W)
                              have HPl : Hid (∀ W : World, Calls Tryd.prog 35 #[bv y, bv mm] W fun e w' => e = .returned (bv a2) ∧ ∃ n, W.drewN n = w') := Lib.hid (fun W => by rw [ha2]; exact rplus_any y mm _ _ rfl rfl W)
                              clear hc hf hc2 hy hz' hmm ha2 hnx
                              go_wp2_with fail
                              refine wp_region_quiet_tail 20 (by kernel_rfl) (by kernel_rfl) ?_
                              simp only [List.take_succ_cons, List.take_zero, List.drop_succ_cons, List.drop_zero]
                              repeat (go_big_quiet_step (first | (go_at_call 56; exact quiet_drew (HMu.out _)) | (go_at_call 35; exact quiet_drew (HPl.out _))))
                              refine wpQuiet_nil ?_
                              intro _ hw'
                              obtain ⟨nq, hw''⟩ := hw'
                              subst hw''
                              have hO3 := Lib.hid (HO2.out nq)
                              have hK3 := Lib.hid (HK2.out nq)
                              clear HMu HPl HO2 HK2
                              go_wp2_with fail
                              go_roundg (gk - 1)
                              case measure => have := Hj.out; omega
                              case rel => exact ⟨j + 1, by have := Hj.out; omega, by go_num, hO3.out, hK3.out⟩
                            · have hjL' : j = L := by have := Hj.out; omega
                              subst hjL'
                              rw [Gv.tab_upto] at HO
                              have hM9 := HMi.out.row (i := a) han (m3 a) (by rw [← Hx3.out]; exact HO.out) (by rw [← Hx3.out]; exact HK.out)
                              have hM10 := hM9.ext (m' := fun b => if b < a + 1 then m3 b else m2 b) (fun b _ k _ => by
                                by_cases e : b = a
                                · subst e; rw [if_pos rfl, if_pos (by omega)]
                                · rw [if_neg e]
                                  by_cases hlt : b < a
                                  · rw [if_pos hlt, if_pos (by omega)]
                                  · rw [if_neg hlt, if_neg (by omega)])
                              have HM10 := Lib.hid hM10
                              have hp3B : w.heap.size ≤ p3 := (OwnR.lt HO.out (g := p3) rfl).1
                              have HB10 : Hid (Below w.heap.size w wr) := Lib.hid (HBi.out.trans (HK.out.toBelow HBi.out.size (fun b _ e => by rw [e]; exact hp3B)))
                              clear hM9 hM10 HO HK HOr D1 Hx3 Ht HMi HBi
                              go_wp2_with fail
                              go_roundg (gP - 1)
                              case measure => have := Ha.out; omega
                              case rel => exact ⟨a + 1, by have := Ha.out; omega, by go_num, HM10.out, HB10.out⟩
                      · have han' : a = n := by have := Ha.out; omega
                        have hM' := HMi.out.ext (m' := m3) (fun b hb j _ => by rw [if_pos (by omega)])
                        have HM' := Lib.hid hM'
                        clear hM'
                        subst han'
                        go_wp2_with fail
                        go_roundg (gO - 1)
                        case measure => have := Hq.out; omega
                        case rel => exact ⟨q + 1, by have := Hq.out; omega, by go_num, by rw [Hst.out]; go_num, bs', by rw [Hst.out]; exact HM'.out, HBi.out⟩
              · obtain rfl : i = n := by omega
                have hst : Mx.el i m (q + 1) = (m0, r) := by
                  show Mx.st i (Mx.el i m q) q = _
                  rw [HEl.out]; unfold Mx.st; rw [← Hk.out, if_neg hkn]
                have Hst := Lib.hid hst
                clear hst hi
                go_wp2_with fail
                go_roundg (gO - 1)
                case measure => have := Hq.out; omega
                case rel => exact ⟨q + 1, by have := Hq.out; omega, by go_num, by rw [Hst.out], bs, by rw [Hst.out]; exact HM.out, HBe.out⟩
        · have hqC' : q = C := by have := Hq.out; omega
          subst hqC'
          have Hr : Hid ((Mx.el n m q).2 = r) := Lib.hid (by rw [HEl.out])
          have Hm : Hid ((Mx.el n m q).1 = m0) := Lib.hid (by rw [HEl.out])
          clear hqC
          go_wp2_with fail
          go_ret2
          exact ⟨g, c, bs, by rw [Hr.out]; rfl, by rw [Hm.out]; exact HM.out, HBe.out⟩
end Go.Proofs.YtbikmodfmckaeaaDoor
