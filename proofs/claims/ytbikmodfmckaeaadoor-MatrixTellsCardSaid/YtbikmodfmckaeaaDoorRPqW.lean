/- The walks of the references' Blocks, Mix, PQ. -/
import Derived.Test.YtbikmodfmckaeaaDoorRPolX
import Derived.Test.YtbikmodfmckaeaaDoorPqW
namespace Go.Proofs.YtbikmodfmckaeaaDoor
open Go.ChangeShapes Go.WideShapes Go.ChangeAt Go.RowKit
set_option linter.unusedVariables false
def RBlkRel (ss : List ByteArray) (w : World) (gk : Nat) (i : Value) (wr : World) : Prop :=
  ∃ k nd : Nat, k + gk = ss.length ∧ i = iv k ∧ wr = w.drewN nd ∧ ∀ (j : Nat) (s s0 : ByteArray), j < k → ss[j]? = some s → ss[0]? = some s0 → s.size = s0.size
set_option maxRecDepth 100000 in
theorem rblocks_any (ss : List ByteArray) (hsm : ∀ s ∈ ss, s.size ≤ maxLen) (v : Value) (w : World) (hv : Strs w v ss) :
    Calls Tryd.prog 39 #[v] w fun e w' => e = .returned (iv (blkF ss)) ∧ ∃ k, w' = w.drewN k := by
  obtain ⟨p, cap, rfl, hl, hc⟩ := hv.get
  have Hc := Lib.hid hc
  have Hsm := Lib.hid hsm
  generalize hn : ss.length = n at *
  have Hn := Lib.hid hn
  clear hv hc hn hsm
  go_enter Tryd.func39, Tryd.ntmps39
  go_wp2_with fail
  go_loopg [3] n (fun gk i wr => RBlkRel ss w gk i wr)
  case atStart => exact ⟨0, 0, by rw [Hn.out]; omega, rfl, rfl, fun j _ _ hj => by omega⟩
  case round =>
    obtain ⟨k, nd, hk, rfl, hwr, hall⟩ := hrel
    rw [Hn.out] at hk
    have Hk := Lib.hid hk
    have Hall := Lib.hid hall
    have Hwr := Lib.hid hwr
    clear hk hall
    by_cases hlt : k < n
    · obtain ⟨s, hs⟩ : ∃ s, ss[k]? = some s := ⟨ss[k]'(by rw [Hn.out]; exact hlt), List.getElem?_eq_getElem _⟩
      obtain ⟨s0, hs0⟩ : ∃ s, ss[0]? = some s := ⟨ss[0]'(by rw [Hn.out]; omega), List.getElem?_eq_getElem _⟩
      obtain ⟨g, o, hp, c1, _⟩ := Hc.out k s hs
      obtain ⟨g', o', hp', c0, _⟩ := Hc.out 0 s0 hs0
      have e : g' = g ∧ o' = o := by rw [hp] at hp'; injection hp' with hp'; injection hp' with h1 h2; exact ⟨h1.symm, h2.symm⟩
      obtain ⟨rfl, rfl⟩ := e
      subst hp
      rw [Nat.add_zero] at c0
      have d1 : wr.cell? ⟨g', o' + k, none⟩ = some (.string s) := by rw [hwr]; simpa using c1
      have d0 : wr.cell? ⟨g', o', none⟩ = some (.string s0) := by rw [hwr]; simpa using c0
      have z1 := Hsm.out s (List.mem_of_getElem? hs)
      have z0 := Hsm.out s0 (List.mem_of_getElem? hs0)
      unfold maxLen at z1 z0
      have Hs := Lib.hid hs
      have Hs0 := Lib.hid hs0
      have hn0 : 0 < n := by omega
      have hn0I : (0 : Int) < (n : Int) := by omega
      have hkI : (k : Int) < (n : Int) := by omega
      clear hs hs0 hp' c0 c1 hwr
      by_cases he : s.size = s0.size
      · have t1 : ((s.size : Int) != (s0.size : Int)) = false := bne_f (by omega)
        have He := Lib.hid he
        clear he
        go_wp2_with fail
        go_quiet (fail)
        go_wp2_with fail
        go_roundg (gk - 1)
        case measure => have := Hk.out; omega
        case rel =>
          refine ⟨k + 1, nd + nq, by rw [Hn.out]; have := Hk.out; omega, by go_num, by rw [Hwr.out, World.drewN_drewN], fun j s' s0' hj h1 h2 => ?_⟩
          by_cases e : j = k
          · subst e
            rw [Hs.out] at h1; rw [Hs0.out] at h2
            obtain rfl := Option.some.inj h1
            obtain rfl := Option.some.inj h2
            exact He.out
          · exact Hall.out j s' s0' (by omega) h1 h2
      · have t1 : ((s.size : Int) != (s0.size : Int)) = true := bne_t (by omega)
        have HB := Lib.hid (blkF_bad Hs0.out Hs.out he)
        clear he
        go_wp2_with fail
        go_quiet (fail)
        go_wp2_with fail
        go_ret
        exact ⟨by rw [HB.out]; rfl, nd + nq, by rw [Hwr.out, World.drewN_drewN]⟩
    · obtain rfl : k = n := by have := Hk.out; omega
      clear hlt
      by_cases h0 : 0 < k
      · obtain ⟨s0, hs0⟩ : ∃ s, ss[0]? = some s := ⟨ss[0]'(by rw [Hn.out]; omega), List.getElem?_eq_getElem _⟩
        obtain ⟨g', o', rfl, c0, _⟩ := Hc.out 0 s0 hs0
        rw [Nat.add_zero] at c0
        have d0 : wr.cell? ⟨g', o', none⟩ = some (.string s0) := by rw [hwr]; simpa using c0
        have HG := Lib.hid (blkF_good hs0 (fun j s hj => Hall.out j s s0 (by rw [← Hn.out]; exact (List.getElem?_eq_some_iff.1 hj).1) hj hs0))
        have z0 := Hsm.out s0 (List.mem_of_getElem? hs0)
        unfold maxLen at z0
        clear hs0 c0 hwr
        have d2 := dec_t h0
        have h0I : (0 : Int) < (k : Int) := by omega
        by_cases hs : 16 < s0.size
        · have d1 : decide (16 < (s0.size : Int)) = true := dec_t (by omega)
          have HS := Lib.hid (if_pos hs : (if s0.size > 16 then (1 : Int) else 0) = 1)
          go_wp2_with fail
          go_ret
          exact ⟨by rw [HG.out, HS.out]; rfl, nd, Hwr.out⟩
        · have d1 : decide (16 < (s0.size : Int)) = false := dec_f (by omega)
          have HS := Lib.hid (if_neg hs : (if s0.size > 16 then (1 : Int) else 0) = 0)
          go_wp2_with fail
          go_ret
          exact ⟨by rw [HG.out, HS.out]; rfl, nd, Hwr.out⟩
      · have h00 : k = 0 := by omega
        subst h00
        have HE : Hid (blkF ss = 0) := Lib.hid (by rw [List.eq_nil_of_length_eq_zero Hn.out]; rfl)
        clear hwr
        go_wp2_with fail
        go_ret
        exact ⟨by rw [HE.out]; rfl, nd, Hwr.out⟩
theorem idx_strR {b : ByteArray} {i : Nat} (x : UInt8) (hx : b.data.toList.getD i 0 = x) (h : i < b.size) (w : World) : (Instr.index 9 (.string b) (.int .i64 (i : Int))).run Tryd.prog w = .ok (bv x) w := by
  have hin : (0 : Int) ≤ (i : Int) ∧ (i : Int) < (b.size : Int) := by omega
  rw [run_index_string w _ _ _ _ Tryd.underlying9, dif_pos hin]
  have hg : b[i] = x := by
    rw [← hx, List.getD_eq_getElem?_getD, List.getElem?_eq_getElem (by rw [Array.length_toList]; exact h)]
    rfl
  simp only [Int.toNat_natCast]
  rw [hg]
def mixF (ls : List ByteArray) (ts : List UInt8) (q : Nat) (i : Nat) : UInt8 := Gf.mul (Gv.at' ts i) (Gv.ent ls i q)
def RMixRel (ls : List ByteArray) (ts : List UInt8) (w : World) (n m gk : Nat) (v5 v6 : Value) (wr : World) : Prop :=
  ∃ q : Nat, q + gk = n ∧ v6 = iv q ∧ wr.ownsRow w.heap.size 5 1 v5 q ((Gv.tab q (fun j => Gv.xsum m (mixF ls ts j))).map bv) ∧ Below w.heap.size w wr
def RMixIn (ls : List ByteArray) (ts : List UInt8) (q : Nat) (wO : World) (m gk : Nat) (v7 v8 : Value) (wr : World) : Prop :=
  ∃ i nd : Nat, i + gk = m ∧ v7 = bv (Gv.xsum i (mixF ls ts q)) ∧ v8 = iv i ∧ wr = wO.drewN nd
set_option maxRecDepth 100000 in
set_option maxHeartbeats 2000000 in
theorem rmix_any (ls : List ByteArray) (ts : List UInt8) (hall : ∀ s ∈ ls, s.size = size0 ls) (hn : size0 ls ≤ 900000) (hts : ls.length ≤ ts.length) (v vt : Value) (w : World) (hv : Strs w v ls) (ht : RowB w vt ts) :
    Calls Tryd.prog 52 #[v, vt] w (CSumPost ls ts w) := by
  have Hall := Lib.hid hall
  have Ht := Lib.hid ht
  obtain ⟨p, cap, rfl, hl, hc⟩ := hv.get
  have Hc := Lib.hid hc
  obtain ⟨pt, ct, rfl, htc, htm⟩ := ht.shape
  obtain ⟨m, hm⟩ : ∃ m, m = ls.length := ⟨_, rfl⟩
  obtain ⟨mt, hmt⟩ : ∃ m, m = ts.length := ⟨_, rfl⟩
  obtain ⟨n, hn0⟩ : ∃ n, n = size0 ls := ⟨_, rfl⟩
  rw [← hm] at hl hts ⊢
  rw [← hmt] at hts htc ⊢
  rw [← hn0] at hn
  unfold maxLen at htm
  have Hm := Lib.hid hm
  have Hmt := Lib.hid hmt
  have Hn0 := Lib.hid hn0
  by_cases h0 : m = 0
  · subst h0
    have he : Gv.sumS ls (Gv.at' ts) = ⟨#[]⟩ := by rw [List.eq_nil_of_length_eq_zero hm.symm]; rfl
    have He := Lib.hid he
    clear hall ht hv hc hm hmt hn0 he
    go_enter Tryd.func52, Tryd.ntmps52
    go_wp2_with fail
    go_ret
    exact ⟨by rw [He.out]; rfl, Below.refl _ _⟩
  · have hb0 : ((m : Int) == 0) = false := beq_f (by omega)
    obtain ⟨s0, hs0⟩ : ∃ s, ls[0]? = some s := ⟨ls[0]'(by omega), List.getElem?_eq_getElem _⟩
    obtain ⟨g, o, hp, c1, hg⟩ := hc 0 s0 hs0
    subst hp
    have hz0 : s0.size = n := by rw [hn0]; exact hall s0 (List.mem_of_getElem? hs0)
    have hm0 : (0 : Int) < (m : Int) := by omega
    rw [Nat.add_zero] at c1
    have C1 := Lib.hid c1
    have Hz0 := Lib.hid hz0
    clear hall ht hv hc hm hmt hn0 hs0 h0 c1 hz0
    go_enter Tryd.func52, Tryd.ntmps52
    go_wp2_with fail
    go_loopg [5, 6, 7, 8] n (fun gk v5 v6 v7 v8 wr => RMixRel ls ts w n m gk v5 v6 wr)
    case atStart => exact ⟨0, by omega, rfl, World.ownsRow_nil _ _ _ _, Below.refl _ _⟩
    case round =>
      obtain ⟨wO, hwO⟩ : ∃ x : World, x = wr := ⟨_, rfl⟩
      obtain ⟨gO, hgO⟩ : ∃ x : Nat, x = gk := ⟨_, rfl⟩
      subst hwO hgO
      obtain ⟨q, hq, rfl, hO, hB⟩ := hrel
      have Hq := Lib.hid hq
      have HO := Lib.hid hO
      have HB := Lib.hid hB
      have hz := hB.size
      have d0 : wO.cell? ⟨g, o, none⟩ = some (.string s0) := (hB.cell (p := ⟨g, o, none⟩) hg).trans C1.out
      have hsz0 : s0.size = n := Hz0.out
      clear hq hO hB
      by_cases hqn : q < n
      · have tq : decide ((q : Int) < (s0.size : Int)) = true := dec_t (by omega)
        have hq9 : q + 1 ≤ 1000000 := by omega
        have tq' : q < s0.size := by omega
        clear hsz0
        go_wp2_with fail
        go_loopg [7, 8] m (fun gk v7 v8 wr => RMixIn ls ts q wO m gk v7 v8 wr)
        case atStart => exact ⟨0, 0, by omega, rfl, rfl, rfl⟩
        case round =>
          clear d0
          obtain ⟨i, nd, hi, rfl, rfl, hwr⟩ := hrel
          have Hi := Lib.hid hi
          have Hwr := Lib.hid hwr
          obtain ⟨a, ha⟩ : ∃ s, s = Gv.xsum i (mixF ls ts q) := ⟨_, rfl⟩
          rw [← ha]
          have Ha := Lib.hid ha
          by_cases him : i < m
          · obtain ⟨s, hs⟩ : ∃ s, ls[i]? = some s := ⟨ls[i]'(by rw [← Hm.out]; exact him), List.getElem?_eq_getElem _⟩
            obtain ⟨g', o', hp', c2, hg'⟩ := Hc.out i s hs
            injection hp' with hp'
            injection hp' with q1 q2
            subst q1 q2
            have d1 : wr.cell? ⟨g, o + i, none⟩ = some (.string s) := by
              have h : wO.cell? ⟨g, o + i, none⟩ = some (.string s) := (HB.out.cell (p := ⟨g, o + i, none⟩) hg').trans c2
              rw [hwr]; simpa using h
            obtain ⟨gt, ot, ct', hpt, hgt, _, _, ht1⟩ := Ht.out.cellAt (j := i) (by rw [← Hmt.out]; omega)
            injection hpt with q1 q8 q9
            have Hq1 := Lib.hid q1
            have d2 : wr.cell? ⟨gt, ot + i, none⟩ = some (bv (Gv.at' ts i)) := by
              have h : wO.cell? ⟨gt, ot + i, none⟩ = some (bv (Gv.at' ts i)) := (HB.out.cell (p := ⟨gt, ot + i, none⟩) hgt).trans ht1
              rw [hwr]; simpa using h
            rw [q1]
            have hsz : s.size = n := by rw [Hn0.out]; exact Hall.out s (List.mem_of_getElem? hs)
            obtain ⟨y, hy⟩ : ∃ y, y = Gv.at' ts i := ⟨_, rfl⟩
            obtain ⟨z, hz'⟩ : ∃ z, z = Gv.ent ls i q := ⟨_, rfl⟩
            rw [← hy] at d2
            have hidx := fun w => idx_strR (b := s) (i := q) z (by rw [hz']; unfold Gv.ent; rw [List.getD_eq_getElem?_getD (l := ls), hs]; rfl) (by omega) w
            obtain ⟨mm, hmm⟩ : ∃ x, x = Gf.mul y z := ⟨_, rfl⟩
            obtain ⟨a2, ha2⟩ : ∃ x, x = Gf.add a mm := ⟨_, rfl⟩
            have hnx : a2 = Gv.xsum (i + 1) (mixF ls ts q) := by
              rw [Gv.xsum_succ, ← ha, ha2, hmm, Gf.add_def, hy, hz']; rfl
            have Hnx := Lib.hid hnx
            have HMu : Hid (∀ W : World, Calls Tryd.prog 56 #[bv y, bv z] W fun e w' => e = .returned (bv mm) ∧ ∃ n, W.drewN n = w') := Lib.hid (fun W => by rw [hmm]; exact rmul_any y z _ _ rfl rfl W)
            have HPl : Hid (∀ W : World, Calls Tryd.prog 35 #[bv a, bv mm] W fun e w' => e = .returned (bv a2) ∧ ∃ n, W.drewN n = w') := Lib.hid (fun W => by rw [ha2]; exact rplus_any a mm _ _ rfl rfl W)
            have him' : (i : Int) < (mt : Int) := by omega
            have himI : (i : Int) < (m : Int) := by omega
            clear hi ha hs c2 hg' q1 q8 q9 hgt ht1 hsz hy hz' hmm ha2 hnx hwr
            go_wp2_with fail
            go_quiet (first | (go_at_call 56; exact quiet_drew (HMu.out _)) | (go_at_call 35; exact quiet_drew (HPl.out _)))
            go_wp2_with fail
            rw [← Hq1.out]
            go_roundg (gk - 1)
            case measure => have := Hi.out; omega
            case rel => exact ⟨i + 1, nd + nq, by have := Hi.out; omega, by rw [Hnx.out], by go_num, by rw [Hwr.out, World.drewN_drewN]⟩
          · have him' : i = m := by have := Hi.out; omega
            have hb5 : Below wO.heap.size wO wr := by rw [hwr]; exact bdrew (Below.refl _ _) nd
            have HO5 := Lib.hid (owns_below HO.out hb5)
            have HB5 := Lib.hid (HB.out.trans (hb5.mono hz))
            have hz5 := HB5.out.size
            have hap : (Gv.tab q (fun j => Gv.xsum m (mixF ls ts j))).map bv ++ [bv a] = (Gv.tab (q + 1) (fun j => Gv.xsum m (mixF ls ts j))).map bv := by rw [tab_succ, ha, him']
            have Hap := Lib.hid hap
            have himI : ¬ (i : Int) < (m : Int) := by omega
            clear hi ha hwr hb5 hap him'
            go_wp2_with (at_builtin; refine app1 w wr _ 5 22 rfl _ _ rfl w.heap.size Tryd.underlying22 info_byteV rfl _ q _ rfl _ rfl rfl HO5.out rfl hq9 (by decide) hz5 HB5.out ?_)
            intro v8 w8 hown8 hb8 hgr8 hat8
            rw [Hap.out] at hown8
            have HO8 := Lib.hid hown8
            have HB8 := Lib.hid hb8
            clear hown8 hb8 hgr8 hat8 HO5 HB5
            go_wp2_with fail
            go_roundg (gO - 1)
            case measure => have := Hq.out; omega
            case rel => exact ⟨q + 1, by have := Hq.out; omega, by go_num, HO8.out, HB8.out⟩
      · have tq : ¬ (q : Int) < (s0.size : Int) := by omega
        have hqn' : q = n := by have := Hq.out; omega
        have hOB : OwnB wO w.heap.size u5 (Gv.comb n m (Gv.at' ts) (Gv.ent ls)) := by
          unfold OwnB Gv.comb
          rw [← hqn']
          exact OwnR.of_owns HO.out
        have hcv := conv_ownB wO w.heap.size u5 _ hOB
        have HCv : Hid ((⟨(Gv.comb n m (Gv.at' ts) (Gv.ent ls)).toArray⟩ : ByteArray) = Gv.sumS ls (Gv.at' ts)) := Lib.hid (by unfold Gv.sumS Gv.txt; rw [← Hn0.out, ← Hm.out])
        rw [HCv.out] at hcv
        obtain ⟨S, hS⟩ : ∃ S, S = Gv.sumS ls (Gv.at' ts) := ⟨_, rfl⟩
        rw [← hS] at hcv
        have HS := Lib.hid hS
        clear hOB hS hqn' hsz0
        go_wp2_with fail
        go_ret
        exact ⟨by rw [← HS.out]; rfl, HB.out⟩
end Go.Proofs.YtbikmodfmckaeaaDoor
