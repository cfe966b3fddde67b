/- The walks of the references' inverses and powers of elements. · The walks of the references' Blocks, Mix, PQ. -/
import Derived.Test.YtcldioneiededaaDoorRefW
import Derived.Test.YtcldioneiededaaDoorArB
import Derived.Test.YtcldioneiededaaDoorPqE
namespace Go.Proofs.YtcldioneiededaaDoor
open Go.ChangeShapes Go.WideShapes Go.ChangeAt Go.RowKit
set_option linter.unusedVariables false

theorem ofNat_nat {q : Nat} (h : q < 256) : (UInt8.ofNat q).toNat = q := by
  rw [UInt8.toNat_ofNat']; exact Nat.mod_eq_of_lt h
def RInvRel (a : UInt8) (w : World) (gk : Nat) (i : Value) (wr : World) : Prop :=
  ∃ q nd : Nat, q + gk = 256 ∧ 1 ≤ q ∧ i = iv q ∧ q ≤ (Gf.inv a).toNat ∧ wr = w.drewN nd
theorem rinv_test {a : UInt8} (ha : a ≠ 0) {q : Nat} (hq : q < 256) : ((Gf.mul a (UInt8.ofNat q)).toNat = 1) ↔ q = (Gf.inv a).toNat := by
  constructor
  · intro h
    have h2 := Gf.inv_unique (a := a) (b := UInt8.ofNat q) (Gf.byte_ext h)
    rw [← h2, ofNat_nat hq]
  · intro h
    have : UInt8.ofNat q = Gf.inv a := Gf.byte_ext (by rw [ofNat_nat hq, h])
    rw [this, Gf.mul_inv ha]; rfl
set_option maxRecDepth 100000 in
set_option maxHeartbeats 1000000 in
theorem rinv_any (a : UInt8) (ha : a ≠ 0) (x : Int) (hx : x = a.toNat) (w : World) :
    Calls Tryd.prog 87 #[.int .u8 x] w fun e w' => e = .returned (bv (Gf.inv a)) ∧ ∃ n, w.drewN n = w' := by
  subst hx
  have Ha := Lib.hid ha
  have h1 : 1 ≤ (Gf.inv a).toNat := by have := Gf.nat_ne (Gf.inv_ne ha); omega
  have h2 := (Gf.inv a).toNat_lt
  clear ha
  go_enter Tryd.func87, Tryd.ntmps87
  go_wp2_with fail
  go_loopg [3] 255 (fun gk i wr => RInvRel a w gk i wr)
  case atStart => exact ⟨1, 0, rfl, Nat.le_refl _, rfl, h1, rfl⟩
  case round =>
    obtain ⟨q, nd, hq, hq1, rfl, hle, rfl⟩ := hrel
    have hlt : q < 256 := by omega
    have hw := wrap_u8_small q hlt
    have Hq := Lib.hid hq
    have ht := rinv_test Ha.out hlt
    have e1 : (q : Int) = ((UInt8.ofNat q).toNat : Int) := by rw [ofNat_nat hlt]
    have E1 := Lib.hid e1
    generalize hm : Gf.mul a (UInt8.ofNat q) = m at ht
    have Hm := Lib.hid hm
    by_cases he : q = (Gf.inv a).toNat
    · have t1 : ((m.toNat : Int) == 1) = true := beq_t (by have := ht.2 he; omega)
      have He := Lib.hid he
      clear hq ht e1 hm he
      go_wp2_with fail
      refine (rmul_any a (UInt8.ofNat q) _ _ rfl E1.out _).mono ?_
      rintro e w' ⟨rfl, n, rfl⟩
      rw [Hm.out]
      go_wp2_with fail
      go_ret
      exact ⟨ret_u8 (by rw [He.out]), _, rfl⟩
    · have t1 : ((m.toNat : Int) == 1) = false := beq_f (fun h => he (ht.1 (by omega)))
      have hle2 : q + 1 ≤ (Gf.inv a).toNat := by omega
      clear hq ht e1 hm he
      go_wp2_with fail
      refine (rmul_any a (UInt8.ofNat q) _ _ rfl E1.out _).mono ?_
      rintro e w' ⟨rfl, n, rfl⟩
      rw [Hm.out]
      go_wp2_with fail
      go_roundg (gk - 1)
      case measure => have := Hq.out; omega
      case rel => exact ⟨q + 1, _, by have := Hq.out; omega, by omega, by go_num, hle2, rfl⟩

def RPowRel (a : UInt8) (m : Nat) (w : World) (gk : Nat) (o i : Value) (wr : World) : Prop :=
  ∃ q nd : Nat, q + gk = m ∧ o = bv (Gf.pow a q) ∧ i = iv q ∧ wr = w.drewN nd
set_option maxRecDepth 100000 in
set_option maxHeartbeats 1000000 in
theorem rpow_any (a : UInt8) (n : Nat) (x y : Int) (hx : x = a.toNat) (hy : y = n) (hn : n < 9223372036854775808) (w : World) :
    Calls Tryd.prog 88 #[.int .u8 x, .int .i64 y] w fun e w' => e = .returned (bv (Gf.pow a n)) ∧ ∃ n, w.drewN n = w' := by
  subst hx hy
  by_cases hn0 : n = 0
  · subst hn0
    go_enter Tryd.func88, Tryd.ntmps88
    go_wp2
    go_ret
    exact ⟨rfl, 0, rfl⟩
  · have t0 : ((n : Int) == 0) = false := beq_f (by omega)
    by_cases ha : a = 0
    · subst ha
      have Hn := Lib.hid hn0
      clear hn0
      go_enter Tryd.func88, Tryd.ntmps88
      go_wp2
      go_ret
      exact ⟨by rw [Gf.zero_pow Hn.out]; rfl, 0, rfl⟩
    · have t1 := bv_ne ha
      obtain ⟨m, hm⟩ : ∃ m : Nat, m = n % 255 := ⟨_, rfl⟩
      have hmI : (n : Int) % 255 = (m : Int) := by omega
      have hm2 : m < 255 := by omega
      have hp := Gf.pow_mod ha n
      rw [← hm] at hp
      have Hm := Lib.hid hmI
      have Hp := Lib.hid hp
      clear hn0 ha hm hmI hp
      go_enter Tryd.func88, Tryd.ntmps88
      go_wp2_with fail
      rw [Hm.out]
      go_loopg [5, 6] m (fun gk o i wr => RPowRel a m w gk o i wr)
      case atStart => exact ⟨0, 0, by omega, rfl, rfl, rfl⟩
      case round =>
        obtain ⟨q, nd, hq, rfl, rfl, rfl⟩ := hrel
        have Hq := Lib.hid hq
        by_cases hlt : q < m
        · have hs : Gf.mul (Gf.pow a q) a = Gf.pow a (q + 1) := by rw [Gf.mul_comm]; rfl
          have Hs := Lib.hid hs
          generalize Gf.pow a q = p at *
          clear hq hs
          go_wp2_with fail
          refine (rmul_any p a _ _ rfl rfl _).mono ?_
          rintro e w' ⟨rfl, n, rfl⟩
          rw [Hs.out]
          go_wp2_with fail
          go_roundg (gk - 1)
          case measure => have := Hq.out; omega
          case rel => exact ⟨q + 1, _, by have := Hq.out; omega, rfl, by go_num, rfl⟩
        · obtain rfl : q = m := by omega
          rw [Hp.out]
          clear hq
          go_wp2_with fail
          go_ret
          exact ⟨rfl, _, rfl⟩
end Go.Proofs.YtcldioneiededaaDoor
namespace Go.Proofs.YtcldioneiededaaDoor
open Go.ChangeShapes Go.WideShapes Go.ChangeAt Go.RowKit
set_option linter.unusedVariables false
theorem idx_strR {b : ByteArray} {i : Nat} (x : UInt8) (hx : b.data.toList.getD i 0 = x) (h : i < b.size) (w : World) : (Instr.index 9 (.string b) (.int .i64 (i : Int))).run Tryd.prog w = .ok (bv x) w := by
  have hin : (0 : Int) ≤ (i : Int) ∧ (i : Int) < (b.size : Int) := by omega
  rw [run_index_string w _ _ _ _ Tryd.underlying9, dif_pos hin]
  have hg : b[i] = x := by
    rw [← hx, List.getD_eq_getElem?_getD, List.getElem?_eq_getElem (by rw [Array.length_toList]; exact h)]
    rfl
  simp only [Int.toNat_natCast]
  rw [hg]
def mixF (ls : List ByteArray) (ts : List UInt8) (q : Nat) (i : Nat) : UInt8 := Gf.mul (Gv.at' ts i) (Gv.ent ls i q)
def RMixRel (ls : List ByteArray) (ts : List UInt8) (w : World) (n m gk : Nat) (v5 v6 : Value) (wr : World) : Prop :=
  ∃ q : Nat, q + gk = n ∧ v6 = iv q ∧ wr.ownsRow w.heap.size 5 1 v5 q ((Gv.tab q (fun j => Gv.xsum m (mixF ls ts j))).map bv) ∧ Below w.heap.size w wr
def RMixIn (ls : List ByteArray) (ts : List UInt8) (q : Nat) (wO : World) (m gk : Nat) (v7 v8 : Value) (wr : World) : Prop :=
  ∃ i nd : Nat, i + gk = m ∧ v7 = bv (Gv.xsum i (mixF ls ts q)) ∧ v8 = iv i ∧ wr = wO.drewN nd
set_option maxRecDepth 100000 in
set_option maxHeartbeats 2000000 in
theorem rmix_any (ls : List ByteArray) (ts : List UInt8) (hall : ∀ s ∈ ls, s.size = size0 ls) (hn : size0 ls ≤ 900000) (hts : ls.length ≤ ts.length) (v vt : Value) (w : World) (hv : Strs w v ls) (ht : RowB w vt ts) :
    Calls Tryd.prog 86 #[v, vt] w (CSumPost ls ts w) := by
  have Hall := Lib.hid hall
  have Ht := Lib.hid ht
  obtain ⟨p, cap, rfl, hl, hc⟩ := hv.get
  have Hc := Lib.hid hc
  obtain ⟨pt, ct, rfl, htc, htm⟩ := ht.shape
  obtain ⟨m, hm⟩ : ∃ m, m = ls.length := ⟨_, rfl⟩
  obtain ⟨mt, hmt⟩ : ∃ m, m = ts.length := ⟨_, rfl⟩
  obtain ⟨n, hn0⟩ : ∃ n, n = size0 ls := ⟨_, rfl⟩
  rw [← hm] at hl hts ⊢
  rw [← hmt] at hts htc ⊢
  rw [← hn0] at hn
  unfold maxLen at htm
  have Hm := Lib.hid hm
  have Hmt := Lib.hid hmt
  have Hn0 := Lib.hid hn0
  by_cases h0 : m = 0
  · subst h0
    have he : Gv.sumS ls (Gv.at' ts) = ⟨#[]⟩ := by rw [List.eq_nil_of_length_eq_zero hm.symm]; rfl
    have He := Lib.hid he
    clear hall ht hv hc hm hmt hn0 he
    go_enter Tryd.func86, Tryd.ntmps86
    go_wp2_with fail
    go_ret
    exact ⟨by rw [He.out]; rfl, Below.refl _ _⟩
  · have hb0 : ((m : Int) == 0) = false := beq_f (by omega)
    obtain ⟨s0, hs0⟩ : ∃ s, ls[0]? = some s := ⟨ls[0]'(by omega), List.getElem?_eq_getElem _⟩
    obtain ⟨g, o, hp, c1, hg⟩ := hc 0 s0 hs0
    subst hp
    have hz0 : s0.size = n := by rw [hn0]; exact hall s0 (List.mem_of_getElem? hs0)
    have hm0 : (0 : Int) < (m : Int) := by omega
    rw [Nat.add_zero] at c1
    have C1 := Lib.hid c1
    have Hz0 := Lib.hid hz0
    clear hall ht hv hc hm hmt hn0 hs0 h0 c1 hz0
    go_enter Tryd.func86, Tryd.ntmps86
    go_wp2_with fail
    go_loopg [5, 6, 7, 8] n (fun gk v5 v6 v7 v8 wr => RMixRel ls ts w n m gk v5 v6 wr)
    case atStart => exact ⟨0, by omega, rfl, World.ownsRow_nil _ _ _ _, Below.refl _ _⟩
    case round =>
      obtain ⟨wO, hwO⟩ : ∃ x : World, x = wr := ⟨_, rfl⟩
      obtain ⟨gO, hgO⟩ : ∃ x : Nat, x = gk := ⟨_, rfl⟩
      subst hwO hgO
      obtain ⟨q, hq, rfl, hO, hB⟩ := hrel
      have Hq := Lib.hid hq
      have HO := Lib.hid hO
      have HB := Lib.hid hB
      have hz := hB.size
      have d0 : wO.cell? ⟨g, o, none⟩ = some (.string s0) := (hB.cell (p := ⟨g, o, none⟩) hg).trans C1.out
      have hsz0 : s0.size = n := Hz0.out
      clear hq hO hB
      by_cases hqn : q < n
      · have tq : decide ((q : Int) < (s0.size : Int)) = true := dec_t (by omega)
        have hq9 : q + 1 ≤ 1000000 := by omega
        have tq' : q < s0.size := by omega
        clear hsz0
        go_wp2_with fail
        go_loopg [7, 8] m (fun gk v7 v8 wr => RMixIn ls ts q wO m gk v7 v8 wr)
        case atStart => exact ⟨0, 0, by omega, rfl, rfl, rfl⟩
        case round =>
          clear d0
          obtain ⟨i, nd, hi, rfl, rfl, hwr⟩ := hrel
          have Hi := Lib.hid hi
          have Hwr := Lib.hid hwr
          obtain ⟨a, ha⟩ : ∃ s, s = Gv.xsum i (mixF ls ts q) := ⟨_, rfl⟩
          rw [← ha]
          have Ha := Lib.hid ha
          by_cases him : i < m
          · obtain ⟨s, hs⟩ : ∃ s, ls[i]? = some s := ⟨ls[i]'(by rw [← Hm.out]; exact him), List.getElem?_eq_getElem _⟩
            obtain ⟨g', o', hp', c2, hg'⟩ := Hc.out i s hs
            injection hp' with hp'
            injection hp' with q1 q2
            subst q1 q2
            have d1 : wr.cell? ⟨g, o + i, none⟩ = some (.string s) := by
              have h : wO.cell? ⟨g, o + i, none⟩ = some (.string s) := (HB.out.cell (p := ⟨g, o + i, none⟩) hg').trans c2
              rw [hwr]; simpa using h
            obtain ⟨gt, ot, ct', hpt, hgt, _, _, ht1⟩ := Ht.out.cellAt (j := i) (by rw [← Hmt.out]; omega)
            injection hpt with q1 q8 q9
            have Hq1 := Lib.hid q1
            have d2 : wr.cell? ⟨gt, ot + i, none⟩ = some (bv (Gv.at' ts i)) := by
              have h : wO.cell? ⟨gt, ot + i, none⟩ = some (bv (Gv.at' ts i)) := (HB.out.cell (p := ⟨gt, ot + i, none⟩) hgt).trans ht1
              rw [hwr]; simpa using h
            rw [q1]
            have hsz : s.size = n := by rw [Hn0.out]; exact Hall.out s (List.mem_of_getElem? hs)
            obtain ⟨y, hy⟩ : ∃ y, y = Gv.at' ts i := ⟨_, rfl⟩
            obtain ⟨z, hz'⟩ : ∃ z, z = Gv.ent ls i q := ⟨_, rfl⟩
            rw [← hy] at d2
            have hidx := fun w => idx_strR (b := s) (i := q) z (by rw [hz']; unfold Gv.ent; rw [List.getD_eq_getElem?_getD (l := ls), hs]; rfl) (by omega) w
            obtain ⟨mm, hmm⟩ : ∃ x, x = Gf.mul y z := ⟨_, rfl⟩
            obtain ⟨a2, ha2⟩ : ∃ x, x = Gf.add a mm := ⟨_, rfl⟩
            have hnx : a2 = Gv.xsum (i + 1) (mixF ls ts q) := by
              rw [Gv.xsum_succ, ← ha, ha2, hmm, Gf.add_def, hy, hz']; rfl
            have Hnx := Lib.hid hnx
            have HMu : Hid (∀ W : World, Calls Tryd.prog 90 #[bv y, bv z] W fun e w' => e = .returned (bv mm) ∧ ∃ n, W.drewN n = w') := Lib.hid (fun W => by rw [hmm]; exact rmul_any y z _ _ rfl rfl W)
            have HPl : Hid (∀ W : World, Calls Tryd.prog 89 #[bv a, bv mm] W fun e w' => e = .returned (bv a2) ∧ ∃ n, W.drewN n = w') := Lib.hid (fun W => by rw [ha2]; exact rplus_any a mm _ _ rfl rfl W)
            have him' : (i : Int) < (mt : Int) := by omega
            have himI : (i : Int) < (m : Int) := by omega
            clear hi ha hs c2 hg' q1 q8 q9 hgt ht1 hsz hy hz' hmm ha2 hnx hwr
            go_wp2_with fail
            go_quiet (first | (go_at_call 90; exact quiet_drew (HMu.out _)) | (go_at_call 89; exact quiet_drew (HPl.out _)))
            go_wp2_with fail
            rw [← Hq1.out]
            go_roundg (gk - 1)
            case measure => have := Hi.out; omega
            case rel => exact ⟨i + 1, nd + nq, by have := Hi.out; omega, by rw [Hnx.out], by go_num, by rw [Hwr.out, World.drewN_drewN]⟩
          · have him' : i = m := by have := Hi.out; omega
            have hb5 : Below wO.heap.size wO wr := by rw [hwr]; exact bdrew (Below.refl _ _) nd
            have HO5 := Lib.hid (owns_below HO.out hb5)
            have HB5 := Lib.hid (HB.out.trans (hb5.mono hz))
            have hz5 := HB5.out.size
            have hap : (Gv.tab q (fun j => Gv.xsum m (mixF ls ts j))).map bv ++ [bv a] = (Gv.tab (q + 1) (fun j => Gv.xsum m (mixF ls ts j))).map bv := by rw [tab_succ, ha, him']
            have Hap := Lib.hid hap
            have himI : ¬ (i : Int) < (m : Int) := by omega
            clear hi ha hwr hb5 hap him'
            go_wp2_with (at_builtin; refine app1 w wr _ 5 50 rfl _ _ rfl w.heap.size Tryd.underlying50 info_byteV rfl _ q _ rfl _ rfl rfl HO5.out rfl hq9 (by decide) hz5 HB5.out ?_)
            intro v8 w8 hown8 hb8 hgr8 hat8
            rw [Hap.out] at hown8
            have HO8 := Lib.hid hown8
            have HB8 := Lib.hid hb8
            clear hown8 hb8 hgr8 hat8 HO5 HB5
            go_wp2_with fail
            go_roundg (gO - 1)
            case measure => have := Hq.out; omega
            case rel => exact ⟨q + 1, by have := Hq.out; omega, by go_num, HO8.out, HB8.out⟩
      · have tq : ¬ (q : Int) < (s0.size : Int) := by omega
        have hqn' : q = n := by have := Hq.out; omega
        have hOB : OwnB wO w.heap.size u5 (Gv.comb n m (Gv.at' ts) (Gv.ent ls)) := by
          unfold OwnB Gv.comb
          rw [← hqn']
          exact OwnR.of_owns HO.out
        have hcv := conv_ownB wO w.heap.size u5 _ hOB
        have HCv : Hid ((⟨(Gv.comb n m (Gv.at' ts) (Gv.ent ls)).toArray⟩ : ByteArray) = Gv.sumS ls (Gv.at' ts)) := Lib.hid (by unfold Gv.sumS Gv.txt; rw [← Hn0.out, ← Hm.out])
        rw [HCv.out] at hcv
        obtain ⟨S, hS⟩ : ∃ S, S = Gv.sumS ls (Gv.at' ts) := ⟨_, rfl⟩
        rw [← hS] at hcv
        have HS := Lib.hid hS
        clear hOB hS hqn' hsz0
        go_wp2_with fail
        go_ret
        exact ⟨by rw [← HS.out]; rfl, HB.out⟩
end Go.Proofs.YtcldioneiededaaDoor
