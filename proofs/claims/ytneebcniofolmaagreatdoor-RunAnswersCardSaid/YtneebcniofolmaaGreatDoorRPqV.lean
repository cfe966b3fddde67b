/- The walks of the references' inverses and powers of elements. · The walks of the references' Blocks, Mix, PQ. · The walk of the references' P and Q. · The references' healing: plain sums, and Mix at two. -/
import Derived.Test.YtneebcniofolmaaGreatDoorRefW
import Derived.Test.YtneebcniofolmaaGreatDoorQuiD
import Derived.Test.YtneebcniofolmaaGreatDoorPqE
import Derived.Test.YtneebcniofolmaaGreatDoorAryP
namespace Go.Proofs.YtneebcniofolmaaGreatDoor
open Go.ChangeShapes Go.WideShapes Go.ChangeAt Go.RowKit
set_option linter.unusedVariables false

theorem ofNat_nat {q : Nat} (h : q < 256) : (UInt8.ofNat q).toNat = q := by
  rw [UInt8.toNat_ofNat']; exact Nat.mod_eq_of_lt h
def RInvRel (a : UInt8) (w : World) (gk : Nat) (i : Value) (wr : World) : Prop :=
  ∃ q nd : Nat, q + gk = 256 ∧ 1 ≤ q ∧ i = iv q ∧ q ≤ (Gf.inv a).toNat ∧ wr = w.drewN nd
theorem rinv_test {a : UInt8} (ha : a ≠ 0) {q : Nat} (hq : q < 256) : ((Gf.mul a (UInt8.ofNat q)).toNat = 1) ↔ q = (Gf.inv a).toNat := by
  constructor
  · intro h
    have h2 := Gf.inv_unique (a := a) (b := UInt8.ofNat q) (Gf.byte_ext h)
    rw [← h2, ofNat_nat hq]
  · intro h
    have : UInt8.ofNat q = Gf.inv a := Gf.byte_ext (by rw [ofNat_nat hq, h])
    rw [this, Gf.mul_inv ha]; rfl
set_option maxRecDepth 100000 in
set_option maxHeartbeats 1000000 in
theorem rinv_any (a : UInt8) (ha : a ≠ 0) (x : Int) (hx : x = a.toNat) (w : World) :
    Calls Tryz.prog 68 #[.int .u8 x] w fun e w' => e = .returned (bv (Gf.inv a)) ∧ ∃ n, w.drewN n = w' := by
  subst hx
  have Ha := Lib.hid ha
  have h1 : 1 ≤ (Gf.inv a).toNat := by have := Gf.nat_ne (Gf.inv_ne ha); omega
  have h2 := (Gf.inv a).toNat_lt
  clear ha
  go_enter Tryz.func68, Tryz.ntmps68
  go_wp2_with fail
  go_loopg [3] 255 (fun gk i wr => RInvRel a w gk i wr)
  case atStart => exact ⟨1, 0, rfl, Nat.le_refl _, rfl, h1, rfl⟩
  case round =>
    obtain ⟨q, nd, hq, hq1, rfl, hle, rfl⟩ := hrel
    have hlt : q < 256 := by omega
    have hw := wrap_u8_small q hlt
    have Hq := Lib.hid hq
    have ht := rinv_test Ha.out hlt
    have e1 : (q : Int) = ((UInt8.ofNat q).toNat : Int) := by rw [ofNat_nat hlt]
    have E1 := Lib.hid e1
    generalize hm : Gf.mul a (UInt8.ofNat q) = m at ht
    have Hm := Lib.hid hm
    by_cases he : q = (Gf.inv a).toNat
    · have t1 : ((m.toNat : Int) == 1) = true := beq_t (by have := ht.2 he; omega)
      have He := Lib.hid he
      clear hq ht e1 hm he
      go_wp2_with fail
      refine (rmul_any a (UInt8.ofNat q) _ _ rfl E1.out _).mono ?_
      rintro e w' ⟨rfl, n, rfl⟩
      rw [Hm.out]
      go_wp2_with fail
      go_ret
      exact ⟨ret_u8 (by rw [He.out]), _, rfl⟩
    · have t1 : ((m.toNat : Int) == 1) = false := beq_f (fun h => he (ht.1 (by omega)))
      have hle2 : q + 1 ≤ (Gf.inv a).toNat := by omega
      clear hq ht e1 hm he
      go_wp2_with fail
      refine (rmul_any a (UInt8.ofNat q) _ _ rfl E1.out _).mono ?_
      rintro e w' ⟨rfl, n, rfl⟩
      rw [Hm.out]
      go_wp2_with fail
      go_roundg (gk - 1)
      case measure => have := Hq.out; omega
      case rel => exact ⟨q + 1, _, by have := Hq.out; omega, by omega, by go_num, hle2, rfl⟩

def RPowRel (a : UInt8) (m : Nat) (w : World) (gk : Nat) (o i : Value) (wr : World) : Prop :=
  ∃ q nd : Nat, q + gk = m ∧ o = bv (Gf.pow a q) ∧ i = iv q ∧ wr = w.drewN nd
set_option maxRecDepth 100000 in
set_option maxHeartbeats 1000000 in
theorem rpow_any (a : UInt8) (n : Nat) (x y : Int) (hx : x = a.toNat) (hy : y = n) (hn : n < 9223372036854775808) (w : World) :
    Calls Tryz.prog 69 #[.int .u8 x, .int .i64 y] w fun e w' => e = .returned (bv (Gf.pow a n)) ∧ ∃ n, w.drewN n = w' := by
  subst hx hy
  by_cases hn0 : n = 0
  · subst hn0
    go_enter Tryz.func69, Tryz.ntmps69
    go_wp2
    go_ret
    exact ⟨rfl, 0, rfl⟩
  · have t0 : ((n : Int) == 0) = false := beq_f (by omega)
    by_cases ha : a = 0
    · subst ha
      have Hn := Lib.hid hn0
      clear hn0
      go_enter Tryz.func69, Tryz.ntmps69
      go_wp2
      go_ret
      exact ⟨by rw [Gf.zero_pow Hn.out]; rfl, 0, rfl⟩
    · have t1 := bv_ne ha
      obtain ⟨m, hm⟩ : ∃ m : Nat, m = n % 255 := ⟨_, rfl⟩
      have hmI : (n : Int) % 255 = (m : Int) := by omega
      have hm2 : m < 255 := by omega
      have hp := Gf.pow_mod ha n
      rw [← hm] at hp
      have Hm := Lib.hid hmI
      have Hp := Lib.hid hp
      clear hn0 ha hm hmI hp
      go_enter Tryz.func69, Tryz.ntmps69
      go_wp2_with fail
      rw [Hm.out]
      go_loopg [5, 6] m (fun gk o i wr => RPowRel a m w gk o i wr)
      case atStart => exact ⟨0, 0, by omega, rfl, rfl, rfl⟩
      case round =>
        obtain ⟨q, nd, hq, rfl, rfl, rfl⟩ := hrel
        have Hq := Lib.hid hq
        by_cases hlt : q < m
        · have hs : Gf.mul (Gf.pow a q) a = Gf.pow a (q + 1) := by rw [Gf.mul_comm]; rfl
          have Hs := Lib.hid hs
          generalize Gf.pow a q = p at *
          clear hq hs
          go_wp2_with fail
          refine (rmul_any p a _ _ rfl rfl _).mono ?_
          rintro e w' ⟨rfl, n, rfl⟩
          rw [Hs.out]
          go_wp2_with fail
          go_roundg (gk - 1)
          case measure => have := Hq.out; omega
          case rel => exact ⟨q + 1, _, by have := Hq.out; omega, rfl, by go_num, rfl⟩
        · obtain rfl : q = m := by omega
          rw [Hp.out]
          clear hq
          go_wp2_with fail
          go_ret
          exact ⟨rfl, _, rfl⟩
end Go.Proofs.YtneebcniofolmaaGreatDoor
namespace Go.Proofs.YtneebcniofolmaaGreatDoor
open Go.ChangeShapes Go.WideShapes Go.ChangeAt Go.RowKit
set_option linter.unusedVariables false
theorem idx_strR {b : ByteArray} {i : Nat} (x : UInt8) (hx : b.data.toList.getD i 0 = x) (h : i < b.size) (w : World) : (Instr.index 9 (.string b) (.int .i64 (i : Int))).run Tryz.prog w = .ok (bv x) w := by
  have hin : (0 : Int) ≤ (i : Int) ∧ (i : Int) < (b.size : Int) := by omega
  rw [run_index_string w _ _ _ _ Tryz.underlying9, dif_pos hin]
  have hg : b[i] = x := by
    rw [← hx, List.getD_eq_getElem?_getD, List.getElem?_eq_getElem (by rw [Array.length_toList]; exact h)]
    rfl
  simp only [Int.toNat_natCast]
  rw [hg]
def mixF (ls : List ByteArray) (ts : List UInt8) (q : Nat) (i : Nat) : UInt8 := Gf.mul (Gv.at' ts i) (Gv.ent ls i q)
def RMixRel (ls : List ByteArray) (ts : List UInt8) (w : World) (n m gk : Nat) (v5 v6 : Value) (wr : World) : Prop :=
  ∃ q : Nat, q + gk = n ∧ v6 = iv q ∧ wr.ownsRow w.heap.size 5 1 v5 q ((Gv.tab q (fun j => Gv.xsum m (mixF ls ts j))).map bv) ∧ Below w.heap.size w wr
def RMixIn (ls : List ByteArray) (ts : List UInt8) (q : Nat) (wO : World) (m gk : Nat) (v7 v8 : Value) (wr : World) : Prop :=
  ∃ i nd : Nat, i + gk = m ∧ v7 = bv (Gv.xsum i (mixF ls ts q)) ∧ v8 = iv i ∧ wr = wO.drewN nd
set_option maxRecDepth 100000 in
set_option maxHeartbeats 2000000 in
theorem rmix_any (ls : List ByteArray) (ts : List UInt8) (hall : ∀ s ∈ ls, s.size = size0 ls) (hn : size0 ls ≤ 900000) (hts : ls.length ≤ ts.length) (v vt : Value) (w : World) (hv : Strs w v ls) (ht : RowB w vt ts) :
    Calls Tryz.prog 67 #[v, vt] w (CSumPost ls ts w) := by
  have Hall := Lib.hid hall
  have Ht := Lib.hid ht
  obtain ⟨p, cap, rfl, hl, hc⟩ := hv.get
  have Hc := Lib.hid hc
  obtain ⟨pt, ct, rfl, htc, htm⟩ := ht.shape
  obtain ⟨m, hm⟩ : ∃ m, m = ls.length := ⟨_, rfl⟩
  obtain ⟨mt, hmt⟩ : ∃ m, m = ts.length := ⟨_, rfl⟩
  obtain ⟨n, hn0⟩ : ∃ n, n = size0 ls := ⟨_, rfl⟩
  rw [← hm] at hl hts ⊢
  rw [← hmt] at hts htc ⊢
  rw [← hn0] at hn
  unfold maxLen at htm
  have Hm := Lib.hid hm
  have Hmt := Lib.hid hmt
  have Hn0 := Lib.hid hn0
  by_cases h0 : m = 0
  · subst h0
    have he : Gv.sumS ls (Gv.at' ts) = ⟨#[]⟩ := by rw [List.eq_nil_of_length_eq_zero hm.symm]; rfl
    have He := Lib.hid he
    clear hall ht hv hc hm hmt hn0 he
    go_enter Tryz.func67, Tryz.ntmps67
    go_wp2_with fail
    go_ret
    exact ⟨by rw [He.out]; rfl, Below.refl _ _⟩
  · have hb0 : ((m : Int) == 0) = false := beq_f (by omega)
    obtain ⟨s0, hs0⟩ : ∃ s, ls[0]? = some s := ⟨ls[0]'(by omega), List.getElem?_eq_getElem _⟩
    obtain ⟨g, o, hp, c1, hg⟩ := hc 0 s0 hs0
    subst hp
    have hz0 : s0.size = n := by rw [hn0]; exact hall s0 (List.mem_of_getElem? hs0)
    have hm0 : (0 : Int) < (m : Int) := by omega
    rw [Nat.add_zero] at c1
    have C1 := Lib.hid c1
    have Hz0 := Lib.hid hz0
    clear hall ht hv hc hm hmt hn0 hs0 h0 c1 hz0
    go_enter Tryz.func67, Tryz.ntmps67
    go_wp2_with fail
    go_loopg [5, 6, 7, 8] n (fun gk v5 v6 v7 v8 wr => RMixRel ls ts w n m gk v5 v6 wr)
    case atStart => exact ⟨0, by omega, rfl, World.ownsRow_nil _ _ _ _, Below.refl _ _⟩
    case round =>
      obtain ⟨wO, hwO⟩ : ∃ x : World, x = wr := ⟨_, rfl⟩
      obtain ⟨gO, hgO⟩ : ∃ x : Nat, x = gk := ⟨_, rfl⟩
      subst hwO hgO
      obtain ⟨q, hq, rfl, hO, hB⟩ := hrel
      have Hq := Lib.hid hq
      have HO := Lib.hid hO
      have HB := Lib.hid hB
      have hz := hB.size
      have d0 : wO.cell? ⟨g, o, none⟩ = some (.string s0) := (hB.cell (p := ⟨g, o, none⟩) hg).trans C1.out
      have hsz0 : s0.size = n := Hz0.out
      clear hq hO hB
      by_cases hqn : q < n
      · have tq : decide ((q : Int) < (s0.size : Int)) = true := dec_t (by omega)
        have hq9 : q + 1 ≤ 1000000 := by omega
        have tq' : q < s0.size := by omega
        clear hsz0
        go_wp2_with fail
        go_loopg [7, 8] m (fun gk v7 v8 wr => RMixIn ls ts q wO m gk v7 v8 wr)
        case atStart => exact ⟨0, 0, by omega, rfl, rfl, rfl⟩
        case round =>
          clear d0
          obtain ⟨i, nd, hi, rfl, rfl, hwr⟩ := hrel
          have Hi := Lib.hid hi
          have Hwr := Lib.hid hwr
          obtain ⟨a, ha⟩ : ∃ s, s = Gv.xsum i (mixF ls ts q) := ⟨_, rfl⟩
          rw [← ha]
          have Ha := Lib.hid ha
          by_cases him : i < m
          · obtain ⟨s, hs⟩ : ∃ s, ls[i]? = some s := ⟨ls[i]'(by rw [← Hm.out]; exact him), List.getElem?_eq_getElem _⟩
            obtain ⟨g', o', hp', c2, hg'⟩ := Hc.out i s hs
            injection hp' with hp'
            injection hp' with q1 q2
            subst q1 q2
            have d1 : wr.cell? ⟨g, o + i, none⟩ = some (.string s) := by
              have h : wO.cell? ⟨g, o + i, none⟩ = some (.string s) := (HB.out.cell (p := ⟨g, o + i, none⟩) hg').trans c2
              rw [hwr]; simpa using h
            obtain ⟨gt, ot, ct', hpt, hgt, _, _, ht1⟩ := Ht.out.cellAt (j := i) (by rw [← Hmt.out]; omega)
            injection hpt with q1 q8 q9
            have Hq1 := Lib.hid q1
            have d2 : wr.cell? ⟨gt, ot + i, none⟩ = some (bv (Gv.at' ts i)) := by
              have h : wO.cell? ⟨gt, ot + i, none⟩ = some (bv (Gv.at' ts i)) := (HB.out.cell (p := ⟨gt, ot + i, none⟩) hgt).trans ht1
              rw [hwr]; simpa using h
            rw [q1]
            have hsz : s.size = n := by rw [Hn0.out]; exact Hall.out s (List.mem_of_getElem? hs)
            obtain ⟨y, hy⟩ : ∃ y, y = Gv.at' ts i := ⟨_, rfl⟩
            obtain ⟨z, hz'⟩ : ∃ z, z = Gv.ent ls i q := ⟨_, rfl⟩
            rw [← hy] at d2
            have hidx := fun w => idx_strR (b := s) (i := q) z (by rw [hz']; unfold Gv.ent; rw [List.getD_eq_getElem?_getD (l := ls), hs]; rfl) (by omega) w
            obtain ⟨mm, hmm⟩ : ∃ x, x = Gf.mul y z := ⟨_, rfl⟩
            obtain ⟨a2, ha2⟩ : ∃ x, x = Gf.add a mm := ⟨_, rfl⟩
            have hnx : a2 = Gv.xsum (i + 1) (mixF ls ts q) := by
              rw [Gv.xsum_succ, ← ha, ha2, hmm, Gf.add_def, hy, hz']; rfl
            have Hnx := Lib.hid hnx
            have HMu : Hid (∀ W : World, Calls Tryz.prog 71 #[bv y, bv z] W fun e w' => e = .returned (bv mm) ∧ ∃ n, W.drewN n = w') := Lib.hid (fun W => by rw [hmm]; exact rmul_any y z _ _ rfl rfl W)
            have HPl : Hid (∀ W : World, Calls Tryz.prog 70 #[bv a, bv mm] W fun e w' => e = .returned (bv a2) ∧ ∃ n, W.drewN n = w') := Lib.hid (fun W => by rw [ha2]; exact rplus_any a mm _ _ rfl rfl W)
            have him' : (i : Int) < (mt : Int) := by omega
            have himI : (i : Int) < (m : Int) := by omega
            clear hi ha hs c2 hg' q1 q8 q9 hgt ht1 hsz hy hz' hmm ha2 hnx hwr
            go_wp2_with fail
            go_quiet (first | (go_at_call 71; exact quiet_drew (HMu.out _)) | (go_at_call 70; exact quiet_drew (HPl.out _)))
            go_wp2_with fail
            rw [← Hq1.out]
            go_roundg (gk - 1)
            case measure => have := Hi.out; omega
            case rel => exact ⟨i + 1, nd + nq, by have := Hi.out; omega, by rw [Hnx.out], by go_num, by rw [Hwr.out, World.drewN_drewN]⟩
          · have him' : i = m := by have := Hi.out; omega
            have hb5 : Below wO.heap.size wO wr := by rw [hwr]; exact bdrew (Below.refl _ _) nd
            have HO5 := Lib.hid (owns_below HO.out hb5)
            have HB5 := Lib.hid (HB.out.trans (hb5.mono hz))
            have hz5 := HB5.out.size
            have hap : (Gv.tab q (fun j => Gv.xsum m (mixF ls ts j))).map bv ++ [bv a] = (Gv.tab (q + 1) (fun j => Gv.xsum m (mixF ls ts j))).map bv := by rw [tab_succ, ha, him']
            have Hap := Lib.hid hap
            have himI : ¬ (i : Int) < (m : Int) := by omega
            clear hi ha hwr hb5 hap him'
            go_wp2_with (at_builtin; refine app1 w wr _ 5 44 rfl _ _ rfl w.heap.size Tryz.underlying44 info_byteV rfl _ q _ rfl _ rfl rfl HO5.out rfl hq9 (by decide) hz5 HB5.out ?_)
            intro v8 w8 hown8 hb8 hgr8 hat8
            rw [Hap.out] at hown8
            have HO8 := Lib.hid hown8
            have HB8 := Lib.hid hb8
            clear hown8 hb8 hgr8 hat8 HO5 HB5
            go_wp2_with fail
            go_roundg (gO - 1)
            case measure => have := Hq.out; omega
            case rel => exact ⟨q + 1, by have := Hq.out; omega, by go_num, HO8.out, HB8.out⟩
      · have tq : ¬ (q : Int) < (s0.size : Int) := by omega
        have hqn' : q = n := by have := Hq.out; omega
        have hOB : OwnB wO w.heap.size u5 (Gv.comb n m (Gv.at' ts) (Gv.ent ls)) := by
          unfold OwnB Gv.comb
          rw [← hqn']
          exact OwnR.of_owns HO.out
        have hcv := conv_ownB wO w.heap.size u5 _ hOB
        have HCv : Hid ((⟨(Gv.comb n m (Gv.at' ts) (Gv.ent ls)).toArray⟩ : ByteArray) = Gv.sumS ls (Gv.at' ts)) := Lib.hid (by unfold Gv.sumS Gv.txt; rw [← Hn0.out, ← Hm.out])
        rw [HCv.out] at hcv
        obtain ⟨S, hS⟩ : ∃ S, S = Gv.sumS ls (Gv.at' ts) := ⟨_, rfl⟩
        rw [← hS] at hcv
        have HS := Lib.hid hS
        clear hOB hS hqn' hsz0
        go_wp2_with fail
        go_ret
        exact ⟨by rw [← HS.out]; rfl, HB.out⟩
end Go.Proofs.YtneebcniofolmaaGreatDoor
namespace Go.Proofs.YtneebcniofolmaaGreatDoor
open Go.ChangeShapes Go.WideShapes Go.ChangeAt Go.RowKit
set_option linter.unusedVariables false
def RPQRel (w : World) (n gk : Nat) (v4 v5 v6 v7 : Value) (wr : World) : Prop :=
  ∃ k : Nat, k + gk = n ∧ v7 = iv k ∧ v6 = bv (Gf.pow 2 k) ∧ wr.ownsRow w.heap.size 5 1 v4 k ((Gv.tab k (fun _ => 1)).map bv) ∧ wr.ownsRow w.heap.size 5 1 v5 k ((Gv.tab k (fun i => Gf.pow 2 i)).map bv) ∧
    (∀ g, v4.ownBlock = some g → v5.ownBlock ≠ some g) ∧ Below w.heap.size w wr
set_option maxRecDepth 100000 in
set_option maxHeartbeats 2000000 in
theorem rpq_any (ls : List ByteArray) (hall : ∀ s ∈ ls, s.size = size0 ls) (hn : size0 ls ≤ 900000) (hl9 : ls.length ≤ 1000) (v : Value) (w : World) (hv : Strs w v ls) :
    Calls Tryz.prog 49 #[v] w (OfPost ls w) := by
  have HV := Lib.hid hv
  have HAll := Lib.hid hall
  have HN9 := Lib.hid hn
  obtain ⟨p, cap, rfl, hl, _⟩ := hv.get
  obtain ⟨n, hn0⟩ : ∃ m, m = ls.length := ⟨_, rfl⟩
  rw [← hn0] at hl hl9 HV ⊢
  have Hn := Lib.hid hn0
  clear hv hall hn hn0
  go_enter Tryz.func49, Tryz.ntmps49
  go_wp2_with fail
  go_loopg [4, 5, 6, 7] n (fun gk v4 v5 v6 v7 wr => RPQRel w n gk v4 v5 v6 v7 wr)
  case atStart => exact ⟨0, by omega, rfl, rfl, World.ownsRow_nil _ _ _ _, World.ownsRow_nil _ _ _ _, (fun g h => by cases h), Below.refl _ _⟩
  case round =>
    obtain ⟨k, hk, rfl, rfl, hO4, hO5, hap, hB⟩ := hrel
    have Hk := Lib.hid hk
    have HO4 := Lib.hid hO4
    have HO5 := Lib.hid hO5
    have HAp := Lib.hid hap
    have HB := Lib.hid hB
    have hz := hB.size
    clear hk hO4 hO5 hap hB
    by_cases hkn : k < n
    · have hk9 : k + 1 ≤ 1000000 := by omega
      have hu1 := (tab_succ k (fun _ => 1)).symm
      have hu2 := (tab_succ k (fun i => Gf.pow 2 i)).symm
      have hu3 : Gf.mul (Gf.pow 2 k) 2 = Gf.pow 2 (k + 1) := by rw [Gf.mul_comm]; rfl
      have Hu1 := Lib.hid hu1
      have Hu2 := Lib.hid hu2
      have Hu3 := Lib.hid hu3
      obtain ⟨x, hx⟩ : ∃ x, x = Gf.pow 2 k := ⟨_, rfl⟩
      rw [← hx] at Hu2 Hu3
      rw [← hx]
      clear hu1 hu2 hu3 hx
      go_wp2_with (at_builtin; refine app1 w wr (bv 1) 5 44 rfl _ _ rfl w.heap.size Tryz.underlying44 info_byteV rfl _ k _ rfl _ rfl rfl HO4.out rfl hk9 (by decide) hz HB.out ?_)
      intro v8 w8 hown8 hb8 hgr8 hat8
      rw [Hu1.out] at hown8
      have hk8 := Kept.grown hgr8
      have HO8 := Lib.hid hown8
      have HB8 := Lib.hid hb8
      have hz8 := hb8.size
      have HO58 := Lib.hid (Kept.owns HO5.out hk8 (fun g hg e => HAp.out g e.symm hg))
      have HAp8 : Hid (∀ g, v8.ownBlock = some g → u5.ownBlock ≠ some g) := Lib.hid (fun g hg e => by
        rcases hat8 with h | h
        · rw [h] at hg; exact HAp.out g hg e
        · rw [h] at hg
          have h1 := Option.some.inj hg
          have h2 := (HO5.out.lt g e).2
          omega)
      clear hown8 hb8 hgr8 hat8 hk8 HO4 HO5 HAp HB
      go_wp2_with (at_builtin; refine app1 w w8 (bv x) 5 44 rfl _ _ rfl w.heap.size Tryz.underlying44 info_byteV rfl _ k _ rfl _ rfl rfl HO58.out rfl hk9 (by decide) hz8 HB8.out ?_)
      intro v9 w9 hown9 hb9 hgr9 hat9
      rw [Hu2.out] at hown9
      have hk9' := Kept.grown hgr9
      have HO9 := Lib.hid hown9
      have HB9 := Lib.hid hb9
      have hz9 := hb9.size
      have HO49 := Lib.hid (Kept.owns HO8.out hk9' (fun g hg e => HAp8.out g hg e.symm))
      have HAp9 : Hid (∀ g, v8.ownBlock = some g → v9.ownBlock ≠ some g) := Lib.hid (fun g hg e => by
        rcases hat9 with h | h
        · rw [h] at e; exact HAp8.out g hg e
        · rw [h] at e
          have h1 := Option.some.inj e
          have h2 := (HO8.out.lt g hg).2
          omega)
      clear hown9 hb9 hgr9 hat9 hk9' HO8 HO58 HAp8 HB8
      go_wp2_with fail
      refine (rmul_any x 2 _ _ rfl rfl _).mono ?_
      rintro e w' ⟨rfl, n1, rfl⟩
      rw [Hu3.out]
      have hbd : Below w9.heap.size w9 (w9.drewN n1) := bdrew (Below.refl _ _) n1
      have HOa := Lib.hid (owns_below HO49.out hbd)
      have HOb := Lib.hid (owns_below HO9.out hbd)
      have HBc := Lib.hid (HB9.out.trans (hbd.mono hz9))
      clear hbd HO49 HO9 HB9
      go_wp2_with fail
      go_roundg (gk - 1)
      case measure => have := Hk.out; omega
      case rel => exact ⟨k + 1, by have := Hk.out; omega, by go_num, rfl, HOa.out, HOb.out, HAp9.out, HBc.out⟩
    · have hkn' : k = n := by have := Hk.out; omega
      subst hkn'
      have hB4 : OwnB wr w.heap.size u4 (Gv.tab k (fun _ => 1)) := OwnR.of_owns HO4.out
      have hB5 : OwnB wr w.heap.size u5 (Gv.tab k (fun i => Gf.pow 2 i)) := OwnR.of_owns HO5.out
      have HP := Lib.hid (rmix_any ls (Gv.tab k (fun _ => 1)) HAll.out HN9.out (by rw [Gv.tab_len, Hn.out]; exact Nat.le_refl _) _ u4 wr (HV.out.below HB.out) (OwnB.row hB4))
      have heP : Gv.sumS ls (Gv.at' (Gv.tab k (fun _ => 1))) = Gv.P ls := Gv.sumS_congr (fun i hi => by unfold Gv.at'; rw [Gv.tab_at _ (by rw [Hn.out]; exact hi)])
      have heQ : Gv.sumS ls (Gv.at' (Gv.tab k (fun i => Gf.pow 2 i))) = Gv.Q ls := Gv.sumS_congr (fun i hi => by unfold Gv.at'; rw [Gv.tab_at _ (by rw [Hn.out]; exact hi)])
      unfold CSumPost at HP
      rw [heP] at HP
      have HeQ := Lib.hid heQ
      have HB5 := Lib.hid hB5
      obtain ⟨p4, n4, c4, rfl⟩ := hB4.slice
      obtain ⟨p5, n5, c5, rfl⟩ := hB5.slice
      clear hB4 hB5 heP heQ HO4 HO5
      go_wp2_with fail
      refine HP.out.mono ?_
      rintro e w1 ⟨rfl, hb1⟩
      have HQ := Lib.hid (rmix_any ls (Gv.tab k (fun i => Gf.pow 2 i)) HAll.out HN9.out (by rw [Gv.tab_len, Hn.out]; exact Nat.le_refl _) _ _ w1 ((HV.out.below HB.out).below hb1) (OwnB.row (OwnR.below HB5.out hb1)))
      unfold CSumPost at HQ
      rw [HeQ.out] at HQ
      have HB1 := Lib.hid (HB.out.trans (hb1.mono hz))
      have hz1 := HB1.out.size
      clear hb1 HP
      go_wp2_with fail
      refine HQ.out.mono ?_
      rintro e w2 ⟨rfl, hb2⟩
      have HB2 := Lib.hid (HB1.out.trans (hb2.mono hz1))
      clear hb2 HQ
      go_wp2_with fail
      go_ret2
      exact ⟨rfl, HB2.out⟩
end Go.Proofs.YtneebcniofolmaaGreatDoor
namespace Go.Proofs.YtneebcniofolmaaGreatDoor
open Go.ChangeShapes Go.WideShapes Go.ChangeAt Go.RowKit
set_option linter.unusedVariables false
namespace Gv
theorem en_mix2 (a b : ByteArray) (x y : UInt8) {j : Nat} (h : j < a.size) : en (sumS [a, b] (at' [x, y])) j = Gf.mul x (en a j) ^^^ Gf.mul y (en b j) := by
  rw [en_sumS _ _ (show j < size0 [a, b] from h)]
  show (0 ^^^ Gf.mul x (en a j)) ^^^ Gf.mul y (en b j) = _
  rw [Gf.zero_add]
theorem mix_size (a b : ByteArray) (x y : UInt8) : (sumS [a, b] (at' [x, y])).size = a.size := sumS_size _ _
theorem mix_11 (a b : ByteArray) : sumS [a, b] (at' [1, 1]) = plusS a b := sumS_congr (fun i hi => by
  have : i = 0 ∨ i = 1 := by simp at hi; omega
  rcases this with rfl | rfl <;> rfl)
theorem mix_cc (a b : ByteArray) (c : UInt8) : sumS [a, b] (at' [c, c]) = timesS (plusS a b) c := by
  refine block_ext (n := a.size) (mix_size _ _ _ _) (by rw [times_size, plus_size]) (fun j hj => ?_)
  rw [en_mix2 _ _ _ _ hj, en_times _ _ (by rw [plus_size]; exact hj), en_plus _ _ hj]
  exact (Gf.mul_add _ _ _).symm
theorem two_first (s t : ByteArray) (a b c : UInt8) (h : Gf.mul c (a ^^^ b) = 1) : plusS s (sumS [s, t] (at' [Gf.mul a c, c])) = timesS (plusS (timesS s b) t) c := by
  refine block_ext (n := s.size) (plus_size _ _) (by rw [times_size, plus_size, times_size]) (fun j hj => ?_)
  rw [en_plus _ _ hj, en_mix2 _ _ _ _ hj, en_times _ _ (by rw [plus_size, times_size]; exact hj), en_plus _ _ (by rw [times_size]; exact hj), en_times _ _ hj]
  generalize en s j = u
  generalize en t j = v
  have e1 : u = Gf.mul (Gf.mul a c) u ^^^ Gf.mul c (Gf.mul b u) := by
    rw [Gf.mul_comm a c, ← Gf.mul_assoc c b u]
    rw [show Gf.mul (Gf.mul c a) u ^^^ Gf.mul (Gf.mul c b) u = Gf.mul (Gf.mul c a ^^^ Gf.mul c b) u from (Gf.add_mul _ _ _).symm]
    rw [show Gf.mul c a ^^^ Gf.mul c b = Gf.mul c (a ^^^ b) from (Gf.mul_add _ _ _).symm, h, Gf.one_mul]
  have e2 : Gf.mul c (Gf.mul b u ^^^ v) = Gf.mul c (Gf.mul b u) ^^^ Gf.mul c v := Gf.mul_add _ _ _
  rw [e2]
  generalize Gf.mul (Gf.mul a c) u = p at *
  generalize Gf.mul c (Gf.mul b u) = q at *
  generalize Gf.mul c v = r
  rw [e1, Gf.add_assoc, Gf.add_left_comm q p r, ← Gf.add_assoc p p, Gf.add_self, Gf.zero_add]
theorem two_second (s t : ByteArray) (x y : UInt8) : plusS s (plusS s (sumS [s, t] (at' [x, y]))) = sumS [s, t] (at' [x, y]) := by
  refine block_ext (n := s.size) (plus_size _ _) (mix_size _ _ _ _) (fun j hj => ?_)
  rw [en_plus _ _ hj, en_plus _ _ hj, ← Gf.add_assoc, Gf.add_self, Gf.zero_add]
end Gv
def Mix2Post (a b : ByteArray) (x y : UInt8) (w : World) (e : Ending) (w' : World) : Prop := e = .returned (.string (Gv.sumS [a, b] (Gv.at' [x, y]))) ∧ Below w.heap.size w w'
theorem mix2_any (a b : ByteArray) (x y : UInt8) (hs : b.size = a.size) (hn : a.size ≤ 900000) (w : World) :
    Calls Tryz.prog 67 #[.slice (some ⟨w.heap.size, 0, none⟩) 2 2, .slice (some ⟨w.heap.size + 1, 0, none⟩) 2 2] ((w.alloc (.cells #[.string a, .string b] 9)).alloc (.cells #[bv x, bv y] 5)) (Mix2Post a b x y w) := by
  have hb1 : Below w.heap.size w (w.alloc (.cells #[.string a, .string b] 9)) := (Below.refl _ _).alloc (Nat.le_refl _) _
  have hz : (w.alloc (.cells #[.string a, .string b] 9)).heap.size = w.heap.size + 1 := by simp
  have hb2 : Below (w.alloc (.cells #[.string a, .string b] 9)).heap.size (w.alloc (.cells #[.string a, .string b] 9)) ((w.alloc (.cells #[.string a, .string b] 9)).alloc (.cells #[bv x, bv y] 5)) := (Below.refl _ _).alloc (Nat.le_refl _) _
  have r1 : Strs ((w.alloc (.cells #[.string a, .string b] 9)).alloc (.cells #[bv x, bv y] 5)) (.slice (some ⟨w.heap.size, 0, none⟩) 2 2) [a, b] := Row.below (alloc_row w [.string a, .string b] _ (by simp [maxLen])) hb2
  have r2 : RowB ((w.alloc (.cells #[.string a, .string b] 9)).alloc (.cells #[bv x, bv y] 5)) (.slice (some ⟨w.heap.size + 1, 0, none⟩) 2 2) [x, y] := by
    have h := alloc_row (w.alloc (.cells #[.string a, .string b] 9)) [bv x, bv y] 5 (by simp [maxLen])
    rw [hz] at h; exact h
  have hall : ∀ s ∈ [a, b], s.size = size0 [a, b] := by
    intro s hs'; simp at hs'
    rcases hs' with rfl | rfl
    · rfl
    · exact hs
  refine (rmix_any [a, b] [x, y] hall hn (by simp) _ _ _ r1 r2).mono ?_
  rintro e w' ⟨rfl, hb⟩
  exact ⟨rfl, (hb1.trans (hb2.mono (by omega))).trans (hb.mono (by simp; omega))⟩
theorem mix11_any (a b : ByteArray) (hs : b.size = a.size) (hn : a.size ≤ 900000) (w : World) :
    Calls Tryz.prog 67 #[.slice (some ⟨w.heap.size, 0, none⟩) 2 2, .slice (some ⟨w.heap.size + 1, 0, none⟩) 2 2] ((w.alloc (.cells #[.string a, .string b] 9)).alloc (.cells #[.int .u8 1, .int .u8 1] 5)) fun e w' => e = .returned (.string (Gv.plusS a b)) ∧ Below w.heap.size w w' := by
  have h := mix2_any a b 1 1 hs hn w
  unfold Mix2Post at h
  rw [Gv.mix_11] at h
  exact h
theorem mix2n_any (a b : ByteArray) (x y : UInt8) (hs : b.size = a.size) (hn : a.size ≤ 900000) (w : World) (n : Nat) :
    Calls Tryz.prog 67 #[.slice (some ⟨w.heap.size, 0, none⟩) 2 2, .slice (some ⟨w.heap.size + 1, 0, none⟩) 2 2] (((w.alloc (.cells #[.string a, .string b] 9)).drewN n).alloc (.cells #[bv x, bv y] 5)) (Mix2Post a b x y w) := by
  have hb1 : Below w.heap.size w ((w.alloc (.cells #[.string a, .string b] 9)).drewN n) := bdrew ((Below.refl _ _).alloc (Nat.le_refl _) _) n
  have hz : ((w.alloc (.cells #[.string a, .string b] 9)).drewN n).heap.size = w.heap.size + 1 := by simp
  have hb2 : Below ((w.alloc (.cells #[.string a, .string b] 9)).drewN n).heap.size ((w.alloc (.cells #[.string a, .string b] 9)).drewN n) (((w.alloc (.cells #[.string a, .string b] 9)).drewN n).alloc (.cells #[bv x, bv y] 5)) := (Below.refl _ _).alloc (Nat.le_refl _) _
  have r1 : Strs (((w.alloc (.cells #[.string a, .string b] 9)).drewN n).alloc (.cells #[bv x, bv y] 5)) (.slice (some ⟨w.heap.size, 0, none⟩) 2 2) [a, b] := Row.below (Row.below (alloc_row w [.string a, .string b] _ (by simp [maxLen])) (bdrew (Below.refl _ _) n)) hb2
  have r2 : RowB (((w.alloc (.cells #[.string a, .string b] 9)).drewN n).alloc (.cells #[bv x, bv y] 5)) (.slice (some ⟨w.heap.size + 1, 0, none⟩) 2 2) [x, y] := by
    have h := alloc_row ((w.alloc (.cells #[.string a, .string b] 9)).drewN n) [bv x, bv y] 5 (by simp [maxLen])
    rw [hz] at h; exact h
  have hall : ∀ s ∈ [a, b], s.size = size0 [a, b] := by
    intro s hs'; simp at hs'
    rcases hs' with rfl | rfl
    · rfl
    · exact hs
  refine (rmix_any [a, b] [x, y] hall hn (by simp) _ _ _ r1 r2).mono ?_
  rintro e w' ⟨rfl, hb⟩
  exact ⟨rfl, (hb1.trans (hb2.mono (by omega))).trans (hb.mono (by simp; omega))⟩
end Go.Proofs.YtneebcniofolmaaGreatDoor
