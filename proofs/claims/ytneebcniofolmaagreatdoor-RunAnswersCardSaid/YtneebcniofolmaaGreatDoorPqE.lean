/- The walk of code.Sum: a sum of blocks, each so many times. · The walks of pq.many, pq.weights, pq.Of, pq.Encode. · The walk of pq.Encode. -/
import Derived.Test.YtneebcniofolmaaGreatDoorQuiD
import Derived.Deep.DeepCutAuto
import Derived.Deep.CutBlock
import Derived.RegionTactic
namespace Go.Proofs.YtneebcniofolmaaGreatDoor
open Go.ChangeShapes Go.WideShapes Go.ChangeAt Go.RowKit
set_option linter.unusedVariables false
theorem bv_xor (a b : UInt8) : Value.int .u8 (bits .xor .u8 (a.toNat : Int) (b.toNat : Int)) = bv (a ^^^ b) := by
  rw [u8_xor_nat _ _ a.toNat_lt b.toNat_lt, ← Gf.xor_nat]
theorem mul_st (a b : UInt8) (w : World) : Calls Tryz.prog 147 #[.int .u8 a.toNat, .int .u8 b.toNat] w fun e w' => e = .returned (bv (Gf.mul a b)) ∧ w' = w :=
  (mul_any a b _ _ rfl rfl w).mono fun _ _ h => ⟨h.1, h.2.symm⟩
namespace Gv
/-- entry j of block i -/
def ent (ls : List ByteArray) (i j : Nat) : UInt8 := at' (ls.getD i ⟨#[]⟩).data.toList j
def txt (l : List UInt8) : ByteArray := ⟨l.toArray⟩
theorem txt_data (l : List UInt8) : (txt l).data.toList = l := by unfold txt; simp
theorem txt_size (l : List UInt8) : (txt l).size = l.length := by unfold txt; simp [ByteArray.size]
theorem txt_self (b : ByteArray) : txt b.data.toList = b := by unfold txt; cases b; simp
/-- the sum of blocks, each so many times -/
def sumS (ls : List ByteArray) (t : Nat → UInt8) : ByteArray := txt (comb (size0 ls) ls.length t (ent ls))
theorem sumS_size (ls : List ByteArray) (t : Nat → UInt8) : (sumS ls t).size = size0 ls := by unfold sumS; rw [txt_size, comb_len]
end Gv
def part (B n : Nat) (ls : List ByteArray) (ts : List UInt8) (k : Nat) : Nat → UInt8 := fun j => Gv.xsum k (fun i => Gf.mul (Gv.at' ts i) (Gv.ent ls i j))
def CSumRel (ls : List ByteArray) (ts : List UInt8) (w : World) (n m gk : Nat) (i : Value) (wr : World) : Prop :=
  ∃ k : Nat, k + gk = m ∧ i = iv k ∧ OwnB wr w.heap.size (.slice (some ⟨w.heap.size, 0, none⟩) n n) (Gv.tab n (part 0 n ls ts k)) ∧ Below w.heap.size w wr ∧ w.heap.size < wr.heap.size
def CSumIn (ls : List ByteArray) (ts : List UInt8) (w w2 : World) (n k gk : Nat) (i : Value) (wr : World) : Prop :=
  ∃ j : Nat, j + gk = n ∧ i = iv j ∧ OwnB wr w.heap.size (.slice (some ⟨w.heap.size, 0, none⟩) n n) (Gv.tab n (Gv.upto j (part 0 n ls ts (k + 1)) (part 0 n ls ts k))) ∧ Below w.heap.size w wr ∧ Kept (fun b => b = w.heap.size) w2 wr
def CSumPost (ls : List ByteArray) (ts : List UInt8) (w : World) (e : Ending) (w' : World) : Prop := e = .returned (.string (Gv.sumS ls (Gv.at' ts))) ∧ Below w.heap.size w w'
set_option maxRecDepth 100000 in
set_option maxHeartbeats 1000000 in
theorem csum_any (ls : List ByteArray) (ts : List UInt8) (hall : ∀ s ∈ ls, s.size = size0 ls) (hn : size0 ls ≤ 1000000) (hts : ls.length ≤ ts.length) (v vt : Value) (w : World) (hv : Strs w v ls) (ht : RowB w vt ts) :
    Calls Tryz.prog 131 #[v, vt] w (CSumPost ls ts w) := by
  have Hall := Lib.hid hall
  have Ht := Lib.hid ht
  obtain ⟨p, cap, rfl, hl, hc⟩ := hv.get
  have Hc := Lib.hid hc
  obtain ⟨pt, ct, rfl, htc, htm⟩ := ht.shape
  obtain ⟨m, hm⟩ : ∃ m, m = ls.length := ⟨_, rfl⟩
  obtain ⟨mt, hmt⟩ : ∃ m, m = ts.length := ⟨_, rfl⟩
  obtain ⟨n, hn0⟩ : ∃ n, n = size0 ls := ⟨_, rfl⟩
  rw [← hm] at hl hts ⊢
  rw [← hmt] at hts htc ⊢
  rw [← hn0] at hn
  unfold maxLen at htm
  have Hm := Lib.hid hm
  have Hmt := Lib.hid hmt
  have Hn0 := Lib.hid hn0
  by_cases h0 : m = 0
  · subst h0
    have he : Gv.sumS ls (Gv.at' ts) = ⟨#[]⟩ := by rw [List.eq_nil_of_length_eq_zero hm.symm]; rfl
    have He := Lib.hid he
    clear hall ht hv hc hm hmt hn0 he
    go_enter Tryz.func131, Tryz.ntmps131
    go_wp2_with fail
    go_ret
    exact ⟨by rw [He.out]; rfl, Below.refl _ _⟩
  · have hb0 : ((m : Int) == 0) = false := beq_f (by omega)
    obtain ⟨s0, hs0⟩ : ∃ s, ls[0]? = some s := ⟨ls[0]'(by omega), List.getElem?_eq_getElem _⟩
    obtain ⟨g, o, hp, c1, hg⟩ := hc 0 s0 hs0
    subst hp
    have hz0 : s0.size = n := by rw [hn0]; exact hall s0 (List.mem_of_getElem? hs0)
    have hm0 : (0 : Int) < (m : Int) := by omega
    have hm0' : 0 < m := by omega
    have mk := fun w => make_bytesV n hn w
    have HO := Lib.hid (owns_made n hn w)
    have HB := Lib.hid (show Below w.heap.size w (w.alloc (.cells (madeCells #[.int .u8 0] n) 5)) from (Below.refl _ _).alloc (Nat.le_refl _) _)
    have hcs : s0.size ≤ 1000000 := by omega
    rw [Nat.add_zero] at c1
    have Hz0 := Lib.hid hz0
    clear hall ht hv hc hm hmt hn0 hs0 h0
    go_enter Tryz.func131, Tryz.ntmps131
    go_wp2_with fail
    clear mk hz0
    go_loopg [20] m (fun gk i wr => CSumRel ls ts w n m gk i wr)
    case atStart => exact ⟨0, by omega, rfl, HO.out, HB.out, by simp⟩
    case round =>
      obtain ⟨k, hk, rfl, hO, hB, hzl⟩ := hrel
      have Hk := Lib.hid hk
      have HO := Lib.hid hO
      have HB := Lib.hid hB
      clear hk hO hB
      by_cases hlt : k < m
      · obtain ⟨s, hs⟩ : ∃ s, ls[k]? = some s := ⟨ls[k]'(by rw [← Hm.out]; exact hlt), List.getElem?_eq_getElem _⟩
        obtain ⟨g', o', hp', d1, hg'⟩ := Hc.out k s hs
        have e1 := (HB.out.cell (p := ⟨g', o' + k, none⟩) hg').trans d1
        injection hp' with hp'
        injection hp' with q1 q2
        subst q1 q2
        have hsz : s.size = n := by rw [Hn0.out]; exact Hall.out s (List.mem_of_getElem? hs)
        obtain ⟨capb, w2, hrun, hb2, hz2, hc2, hf2⟩ := conv_bytes wr s
        have hent : ∀ j, j < n → s.data.toList[j]? = some (Gv.ent ls k j) := by
          intro j hj
          unfold Gv.ent
          rw [List.getD_eq_getElem?_getD, hs]
          exact Gv.at_get? (by rw [Array.length_toList]; show j < s.size; omega)
        have Hc2 := Lib.hid (fun j (hj : j < n) => hc2 j _ (hent j hj))
        have HB2 := Lib.hid hb2
        have hz2' : wr.heap.size < w2.heap.size := by omega
        rw [hsz] at hrun
        have Hsz := Lib.hid hsz
        clear hs d1 hsz hb2 hc2 hf2 hent hz2 c1
        go_wp2_with fail
        obtain ⟨wk, rfl⟩ : ∃ wk : World, wk = wr := ⟨_, rfl⟩
        obtain ⟨gq, rfl⟩ : ∃ g, g = gk := ⟨_, rfl⟩
        go_loopg [28] n (fun gk i wq => CSumIn ls ts w w2 n k gk i wq)
        case atStart => exact ⟨0, by omega, rfl, by rw [Gv.upto_zero]; exact OwnR.below HO.out HB2.out, HB.out.trans (HB2.out.mono (by omega)), Kept.refl _ _⟩
        case round =>
          clear hrun e1
          obtain ⟨j, hj, rfl, hO, hB, hK⟩ := hrel
          have Hj := Lib.hid hj
          have HOj := Lib.hid hO
          have HBj := Lib.hid hB
          have HKj := Lib.hid hK
          clear hj hO hB hK
          by_cases hjn : j < n
          · have d2 := HKj.out.cell (Hc2.out j hjn) (by show ¬ wk.heap.size = w.heap.size; omega)
            obtain ⟨gt, ot, ct', hpt, hgt, _, _, ht1⟩ := Ht.out.cellAt (j := k) (by rw [← Hmt.out]; omega)
            injection hpt with q1 q8 q9
            subst q1
            clear q8 q9
            have d3 := (HBj.out.cell (p := ⟨gt, ot + k, none⟩) hgt).trans ht1
            obtain ⟨go', oo, co, hvo, _, hgo, _, _, ho1, hof⟩ := HOj.out.cellAt (j := j) (by rw [Gv.tab_len]; exact hjn)
            injection hvo with q1 q8 q9
            injection q1 with q1
            injection q1 with q1 q2
            subst q1 q2
            clear q8 q9
            rw [show Gv.at' (Gv.tab n (Gv.upto j (part 0 n ls ts (k + 1)) (part 0 n ls ts k))) j = part 0 n ls ts k j by unfold Gv.at'; rw [Gv.tab_at _ hjn, Gv.upto_at], Nat.zero_add] at ho1
            obtain ⟨a, ha⟩ : ∃ a, a = part 0 n ls ts k j := ⟨_, rfl⟩
            obtain ⟨t, hte⟩ : ∃ t, t = Gv.at' ts k := ⟨_, rfl⟩
            obtain ⟨c, hce⟩ : ∃ c, c = Gv.ent ls k j := ⟨_, rfl⟩
            rw [← ha] at ho1
            rw [← hte] at d3
            rw [← hce] at d2
            have HO2 : Hid (OwnB (wr.drew.setCell ⟨w.heap.size, j, none⟩ (bv (a ^^^ Gf.mul t c))) w.heap.size (.slice (some ⟨w.heap.size, 0, none⟩) n n) (Gv.tab n (Gv.upto (j + 1) (part 0 n ls ts (k + 1)) (part 0 n ls ts k)))) := Lib.hid (by
              have h1 := OwnB.setAt (OwnR.below HOj.out (Below.refl _ _).drew) (k := j) (by rw [Gv.tab_len]; exact hjn) (a ^^^ Gf.mul t c)
              have h2 : part 0 n ls ts (k + 1) j = a ^^^ Gf.mul t c := by rw [ha, hte, hce]; rfl
              rw [← h2, Nat.zero_add, Gv.upto_set, h2] at h1
              exact h1)
            have hw0 : w.heap.size ≤ w.heap.size := Nat.le_refl _
            have HB3 : Hid (Below w.heap.size w (wr.drew.setCell ⟨w.heap.size, j, none⟩ (bv (a ^^^ Gf.mul t c)))) := Lib.hid ((HBj.out.drew).setCell hw0 _)
            have HK3 := Lib.hid ((HKj.out.drew).setCell (p := ⟨w.heap.size, j, none⟩) (fun _ => rfl) (bv (a ^^^ Gf.mul t c)))
            clear ht1 ha hte hce hw0
            go_wp2_with fail
            have hkmt : k < mt := by omega
            go_still_tail 12, (by kernel_rfl)
            still_call (mul_st t c _)
            repeat still_step
            refine wpStill_nil ?_
            clear d2 d3
            go_wp2_with fail
            go_roundg (gk - 1)
            case measure => have := Hj.out; omega
            case rel => exact ⟨j + 1, by have := Hj.out; omega, by go_num, by rw [bv_xor]; exact HO2.out, by rw [bv_xor]; exact HB3.out, by rw [bv_xor]; exact HK3.out⟩
          · obtain rfl : j = n := by have := Hj.out; omega
            go_wp2_with fail
            go_roundg (gq - 1)
            case measure => have := Hk.out; omega
            case rel =>
              refine ⟨k + 1, by have := Hk.out; omega, by go_num, ?_, HBj.out, Nat.lt_of_lt_of_le (by omega) HKj.out.size⟩
              have := HOj.out
              rw [Gv.tab_upto] at this
              exact this
      · obtain rfl : k = m := by have := Hk.out; omega
        have hcv := conv_ownB wr _ _ _ HO.out
        have hres : (⟨(Gv.tab n (part 0 n ls ts k)).toArray⟩ : ByteArray) = Gv.sumS ls (Gv.at' ts) := by rw [Hm.out, Hn0.out]; rfl
        rw [hres] at hcv
        clear hres
        go_wp2_with fail
        go_ret
        exact ⟨rfl, HB.out⟩
end Go.Proofs.YtneebcniofolmaaGreatDoor
namespace Go.Proofs.YtneebcniofolmaaGreatDoor
open Go.ChangeShapes Go.WideShapes Go.ChangeAt Go.RowKit
set_option linter.unusedVariables false
namespace Gv
theorem sumS_congr {ls : List ByteArray} {t u : Nat → UInt8} (h : ∀ i, i < ls.length → t i = u i) : sumS ls t = sumS ls u := by
  unfold sumS comb
  refine congrArg txt (tab_ext (fun j _ => xsum_congr (fun i hi => by rw [h i hi])))
def P (ls : List ByteArray) : ByteArray := sumS ls (fun _ => 1)
def Q (ls : List ByteArray) : ByteArray := sumS ls (fun i => Gf.pow 2 i)
end Gv
def manyB (n : Int) : Bool := decide (2 < n) && decide (n ≤ 12)
theorem many_any (n : Int) (w : World) :
    Calls Tryz.prog 127 #[iv n] w fun e w' => e = .returned (.bool (manyB n)) ∧ w = w' := by
  by_cases h1 : 2 < n
  · have d1 := dec_t h1
    by_cases h2 : n ≤ 12
    · have d2 := dec_t h2
      have h : manyB n = true := by unfold manyB; rw [d1, d2]; rfl
      rw [h]
      clear h h1 h2
      go_enter Tryz.func127, Tryz.ntmps127
      go_wp2_with fail
      go_ret
      exact ⟨rfl, rfl⟩
    · have d2 := dec_f h2
      have h : manyB n = false := by unfold manyB; rw [d1, d2]; rfl
      rw [h]
      clear h h1 h2
      go_enter Tryz.func127, Tryz.ntmps127
      go_wp2_with fail
      go_ret
      exact ⟨rfl, rfl⟩
  · have d1 := dec_f h1
    have h : manyB n = false := by unfold manyB; rw [d1]; rfl
    rw [h]
    clear h h1
    go_enter Tryz.func127, Tryz.ntmps127
    go_wp2_with fail
    go_ret
    exact ⟨rfl, rfl⟩
def WgtRel (w : World) (g h n m gk : Nat) (i : Value) (wr : World) : Prop :=
  ∃ k : Nat, k + gk = n ∧ i = iv k ∧ OwnB wr w.heap.size (.slice (some ⟨g, 0, none⟩) n n) (Gv.tab n (Gv.upto k (fun _ => 1) (fun _ => 0))) ∧ OwnB wr w.heap.size (.slice (some ⟨h, 0, none⟩) n n) (Gv.tab n (Gv.upto k (fun i => Gf.pow 2 i) (fun _ => 0))) ∧ Below w.heap.size w wr
def WgtPost (n : Nat) (w : World) (e : Ending) (w' : World) : Prop :=
  ∃ v1 v2, e = .returned (.tuple #[v1, v2]) ∧ OwnB w' w.heap.size v1 (Gv.tab n (fun _ => 1)) ∧ OwnB w' w.heap.size v2 (Gv.tab n (fun i => Gf.pow 2 i)) ∧ Below w.heap.size w w'
theorem OwnB.other {w : World} {base g i : Nat} {v : Value} {l : List UInt8} {u : Value} (h : OwnB w base v l) (hv : v.ownBlock ≠ some g) : OwnB (w.setCell ⟨g, i, none⟩ u) base v l :=
  OwnR.kept h ((Kept.self g w).set1 i u) (fun k hk e => hv (by rw [hk, e]))
set_option maxRecDepth 100000 in
theorem weights_any (n : Nat) (hn : n ≤ 1000) (w : World) :
    Calls Tryz.prog 130 #[iv n] w (WgtPost n w) := by
  have mk := fun w => make_bytesV n (by omega) w
  have hz : ∀ (W : World) (o : Obj), (W.alloc o).heap.size = W.heap.size + 1 := fun W o => by simp
  have HO := Lib.hid (fun W => owns_made n (by omega) W)
  go_enter Tryz.func130, Tryz.ntmps130
  go_upto_region 2 with (fail)
  go_cut [4, 5] (fun a b wq => ∃ wk g h, wk = wq ∧ a = .slice (some ⟨g, 0, none⟩) n n ∧ b = .slice (some ⟨h, 0, none⟩) n n ∧ g ≠ h ∧ OwnB wk w.heap.size (.slice (some ⟨g, 0, none⟩) n n) (Gv.tab n (fun _ => 0)) ∧ OwnB wk w.heap.size (.slice (some ⟨h, 0, none⟩) n n) (Gv.tab n (fun _ => 0)) ∧ Below w.heap.size w wk)
  case first =>
    have HO1 := Lib.hid (show ∀ W : World, Below W.heap.size W (W.alloc (.cells (madeCells #[.int .u8 0] n) 5)) from fun W => (Below.refl _ _).alloc (Nat.le_refl _) _)
    have Hz := Lib.hid hz
    clear hz
    go_region
    · go_wp2_with fail
      go_meet
      refine ⟨_, _, _, rfl, rfl, rfl, by simp, ?_, ?_, ?_⟩
      · exact OwnR.below (OwnR.below (HO.out w) (HO1.out _)) (Below.refl _ _).drew
      · have h2 := HO.out (w.alloc (.cells (madeCells #[.int .u8 0] n) 5)); rw [Hz.out] at h2; exact OwnR.below (OwnR.mono h2 (by omega)) (Below.refl _ _).drew
      · exact ((HO1.out w).trans ((HO1.out _).mono (by rw [Hz.out]; omega))).drew
    · go_wp2_with fail
      go_meet
      refine ⟨_, _, _, rfl, rfl, rfl, by simp, ?_, ?_, ?_⟩
      · have h2 := HO.out (w.alloc (.cells (madeCells #[.int .u8 0] n) 5)); rw [Hz.out] at h2; exact OwnR.below (OwnR.mono h2 (by omega)) (Below.refl _ _).drew
      · exact OwnR.below (OwnR.below (HO.out w) (HO1.out _)) (Below.refl _ _).drew
      · exact ((HO1.out w).trans ((HO1.out _).mono (by rw [Hz.out]; omega))).drew
  case rest =>
    obtain ⟨wk, g, h, rfl, rfl, rfl, hgh, h1, h2, hB⟩ := hcut
    have H1 := Lib.hid h1
    have H2 := Lib.hid h2
    have HB := Lib.hid hB
    have Hgh := Lib.hid hgh
    clear h1 h2 hB mk hz hgh
    go_wp2_with fail
    go_loopg [12] n (fun gk i wr => WgtRel w g h n 0 gk i wr)
    case atStart => exact ⟨0, by omega, rfl, by rw [Gv.upto_zero]; exact H1.out, by rw [Gv.upto_zero]; exact H2.out, HB.out⟩
    case round =>
      obtain ⟨k, hk, rfl, hO1, hO2, hB⟩ := hrel
      have Hk := Lib.hid hk
      have HO1 := Lib.hid hO1
      have HO2 := Lib.hid hO2
      have HB1 := Lib.hid hB
      clear hk hO1 hO2 hB
      by_cases hlt : k < n
      · obtain ⟨g', o', c', hv, hbg, _, _, _, c1, f1⟩ := HO1.out.cellAt (j := k) (by rw [Gv.tab_len]; exact hlt)
        injection hv with q1 q8 q9
        injection q1 with q1
        injection q1 with q1 q2
        subst q1 q2
        clear q8 q9
        obtain ⟨h', o', c', hv, hbh, _, _, _, c2, f2⟩ := HO2.out.cellAt (j := k) (by rw [Gv.tab_len]; exact hlt)
        injection hv with q1 q8 q9
        injection q1 with q1
        injection q1 with q1 q2
        subst q1 q2
        clear q8 q9
        rw [Nat.zero_add] at c1 c2
        have e1 := OwnB.setAt HO1.out (k := k) (by rw [Gv.tab_len]; exact hlt) 1
        have e2 := OwnB.setAt (HO2.out.other (g := g) (i := 0 + k) (u := bv 1) (by intro e; exact Hgh.out (Option.some.inj e).symm)) (k := k) (by rw [Gv.tab_len]; exact hlt) (Gf.pow 2 k)
        have e3 := OwnB.other (g := h) (i := 0 + k) (u := bv (Gf.pow 2 k)) e1 (by intro e; exact Hgh.out (Option.some.inj e))
        have s1 := Gv.upto_set (n := n) (k := k) (fun _ => 1) (fun _ => 0)
        have s2 := Gv.upto_set (n := n) (k := k) (fun i => Gf.pow 2 i) (fun _ => 0)
        rw [s1] at e3
        rw [s2] at e2
        rw [Nat.zero_add] at e2 e3
        have HE2 := Lib.hid e2
        have HE3 := Lib.hid e3
        have HB3 := Lib.hid ((HB1.out.setCell (p := ⟨g, k, none⟩) hbg (bv 1)).setCell (p := ⟨h, k, none⟩) hbh (bv (Gf.pow 2 k)))
        have hgh1 : g ≠ h := Hgh.out
        have HP := Lib.hid (power_any 2 k 2 k rfl rfl (by omega) wr)
        clear e1 e2 e3 s1 s2
        go_wp2_with fail
        refine HP.out.mono ?_
        rintro e w' ⟨rfl, rfl⟩
        go_wp2_with fail
        go_roundg (gk - 1)
        case measure => have := Hk.out; omega
        case rel => exact ⟨k + 1, by have := Hk.out; omega, by go_num, HE3.out, HE2.out, HB3.out⟩
      · obtain rfl : k = n := by have := Hk.out; omega
        have E1 := HO1.out
        have E2 := HO2.out
        rw [Gv.tab_upto] at E1 E2
        have HE1 := Lib.hid E1
        have HE2 := Lib.hid E2
        clear E1 E2
        go_wp2_with fail
        go_ret2
        exact ⟨_, _, rfl, HE1.out, HE2.out, HB1.out⟩
theorem OwnB.row {w : World} {base : Nat} {v : Value} {l : List UInt8} (h : OwnB w base v l) : RowB w v l := OwnR.row h
def OfPost (ls : List ByteArray) (w : World) (e : Ending) (w' : World) : Prop := e = .returned (.tuple #[.string (Gv.P ls), .string (Gv.Q ls)]) ∧ Below w.heap.size w w'
theorem of_any (ls : List ByteArray) (hall : ∀ s ∈ ls, s.size = size0 ls) (hn : size0 ls ≤ 1000000) (hl : ls.length ≤ 1000) (v : Value) (w : World) (hv : Strs w v ls) :
    Calls Tryz.prog 103 #[v] w (OfPost ls w) := by
  have Hv := Lib.hid hv
  have Hall := Lib.hid hall
  obtain ⟨p, cap, rfl, hl0, hc⟩ := hv.get
  have Hc := Lib.hid hc
  obtain ⟨m, hm⟩ : ∃ m, m = ls.length := ⟨_, rfl⟩
  have HW := Lib.hid (weights_any ls.length hl w)
  have e1 : Gv.sumS ls (Gv.at' (Gv.tab ls.length (fun _ => 1))) = Gv.P ls := Gv.sumS_congr (fun i hi => Gv.tab_at _ hi)
  have e2 : Gv.sumS ls (Gv.at' (Gv.tab ls.length (fun i => Gf.pow 2 i))) = Gv.Q ls := Gv.sumS_congr (fun i hi => Gv.tab_at _ hi)
  have E1 := Lib.hid e1
  have E2 := Lib.hid e2
  rw [← hm] at hl0 HW ⊢
  have Hm := Lib.hid hm
  clear hall hv hc hl hm e1 e2
  go_enter Tryz.func103, Tryz.ntmps103
  go_wp2_with fail
  refine HW.out.mono ?_
  rintro e w1 ⟨v1, v2, rfl, h1, h2, hb⟩
  have HB := Lib.hid hb
  have Hr2 := Lib.hid h2
  have hc1 := csum_any ls _ Hall.out hn (by rw [Gv.tab_len, ← Hm.out]; exact Nat.le_refl _) _ _ w1 (Hv.out.below hb) h1.row
  unfold CSumPost at hc1
  rw [Hm.out, E1.out, ← Hm.out] at hc1
  have HC1 := Lib.hid hc1
  have hz := hb.size
  clear h1 h2 hb hc1 HW
  go_wp2_with fail
  refine HC1.out.mono ?_
  rintro e w2 ⟨rfl, hb2⟩
  have HB2 := Lib.hid (HB.out.trans (hb2.mono hz))
  have hz2 := HB2.out.size
  have hc2 := csum_any ls _ Hall.out hn (by rw [Gv.tab_len, ← Hm.out]; exact Nat.le_refl _) _ _ w2 (Hv.out.below HB2.out) (Hr2.out.row.below hb2)
  unfold CSumPost at hc2
  rw [Hm.out, E2.out, ← Hm.out] at hc2
  have HC2 := Lib.hid hc2
  clear hb2 hc2 HC1
  go_wp2_with fail
  refine HC2.out.mono ?_
  rintro e w3 ⟨rfl, hb3⟩
  have HB3 := Lib.hid (HB2.out.trans (hb3.mono hz2))
  clear hb3 HC2
  go_wp2_with fail
  go_ret2
  exact ⟨rfl, HB3.out⟩
end Go.Proofs.YtneebcniofolmaaGreatDoor
namespace Go.Proofs.YtneebcniofolmaaGreatDoor
open Go.ChangeShapes Go.WideShapes Go.ChangeAt Go.RowKit
set_option linter.unusedVariables false
namespace Gv
/-- what is wrong with data for P and Q -/
def pqF (ls : List ByteArray) : Int := if manyB ((ls.length : Int) + 2) then blkF ls else 1
end Gv
def EncPost (ls : List ByteArray) (w : World) (e : Ending) (w' : World) : Prop :=
  (if Gv.pqF ls = 0 then e = .returned (.tuple #[.string (Gv.P ls), .string (Gv.Q ls), .nilIface]) else e = .returned (.tuple #[.string ⟨#[]⟩, .string ⟨#[]⟩, errV (Gv.pqF ls)])) ∧ Below w.heap.size w w'
end Go.Proofs.YtneebcniofolmaaGreatDoor
