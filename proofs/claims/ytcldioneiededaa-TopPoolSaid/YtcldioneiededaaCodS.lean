/- The walk of code.Sum: a sum of blocks, each so many times. -/
import Derived.Test.YtcldioneiededaaVecW
import Derived.Deep.DeepCutAuto
import Derived.Deep.CutBlock
namespace Go.Proofs.Ytcldioneiededaa
open Go.ChangeShapes Go.WideShapes Go.ChangeAt Go.RowKit
set_option linter.unusedVariables false
theorem bv_xor (a b : UInt8) : Value.int .u8 (bits .xor .u8 (a.toNat : Int) (b.toNat : Int)) = bv (a ^^^ b) := by
  rw [u8_xor_nat _ _ a.toNat_lt b.toNat_lt, ← Gf.xor_nat]
theorem mul_st (a b : UInt8) (w : World) : Calls Try.prog 59 #[.int .u8 a.toNat, .int .u8 b.toNat] w fun e w' => e = .returned (bv (Gf.mul a b)) ∧ w' = w :=
  (mul_any a b _ _ rfl rfl w).mono fun _ _ h => ⟨h.1, h.2.symm⟩
namespace Gv
/-- entry j of block i -/
def ent (ls : List ByteArray) (i j : Nat) : UInt8 := at' (ls.getD i ⟨#[]⟩).data.toList j
def txt (l : List UInt8) : ByteArray := ⟨l.toArray⟩
theorem txt_data (l : List UInt8) : (txt l).data.toList = l := by unfold txt; simp
theorem txt_size (l : List UInt8) : (txt l).size = l.length := by unfold txt; simp [ByteArray.size]
theorem txt_self (b : ByteArray) : txt b.data.toList = b := by unfold txt; cases b; simp
/-- the sum of blocks, each so many times -/
def sumS (ls : List ByteArray) (t : Nat → UInt8) : ByteArray := txt (comb (size0 ls) ls.length t (ent ls))
theorem sumS_size (ls : List ByteArray) (t : Nat → UInt8) : (sumS ls t).size = size0 ls := by unfold sumS; rw [txt_size, comb_len]
end Gv
def part (B n : Nat) (ls : List ByteArray) (ts : List UInt8) (k : Nat) : Nat → UInt8 := fun j => Gv.xsum k (fun i => Gf.mul (Gv.at' ts i) (Gv.ent ls i j))
def CSumRel (ls : List ByteArray) (ts : List UInt8) (w : World) (n m gk : Nat) (i : Value) (wr : World) : Prop :=
  ∃ k : Nat, k + gk = m ∧ i = iv k ∧ OwnB wr w.heap.size (.slice (some ⟨w.heap.size, 0, none⟩) n n) (Gv.tab n (part 0 n ls ts k)) ∧ Below w.heap.size w wr ∧ w.heap.size < wr.heap.size
def CSumIn (ls : List ByteArray) (ts : List UInt8) (w w2 : World) (n k gk : Nat) (i : Value) (wr : World) : Prop :=
  ∃ j : Nat, j + gk = n ∧ i = iv j ∧ OwnB wr w.heap.size (.slice (some ⟨w.heap.size, 0, none⟩) n n) (Gv.tab n (Gv.upto j (part 0 n ls ts (k + 1)) (part 0 n ls ts k))) ∧ Below w.heap.size w wr ∧ Kept (fun b => b = w.heap.size) w2 wr
def CSumPost (ls : List ByteArray) (ts : List UInt8) (w : World) (e : Ending) (w' : World) : Prop := e = .returned (.string (Gv.sumS ls (Gv.at' ts))) ∧ Below w.heap.size w w'
set_option maxRecDepth 100000 in
set_option maxHeartbeats 1000000 in
theorem csum_any (ls : List ByteArray) (ts : List UInt8) (hall : ∀ s ∈ ls, s.size = size0 ls) (hn : size0 ls ≤ 1000000) (hts : ls.length ≤ ts.length) (v vt : Value) (w : World) (hv : Strs w v ls) (ht : RowB w vt ts) :
    Calls Try.prog 46 #[v, vt] w (CSumPost ls ts w) := by
  have Hall := Lib.hid hall
  have Ht := Lib.hid ht
  obtain ⟨p, cap, rfl, hl, hc⟩ := hv.get
  have Hc := Lib.hid hc
  obtain ⟨pt, ct, rfl, htc, htm⟩ := ht.shape
  obtain ⟨m, hm⟩ : ∃ m, m = ls.length := ⟨_, rfl⟩
  obtain ⟨mt, hmt⟩ : ∃ m, m = ts.length := ⟨_, rfl⟩
  obtain ⟨n, hn0⟩ : ∃ n, n = size0 ls := ⟨_, rfl⟩
  rw [← hm] at hl hts ⊢
  rw [← hmt] at hts htc ⊢
  rw [← hn0] at hn
  unfold maxLen at htm
  have Hm := Lib.hid hm
  have Hmt := Lib.hid hmt
  have Hn0 := Lib.hid hn0
  by_cases h0 : m = 0
  · subst h0
    have he : Gv.sumS ls (Gv.at' ts) = ⟨#[]⟩ := by rw [List.eq_nil_of_length_eq_zero hm.symm]; rfl
    have He := Lib.hid he
    clear hall ht hv hc hm hmt hn0 he
    go_enter Try.func46, Try.ntmps46
    go_wp2_with fail
    go_ret
    exact ⟨by rw [He.out]; rfl, Below.refl _ _⟩
  · have hb0 : ((m : Int) == 0) = false := beq_f (by omega)
    obtain ⟨s0, hs0⟩ : ∃ s, ls[0]? = some s := ⟨ls[0]'(by omega), List.getElem?_eq_getElem _⟩
    obtain ⟨g, o, hp, c1, hg⟩ := hc 0 s0 hs0
    subst hp
    have hz0 : s0.size = n := by rw [hn0]; exact hall s0 (List.mem_of_getElem? hs0)
    have hm0 : (0 : Int) < (m : Int) := by omega
    have hm0' : 0 < m := by omega
    have mk := fun w => make_bytesV n hn w
    have HO := Lib.hid (owns_made n hn w)
    have HB := Lib.hid (show Below w.heap.size w (w.alloc (.cells (madeCells #[.int .u8 0] n) 5)) from (Below.refl _ _).alloc (Nat.le_refl _) _)
    have hcs : s0.size ≤ 1000000 := by omega
    rw [Nat.add_zero] at c1
    have Hz0 := Lib.hid hz0
    clear hall ht hv hc hm hmt hn0 hs0 h0
    go_enter Try.func46, Try.ntmps46
    go_wp2_with fail
    clear mk hz0
    go_loopg [20] m (fun gk i wr => CSumRel ls ts w n m gk i wr)
    case atStart => exact ⟨0, by omega, rfl, HO.out, HB.out, by simp⟩
    case round =>
      obtain ⟨k, hk, rfl, hO, hB, hzl⟩ := hrel
      have Hk := Lib.hid hk
      have HO := Lib.hid hO
      have HB := Lib.hid hB
      clear hk hO hB
      by_cases hlt : k < m
      · obtain ⟨s, hs⟩ : ∃ s, ls[k]? = some s := ⟨ls[k]'(by rw [← Hm.out]; exact hlt), List.getElem?_eq_getElem _⟩
        obtain ⟨g', o', hp', d1, hg'⟩ := Hc.out k s hs
        have e1 := (HB.out.cell (p := ⟨g', o' + k, none⟩) hg').trans d1
        injection hp' with hp'
        injection hp' with q1 q2
        subst q1 q2
        have hsz : s.size = n := by rw [Hn0.out]; exact Hall.out s (List.mem_of_getElem? hs)
        obtain ⟨capb, w2, hrun, hb2, hz2, hc2, hf2⟩ := conv_bytes wr s
        have hent : ∀ j, j < n → s.data.toList[j]? = some (Gv.ent ls k j) := by
          intro j hj
          unfold Gv.ent
          rw [List.getD_eq_getElem?_getD, hs]
          exact Gv.at_get? (by rw [Array.length_toList]; show j < s.size; omega)
        have Hc2 := Lib.hid (fun j (hj : j < n) => hc2 j _ (hent j hj))
        have HB2 := Lib.hid hb2
        have hz2' : wr.heap.size < w2.heap.size := by omega
        rw [hsz] at hrun
        have Hsz := Lib.hid hsz
        clear hs d1 hsz hb2 hc2 hf2 hent hz2 c1
        go_wp2_with fail
        obtain ⟨wk, rfl⟩ : ∃ wk : World, wk = wr := ⟨_, rfl⟩
        obtain ⟨gq, rfl⟩ : ∃ g, g = gk := ⟨_, rfl⟩
        go_loopg [28] n (fun gk i wq => CSumIn ls ts w w2 n k gk i wq)
        case atStart => exact ⟨0, by omega, rfl, by rw [Gv.upto_zero]; exact OwnR.below HO.out HB2.out, HB.out.trans (HB2.out.mono (by omega)), Kept.refl _ _⟩
        case round =>
          clear hrun e1
          obtain ⟨j, hj, rfl, hO, hB, hK⟩ := hrel
          have Hj := Lib.hid hj
          have HOj := Lib.hid hO
          have HBj := Lib.hid hB
          have HKj := Lib.hid hK
          clear hj hO hB hK
          by_cases hjn : j < n
          · have d2 := HKj.out.cell (Hc2.out j hjn) (by show ¬ wk.heap.size = w.heap.size; omega)
            obtain ⟨gt, ot, ct', hpt, hgt, _, _, ht1⟩ := Ht.out.cellAt (j := k) (by rw [← Hmt.out]; omega)
            injection hpt with q1 q8 q9
            subst q1
            clear q8 q9
            have d3 := (HBj.out.cell (p := ⟨gt, ot + k, none⟩) hgt).trans ht1
            obtain ⟨go', oo, co, hvo, _, hgo, _, _, ho1, hof⟩ := HOj.out.cellAt (j := j) (by rw [Gv.tab_len]; exact hjn)
            injection hvo with q1 q8 q9
            injection q1 with q1
            injection q1 with q1 q2
            subst q1 q2
            clear q8 q9
            rw [show Gv.at' (Gv.tab n (Gv.upto j (part 0 n ls ts (k + 1)) (part 0 n ls ts k))) j = part 0 n ls ts k j by unfold Gv.at'; rw [Gv.tab_at _ hjn, Gv.upto_at], Nat.zero_add] at ho1
            obtain ⟨a, ha⟩ : ∃ a, a = part 0 n ls ts k j := ⟨_, rfl⟩
            obtain ⟨t, hte⟩ : ∃ t, t = Gv.at' ts k := ⟨_, rfl⟩
            obtain ⟨c, hce⟩ : ∃ c, c = Gv.ent ls k j := ⟨_, rfl⟩
            rw [← ha] at ho1
            rw [← hte] at d3
            rw [← hce] at d2
            have HO2 : Hid (OwnB (wr.drew.setCell ⟨w.heap.size, j, none⟩ (bv (a ^^^ Gf.mul t c))) w.heap.size (.slice (some ⟨w.heap.size, 0, none⟩) n n) (Gv.tab n (Gv.upto (j + 1) (part 0 n ls ts (k + 1)) (part 0 n ls ts k)))) := Lib.hid (by
              have h1 := OwnB.setAt (OwnR.below HOj.out (Below.refl _ _).drew) (k := j) (by rw [Gv.tab_len]; exact hjn) (a ^^^ Gf.mul t c)
              have h2 : part 0 n ls ts (k + 1) j = a ^^^ Gf.mul t c := by rw [ha, hte, hce]; rfl
              rw [← h2, Nat.zero_add, Gv.upto_set, h2] at h1
              exact h1)
            have hw0 : w.heap.size ≤ w.heap.size := Nat.le_refl _
            have HB3 : Hid (Below w.heap.size w (wr.drew.setCell ⟨w.heap.size, j, none⟩ (bv (a ^^^ Gf.mul t c)))) := Lib.hid ((HBj.out.drew).setCell hw0 _)
            have HK3 := Lib.hid ((HKj.out.drew).setCell (p := ⟨w.heap.size, j, none⟩) (fun _ => rfl) (bv (a ^^^ Gf.mul t c)))
            clear ht1 ha hte hce hw0
            go_wp2_with fail
            have hkmt : k < mt := by omega
            go_still_tail 12, (by kernel_rfl)
            still_call (mul_st t c _)
            repeat still_step
            refine wpStill_nil ?_
            clear d2 d3
            go_wp2_with fail
            go_roundg (gk - 1)
            case measure => have := Hj.out; omega
            case rel => exact ⟨j + 1, by have := Hj.out; omega, by go_num, by rw [bv_xor]; exact HO2.out, by rw [bv_xor]; exact HB3.out, by rw [bv_xor]; exact HK3.out⟩
          · obtain rfl : j = n := by have := Hj.out; omega
            go_wp2_with fail
            go_roundg (gq - 1)
            case measure => have := Hk.out; omega
            case rel =>
              refine ⟨k + 1, by have := Hk.out; omega, by go_num, ?_, HBj.out, Nat.lt_of_lt_of_le (by omega) HKj.out.size⟩
              have := HOj.out
              rw [Gv.tab_upto] at this
              exact this
      · obtain rfl : k = m := by have := Hk.out; omega
        have hcv := conv_ownB wr _ _ _ HO.out
        have hres : (⟨(Gv.tab n (part 0 n ls ts k)).toArray⟩ : ByteArray) = Gv.sumS ls (Gv.at' ts) := by rw [Hm.out, Hn0.out]; rfl
        rw [hres] at hcv
        clear hres
        go_wp2_with fail
        go_ret
        exact ⟨rfl, HB.out⟩
end Go.Proofs.Ytcldioneiededaa
