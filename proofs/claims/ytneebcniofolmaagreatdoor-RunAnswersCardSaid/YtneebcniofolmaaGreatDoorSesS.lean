/- A region that draws its order, whose first operations only read or draw, and whose tail stands in one forced order: one walk in the text's order serves. · The walk of paritysame.Spots at two lists that are the same. · The walk of desk.scrub. -/
import Derived.StillTail
import Derived.BigQuiet
import Derived.Test.YtneebcniofolmaaGreatDoorLift
import Derived.Test.YtneebcniofolmaaGreatDoorScrA
import Derived.Laws.StructEq
import Derived.Test.YtneebcniofolmaaGreatDoorRunT
import Derived.Test.YtneebcniofolmaaGreatDoorRunN
import Derived.Test.YtneebcniofolmaaGreatDoorSesP
namespace Go.Proofs.YtneebcniofolmaaGreatDoor
set_option linter.unusedVariables false
section
variable {P : Program} {ops : Array Oper} {md : Region.Mode} {C : World → Prop}
def wpAnyT (P : Program) (md : Region.Mode) (ops : Array Oper) (C : World → Prop) (n : Nat) (L : Array Bool → Act → Prop) : Nat → Array Bool → Act → Prop
  | 0, listed, a => L listed a
  | f + 1, listed, a =>
    Region.ready md ops listed ≠ [] ∧ ∀ i ∈ Region.ready md ops listed, i < n ∧ qOp P ops C i (wpAnyT P md ops C n L f (listed.setIfInBounds i true)) a
theorem wpAny_of_headT {n g : Nat} {L : Array Bool → Act → Prop} {Q' : Exit → Act → World → Prop} (hL : ∀ listed a w, C w → L listed a → wpAny P md ops Q' g listed a w) :
    ∀ (f : Nat) (listed : Array Bool) (a : Act) (w : World), C w → wpAnyT P md ops C n L f listed a → wpAny P md ops Q' (f + g) listed a w
  | 0, listed, a, w, hw, h => by rw [Nat.zero_add]; exact hL _ _ _ hw h
  | f + 1, listed, a, w, hw, h => by
    rw [show f + 1 + g = (f + g) + 1 by omega]
    exact ⟨fun h0 => absurd h0 h.1, fun i hi => wpOp_of_qOp hw (fun a' w' hw' h' => wpAny_of_headT hL f _ a' w' hw' h') (h.2 i hi).2⟩
theorem wpAnyT_first {n i : Nat} {oi : Oper} {v : Value} {L : Array Bool → Act → Prop} (hi : ops[i]? = some oi) (hsel : ∀ (j : Nat) (o : Oper) cs b, ops[j]? = some o → o.op ≠ .select cs b)
    (hs : Region.sinkB md ops n = true) (hc : Region.chainB md ops n = true) (hn : n < ops.size) (hin : i < n)
    (hdone : ∀ listed a, L listed a → ∀ j ∈ Region.ready md ops listed, n ≤ j) :
    ∀ (f : Nat) (listed : Array Bool) (a : Act), HeadInv md ops n listed →
      (∀ j oj, ops[j]? = some oj → j ≠ i → listed.getD j true = false → (∀ e ∈ oj.after, Region.binds md e = true → e.on ≠ i) → oi.apart ops oj = true) →
      i ∈ Region.ready md ops listed → YieldsIn P ops C oi v a →
      wpAnyT P md ops C n L f (listed.setIfInBounds i true) (a.put oi.dst v) → wpAnyT P md ops C n L (f + 1) listed a := by
  intro f
  induction f with
  | zero =>
    intro listed a inv _ hr hy H
    have hun := (mem_ready.1 hr).1
    refine ⟨fun h => (by rw [h] at hr; cases hr), fun j hj => ?_⟩
    have hjn : j < n := by
      rcases Nat.lt_or_ge j n with h | h
      · exact h
      · exact absurd hj (tail_waits hs hc hn inv _ i rfl hin hun j h)
    refine ⟨hjn, ?_⟩
    by_cases hji : j = i
    · subst hji; exact hy.qOp hi H
    · have := hdone _ _ H j (ready_mono hj hji)
      omega
  | succ f ih =>
    intro listed a inv hfree hr hy H
    have hun := (mem_ready.1 hr).1
    refine ⟨fun h => (by rw [h] at hr; cases hr), fun j hj => ?_⟩
    have hjn : j < n := by
      rcases Nat.lt_or_ge j n with h | h
      · exact h
      · exact absurd hj (tail_waits hs hc hn inv _ i rfl hin hun j h)
    refine ⟨hjn, ?_⟩
    by_cases hji : j = i
    · subst hji; exact hy.qOp hi H
    · have h1 := (H.2 j (ready_mono hj hji)).2
      obtain ⟨hjun, oj, hoj, hall⟩ := mem_ready.1 hj
      have hnot : ∀ e ∈ oj.after, Region.binds md e = true → e.on ≠ i := fun e he hb heq => by
        have h1 := hall e he hb
        rw [heq, getD_both hun] at h1
        cases h1
      have h2 := qOp_put hoj (hfree j oj hoj hji hjun hnot) (fun cs b => hsel i oi cs b hi) (fun cs b => hsel j oj cs b hoj) hy h1
      have hfree' : ∀ k ok, ops[k]? = some ok → k ≠ i → (listed.setIfInBounds j true).getD k true = false →
          (∀ e ∈ ok.after, Region.binds md e = true → e.on ≠ i) → oi.apart ops ok = true := fun k ok hk hki hun hno => by
        refine hfree k ok hk hki ?_ hno
        by_cases hjk : j = k
        · subst hjk; exact hjun
        · rw [getD_set_ne true hjk] at hun; exact hun
      refine qOp_mono (fun a' h3 => ih (listed.setIfInBounds j true) a' (inv.set hj hjn) hfree' (ready_mono hr (Ne.symm hji)) h3.1 ?_) h2
      rw [Array.setIfInBounds_comm _ _ hji]
      exact h3.2
theorem wpAnyT_lex {n g : Nat} {Lq : Act → Prop} (hsel : Region.noSelect ops = true) (hs : Region.sinkB md ops n = true) (hc : Region.chainB md ops n = true) (hn : n < ops.size) :
    ∀ (l : List Oper) (k : Nat) (listed : Array Bool) (a : Act), (∀ j, j < l.length → l[j]? = ops[k + j]?) → k + l.length = n → HeadInv md ops n listed →
    Region.lexHead md ops g l.length k listed = true → wpQuiet P ops C Lq l a →
    wpAnyT P md ops C n (fun listed' a' => Region.seqB md ops g n listed' = true ∧ Lq a') l.length listed a
  | [], k, listed, a, _, hk, _, hB, h => by
    have : k = n := by simpa using hk
    subst this
    exact ⟨by simpa [Region.lexHead] using hB, h⟩
  | o :: l, k, listed, a, hl, hk, inv, hB, h => by
    have h0 : ops[k]? = some o := by simpa using (hl 0 (by simp)).symm
    simp only [List.length_cons, Region.lexHead, Bool.and_eq_true] at hB
    obtain ⟨⟨hr, hf⟩, hB'⟩ := hB
    have hkn : k < n := by simp only [List.length_cons] at hk; omega
    have hr' : k ∈ Region.ready md ops listed := by simpa using hr
    have hst : qOp P ops C k (wpQuiet P ops C Lq l) a := by unfold qOp; simp only [h0]; exact h
    obtain ⟨v, hy, hK⟩ := yieldsIn_of_qOp h0 hst
    exact wpAnyT_first h0 (Region.noSelect_spec hsel) hs hc hn hkn (fun listed' a' hL => seqB_ready hL.1) l.length listed a inv (Region.free_spec h0 hf) hr' hy
      (wpAnyT_lex hsel hs hc hn l (k + 1) _ _ (fun j hj => by have := hl (j + 1) (by simp; omega); simpa [Nat.add_assoc, Nat.add_comm 1 j] using this) (by simp only [List.length_cons] at hk; omega) (inv.set hr' hkn) hB' hK)
theorem wp_region_quiet_tail {id : Nat} {Q : Exit → Act → World → Prop} {a : Act} {w : World} {l : List Oper} (n : Nat) (hm : P.follows .mixedOrders = true) (hB : Region.lexTailB .any l.toArray n = true)
    (h : wpQuiet P l.toArray (fun w' => ∃ k, w' = w.drewN k) (fun a' => ∀ w', (∃ k, w' = w.drewN k) → wpList P l.toArray Q (l.drop n) a' w') (l.take n) a) : (Code.region id l.toArray true).wp P Q a w := by
  simp only [Region.lexTailB, Bool.and_eq_true, decide_eq_true_eq] at hB
  obtain ⟨⟨⟨⟨hsel, hn⟩, hs⟩, hc⟩, hlex⟩ := hB
  have hn' : n < l.length := by simpa using hn
  have htl : (l.take n).length = n := by simp; omega
  have hdl : (l.drop n).length = l.toArray.size - n := by simp
  have inv0 : HeadInv .any l.toArray n (Array.replicate l.toArray.size false) :=
    ⟨by simp, fun j oj _ hl => (by rw [getD_replicate_false] at hl; cases hl), fun t _ ht => getD_in (by simpa using ht) (getD_replicate_false _ _)⟩
  have H := wpAnyT_lex (md := .any) (g := l.toArray.size - n) hsel hs hc hn (l.take n) 0 _ a (fun j hj => by
    have hj' : j < n := by rw [htl] at hj; exact hj
    simp [hj']) (by simpa using htl) inv0 (by rw [htl]; exact hlex) h
  refine wp_region_any hm ?_
  have := wpAny_of_headT (Q' := Q) (g := l.toArray.size - n) (fun listed a' w' hw' hL => by
    have := wpAny_of_seq (md := .any) (Q' := Q) (l.drop n) n listed a' w' (fun j => by simp [List.getElem?_drop]) (by rw [hdl]; exact hL.1) (hL.2 w' hw')
    rwa [hdl] at this) _ _ _ { w with drawn := w.drawn + 1 } ⟨1, rfl⟩ H
  rw [htl, show n + (l.toArray.size - n) = l.toArray.size by omega] at this
  exact this
end
end Go.Proofs.YtneebcniofolmaaGreatDoor
namespace Go.Proofs.YtneebcniofolmaaGreatDoor
open Go.ChangeShapes Go.WideShapes Go.ChangeAt Go.RowKit
set_option linter.unusedVariables false
theorem spc_len (l : List (Nat × Nat)) : (spc l).length = l.length * 2 := by
  induction l with
  | nil => rfl
  | cons x l ih => show ([iv x.1, iv x.2] ++ spc l).length = _; rw [List.length_append, ih]; simp; omega
theorem spc_at : ∀ (l : List (Nat × Nat)) (j : Nat) (x : Nat × Nat), l[j]? = some x → (spc l)[j * 2]? = some (iv x.1) ∧ (spc l)[j * 2 + 1]? = some (iv x.2)
  | [], j, x, h => by simp at h
  | y :: l, 0, x, h => by
    simp at h
    subst h
    exact ⟨rfl, rfl⟩
  | y :: l, j + 1, x, h => by
    simp at h
    have := spc_at l j x h
    have e : spc (y :: l) = [iv y.1, iv y.2] ++ spc l := rfl
    rw [e, List.getElem?_append_right (by simp; omega), List.getElem?_append_right (by simp; omega)]
    have e1 : (j + 1) * 2 - [iv y.1, iv y.2].length = j * 2 := by simp; omega
    have e2 : (j + 1) * 2 + 1 - [iv y.1, iv y.2].length = j * 2 + 1 := by simp; omega
    rw [e1, e2]; exact this
def RowSp (w : World) (v : Value) (l : List (Nat × Nat)) : Prop :=
  ∃ p cap, v = .slice p l.length cap ∧ l.length ≤ 9223372036854775807 ∧ ∀ (j : Nat) (x : Nat × Nat), l[j]? = some x → ∃ g off, p = some ⟨g, off, none⟩ ∧ g < w.heap.size ∧ w.cell? ⟨g, off + j * 2, none⟩ = some (iv x.1) ∧ w.cell? ⟨g, off + j * 2 + 1, none⟩ = some (iv x.2)
theorem rowSp_of {w : World} {base n : Nat} {v : Value} {l : List (Nat × Nat)} (h : w.ownsRow base 163 2 v n (spc l)) (hn : l.length = n) (h1 : n ≤ 1000) : RowSp w v l := by
  rcases h.2 with ⟨rfl, h0⟩ | ⟨g, cap, cur, rfl, hb, hg, hnc, hcm, hcs, ht⟩
  · have hnil : l = [] := List.eq_nil_of_length_eq_zero (by omega)
    subst hnil
    exact ⟨none, 0, rfl, by simp, fun j x hj => by simp at hj⟩
  · refine ⟨some ⟨g, 0, none⟩, cap, by rw [hn], by omega, fun j x hj => ?_⟩
    have hjl := (List.getElem?_eq_some_iff.1 hj).1
    have hc := spc_at l j x hj
    refine ⟨g, 0, rfl, (Array.getElem?_eq_some_iff.1 hg).1, ?_, ?_⟩
    · rw [Nat.zero_add, h.cellAt _ (by omega)]; exact hc.1
    · rw [Nat.zero_add, h.cellAt _ (by omega)]; exact hc.2
end Go.Proofs.YtneebcniofolmaaGreatDoor
namespace Go.Proofs.YtneebcniofolmaaGreatDoor
open Go.ChangeShapes Go.WideShapes Go.ChangeAt Go.RowKit
set_option linter.unusedVariables false
set_option maxHeartbeats 4000000
set_option maxRecDepth 100000
theorem Ar.S.scrubAt_lt (s : Ar.S) (h : 0 < s.n) (r : Nat) : (s.scrubAt r).1.1 < (s.n : Int) := by
  unfold Ar.S.scrubAt
  split
  · show (0 : Int) < _; omega
  · split
    · show (-1 : Int) < _; omega
    · split
      · show (0 : Int) < _; omega
      · rename_i i hi
        have := Ar.dk_lt (n := s.n) (row := r) (j := i) h
        show ((Ar.dk s.n r i : Nat) : Int) < _
        omega
theorem Ar.S.scrubTo_bd (s : Ar.S) (h : 0 < s.n) : ∀ k, ∀ x ∈ (s.scrubTo k).2, x.1 < s.n ∧ x.2 < k
  | 0, x, hx => by cases hx
  | k + 1, x, hx => by
    have ih := Ar.S.scrubTo_bd s h k
    have hs := Ar.S.scrubTo_same s k
    have hl := Ar.S.scrubAt_lt (s.scrubTo k).1 (by rw [hs.1]; exact h) k
    rw [hs.1] at hl
    have hx2 : x ∈ (if ((s.scrubTo k).1.scrubAt k).1.2 = 0 ∧ 0 ≤ ((s.scrubTo k).1.scrubAt k).1.1 then (s.scrubTo k).2 ++ [(((s.scrubTo k).1.scrubAt k).1.1.toNat, k)] else (s.scrubTo k).2) := hx
    split at hx2
    · rename_i hc
      rcases List.mem_append.1 hx2 with hx2 | hx2
      · have := ih x hx2; exact ⟨this.1, by omega⟩
      · rw [List.mem_singleton.1 hx2]
        exact ⟨by show ((s.scrubTo k).1.scrubAt k).1.1.toNat < s.n; omega, by show k < k + 1; omega⟩
    · have := ih x hx2; exact ⟨this.1, by omega⟩
namespace Ru
theorem inter_len : ∀ l : List (List UInt8), (∀ x ∈ l, x.length ≤ 9) → ([32].intercalate l).length ≤ 10 * l.length
  | [], _ => by simp [List.intercalate]
  | [x], h => by
    have := h x (by simp)
    have e : [32].intercalate [x] = x := by simp [List.intercalate]
    rw [e]; simp; omega
  | x :: y :: l, h => by
    have ih := inter_len (y :: l) (fun z hz => h z (List.mem_cons_of_mem _ hz))
    have hx := h x (by simp)
    have e : [32].intercalate (x :: y :: l) = x ++ (32 :: [32].intercalate (y :: l)) := by simp [List.intercalate, List.intersperse]
    rw [e, List.length_append, List.length_cons]
    simp only [List.length_cons] at ih ⊢
    omega
theorem spots_len (l : List (Nat × Nat)) (hl : l.length ≤ 4) (hb : ∀ x ∈ l, x.1 < 100 ∧ x.2 < 100) : (spotsT l).length ≤ 40 := by
  unfold spotsT
  split
  · decide
  · have := inter_len (l.map spotT) (fun x hx => by
      obtain ⟨y, hy, rfl⟩ := List.mem_map.1 hx
      have h1 := dec_len y.1 (hb y hy).1
      have h2 := dec_len y.2 (hb y hy).2
      unfold spotT
      simp; omega)
    rw [List.length_map] at this
    omega
end Ru
/-- what a line of the desk answers, and what the array is then -/
def DeskPost (F : Nat → Prop) (K b : Nat) (r : (List UInt8 × Int) × Ar.S) (w : World) (e : Ending) (w' : World) : Prop :=
  e = .returned (.tuple #[strB r.1.1, errV r.1.2]) ∧ AryOk F K w' b r.2 ∧ Kept F w w'
def SkRel (l : List (Nat × Nat)) (w : World) (gk : Nat) (v6 v20 : Value) (wr : World) : Prop :=
  ∃ j : Nat, j + gk = l.length ∧ v20 = iv j ∧ wr.ownsRow w.heap.size 9 1 v6 j ((l.take j).map fun x => strB (Ru.spotT x)) ∧ Below w.heap.size w wr
theorem cat3 (x y : List UInt8) (a : UInt8) : Value.string (ByteArray.mk x.toArray ++ ByteArray.mk #[a] ++ ByteArray.mk y.toArray) = strB (x ++ [a] ++ y) := by
  unfold strB; congr 1
theorem dscrub {F : Nat → Prop} {K : Nat} {w : World} {b : Nat} {s : Ar.S} (h : AryOk F K w b s) (hK : K < 900000) (hFw : ∀ k, F k → k < w.heap.size) (hH : ∀ w', Kept F w w' → Handle w') (hn : s.n = 5) (hr : s.rows = 4) :
    Calls Tryz.prog 87 #[.agg #[.pointer (some ⟨b, 0, none⟩)]] w (DeskPost F (K + 4) b (Ru.run1 s .scrub [] []) w) := by
  obtain ⟨i0, hi, hz0, hz1, hz2⟩ := info_parts str_info
  have HI := Lib.hid hi
  clear hi
  obtain ⟨wB, hwB⟩ : ∃ wB, wB = w.alloc (.cells #[.pointer (some ⟨b, 0, none⟩)] 42) := ⟨_, rfl⟩
  have hbB : Below w.heap.size w wB := by rw [hwB]; exact (Below.refl _ _).alloc (Nat.le_refl _) _
  have HS := sAll (h.below hbB) hK (fun k hk => by have := hFw k hk; have := hbB.size; omega) (fun w' hk => hH w' ((Kept.new F hbB).also hk))
  have hbd := Ar.S.scrubTo_bd s (by omega) s.rows
  have hlen := s.scrubTo_len s.rows
  rw [hn, hr] at HS
  rw [hn, hr] at hbd
  rw [hr] at hlen
  have e5 : ((5 : Nat) : Int) = 5 := rfl
  have e4 : ((4 : Nat) : Int) = 4 := rfl
  rw [e5, e4] at HS
  obtain ⟨l, hl⟩ : ∃ l, l = (s.scrubTo 4).2 := ⟨_, rfl⟩
  obtain ⟨t, ht⟩ : ∃ t, t = (s.scrubTo 4).1 := ⟨_, rfl⟩
  have hrun : Ru.run1 s .scrub [] [] = ((Ru.spotsT l, 0), t) := by rw [hl, ht]; exact Ru.run1_scrub s [] []
  rw [hrun]
  unfold SAllPost at HS
  rw [← hl, ← ht] at HS
  rw [← hl] at hbd hlen
  have HSC := Lib.hid HS
  have HkB := Lib.hid (Kept.new F hbB)
  have Hbd := Lib.hid hbd
  have HwB := Lib.hid hwB
  have hzB : wB.heap.size = w.heap.size + 1 := by rw [hwB]; simp
  clear HS hl ht hrun hbd hwB hbB h hFw hH hn hr e5 e4
  go_enter Tryz.func87, Tryz.ntmps87
  go_wp2_with fail
  rw [← HwB.out]
  refine HSC.out.mono ?_
  rintro e w2 ⟨v, rfl, hO, hA, hK2⟩
  have HA := Lib.hid hA
  have HK2 := Lib.hid (HkB.out.also hK2)
  have hSp := rowSp_of hO rfl (by omega)
  obtain ⟨p, cap, rfl, hp1, hp2⟩ := hSp
  have Hp := Lib.hid hp2
  obtain ⟨m, hm⟩ : ∃ m, m = l.length := ⟨_, rfl⟩
  rw [← hm] at hlen ⊢
  have Hm := Lib.hid hm
  clear hO hA hK2 hp1 hp2 hm
  go_wp2_with fail
  go_loopg [6, 8, 20] m (fun gk v6 v8 v20 wr => SkRel l w2 gk v6 v20 wr)
  case atStart => exact ⟨0, by rw [← Hm.out]; omega, rfl, World.ownsRow_nil _ _ _ _, Below.refl _ _⟩
  case round =>
    obtain ⟨j, hj, rfl, hO, hB⟩ := hrel
    rw [← Hm.out] at hj
    have Hj := Lib.hid hj
    have HO := Lib.hid hO
    have HB := Lib.hid hB
    have hzr := hB.size
    clear hj hO hB
    by_cases hlt : j < m
    · obtain ⟨x, hx⟩ : ∃ x, l[j]? = some x := ⟨l[j]'(by rw [← Hm.out]; exact hlt), List.getElem?_eq_getElem _⟩
      obtain ⟨g, o, rfl, hg, a0', a1'⟩ := Hp.out j x hx
      have a0 := (Kept.below HB.out).cell a0' (by omega)
      have a1 := (Kept.below HB.out).cell a1' (by omega)
      have hb := Hbd.out x (List.mem_of_getElem? hx)
      have Htk : Hid ((l.take (j + 1)).map (fun x => strB (Ru.spotT x)) = (l.take j).map (fun x => strB (Ru.spotT x)) ++ [strB (Lib.decDigits x.1 ++ [46] ++ Lib.decDigits x.2)]) := Lib.hid (by
        rw [List.take_add_one, hx]
        simp [Ru.spotT])
      obtain ⟨u, v⟩ := x
      have hu : u < 100 := by have := hb.1; simp at this; omega
      have hv : v < 100 := by have := hb.2; simp at this; omega
      have HI1 : Hid (∀ W, Calls Tryz.prog 77 #[iv u] W fun e w' => e = .returned (.string ⟨(Lib.decDigits u).toArray⟩) ∧ W = w') := Lib.hid (fun W => (Tryz.strconv_Itoa_small u hu W).mono (by rintro e w' ⟨rfl, rfl⟩; exact ⟨rfl, rfl⟩))
      have HI2 : Hid (∀ W, Calls Tryz.prog 77 #[iv v] W fun e w' => e = .returned (.string ⟨(Lib.decDigits v).toArray⟩) ∧ W = w') := Lib.hid (fun W => (Tryz.strconv_Itoa_small v hv W).mono (by rintro e w' ⟨rfl, rfl⟩; exact ⟨rfl, rfl⟩))
      have hl1 := dec_len u hu
      have hl2 := dec_len v hv
      dsimp only at Htk a0 a1
      generalize Lib.decDigits u = du at *
      generalize Lib.decDigits v = dv at *
      have hs1 : ¬ 9223372036854775807 < du.length + 1 := by omega
      have hs2 : ¬ 9223372036854775807 < du.length + 1 + dv.length := by omega
      clear hx hb a0' a1' hl1 hl2
      obtain ⟨wS, hwS⟩ : ∃ wS, wS = wr.alloc (.cells #[iv u, iv v] 163) := ⟨_, rfl⟩
      have HwS := Lib.hid hwS
      have s0 : wS.cell? ⟨wr.heap.size, 0, none⟩ = some (iv u) := by rw [hwS, World.cell?_alloc_at _ _ _ _ rfl]; rfl
      have s1 : wS.cell? ⟨wr.heap.size, 1, none⟩ = some (iv v) := by rw [hwS, World.cell?_alloc_at _ _ _ _ rfl]; rfl
      clear hwS
      go_wp2_with fail
      rw [← HwS.out]
      have hu6 := HO.out
      have hi := HI.out
      have hj9 : j + 1 ≤ 1000000 := by omega
      have HEs : Hid ((Value.string (ByteArray.mk du.toArray ++ ByteArray.mk #[46] ++ ByteArray.mk dv.toArray)) = strB (du ++ [46] ++ dv)) := Lib.hid (cat3 du dv 46)
      have HbS : Hid (Below w2.heap.size w2 wS) := Lib.hid (by rw [HwS.out]; exact HB.out.alloc hzr _)
      have HU : Hid (∀ W, Below wS.heap.size wS W → W.ownsRow w2.heap.size 9 1 u6 j ((l.take j).map fun x => strB (Ru.spotT x))) := Lib.hid (fun W hW => owns_below (by rw [HwS.out]; exact HO.out.alloc _) hW)
      have hz7 : w2.heap.size ≤ wS.heap.size := HbS.out.size
      have HC0 : Hid ((wS.alloc (.cells #[Value.string (ByteArray.mk du.toArray ++ ByteArray.mk #[46] ++ ByteArray.mk dv.toArray)] 9)).drew.cell? ⟨wr.heap.size, 0, none⟩ = some (iv u)) := Lib.hid ((Kept.new (fun _ => False) ((Below.refl _ wS).alloc (Nat.le_refl _) _).drew).cell s0 (fun h => h))
      have HC1 : Hid ((wS.alloc (.cells #[Value.string (ByteArray.mk du.toArray ++ ByteArray.mk #[46] ++ ByteArray.mk dv.toArray)] 9)).drew.cell? ⟨wr.heap.size, 1, none⟩ = some (iv v)) := Lib.hid ((Kept.new (fun _ => False) ((Below.refl _ wS).alloc (Nat.le_refl _) _).drew).cell s1 (fun h => h))
      have HNo : Hid (¬ some wr.heap.size = u6.ownBlock) := Lib.hid (fun e => by have := (HO.out.lt _ e.symm).2; omega)
      have HBa : Hid (Below w2.heap.size w2 (wS.alloc (.cells #[Value.string (ByteArray.mk du.toArray ++ ByteArray.mk #[46] ++ ByteArray.mk dv.toArray)] 9)).drew) := Lib.hid (HbS.out.alloc HbS.out.size _).drew
      go_region_held3 (fun w' => w'.cell? ⟨wr.heap.size, 0, none⟩ = some (iv u) ∧ w'.cell? ⟨wr.heap.size, 1, none⟩ = some (iv v))
        (first | exact ⟨s0, s1⟩ | exact K1 | go_keep)
        (first | (go_at_call 77; (first | (with_reducible refine (HI1.out _).mono ?_) | (with_reducible refine (HI2.out _).mono ?_)); rintro e w' ⟨rfl, rfl⟩) | (refine step_append_lies _ (by rfl) _ _ _ (by rfl) w2.heap.size 9 i0 _ 1 16 Tryz.underlying23 hi hz0 hz1 hz2 rfl (by omega) u6 j ((l.take j).map fun x => strB (Ru.spotT x)) (by rfl) (HU.out _ ((Below.refl _ _).alloc (Nat.le_refl _) _).drew) ⟨wS.heap.size, 0, none⟩ 1 1 [Value.string (ByteArray.mk du.toArray ++ ByteArray.mk #[46] ++ ByteArray.mk dv.toArray)] (by rfl) (by rfl) (World.news_of_block (cs := #[Value.string (ByteArray.mk du.toArray ++ ByteArray.mk #[46] ++ ByteArray.mk dv.toArray)]) (t := 9) (fr := (0, 0)) (heap_alloc_new wS _)) (by intro u hu; simp at hu; subst hu; rfl) (by omega) (by unfold maxLen; omega) (by omega) (by simp; omega) (wS.heap.size + 1) (by simp) ?_; intro gg cpn w1 hown1 hgrow hat hlt; have HO9 := Lib.hid hown1; have HB9 := Lib.hid (HBa.out.trans ((Kept.grown hgrow).toBelow HBa.out.size (fun b _ e => (OwnR.lt (OwnR.of_owns HO.out) e.symm).1))); have K1 := And.intro ((Kept.grown hgrow).cell HC0.out HNo.out) ((Kept.grown hgrow).cell HC1.out HNo.out); clear hown1 hgrow hat hlt))
      clear K1 HC0 HC1 HU HBa hu6
      rw [HEs.out] at HO9
      have HO10 : Hid (w1.ownsRow w2.heap.size 9 1 (.slice (some ⟨gg, 0, none⟩) (j + 1) cpn) (j + 1) ((l.take (j + 1)).map fun x => strB (Ru.spotT x))) := Lib.hid (by rw [Htk.out]; exact HO9.out)
      clear HO9 Htk HEs
      go_wp2_with fail
      go_roundg (gk - 1)
      case measure => have := Hj.out; omega
      case rel => exact ⟨j + 1, by rw [← Hm.out]; have := Hj.out; omega, by go_num, HO10.out, HB9.out⟩
    · obtain rfl : j = m := by have := Hj.out; omega
      have HOl : Hid (wr.ownsRow w2.heap.size 9 1 u6 j (l.map fun x => strB (Ru.spotT x))) := Lib.hid (by
        have h := HO.out
        rw [List.take_of_length_le (Nat.le_of_eq Hm.out.symm)] at h
        exact h)
      have HKr := Lib.hid (HK2.out.also (Kept.new F HB.out))
      have HAr := Lib.hid (HA.out.below HB.out)
      by_cases h0 : j = 0
      · have hl0 : l = [] := List.eq_nil_of_length_eq_zero (by rw [← Hm.out]; exact h0)
        have Hsp : Hid (Ru.spotsT l = [45]) := Lib.hid (by rw [hl0]; rfl)
        obtain ⟨p6, c6, hu⟩ : ∃ p6 c6, u6 = .slice p6 0 c6 := by
          rcases HOl.out.2 with ⟨hv, _⟩ | ⟨g, cap, cur, hv, _⟩
          · exact ⟨_, _, hv⟩
          · rw [h0] at hv; exact ⟨_, _, hv⟩
        subst hu h0
        clear hl0
        go_wp2_with fail
        go_ret2
        exact ⟨by rw [Hsp.out]; rfl, HAr.out, HKr.out⟩
      · have Hsp : Hid (Ru.spotsT l = Lib.join ((l.map fun x => (⟨(Ru.spotT x).toArray⟩ : ByteArray)).map (·.data.toList)) [32]) := Lib.hid (by
          unfold Ru.spotsT Lib.join
          rw [if_neg (fun e => h0 (by rw [Hm.out, e]; rfl)), List.map_map]
          congr 1)
        rcases HOl.out.2 with ⟨hv, hx0⟩ | ⟨g, cap, cur, hv, hb, hg, hnc, hcm, hcs, ht⟩
        · exact absurd hx0 h0
        · have hgl : g < wr.heap.size := (Array.getElem?_eq_some_iff.1 hg).1
          have HJ := Tryz.strings_Join g 0 cap (l.map fun x => (⟨(Ru.spotT x).toArray⟩ : ByteArray)) ⟨#[32]⟩ wr (fun q x hq => by
            rw [List.getElem?_map, Option.map_eq_some_iff] at hq
            obtain ⟨y, hy, rfl⟩ := hq
            have hql := (List.getElem?_eq_some_iff.1 hy).1
            subst hv
            rw [Nat.zero_add, HOl.out.cellAt q (by have := Hm.out; rw [Nat.mul_one]; omega), List.getElem?_map, hy]; rfl) hgl (by rw [List.length_map, ← Hm.out]; omega) (by rw [List.length_map, ← Hm.out]; exact hnc) (by
            have h1 := Ru.spots_len l (by rw [← Hm.out]; exact hlen) (fun x hx => by have := Hbd.out x hx; omega)
            rw [Hsp.out] at h1
            exact Nat.le_trans h1 (by omega))
          rw [List.length_map, ← Hm.out, show (ByteArray.mk #[32]).data.toList = [32] from rfl, ← Hsp.out] at HJ
          have HJ' := Lib.hid HJ
          have h0I : ¬ (j : Int) = 0 := by omega
          subst hv
          clear HJ hg hcs ht HOl HO
          go_wp2_with fail
          refine HJ'.out.mono ?_
          rintro e w3 ⟨rfl, hb3⟩
          have Hb3 := Lib.hid hb3
          clear hb3
          go_wp2_with fail
          go_ret2
          exact ⟨rfl, HAr.out.below Hb3.out, HKr.out.also (Kept.new F Hb3.out)⟩
end Go.Proofs.YtneebcniofolmaaGreatDoor
