/- A region that draws its order, whose first operations only read or draw, and whose tail stands in one forced order: one walk in the text's order serves. · Rows that were collected are a matrix of one's own; the walk of the references' Stairs. -/
import Derived.StillTail
import Derived.BigQuiet
import Derived.Test.YtbikmodfmckaeaaDoorBase
import Derived.Test.YtbikmodfmckaeaaDoorRMatC
namespace Go.Proofs.YtbikmodfmckaeaaDoor
set_option linter.unusedVariables false
section
variable {P : Program} {ops : Array Oper} {md : Region.Mode} {C : World → Prop}
def wpAnyT (P : Program) (md : Region.Mode) (ops : Array Oper) (C : World → Prop) (n : Nat) (L : Array Bool → Act → Prop) : Nat → Array Bool → Act → Prop
  | 0, listed, a => L listed a
  | f + 1, listed, a =>
    Region.ready md ops listed ≠ [] ∧ ∀ i ∈ Region.ready md ops listed, i < n ∧ qOp P ops C i (wpAnyT P md ops C n L f (listed.setIfInBounds i true)) a
theorem wpAny_of_headT {n g : Nat} {L : Array Bool → Act → Prop} {Q' : Exit → Act → World → Prop} (hL : ∀ listed a w, C w → L listed a → wpAny P md ops Q' g listed a w) :
    ∀ (f : Nat) (listed : Array Bool) (a : Act) (w : World), C w → wpAnyT P md ops C n L f listed a → wpAny P md ops Q' (f + g) listed a w
  | 0, listed, a, w, hw, h => by rw [Nat.zero_add]; exact hL _ _ _ hw h
  | f + 1, listed, a, w, hw, h => by
    rw [show f + 1 + g = (f + g) + 1 by omega]
    exact ⟨fun h0 => absurd h0 h.1, fun i hi => wpOp_of_qOp hw (fun a' w' hw' h' => wpAny_of_headT hL f _ a' w' hw' h') (h.2 i hi).2⟩
theorem wpAnyT_first {n i : Nat} {oi : Oper} {v : Value} {L : Array Bool → Act → Prop} (hi : ops[i]? = some oi) (hsel : ∀ (j : Nat) (o : Oper) cs b, ops[j]? = some o → o.op ≠ .select cs b)
    (hs : Region.sinkB md ops n = true) (hc : Region.chainB md ops n = true) (hn : n < ops.size) (hin : i < n)
    (hdone : ∀ listed a, L listed a → ∀ j ∈ Region.ready md ops listed, n ≤ j) :
    ∀ (f : Nat) (listed : Array Bool) (a : Act), HeadInv md ops n listed →
      (∀ j oj, ops[j]? = some oj → j ≠ i → listed.getD j true = false → (∀ e ∈ oj.after, Region.binds md e = true → e.on ≠ i) → oi.apart ops oj = true) →
      i ∈ Region.ready md ops listed → YieldsIn P ops C oi v a →
      wpAnyT P md ops C n L f (listed.setIfInBounds i true) (a.put oi.dst v) → wpAnyT P md ops C n L (f + 1) listed a := by
  intro f
  induction f with
  | zero =>
    intro listed a inv _ hr hy H
    have hun := (mem_ready.1 hr).1
    refine ⟨fun h => (by rw [h] at hr; cases hr), fun j hj => ?_⟩
    have hjn : j < n := by
      rcases Nat.lt_or_ge j n with h | h
      · exact h
      · exact absurd hj (tail_waits hs hc hn inv _ i rfl hin hun j h)
    refine ⟨hjn, ?_⟩
    by_cases hji : j = i
    · subst hji; exact hy.qOp hi H
    · have := hdone _ _ H j (ready_mono hj hji)
      omega
  | succ f ih =>
    intro listed a inv hfree hr hy H
    have hun := (mem_ready.1 hr).1
    refine ⟨fun h => (by rw [h] at hr; cases hr), fun j hj => ?_⟩
    have hjn : j < n := by
      rcases Nat.lt_or_ge j n with h | h
      · exact h
      · exact absurd hj (tail_waits hs hc hn inv _ i rfl hin hun j h)
    refine ⟨hjn, ?_⟩
    by_cases hji : j = i
    · subst hji; exact hy.qOp hi H
    · have h1 := (H.2 j (ready_mono hj hji)).2
      obtain ⟨hjun, oj, hoj, hall⟩ := mem_ready.1 hj
      have hnot : ∀ e ∈ oj.after, Region.binds md e = true → e.on ≠ i := fun e he hb heq => by
        have h1 := hall e he hb
        rw [heq, getD_both hun] at h1
        cases h1
      have h2 := qOp_put hoj (hfree j oj hoj hji hjun hnot) (fun cs b => hsel i oi cs b hi) (fun cs b => hsel j oj cs b hoj) hy h1
      have hfree' : ∀ k ok, ops[k]? = some ok → k ≠ i → (listed.setIfInBounds j true).getD k true = false →
          (∀ e ∈ ok.after, Region.binds md e = true → e.on ≠ i) → oi.apart ops ok = true := fun k ok hk hki hun hno => by
        refine hfree k ok hk hki ?_ hno
        by_cases hjk : j = k
        · subst hjk; exact hjun
        · rw [getD_set_ne true hjk] at hun; exact hun
      refine qOp_mono (fun a' h3 => ih (listed.setIfInBounds j true) a' (inv.set hj hjn) hfree' (ready_mono hr (Ne.symm hji)) h3.1 ?_) h2
      rw [Array.setIfInBounds_comm _ _ hji]
      exact h3.2
theorem wpAnyT_lex {n g : Nat} {Lq : Act → Prop} (hsel : Region.noSelect ops = true) (hs : Region.sinkB md ops n = true) (hc : Region.chainB md ops n = true) (hn : n < ops.size) :
    ∀ (l : List Oper) (k : Nat) (listed : Array Bool) (a : Act), (∀ j, j < l.length → l[j]? = ops[k + j]?) → k + l.length = n → HeadInv md ops n listed →
    Region.lexHead md ops g l.length k listed = true → wpQuiet P ops C Lq l a →
    wpAnyT P md ops C n (fun listed' a' => Region.seqB md ops g n listed' = true ∧ Lq a') l.length listed a
  | [], k, listed, a, _, hk, _, hB, h => by
    have : k = n := by simpa using hk
    subst this
    exact ⟨by simpa [Region.lexHead] using hB, h⟩
  | o :: l, k, listed, a, hl, hk, inv, hB, h => by
    have h0 : ops[k]? = some o := by simpa using (hl 0 (by simp)).symm
    simp only [List.length_cons, Region.lexHead, Bool.and_eq_true] at hB
    obtain ⟨⟨hr, hf⟩, hB'⟩ := hB
    have hkn : k < n := by simp only [List.length_cons] at hk; omega
    have hr' : k ∈ Region.ready md ops listed := by simpa using hr
    have hst : qOp P ops C k (wpQuiet P ops C Lq l) a := by unfold qOp; simp only [h0]; exact h
    obtain ⟨v, hy, hK⟩ := yieldsIn_of_qOp h0 hst
    exact wpAnyT_first h0 (Region.noSelect_spec hsel) hs hc hn hkn (fun listed' a' hL => seqB_ready hL.1) l.length listed a inv (Region.free_spec h0 hf) hr' hy
      (wpAnyT_lex hsel hs hc hn l (k + 1) _ _ (fun j hj => by have := hl (j + 1) (by simp; omega); simpa [Nat.add_assoc, Nat.add_comm 1 j] using this) (by simp only [List.length_cons] at hk; omega) (inv.set hr' hkn) hB' hK)
theorem wp_region_quiet_tail {id : Nat} {Q : Exit → Act → World → Prop} {a : Act} {w : World} {l : List Oper} (n : Nat) (hm : P.follows .mixedOrders = true) (hB : Region.lexTailB .any l.toArray n = true)
    (h : wpQuiet P l.toArray (fun w' => ∃ k, w' = w.drewN k) (fun a' => ∀ w', (∃ k, w' = w.drewN k) → wpList P l.toArray Q (l.drop n) a' w') (l.take n) a) : (Code.region id l.toArray true).wp P Q a w := by
  simp only [Region.lexTailB, Bool.and_eq_true, decide_eq_true_eq] at hB
  obtain ⟨⟨⟨⟨hsel, hn⟩, hs⟩, hc⟩, hlex⟩ := hB
  have hn' : n < l.length := by simpa using hn
  have htl : (l.take n).length = n := by simp; omega
  have hdl : (l.drop n).length = l.toArray.size - n := by simp
  have inv0 : HeadInv .any l.toArray n (Array.replicate l.toArray.size false) :=
    ⟨by simp, fun j oj _ hl => (by rw [getD_replicate_false] at hl; cases hl), fun t _ ht => getD_in (by simpa using ht) (getD_replicate_false _ _)⟩
  have H := wpAnyT_lex (md := .any) (g := l.toArray.size - n) hsel hs hc hn (l.take n) 0 _ a (fun j hj => by
    have hj' : j < n := by rw [htl] at hj; exact hj
    simp [hj']) (by simpa using htl) inv0 (by rw [htl]; exact hlex) h
  refine wp_region_any hm ?_
  have := wpAny_of_headT (Q' := Q) (g := l.toArray.size - n) (fun listed a' w' hw' hL => by
    have := wpAny_of_seq (md := .any) (Q' := Q) (l.drop n) n listed a' w' (fun j => by simp [List.getElem?_drop]) (by rw [hdl]; exact hL.1) (hL.2 w' hw')
    rwa [hdl] at this) _ _ _ { w with drawn := w.drawn + 1 } ⟨1, rfl⟩ H
  rw [htl, show n + (l.toArray.size - n) = l.toArray.size by omega] at this
  exact this
end
end Go.Proofs.YtbikmodfmckaeaaDoor
namespace Go.Proofs.YtbikmodfmckaeaaDoor
open Go.ChangeShapes Go.WideShapes Go.ChangeAt Go.RowKit
set_option linter.unusedVariables false
def ApV (vs : List Value) : Prop := ∀ (i j : Nat) (u u' : Value) (b : Nat), vs[i]? = some u → vs[j]? = some u' → i ≠ j → u.ownBlock = some b → u'.ownBlock ≠ some b
theorem ApV.nil : ApV [] := fun i j u u' b h => by simp at h
theorem ApV.push {vs : List Value} {u : Value} (h : ApV vs) (hf : ∀ (i : Nat) u' b, vs[i]? = some u' → u'.ownBlock = some b → u.ownBlock ≠ some b) : ApV (vs ++ [u]) := by
  intro i j a a' b hi hj hne hb
  have hi9 := (List.getElem?_eq_some_iff.1 hi).1
  have hj9 := (List.getElem?_eq_some_iff.1 hj).1
  rw [List.length_append, List.length_singleton] at hi9 hj9
  by_cases h1 : i < vs.length
  · rw [List.getElem?_append_left h1] at hi
    by_cases h2 : j < vs.length
    · rw [List.getElem?_append_left h2] at hj
      exact h i j a a' b hi hj hne hb
    · obtain rfl : j = vs.length := by omega
      rw [List.getElem?_append_right (by omega), Nat.sub_self] at hj
      obtain rfl : u = a' := Option.some.inj hj
      exact hf i a b hi hb
  · obtain rfl : i = vs.length := by omega
    rw [List.getElem?_append_right (by omega), Nat.sub_self] at hi
    obtain rfl : u = a := Option.some.inj hi
    rw [List.getElem?_append_left (by omega)] at hj
    exact fun e => hf j a' b hj e hb
theorem RowsO.matF {w : World} {B n L : Nat} {v : Value} {vs : List Value} {m : Mx.Mt} (h : RowsO w B v vs (lt n L m)) (hap : ApV vs) (hl : vs.length = n) (h0 : 0 < n) (hL : 0 < L) :
    ∃ g c bs, v = .slice (some ⟨g, 0, none⟩) n c ∧ MatF w B g 0 c n L bs m := by
  have ho := h.own
  rw [hl] at ho
  obtain ⟨g, c, rfl, hg1, hg2, hnc, hcm, hcell, hfz⟩ := owns_pos ho h0
  have hg : ∀ i, i < n → vs[i]? = some (vs.getD i undef) := fun i hi => by
    rw [List.getD_eq_getElem?_getD, List.getElem?_eq_getElem (by omega)]; rfl
  have hK : MatK w B g 0 c n (fun j => vs.getD j undef) n (fun i => Gv.tab L (m i)) := by
    refine ⟨?_, fun i hi => (h.rows i _ _ (hg i hi) (lt_get L m hi)).1, fun i hi e => (h.rows i _ _ (hg i hi) (lt_get L m hi)).2 g e rfl, fun i j b hi hj hne => hap i j _ _ b (hg i hi) (hg j hj) hne⟩
    have h1 := OwnR.of_owns ho
    have e : (List.range n).map (fun j => vs.getD j undef) = vs := by
      apply List.ext_getElem?
      intro j
      rw [List.getElem?_map]
      by_cases hj : j < n
      · rw [List.getElem?_range hj, hg j hj]; rfl
      · rw [List.getElem?_eq_none (by rw [List.length_range]; omega), List.getElem?_eq_none (by omega)]; rfl
    rw [e]; exact h1
  obtain ⟨bs, hF, _⟩ := hK.full hL (fun i _ => rfl)
  exact ⟨g, c, bs, rfl, hF⟩
/-- a row changes places with another one, by way of a variable, and is written in between -/
theorem MatF.swapBy {w w2 : World} {B g o c n L : Nat} {bs : Nat → Plc} {m : Mx.Mt} {r k : Nat} {f : Nat → UInt8} (h : MatF w B g o c n L bs m) (hr : r < n) (hk : k < n)
    (hkept : Kept (fun x => x = (bs k).1) (w.setCell ⟨g, o + k, none⟩ (sv L (bs r))) w2) (hO : OwnB w2 B (sv L (bs k)) (Gv.tab L f)) :
    MatF (w2.setCell ⟨g, o + r, none⟩ (sv L (bs k))) B g o c n L (fun i => bs (Mx.sg r k i)) (fun i => if i = r then f else Mx.sw r k m i) := by
  have h1 := OwnR.setAt h.out (k := k) (by rw [rvs_len]; exact hk) (sv L (bs r))
  have h1' := OwnR.kept h1 hkept (fun b hb' => by cases hb'; exact fun e => h.ng k hk e.symm)
  have h2 := OwnR.setAt h1' (k := r) (by rw [List.length_set, rvs_len]; exact hr) (sv L (bs k))
  rw [rvs_set, rvs_set] at h2
  have e : (fun q => if q = r then bs k else if q = k then bs r else bs q) = fun i => bs (Mx.sg r k i) := by
    funext q
    unfold Mx.sg
    by_cases e1 : q = r
    · rw [if_pos e1, if_pos e1]
    · rw [if_neg e1, if_neg e1]
      by_cases e2 : q = k
      · rw [if_pos e2, if_pos e2]
      · rw [if_neg e2, if_neg e2]
  rw [e] at h2
  refine ⟨h2, fun i hi => ?_, fun i hi => h.ng _ (Mx.sg_lt hr hk hi), fun i j hi hj hne => h.ap _ _ (Mx.sg_lt hr hk hi) (Mx.sg_lt hr hk hj) (fun e => hne ?_)⟩
  · by_cases e1 : i = r
    · subst e1
      rw [if_pos rfl]
      have e2 : Mx.sg i k i = k := by unfold Mx.sg; rw [if_pos rfl]
      rw [e2]
      exact OwnB.other hO (fun e => h.ng k hk (by injection e))
    · rw [if_neg e1]
      have hng := h.ng _ (Mx.sg_lt hr hk hi)
      have hnk : Mx.sg r k i ≠ k := fun e => e1 (by
        have := congrArg (Mx.sg r k) e
        rw [Mx.sg_sg] at this
        rw [this]; unfold Mx.sg
        by_cases e3 : k = r
        · rw [if_pos e3, e3]
        · rw [if_neg e3, if_pos rfl])
      refine OwnB.other (OwnR.kept (OwnB.other (h.rows _ (Mx.sg_lt hr hk hi)) (fun e => hng (by injection e))) hkept (fun b hb' => by cases hb'; exact h.ap _ _ (Mx.sg_lt hr hk hi) hk hnk)) (fun e => hng (by injection e))
  · have := congrArg (Mx.sg r k) e
    rw [Mx.sg_sg, Mx.sg_sg] at this; exact this
theorem pv_spec {n r q : Nat} {m : Mx.Mt} (hr : r ≤ n) : (∀ j, r ≤ j → j < Mx.pv n (m, r) q → m j q = 0) ∧ (Mx.pv n (m, r) q < n → m (Mx.pv n (m, r) q) q ≠ 0) := by
  refine ⟨fun j h1 h2 => ?_, fun h => ?_⟩
  · have := Mx.fd_no (fun i => m i q != 0) (n - r) r j h1 h2
    simpa using this
  · have := Mx.fd_yes (fun i => m i q != 0) (n - r) r (by unfold Mx.pv at h; simp only at h; omega)
    exact bne_iff_ne.1 this
end Go.Proofs.YtbikmodfmckaeaaDoor
