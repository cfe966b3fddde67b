/- Rows that were collected are a matrix of one's own; the walk of the references' Stairs. -/
import Derived.Test.YtbikmodfmckaeaaDoorRMatC
import Derived.Test.YtbikmodfmckaeaaDoorQtail
namespace Go.Proofs.YtbikmodfmckaeaaDoor
open Go.ChangeShapes Go.WideShapes Go.ChangeAt Go.RowKit
set_option linter.unusedVariables false
def ApV (vs : List Value) : Prop := ∀ (i j : Nat) (u u' : Value) (b : Nat), vs[i]? = some u → vs[j]? = some u' → i ≠ j → u.ownBlock = some b → u'.ownBlock ≠ some b
theorem ApV.nil : ApV [] := fun i j u u' b h => by simp at h
theorem ApV.push {vs : List Value} {u : Value} (h : ApV vs) (hf : ∀ (i : Nat) u' b, vs[i]? = some u' → u'.ownBlock = some b → u.ownBlock ≠ some b) : ApV (vs ++ [u]) := by
  intro i j a a' b hi hj hne hb
  have hi9 := (List.getElem?_eq_some_iff.1 hi).1
  have hj9 := (List.getElem?_eq_some_iff.1 hj).1
  rw [List.length_append, List.length_singleton] at hi9 hj9
  by_cases h1 : i < vs.length
  · rw [List.getElem?_append_left h1] at hi
    by_cases h2 : j < vs.length
    · rw [List.getElem?_append_left h2] at hj
      exact h i j a a' b hi hj hne hb
    · obtain rfl : j = vs.length := by omega
      rw [List.getElem?_append_right (by omega), Nat.sub_self] at hj
      obtain rfl : u = a' := Option.some.inj hj
      exact hf i a b hi hb
  · obtain rfl : i = vs.length := by omega
    rw [List.getElem?_append_right (by omega), Nat.sub_self] at hi
    obtain rfl : u = a := Option.some.inj hi
    rw [List.getElem?_append_left (by omega)] at hj
    exact fun e => hf j a' b hj e hb
theorem RowsO.matF {w : World} {B n L : Nat} {v : Value} {vs : List Value} {m : Mx.Mt} (h : RowsO w B v vs (lt n L m)) (hap : ApV vs) (hl : vs.length = n) (h0 : 0 < n) (hL : 0 < L) :
    ∃ g c bs, v = .slice (some ⟨g, 0, none⟩) n c ∧ MatF w B g 0 c n L bs m := by
  have ho := h.own
  rw [hl] at ho
  obtain ⟨g, c, rfl, hg1, hg2, hnc, hcm, hcell, hfz⟩ := owns_pos ho h0
  have hg : ∀ i, i < n → vs[i]? = some (vs.getD i undef) := fun i hi => by
    rw [List.getD_eq_getElem?_getD, List.getElem?_eq_getElem (by omega)]; rfl
  have hK : MatK w B g 0 c n (fun j => vs.getD j undef) n (fun i => Gv.tab L (m i)) := by
    refine ⟨?_, fun i hi => (h.rows i _ _ (hg i hi) (lt_get L m hi)).1, fun i hi e => (h.rows i _ _ (hg i hi) (lt_get L m hi)).2 g e rfl, fun i j b hi hj hne => hap i j _ _ b (hg i hi) (hg j hj) hne⟩
    have h1 := OwnR.of_owns ho
    have e : (List.range n).map (fun j => vs.getD j undef) = vs := by
      apply List.ext_getElem?
      intro j
      rw [List.getElem?_map]
      by_cases hj : j < n
      · rw [List.getElem?_range hj, hg j hj]; rfl
      · rw [List.getElem?_eq_none (by rw [List.length_range]; omega), List.getElem?_eq_none (by omega)]; rfl
    rw [e]; exact h1
  obtain ⟨bs, hF, _⟩ := hK.full hL (fun i _ => rfl)
  exact ⟨g, c, bs, rfl, hF⟩
/-- a row changes places with another one, by way of a variable, and is written in between -/
theorem MatF.swapBy {w w2 : World} {B g o c n L : Nat} {bs : Nat → Plc} {m : Mx.Mt} {r k : Nat} {f : Nat → UInt8} (h : MatF w B g o c n L bs m) (hr : r < n) (hk : k < n)
    (hkept : Kept (fun x => x = (bs k).1) (w.setCell ⟨g, o + k, none⟩ (sv L (bs r))) w2) (hO : OwnB w2 B (sv L (bs k)) (Gv.tab L f)) :
    MatF (w2.setCell ⟨g, o + r, none⟩ (sv L (bs k))) B g o c n L (fun i => bs (Mx.sg r k i)) (fun i => if i = r then f else Mx.sw r k m i) := by
  have h1 := OwnR.setAt h.out (k := k) (by rw [rvs_len]; exact hk) (sv L (bs r))
  have h1' := OwnR.kept h1 hkept (fun b hb' => by cases hb'; exact fun e => h.ng k hk e.symm)
  have h2 := OwnR.setAt h1' (k := r) (by rw [List.length_set, rvs_len]; exact hr) (sv L (bs k))
  rw [rvs_set, rvs_set] at h2
  have e : (fun q => if q = r then bs k else if q = k then bs r else bs q) = fun i => bs (Mx.sg r k i) := by
    funext q
    unfold Mx.sg
    by_cases e1 : q = r
    · rw [if_pos e1, if_pos e1]
    · rw [if_neg e1, if_neg e1]
      by_cases e2 : q = k
      · rw [if_pos e2, if_pos e2]
      · rw [if_neg e2, if_neg e2]
  rw [e] at h2
  refine ⟨h2, fun i hi => ?_, fun i hi => h.ng _ (Mx.sg_lt hr hk hi), fun i j hi hj hne => h.ap _ _ (Mx.sg_lt hr hk hi) (Mx.sg_lt hr hk hj) (fun e => hne ?_)⟩
  · by_cases e1 : i = r
    · subst e1
      rw [if_pos rfl]
      have e2 : Mx.sg i k i = k := by unfold Mx.sg; rw [if_pos rfl]
      rw [e2]
      exact OwnB.other hO (fun e => h.ng k hk (by injection e))
    · rw [if_neg e1]
      have hng := h.ng _ (Mx.sg_lt hr hk hi)
      have hnk : Mx.sg r k i ≠ k := fun e => e1 (by
        have := congrArg (Mx.sg r k) e
        rw [Mx.sg_sg] at this
        rw [this]; unfold Mx.sg
        by_cases e3 : k = r
        · rw [if_pos e3, e3]
        · rw [if_neg e3, if_pos rfl])
      refine OwnB.other (OwnR.kept (OwnB.other (h.rows _ (Mx.sg_lt hr hk hi)) (fun e => hng (by injection e))) hkept (fun b hb' => by cases hb'; exact h.ap _ _ (Mx.sg_lt hr hk hi) hk hnk)) (fun e => hng (by injection e))
  · have := congrArg (Mx.sg r k) e
    rw [Mx.sg_sg, Mx.sg_sg] at this; exact this
theorem pv_spec {n r q : Nat} {m : Mx.Mt} (hr : r ≤ n) : (∀ j, r ≤ j → j < Mx.pv n (m, r) q → m j q = 0) ∧ (Mx.pv n (m, r) q < n → m (Mx.pv n (m, r) q) q ≠ 0) := by
  refine ⟨fun j h1 h2 => ?_, fun h => ?_⟩
  · have := Mx.fd_no (fun i => m i q != 0) (n - r) r j h1 h2
    simpa using this
  · have := Mx.fd_yes (fun i => m i q != 0) (n - r) r (by unfold Mx.pv at h; simp only at h; omega)
    exact bne_iff_ne.1 this
end Go.Proofs.YtbikmodfmckaeaaDoor
