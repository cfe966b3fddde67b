/- The law RedoKeeps: a log, the cells behind each record, the marks: side by side. -/
import Derived.Test.YtangcjffiooapaaDoorRedD
import Derived.Test.YtangcjffiooapaaDoorRedF
import Derived.Test.YtangcjffiooapaaDoorOpenW
import Derived.Test.YtangcjffiooapaaDoorStrs
namespace Go.Proofs.YtangcjffiooapaaDoor
open Go.ChangeShapes Go.WideShapes Go.ChangeAt Go.RowKit
set_option linter.unusedVariables false
namespace Rd
def dones (cells : List ByteArray) (rs : List (List W)) : List (List ByteArray) := (List.range (rs.length + 1)).map (fun i => all cells (rs.take i))
theorem dones_len (cells : List ByteArray) (rs : List (List W)) : (dones cells rs).length = rs.length + 1 := by unfold dones; simp
theorem dones_at (cells : List ByteArray) (rs : List (List W)) {i : Nat} (h : i ≤ rs.length) : (dones cells rs)[i]? = some (all cells (rs.take i)) := by
  unfold dones; rw [List.getElem?_map, List.getElem?_range (by omega)]; rfl
theorem dones_snoc (cells : List ByteArray) (rs : List (List W)) (l : List W) : dones cells (rs ++ [l]) = dones cells rs ++ [done (all cells rs) l] := by
  unfold dones
  rw [List.length_append, List.length_singleton, List.range_succ, List.map_append]
  congr 1
  · refine List.map_congr_left fun i hi => ?_
    rw [List.mem_range] at hi
    rw [List.take_append_of_le_length (by omega)]
  · show [all cells ((rs ++ [l]).take (rs.length + 1))] = _
    rw [List.take_of_length_le (by simp), all_snoc]
theorem dones_take (cells : List ByteArray) (rs : List (List W)) {i : Nat} (h : i ≤ rs.length) : dones cells (rs.take i) = (dones cells rs).take (i + 1) := by
  apply List.ext_getElem?
  intro j
  have h1 : (rs.take i).length = i := by rw [List.length_take]; omega
  by_cases hj : j < i + 1
  · rw [dones_at _ _ (by omega), List.getElem?_take, if_pos hj, dones_at _ _ (by omega), List.take_take, Nat.min_eq_left (by omega)]
  · rw [List.getElem?_eq_none (by rw [dones_len]; omega), List.getElem?_eq_none (by rw [List.length_take, dones_len]; omega)]
end Rd
theorem Strs.keep {T : Nat → Prop} {w w' : World} {v : Value} {l : List ByteArray} (h : Strs w v l) (hk : Kept T w w') (hn : 0 < l.length → ∀ g, v.ownBlock = some g → ¬ T g) : Strs w' v l := by
  obtain ⟨p, cap, hv, h1, h2, h3, h4⟩ := h
  refine ⟨p, cap, hv, h1, h2, h3, fun h0 => ?_⟩
  obtain ⟨g, off, hp, hc⟩ := h4 h0
  rw [List.length_map] at h0
  have hg : v.ownBlock = some g := by rw [hv, hp]; rfl
  refine ⟨g, off, hp, fun j hj => ?_⟩
  have hcj := hc j hj
  rw [List.getElem?_eq_getElem hj] at hcj ⊢
  exact hk.cell hcj (hn h0 g hg)
theorem RedOk.kept2 {F T : Nat → Prop} {w w' : World} {b : Nat} {s : Rd.R} (h : RedOk F w b s) (hk : Kept T w w') (hT : ∀ k, F k → ¬ T k) : RedOk F w' b s := by
  obtain ⟨vf, vc, h1, h2⟩ := h
  exact ⟨vf, vc, h1.kept hk (hT _ h2.b) (fun g hg => hT _ (h2.f g hg)) (fun g hg => hT _ (h2.c g hg)), h2⟩
def FF (B : Nat) (vd vm : Value) (bl : Nat → Prop) : Nat → Prop := fun k => B ≤ k ∧ vd.ownBlock ≠ some k ∧ vm.ownBlock ≠ some k ∧ ¬ bl k
structure Tri (B : Nat) (b : Nat) (vd vm : Value) (vals : List Value) (bl : Nat → Prop) (w wr : World) (s : Rd.R) (L : List (List ByteArray)) (M : List Int) : Prop where
  red : RedOk (FF B vd vm bl) wr b s
  dn : wr.ownsRow B 22 1 vd vals.length vals
  mr : wr.ownsRow B 3 1 vm M.length (M.map iv)
  ln : vals.length = L.length
  row : ∀ (i : Nat) (v : Value) (l : List ByteArray), vals[i]? = some v → L[i]? = some l → Strs wr v l ∧ (0 < l.length → ∀ g, v.ownBlock = some g → g < B ∨ bl g)
  low : ∀ g, bl g → B ≤ g ∧ g < wr.heap.size
  sep : ∀ g, vd.ownBlock = some g → vm.ownBlock ≠ some g
  sd : ∀ g, bl g → vd.ownBlock ≠ some g ∧ vm.ownBlock ≠ some g
  bel : Below B w wr
namespace Tri
variable {B b : Nat} {vd vm : Value} {vals : List Value} {bl : Nat → Prop} {w wr w' : World} {s s' : Rd.R} {L : List (List ByteArray)} {M : List Int}
theorem ff (h : Tri B b vd vm vals bl w wr s L M) (hB : B ≤ wr.heap.size) : ∀ k, wr.heap.size ≤ k → FF B vd vm bl k :=
  fun k hk => ⟨by omega, fun e => by have := (h.dn.lt _ e).2; omega, fun e => by have := (h.mr.lt _ e).2; omega, fun e => by have := (h.low _ e).2; omega⟩
theorem rows (h : Tri B b vd vm vals bl w wr s L M) {T : Nat → Prop} (hk : Kept T wr w') (hT : ∀ g, g < B ∨ bl g → ¬ T g) : ∀ (i : Nat) (v : Value) (l : List ByteArray), vals[i]? = some v → L[i]? = some l → Strs w' v l ∧ (0 < l.length → ∀ g, v.ownBlock = some g → g < B ∨ bl g) := by
  intro i v l h1 h2
  obtain ⟨h3, h4⟩ := h.row i v l h1 h2
  exact ⟨h3.keep hk (fun h0 g hg => hT g (h4 h0 g hg)), h4⟩
theorem turn (h : Tri B b vd vm vals bl w wr s L M) (hB : B ≤ wr.heap.size) (hr : RedOk (FF B vd vm bl) w' b s') (hk : Kept (FF B vd vm bl) wr w') : Tri B b vd vm vals bl w w' s' L M where
  red := hr
  dn := hk.owns h.dn (fun g hg hf => hf.2.1 hg)
  mr := hk.owns h.mr (fun g hg hf => hf.2.2.1 hg)
  ln := h.ln
  row := h.rows hk (fun g hg hf => by rcases hg with hg | hg; exact absurd hf.1 (by omega); exact hf.2.2.2 hg)
  low := fun g hg => ⟨(h.low g hg).1, Nat.lt_of_lt_of_le (h.low g hg).2 hk.size⟩
  sep := h.sep
  sd := h.sd
  bel := h.bel.trans (hk.toBelow hB (fun k _ hf => hf.1))
theorem below (h : Tri B b vd vm vals bl w wr s L M) (hB : B ≤ wr.heap.size) (hb : Below wr.heap.size wr w') : Tri B b vd vm vals bl w w' s L M :=
  h.turn hB (h.red.below hb) (Kept.new _ hb)
theorem state (h : Tri B b vd vm vals bl w wr s L M) (hr : RedOk (FF B vd vm bl) wr b s') : Tri B b vd vm vals bl w wr s' L M := { h with red := hr }
/-- the cells behind one more record: they lie in new memory -/
theorem pushD {wp : World} (hp : Tri B b vd vm vals bl w wp s L M) (hB : B ≤ wp.heap.size) {v vd' : Value} {l : List ByteArray} (hb : Below wp.heap.size wp wr) (hO : OwnR wr wp.heap.size 9 v (l.map Value.string)) {o : Obj}
    (hown : w'.ownsRow B 22 1 vd' (vals.length + 1) (vals ++ [v])) (hgr : (wr.alloc o).grownBy w' vd.ownBlock) (hat : vd'.ownBlock = vd.ownBlock ∨ vd'.ownBlock = some (wr.alloc o).heap.size) :
    Tri B b vd' vm (vals ++ [v]) (fun k => bl k ∨ v.ownBlock = some k) w w' s (L ++ [l]) M := by
  have hz := hb.size
  have hz2 : (wr.alloc o).heap.size = wr.heap.size + 1 := by simp
  have hba : Below wp.heap.size wp (wr.alloc o) := hb.alloc hz o
  have hk : Kept (fun k => vd.ownBlock = some k) wp w' := (Kept.new _ hba).also ((Kept.grown hgr).mono (fun k _ e => e.symm))
  have hkw : Kept (fun k => vd.ownBlock = some k) wr w' := (Kept.new _ ((Below.refl _ _).alloc (Nat.le_refl _) o)).also ((Kept.grown hgr).mono (fun k _ e => e.symm))
  have hvl : ∀ g, v.ownBlock = some g → wp.heap.size ≤ g ∧ g < wr.heap.size := fun g hg => hO.lt hg
  have hdl := fun g hg => hp.dn.lt g hg
  have hml := fun g hg => hp.mr.lt g hg
  have hzw := hgr.size
  have hvd' : ∀ g, vd'.ownBlock = some g → vd.ownBlock = some g ∨ g = wr.heap.size + 1 := by
    intro g hg
    rcases hat with e | e
    · exact .inl (e ▸ hg)
    · rw [e, hz2] at hg; exact .inr (Option.some.inj hg).symm
  refine { red := ?_, dn := by rw [List.length_append, List.length_singleton]; exact hown, mr := ?_, ln := by rw [List.length_append, List.length_append, hp.ln]; rfl, row := ?_, low := ?_, sep := ?_, sd := ?_, bel := ?_ }
  · have h1 : RedOk (fun k => FF B vd vm bl k ∧ k < wp.heap.size) wp b s := hp.red.wide (fun k hk h => ⟨h, hk⟩)
    have h2 := h1.kept2 hk (fun k hf e => hf.1.2.1 e)
    refine h2.wide (fun k _ hf => ⟨hf.1.1, fun e => ?_, hf.1.2.2.1, fun e => ?_⟩)
    · rcases hvd' k e with h | h
      · exact hf.1.2.1 h
      · have := hf.2; omega
    · rcases e with e | e
      · exact hf.1.2.2.2 e
      · have := (hvl k e).1; have := hf.2; omega
  · exact hk.owns hp.mr (fun g hg e => hp.sep g e hg)
  · intro i u x hu hx
    by_cases hi : i < vals.length
    · rw [List.getElem?_append_left hi] at hu
      rw [List.getElem?_append_left (by rw [← hp.ln]; exact hi)] at hx
      obtain ⟨h3, h4⟩ := hp.rows hk (fun g hg e => by
        rcases hg with hg | hg
        · have := (hdl g e).1; omega
        · exact (hp.sd g hg).1 e) i u x hu hx
      exact ⟨h3, fun h0 g hg => (h4 h0 g hg).imp id .inl⟩
    · have hu' := hu
      have hil : i = vals.length := by have := (List.getElem?_eq_some_iff.1 hu).1; rw [List.length_append, List.length_singleton] at this; omega
      subst hil
      rw [List.getElem?_append_right (Nat.le_refl _), Nat.sub_self] at hu
      rw [hp.ln, List.getElem?_append_right (Nat.le_refl _), Nat.sub_self] at hx
      obtain rfl : v = u := by simpa using hu
      obtain rfl : l = x := by simpa using hx
      refine ⟨Strs.keep (show Strs wr v l from hO.row) hkw (fun _ g hg e => ?_), fun _ g hg => .inr (.inr hg)⟩
      have := (hvl g hg).1; have := (hdl g e).2; omega
  · intro g hg
    rcases hg with hg | hg
    · exact ⟨(hp.low g hg).1, by have := (hp.low g hg).2; omega⟩
    · have := hvl g hg; exact ⟨by omega, by omega⟩
  · intro g hg e
    rcases hvd' g hg with h | h
    · exact hp.sep g h e
    · have := (hml g e).2; omega
  · intro g hg
    rcases hg with hg | hg
    · refine ⟨fun e => ?_, (hp.sd g hg).2⟩
      rcases hvd' g e with h | h
      · exact (hp.sd g hg).1 h
      · have := (hp.low g hg).2; omega
    · have hv := hvl g hg
      refine ⟨fun e => ?_, fun e => by have := (hml g e).2; omega⟩
      rcases hvd' g e with h | h
      · have := (hdl g h).2; omega
      · omega
  · exact hp.bel.trans (hk.toBelow hB (fun k _ e => (hdl k e).1))
/-- one more mark -/
theorem pushM (h : Tri B b vd vm vals bl w wr s L M) (hB : B ≤ wr.heap.size) {vm' : Value} {x : Int} {o : Obj}
    (hown : w'.ownsRow B 3 1 vm' (M.length + 1) (M.map iv ++ [iv x])) (hgr : (wr.alloc o).grownBy w' vm.ownBlock) (hat : vm'.ownBlock = vm.ownBlock ∨ vm'.ownBlock = some (wr.alloc o).heap.size) :
    Tri B b vd vm' vals bl w w' s L (M ++ [x]) := by
  have hz2 : (wr.alloc o).heap.size = wr.heap.size + 1 := by simp
  have hk : Kept (fun k => vm.ownBlock = some k) wr w' := (Kept.new _ ((Below.refl _ _).alloc (Nat.le_refl _) o)).also ((Kept.grown hgr).mono (fun k _ e => e.symm))
  have hdl := fun g hg => h.dn.lt g hg
  have hml := fun g hg => h.mr.lt g hg
  have hzw := hgr.size
  have hvm' : ∀ g, vm'.ownBlock = some g → vm.ownBlock = some g ∨ g = wr.heap.size + 1 := by
    intro g hg
    rcases hat with e | e
    · exact .inl (e ▸ hg)
    · rw [e, hz2] at hg; exact .inr (Option.some.inj hg).symm
  refine { red := ?_, dn := ?_, mr := by rw [List.length_append, List.length_singleton, List.map_append]; exact hown, ln := h.ln, row := ?_, low := ?_, sep := ?_, sd := ?_, bel := ?_ }
  · have h1 : RedOk (fun k => FF B vd vm bl k ∧ k < wr.heap.size) wr b s := h.red.wide (fun k hk h => ⟨h, hk⟩)
    have h2 := h1.kept2 hk (fun k hf e => hf.1.2.2.1 e)
    refine h2.wide (fun k _ hf => ⟨hf.1.1, hf.1.2.1, fun e => ?_, hf.1.2.2.2⟩)
    rcases hvm' k e with h | h
    · exact hf.1.2.2.1 h
    · have := hf.2; omega
  · exact hk.owns h.dn (fun g hg e => h.sep g hg e)
  · exact h.rows hk (fun g hg e => by
      rcases hg with hg | hg
      · have := (hml g e).1; omega
      · exact (h.sd g hg).2 e)
  · intro g hg; exact ⟨(h.low g hg).1, by have := (h.low g hg).2; omega⟩
  · intro g hg e
    rcases hvm' g e with h' | h'
    · exact h.sep g hg h'
    · have := (hdl g hg).2; omega
  · intro g hg
    refine ⟨(h.sd g hg).1, fun e => ?_⟩
    rcases hvm' g e with h' | h'
    · exact (h.sd g hg).2 h'
    · have := (h.low g hg).2; omega
  · exact h.bel.trans (hk.toBelow hB (fun k _ e => (hml k e).1))
theorem owns_take {base : Nat} {E : TypeId} {g n cap k : Nat} {W : World} {xs : List Value} (h : W.ownsRow base E 1 (.slice (some ⟨g, 0, none⟩) n cap) n xs) (hk : k ≤ n) : W.ownsRow base E 1 (.slice (some ⟨g, 0, none⟩) k cap) k (xs.take k) := by
  have hl := h.1
  refine ⟨by rw [List.length_take]; omega, ?_⟩
  rcases h.2 with ⟨hv, _⟩ | ⟨g', cap', cur, hv, hb, hg, h1, h2, h3, h4⟩
  · cases hv
  · injection hv with e1 e2 e3
    injection e1 with e1
    injection e1 with e4
    subst e4 e3
    refine .inr ⟨g, cap, cur, rfl, hb, hg, by omega, h2, h3, ?_⟩
    rw [← h4, List.take_take, Nat.mul_one, Nat.mul_one, Nat.min_eq_left hk]
/-- both cut -/
theorem cut {gd cd gm cm n k : Nat} (h : Tri B b (.slice (some ⟨gd, 0, none⟩) n cd) (.slice (some ⟨gm, 0, none⟩) n cm) vals bl w wr s L M) (hn : vals.length = n) (hm : M.length = n) (hk : k ≤ n) :
    Tri B b (.slice (some ⟨gd, 0, none⟩) k cd) (.slice (some ⟨gm, 0, none⟩) k cm) (vals.take k) bl w wr s (L.take k) (M.take k) where
  red := h.red
  dn := by
    have hd := h.dn
    rw [hn] at hd
    have := owns_take hd hk
    rw [List.length_take, hn, Nat.min_eq_left hk]; exact this
  mr := by
    have hd := h.mr
    rw [hm] at hd
    have := owns_take hd hk
    rw [List.length_take, hm, Nat.min_eq_left hk, List.map_take]; exact this
  ln := by rw [List.length_take, List.length_take, h.ln]
  row := fun i v l h1 h2 => by
    rw [List.getElem?_take] at h1 h2
    split at h1
    · rename_i hi
      rw [if_pos hi] at h2
      exact h.row i v l h1 h2
    · cases h1
  low := h.low
  sep := h.sep
  sd := h.sd
  bel := h.bel
end Tri
end Go.Proofs.YtangcjffiooapaaDoor
