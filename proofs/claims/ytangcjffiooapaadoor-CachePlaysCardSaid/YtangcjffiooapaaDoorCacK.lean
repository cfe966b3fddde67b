/- The reference's Cache: its object, and the walks of Without, NewCache, use, Read, Write, Flush. -/
import Derived.Test.YtangcjffiooapaaDoorCacQ
import Derived.Test.YtangcjffiooapaaDoorIn
import Derived.Test.YtangcjffiooapaaDoorOwnS
import Derived.RegionTactic
namespace Go.Proofs.YtangcjffiooapaaDoor
open Go.ChangeShapes Go.WideShapes Go.ChangeAt Go.RowKit Go.Maps
set_option linter.unusedVariables false
def Apart (l : List (Option Nat)) : Prop := l.Pairwise (fun a b => ∀ g, a = some g → b ≠ some g)
theorem Apart.set : ∀ {l : List (Option Nat)} (h : Apart l) (i : Nat) (x : Option Nat) (hx : ∀ g, x = some g → some g ∉ l), Apart (l.set i x)
  | [], _, _, _, _ => List.Pairwise.nil
  | a :: t, h, 0, x, hx => by
    have h' := List.pairwise_cons.1 h
    exact List.pairwise_cons.2 ⟨fun b hb g e1 e2 => hx g e1 (List.mem_cons_of_mem _ (by rw [← e2]; exact hb)), h'.2⟩
  | a :: t, h, i + 1, x, hx => by
    have h' := List.pairwise_cons.1 h
    refine List.pairwise_cons.2 ⟨fun b hb g e1 e2 => ?_, Apart.set h'.2 i x (fun g e hm => hx g e (List.mem_cons_of_mem _ hm))⟩
    rcases List.mem_or_eq_of_mem_set hb with hb | rfl
    · exact h'.1 b hb g e1 e2
    · exact hx g e2 (by rw [← e1]; exact List.mem_cons_self)
abbrev rcB (c : Nat) (vb vr vv vd : Value) : List (Option Nat) := [some c, vb.ownBlock, vr.ownBlock, vv.ownBlock, vd.ownBlock]
structure Rc (F : Nat → Prop) (w : World) (c : Nat) (vb vr vv vd : Value) (s : Cc.C) (vals : List ByteArray) : Prop where
  blk : w.heap[c]? = some (.cells #[vb, iv s.room, vr, vv, vd, iv s.hits] 45 (0, 0))
  below : OwnR w 0 9 vb (s.below.map Value.string)
  row : OwnR w 0 3 vr (s.row.map iv)
  val : OwnR w 0 9 vv (vals.map Value.string)
  dirty : OwnR w 0 3 vd (s.dirty.map iv)
  vlen : vals.length = s.below.length
  ap : Apart (rcB c vb vr vv vd)
  inF : ∀ g, some g ∈ rcB c vb vr vv vd → F g
namespace Rc
variable {F T : Nat → Prop} {w w' : World} {c : Nat} {vb vr vv vd v' : Value} {s : Cc.C} {vals : List ByteArray}
theorem n (h : Rc F w c vb vr vv vd s vals) (i j : Nat) (hi : i < 5) (hj : j < 5) (hij : i < j) (g : Nat) : (rcB c vb vr vv vd)[i] = some g → (rcB c vb vr vv vd)[j] ≠ some g :=
  List.pairwise_iff_getElem.1 h.ap i j hi hj hij g
theorem lt (h : Rc F w c vb vr vv vd s vals) {g : Nat} (hm : some g ∈ rcB c vb vr vv vd) : g < w.heap.size := by
  simp only [rcB, List.mem_cons, List.not_mem_nil, or_false] at hm
  rcases hm with e | e | e | e | e
  · rw [Option.some.inj e]; exact (Array.getElem?_eq_some_iff.1 h.blk).1
  · exact (h.below.lt e.symm).2
  · exact (h.row.lt e.symm).2
  · exact (h.val.lt e.symm).2
  · exact (h.dirty.lt e.symm).2
theorem m0 : some c ∈ rcB c vb vr vv vd := by simp
theorem m1 {g : Nat} (e : vb.ownBlock = some g) : some g ∈ rcB c vb vr vv vd := by simp [e]
theorem m2 {g : Nat} (e : vr.ownBlock = some g) : some g ∈ rcB c vb vr vv vd := by simp [e]
theorem m3 {g : Nat} (e : vv.ownBlock = some g) : some g ∈ rcB c vb vr vv vd := by simp [e]
theorem m4 {g : Nat} (e : vd.ownBlock = some g) : some g ∈ rcB c vb vr vv vd := by simp [e]
theorem cell (h : Rc F w c vb vr vv vd s vals) (j : Nat) : w.cell? ⟨c, j, none⟩ = #[vb, iv s.room, vr, vv, vd, iv s.hits][j]? := by rw [cell_of_row _ _ _ _ _ _ h.blk]
theorem c0 (h : Rc F w c vb vr vv vd s vals) : w.cell? ⟨c, 0, none⟩ = some vb := by rw [h.cell]; rfl
theorem c1 (h : Rc F w c vb vr vv vd s vals) : w.cell? ⟨c, 1, none⟩ = some (iv s.room) := by rw [h.cell]; rfl
theorem c2 (h : Rc F w c vb vr vv vd s vals) : w.cell? ⟨c, 2, none⟩ = some vr := by rw [h.cell]; rfl
theorem c3 (h : Rc F w c vb vr vv vd s vals) : w.cell? ⟨c, 3, none⟩ = some vv := by rw [h.cell]; rfl
theorem c4 (h : Rc F w c vb vr vv vd s vals) : w.cell? ⟨c, 4, none⟩ = some vd := by rw [h.cell]; rfl
theorem c5 (h : Rc F w c vb vr vv vd s vals) : w.cell? ⟨c, 5, none⟩ = some (iv s.hits) := by rw [h.cell]; rfl
theorem f (h : Rc F w c vb vr vv vd s vals) (j : Nat) : w.frozen? ⟨c, j, none⟩ = false := frozen_of_row _ _ _ _ _ h.blk
/-- none of its blocks has turned -/
theorem off (h : Rc F w c vb vr vv vd s vals) (hk : Kept T w w') (hT : ∀ g, some g ∈ rcB c vb vr vv vd → ¬ T g) : Rc F w' c vb vr vv vd s vals :=
  { h with blk := hk.heap h.blk (hT c m0), below := h.below.kept hk (fun g e => hT g (m1 e)), row := h.row.kept hk (fun g e => hT g (m2 e)), val := h.val.kept hk (fun g e => hT g (m3 e)), dirty := h.dirty.kept hk (fun g e => hT g (m4 e)) }
theorem kept (h : Rc F w c vb vr vv vd s vals) (hk : Kept T w w') (hT : ∀ g, T g → ¬ F g) : Rc F w' c vb vr vv vd s vals := h.off hk (fun g hm t => hT g t (h.inF g hm))
theorem below' (h : Rc F w c vb vr vv vd s vals) (hb : Below w.heap.size w w') : Rc F w' c vb vr vv vd s vals := h.off (Kept.new (fun _ => False) hb) (fun _ _ e => e)
theorem wide {F' : Nat → Prop} (h : Rc F w c vb vr vv vd s vals) (hF : ∀ k, k < w.heap.size → F k → F' k) : Rc F' w c vb vr vv vd s vals :=
  { h with inF := fun g hm => hF g (h.lt hm) (h.inF g hm) }
theorem self_c (w : World) (j : Nat) (v : Value) : Kept (· = c) w (w.setCell ⟨c, j, none⟩ v) := (Kept.self c w).set1 _ _
/-- the row is another list, in the old one's block or in none of the others' -/
theorem rowT (h : Rc F w c vb vr vv vd s vals) (hk : Kept T w w') (hT : ∀ g, some g ∈ rcB c vb vr vv vd → T g → vr.ownBlock = some g) {r' : List Int} (hO : OwnR w' 0 3 v' (r'.map iv))
    (hv : v'.ownBlock = vr.ownBlock ∨ ∀ g, v'.ownBlock = some g → some g ∉ rcB c vb vr vv vd) (hF : ∀ g, v'.ownBlock = some g → F g) : Rc F (w'.setCell ⟨c, 2, none⟩ v') c vb v' vv vd { s with row := r' } vals := by
  have hc := hk.heap h.blk (fun t => h.n 0 2 (by omega) (by omega) (by omega) c rfl (hT c m0 t))
  have hs := self_c (c := c) w' 2 v'
  have hvc : ∀ g, v'.ownBlock = some g → g ≠ c := fun g e e2 => by
    subst e2
    rcases hv with e3 | e3
    · exact h.n 0 2 (by omega) (by omega) (by omega) g rfl (e3.symm.trans e)
    · exact e3 g e m0
  refine ⟨by rw [heap_setCell_same _ _ _ _ _ _ hc]; rfl, (h.below.kept hk (fun g e t => h.n 1 2 (by omega) (by omega) (by omega) g e (hT g (m1 e) t))).kept hs (fun g e e2 => h.n 0 1 (by omega) (by omega) (by omega) g (by rw [e2]; rfl) e),
    hO.kept hs (fun g e e2 => hvc g e e2), (h.val.kept hk (fun g e t => h.n 2 3 (by omega) (by omega) (by omega) g (hT g (m3 e) t) e)).kept hs (fun g e e2 => h.n 0 3 (by omega) (by omega) (by omega) g (by rw [e2]; rfl) e),
    (h.dirty.kept hk (fun g e t => h.n 2 4 (by omega) (by omega) (by omega) g (hT g (m4 e) t) e)).kept hs (fun g e e2 => h.n 0 4 (by omega) (by omega) (by omega) g (by rw [e2]; rfl) e), h.vlen, ?_, ?_⟩
  · rcases hv with e | e
    · have := h.ap; unfold rcB at *; rw [e]; exact this
    · exact Apart.set h.ap 2 _ e
  · intro g hm
    simp only [rcB, List.mem_cons, List.not_mem_nil, or_false] at hm
    rcases hm with e | e | e | e | e
    · exact h.inF g (by rw [e]; exact m0)
    · exact h.inF g (m1 e.symm)
    · exact hF g e.symm
    · exact h.inF g (m3 e.symm)
    · exact h.inF g (m4 e.symm)
theorem dirtyT (h : Rc F w c vb vr vv vd s vals) (hk : Kept T w w') (hT : ∀ g, some g ∈ rcB c vb vr vv vd → T g → vd.ownBlock = some g) {r' : List Int} (hO : OwnR w' 0 3 v' (r'.map iv))
    (hv : v'.ownBlock = vd.ownBlock ∨ ∀ g, v'.ownBlock = some g → some g ∉ rcB c vb vr vv vd) (hF : ∀ g, v'.ownBlock = some g → F g) : Rc F (w'.setCell ⟨c, 4, none⟩ v') c vb vr vv v' { s with dirty := r' } vals := by
  have hc := hk.heap h.blk (fun t => h.n 0 4 (by omega) (by omega) (by omega) c rfl (hT c m0 t))
  have hs := self_c (c := c) w' 4 v'
  have hvc : ∀ g, v'.ownBlock = some g → g ≠ c := fun g e e2 => by
    subst e2
    rcases hv with e3 | e3
    · exact h.n 0 4 (by omega) (by omega) (by omega) g rfl (e3.symm.trans e)
    · exact e3 g e m0
  refine ⟨by rw [heap_setCell_same _ _ _ _ _ _ hc]; rfl, (h.below.kept hk (fun g e t => h.n 1 4 (by omega) (by omega) (by omega) g e (hT g (m1 e) t))).kept hs (fun g e e2 => h.n 0 1 (by omega) (by omega) (by omega) g (by rw [e2]; rfl) e),
    (h.row.kept hk (fun g e t => h.n 2 4 (by omega) (by omega) (by omega) g e (hT g (m2 e) t))).kept hs (fun g e e2 => h.n 0 2 (by omega) (by omega) (by omega) g (by rw [e2]; rfl) e), (h.val.kept hk (fun g e t => h.n 3 4 (by omega) (by omega) (by omega) g e (hT g (m3 e) t))).kept hs (fun g e e2 => h.n 0 3 (by omega) (by omega) (by omega) g (by rw [e2]; rfl) e),
    hO.kept hs (fun g e e2 => hvc g e e2), h.vlen, ?_, ?_⟩
  · rcases hv with e | e
    · have := h.ap; unfold rcB at *; rw [e]; exact this
    · exact Apart.set h.ap 4 _ e
  · intro g hm
    simp only [rcB, List.mem_cons, List.not_mem_nil, or_false] at hm
    rcases hm with e | e | e | e | e
    · exact h.inF g (by rw [e]; exact m0)
    · exact h.inF g (m1 e.symm)
    · exact h.inF g (m2 e.symm)
    · exact h.inF g (m3 e.symm)
    · exact hF g e.symm
theorem setHits (h : Rc F w c vb vr vv vd s vals) (k : Nat) : Rc F (w.setCell ⟨c, 5, none⟩ (iv k)) c vb vr vv vd { s with hits := k } vals := by
  have hs := self_c (c := c) w 5 (iv k)
  exact { h with blk := by rw [heap_setCell_same _ _ _ _ _ _ h.blk]; rfl, below := h.below.kept hs (fun g e e2 => h.n 0 1 (by omega) (by omega) (by omega) g (by rw [e2]; rfl) e), row := h.row.kept hs (fun g e e2 => h.n 0 2 (by omega) (by omega) (by omega) g (by rw [e2]; rfl) e), val := h.val.kept hs (fun g e e2 => h.n 0 3 (by omega) (by omega) (by omega) g (by rw [e2]; rfl) e), dirty := h.dirty.kept hs (fun g e e2 => h.n 0 4 (by omega) (by omega) (by omega) g (by rw [e2]; rfl) e) }
theorem setVal (h : Rc F w c vb vr vv vd s vals) {g o m cap : Nat} (hv : vv = .slice (some ⟨g, o, none⟩) m cap) (i : Nat) (hi : i < vals.length) (b : ByteArray) : Rc F (w.setCell ⟨g, o + i, none⟩ (.string b)) c vb vr vv vd s (vals.set i b) := by
  have hg : vv.ownBlock = some g := by rw [hv]; rfl
  have hs := self_c (c := g) w (o + i) (.string b)
  have hval := h.val
  rw [hv] at hval
  exact { h with blk := hs.heap h.blk (fun e => h.n 0 3 (by omega) (by omega) (by omega) g (by rw [← e]; rfl) hg), below := h.below.kept hs (fun q e e2 => h.n 1 3 (by omega) (by omega) (by omega) g (by rw [← e2]; exact e) hg), row := h.row.kept hs (fun q e e2 => h.n 2 3 (by omega) (by omega) (by omega) g (by rw [← e2]; exact e) hg), val := (by rw [hv]; exact hval.setStr hi b), dirty := h.dirty.kept hs (fun q e e2 => h.n 3 4 (by omega) (by omega) (by omega) g hg (by rw [← e2]; exact e)), vlen := by rw [List.length_set]; exact h.vlen }
theorem setBelow (h : Rc F w c vb vr vv vd s vals) {g o m cap : Nat} (hv : vb = .slice (some ⟨g, o, none⟩) m cap) (i : Nat) (hi : i < s.below.length) (b : ByteArray) : Rc F (w.setCell ⟨g, o + i, none⟩ (.string b)) c vb vr vv vd { s with below := s.below.set i b } vals := by
  have hg : vb.ownBlock = some g := by rw [hv]; rfl
  have hs := self_c (c := g) w (o + i) (.string b)
  have hval := h.below
  rw [hv] at hval
  exact { h with blk := hs.heap h.blk (fun e => h.n 0 1 (by omega) (by omega) (by omega) g (by rw [← e]; rfl) hg), below := (by rw [hv]; exact hval.setStr hi b), row := h.row.kept hs (fun q e e2 => h.n 1 2 (by omega) (by omega) (by omega) g hg (by rw [← e2]; exact e)), val := h.val.kept hs (fun q e e2 => h.n 1 3 (by omega) (by omega) (by omega) g hg (by rw [← e2]; exact e)), dirty := h.dirty.kept hs (fun q e e2 => h.n 1 4 (by omega) (by omega) (by omega) g hg (by rw [← e2]; exact e)), vlen := by show _ = (s.below.set i b).length; rw [List.length_set]; exact h.vlen }
end Rc
def RVal (s : Cc.C) (vals : List ByteArray) : Prop := ∀ x ∈ s.row, Cc.at' vals x.toNat = s.val x
def RcOk (F : Nat → Prop) (w : World) (c : Nat) (s : Cc.C) : Prop := ∃ vb vr vv vd vals, Rc F w c vb vr vv vd s vals ∧ RVal s vals
theorem RcOk.below {F : Nat → Prop} {w w' : World} {c : Nat} {s : Cc.C} (h : RcOk F w c s) (hb : Below w.heap.size w w') : RcOk F w' c s := by
  obtain ⟨vb, vr, vv, vd, vals, h1, h2⟩ := h; exact ⟨vb, vr, vv, vd, vals, h1.below' hb, h2⟩
theorem RcOk.wide {F F' : Nat → Prop} {w : World} {c : Nat} {s : Cc.C} (h : RcOk F w c s) (hF : ∀ k, k < w.heap.size → F k → F' k) : RcOk F' w c s := by
  obtain ⟨vb, vr, vv, vd, vals, h1, h2⟩ := h; exact ⟨vb, vr, vv, vd, vals, h1.wide hF, h2⟩
theorem RcOk.kept {F T : Nat → Prop} {w w' : World} {c : Nat} {s : Cc.C} (h : RcOk F w c s) (hk : Kept T w w') (hT : ∀ g, T g → ¬ F g) : RcOk F w' c s := by
  obtain ⟨vb, vr, vv, vd, vals, h1, h2⟩ := h; exact ⟨vb, vr, vv, vd, vals, h1.kept hk hT, h2⟩
theorem Cc.wo_snoc (l : List Int) (y x : Int) : Cc.wo (l ++ [y]) x = Cc.wo l x ++ if y = x then [] else [y] := by
  unfold Cc.wo
  rw [List.filter_append]
  by_cases h : y = x <;> simp [h]
def RWoPost (xs : List Int) (x : Int) (w : World) (e : Ending) (w' : World) : Prop := ∃ v', e = .returned v' ∧ OwnR w' w.heap.size 3 v' ((Cc.wo xs x).map iv) ∧ Below w.heap.size w w'
def RWoRel (xs : List Int) (x : Int) (w : World) (n gk : Nat) (v i : Value) (wr : World) : Prop :=
  ∃ k : Nat, k + gk = n ∧ i = iv k ∧ wr.ownsRow w.heap.size 3 1 v (Cc.wo (xs.take k) x).length ((Cc.wo (xs.take k) x).map iv) ∧ Below w.heap.size w wr
set_option maxRecDepth 100000 in
theorem rwithout_any (xs : List Int) (x : Int) (hxn : xs.length ≤ 1000) (v : Value) (w : World) (hv : Row w v (xs.map iv)) :
    Calls Tryd.prog 60 #[v, iv x] w (RWoPost xs x w) := by
  obtain ⟨p, cap, rfl, hlen, hcap, hcells⟩ := hv.shape
  clear hv
  rw [List.length_map] at *
  unfold maxLen at hcap
  generalize hn : xs.length = n at *
  have Hn := Lib.hid hn
  have Hcells := Lib.hid hcells
  clear hn hcells
  go_enter Tryd.func60, Tryd.ntmps60
  go_wp2_with fail
  go_loopg [5, 6] n (fun gk v i wr => RWoRel xs x w n gk v i wr)
  case atStart => exact ⟨0, by omega, rfl, by rw [List.take_zero]; exact World.ownsRow_nil _ _ _ _, Below.refl _ _⟩
  case round =>
    obtain ⟨k, hk, rfl, hown, hb⟩ := hrel
    have Hk := Lib.hid hk
    have Hown := Lib.hid hown
    have Hb := Lib.hid hb
    have hbz := hb.size
    clear hk hown hb
    by_cases hlt : k < n
    · obtain ⟨g, off, rfl, hc⟩ := Hcells.out (by omega)
      have hc' := hc k hlt
      obtain ⟨y, hy⟩ : ∃ y, xs[k]? = some y := ⟨xs[k]'(by rw [Hn.out]; exact hlt), List.getElem?_eq_getElem _⟩
      rw [List.getElem?_map, hy] at hc'
      have hc2 : wr.cell? ⟨g, off + k, none⟩ = some (iv y) := (Hb.out.cell (p := ⟨g, off + k, none⟩) (World.block_lt_of_cell? w _ hc')).trans hc'
      have htk : xs.take (k + 1) = xs.take k ++ [y] := by rw [List.take_add_one, hy]; rfl
      have hll : (Cc.wo (xs.take k) x).length ≤ k := Nat.le_trans (Cc.wo_len _ _) (List.length_take_le _ _)
      have Htk := Lib.hid htk
      clear hc hc' hy htk
      by_cases he : y = x
      · have hs : Cc.wo (xs.take (k + 1)) x = Cc.wo (xs.take k) x := by rw [Htk.out, Cc.wo_snoc, if_pos he, List.append_nil]
        have ht : (y != x) = false := bne_f he
        have Hs := Lib.hid hs
        clear he hs
        go_wp2_with fail
        go_roundg (gk - 1)
        case measure => have := Hk.out; omega
        case rel => exact ⟨k + 1, by have := Hk.out; omega, by go_num, by rw [Hs.out]; exact Hown.out, Hb.out⟩
      · have hs : (Cc.wo (xs.take k) x).map iv ++ [iv y] = (Cc.wo (xs.take (k + 1)) x).map iv := by rw [Htk.out, Cc.wo_snoc, if_neg he, List.map_append]; rfl
        have hl : (Cc.wo (xs.take k) x).length + 1 = (Cc.wo (xs.take (k + 1)) x).length := by rw [Htk.out, Cc.wo_snoc, if_neg he, List.length_append]; rfl
        have ht : (y != x) = true := bne_t he
        have Hs := Lib.hid hs
        have Hl := Lib.hid hl
        clear he hs hl
        go_wp2_with (at_builtin; refine app1 wr wr _ 3 34 rfl _ _ rfl w.heap.size Tryd.underlying34 info_int rfl _ (Cc.wo (xs.take k) x).length _ rfl _ rfl rfl Hown.out rfl ?c1 ?c2 hbz (Below.refl _ _) ?_)
        case c1 => omega
        try case c2 => omega
        intro v' w1 hown1 hb1 _ _
        rw [Hs.out, Hl.out] at hown1
        have Hown1 := Lib.hid hown1
        have Hb1 := Lib.hid (Hb.out.trans hb1)
        clear hown1 hb1
        go_wp2_with fail
        go_roundg (gk - 1)
        case measure => have := Hk.out; omega
        case rel => exact ⟨k + 1, by have := Hk.out; omega, by go_num, Hown1.out, Hb1.out⟩
    · have hkn : k = n := by have := Hk.out; omega
      have ht : xs.take k = xs := by rw [hkn, ← Hn.out]; exact List.take_length
      have Ht := Lib.hid ht
      clear hkn ht
      go_wp2_with fail
      go_ret
      refine ⟨_, rfl, ?_, Hb.out⟩
      have := OwnR.of_owns Hown.out
      rw [Ht.out] at this; exact this
namespace Cc
theorem put_small {s : C} {i : Int} {b : ByteArray} (h : (wo s.row i).length ≠ s.room) : put s i b = { s with row := wo s.row i ++ [i], val := upd s.val i b } := by
  rw [put_eq, mid_no h]
theorem put_big {s : C} {i old : Int} {b : ByteArray} {t : List Int} (h : (wo s.row i).length = s.room) (hr : wo s.row i = old :: t) : put s i b = { (if s.dirty.contains old then clean s old else s) with row := t ++ [i], val := upd s.val i b } := by
  rw [put_eq, mid_yes h, hr, drop]
  show ({ (if s.dirty.contains old = true then clean s old else s) with row := t ++ [i], val := upd (if s.dirty.contains old = true then clean s old else s).val i b } : C) = _
  have : (if s.dirty.contains old = true then clean s old else s).val = s.val := by split <;> rfl
  rw [this]
theorem wo_tail {old q : Int} {t : List Int} (hn : (old :: t).Nodup) (hq : q ≠ old) : wo (old :: t ++ [q]) old = t ++ [q] := by
  have h1 := (List.nodup_cons.1 hn).1
  rw [show old :: t ++ [q] = [old] ++ t ++ [q] from rfl, wo_snoc, if_neg hq]
  congr 1
  unfold wo
  rw [List.filter_append]
  simp
  intro x hx e; exact h1 (by rw [← e]; exact hx)
end Cc
theorem rval_put {s : Cc.C} {vals : List ByteArray} (hv : RVal s vals) {q : Nat} (hq : q < vals.length) (b : ByteArray) {r' : List Int} (hr : ∀ x ∈ r', x ≠ (q : Int) → x ∈ s.row ∧ 0 ≤ x) : ∀ x ∈ r', Cc.at' (vals.set q b) x.toNat = Cc.upd s.val q b x := by
  intro x hx
  by_cases e : x = (q : Int)
  · rw [e, Cc.upd_same, Int.toNat_natCast, Cc.at_set_same hq]
  · have := hr x hx e
    rw [Cc.upd_other _ _ e, Cc.at_set_other (by omega)]
    exact hv x this.1
theorem Rc.val' {F : Nat → Prop} {w : World} {c : Nat} {vb vr vv vd : Value} {s : Cc.C} {vals : List ByteArray} (h : Rc F w c vb vr vv vd s vals) (f : Int → ByteArray) : Rc F w c vb vr vv vd { s with val := f } vals := { h with }
def RPost (F : Nat → Prop) (c : Nat) (s : Cc.C) (w : World) (e : Ending) (w' : World) : Prop := e = .returned (.tuple #[]) ∧ RcOk F w' c s ∧ Kept F w w'
set_option maxRecDepth 100000 in
set_option maxHeartbeats 4000000 in
theorem ruse_any {F : Nat → Prop} {w : World} {c : Nat} {vb vr vv vd : Value} {s : Cc.C} {vals : List ByteArray} (h : Rc F w c vb vr vv vd s vals) (hinv : Cc.Inv s) (hv : RVal s vals) (hF : ∀ k, w.heap.size ≤ k → F k) (q : Nat) (hq : q < s.below.length) (b : ByteArray) :
    Calls Tryd.prog 56 #[.pointer (some ⟨c, 0, none⟩), iv q, .string b] w (RPost F c (Cc.put s q b) w) := by
  have hr12 := hinv.room12
  have hr1 := hinv.room1
  have hfit := hinv.fit
  have hl40 := hinv.len
  have hd12 := Cc.dirty12 hinv
  have hwl := Cc.wo_len s.row q
  have hvl := h.vlen
  obtain ⟨gv, ov, cv, hvv, _, hgvl, hnv, hmv, hcv, hfv⟩ := h.val.at0 (by rw [List.length_map]; omega)
  obtain ⟨gb, ob, cb, hvb, _, hgbl, hnb, hmb, hcb, hfb⟩ := h.below.at0 (by rw [List.length_map]; omega)
  rw [List.length_map] at hvv hvb hnv hnb
  clear hcv hfv hcb hfb
  obtain ⟨pr, mr, cr, hvr⟩ := h.row.slice
  subst hvv hvb hvr
  have hgc : gv ≠ c := fun e => h.n 0 3 (by omega) (by omega) (by omega) c rfl (by rw [← e]; rfl)
  have hgbc : gb ≠ c := fun e => h.n 0 1 (by omega) (by omega) (by omega) c rfl (by rw [← e]; rfl)
  have hgbv : gb ≠ gv := fun e => h.n 1 3 (by omega) (by omega) (by omega) gv (by rw [← e]; rfl) rfl
  unfold maxLen at hmv hmb
  have H := Lib.hid h
  have HF := Lib.hid hF
  have HInv := Lib.hid hinv
  have HV := Lib.hid hv
  have c2 := h.c2
  have HWO := Lib.hid (rwithout_any s.row q (by omega) _ w h.row.row)
  obtain ⟨mv, hmvl⟩ : ∃ mv, mv = vals.length := ⟨_, rfl⟩
  obtain ⟨mb, hmbl⟩ : ∃ mb, mb = s.below.length := ⟨_, rfl⟩
  obtain ⟨r, hr⟩ : ∃ r, r = Cc.wo s.row q := ⟨_, rfl⟩
  obtain ⟨lr, hlr⟩ : ∃ lr, lr = r.length := ⟨_, rfl⟩
  rw [← hmvl, ← hmbl] at H
  rw [← hmbl] at hq hl40 hvl hnb
  rw [← hmvl] at hvl hnv
  rw [← hr] at hwl
  rw [← hlr] at hwl
  have Hmv := Lib.hid hmvl
  have Hmb := Lib.hid hmbl
  have Hr := Lib.hid hr
  have Hlr := Lib.hid hlr
  have hqv : q < mv := by omega
  have hqvI : (q : Int) < (mv : Int) := by omega
  clear h hF hinv hv hmvl hmbl hr hlr hvl
  go_enter Tryd.func56, Tryd.ntmps56
  go_wp2_with fail
  refine HWO.out.mono ?_
  rintro e w1 ⟨v1, rfl, hO1, hb1⟩
  rw [← Hr.out] at hO1
  have hO1' := hO1.mono (Nat.zero_le _)
  have hw1 : Below w1.heap.size w1 (w1.alloc (.cells #[iv (q : Int)] 3)) := (Below.refl _ _).alloc (Nat.le_refl _) _
  obtain ⟨p1, n1, c1, hv1⟩ := hO1.slice
  subst hv1
  have hz1 := hb1.size
  have hsz1 : (w1.alloc (.cells #[iv (q : Int)] 3)).heap.size = w1.heap.size + 1 := by simp
  clear HWO c2
  go_wp2_with (at_builtin; refine wp_appR w1 (iv q) 3 34 rfl _ _ rfl 0 Tryd.underlying34 info_int rfl _ (r.map iv) rfl _ rfl rfl hO1' rfl ?k1 (by omega) (Nat.zero_le _) ?_)
  case k1 => rw [List.length_map, ← Hlr.out]; omega
  intro v2 w2 hO2 hT2
  have H1 := (H.out.below' hb1).below' hw1
  have hT : ∀ g, some g ∈ rcB c (.slice (some ⟨gb, ob, none⟩) mb cb) (.slice pr mr cr) (.slice (some ⟨gv, ov, none⟩) mv cv) vd → ¬ (some g = (Value.slice p1 n1 c1).ownBlock) := fun g hm e => by
    have h1 := H.out.lt hm
    have h2 := (hO1.lt e.symm).1
    omega
  have hfr : ∀ g, v2.ownBlock = some g → w.heap.size ≤ g := fun g e => by
    rcases hT2.2 with e2 | e2
    · rw [e2] at e; exact (hO1.lt e).1
    · have := e2 g e; omega
  have H2 := H1.off hT2.1 hT
  have e2 := H2.c2
  have ef := H2.f
  have H3 := Lib.hid (H1.rowT (v' := v2) hT2.1 (fun g hm t => absurd t (hT g hm)) (r' := r ++ [(q : Int)]) (by rw [List.map_append]; exact hO2) (.inr (fun g e hm => by have h1 := H.out.lt hm; have h2 := hfr g e; omega)) (fun g e => HF.out g (hfr g e)))
  have HK3 : Hid (Kept F w (w2.setCell ⟨c, 2, none⟩ v2)) := Lib.hid ((((Kept.new F hb1).alloc _).also (hT2.1.mono (fun k _ e => HF.out k (hO1.lt e.symm).1))).setCell (p := ⟨c, 2, none⟩) (fun _ => H.out.inF c Rc.m0) v2)
  obtain ⟨p2, c2, hv2, hl2, hm2⟩ := hO2.shape
  rw [List.length_append, List.length_map, List.length_singleton, ← Hlr.out] at hv2 hl2
  unfold maxLen at hm2
  subst hv2
  clear hO1 hO1' hO2 hT2 hb1 hw1 H1 H2 hT hfr hsz1
  go_upto_region 1 with (fail)
  obtain ⟨w3, hw3⟩ : ∃ w3, w3 = w2.setCell ⟨c, 2, none⟩ (.slice p2 (lr + 1) c2) := ⟨_, rfl⟩
  rw [← hw3] at H3 HK3 ⊢
  have d3 := H3.out.c3
  obtain ⟨gv', ov', cv', hvv', _, _, _, _, hcv', hfv'⟩ := H3.out.val.at0 (by rw [List.length_map, ← Hmv.out]; omega)
  rw [List.length_map] at hvv' hcv'
  injection hvv' with e1 e2' e3'
  injection e1 with e1
  injection e1 with e1 e1'
  subst e1 e1'
  have dq := hcv' q (by rw [← Hmv.out]; exact hqv)
  have dq' : ∃ s0 : ByteArray, w3.cell? ⟨gv, ov + q, none⟩ = some (.string s0) := by
    rw [dq, List.getElem?_map, List.getElem?_eq_getElem (by rw [← Hmv.out]; exact hqv)]; exact ⟨_, rfl⟩
  obtain ⟨s0, dq'⟩ := dq'
  have H4 := Lib.hid (H3.out.setVal rfl q (by rw [← Hmv.out]; exact hqv) b)
  have HK4 := Lib.hid (HK3.out.setCell (p := ⟨gv, ov + q, none⟩) (fun _ => H3.out.inF gv (Rc.m3 rfl)) (.string b))
  clear hw3 hcv' dq e2 ef e2' e3' H3 HK3
  go_upto_region 2 with (fail)
  obtain ⟨w4, hw4⟩ : ∃ w4, w4 = w3.setCell ⟨gv, ov + q, none⟩ (.string b) := ⟨_, rfl⟩
  rw [← hw4] at H4 HK4 ⊢
  have k1 := H4.out.c1
  have k2 := H4.out.c2
  have hrv := rval_put HV.out (q := q) (by rw [← Hmv.out]; exact hqv) b (r' := r ++ [(q : Int)]) (by
    intro x hx hne
    rcases List.mem_append.1 hx with hx | hx
    · rw [Hr.out] at hx
      have := (Cc.wo_mem.1 hx).1
      exact ⟨this, (HInv.out.row x this).1⟩
    · exact absurd (List.mem_singleton.1 hx) hne)
  have Hrv := Lib.hid hrv
  clear hw4 d3 dq' hfv' hrv
  have hgt1 : lr ≤ s.room := by omega
  by_cases hfull : lr = s.room
  · have hgt : decide ((s.room : Int) < (lr : Int) + 1) = true := dec_t (by omega)
    have hpos : 0 < r.length := by rw [← Hlr.out]; omega
    obtain ⟨old0, t, hrt⟩ : ∃ old0 t, r = old0 :: t := by
      cases hh : r with
      | nil => rw [hh] at hpos; simp at hpos
      | cons a t => exact ⟨a, t, rfl⟩
    have hor : old0 ∈ s.row ∧ old0 ≠ (q : Int) := Cc.wo_mem.1 (by rw [← Hr.out, hrt]; exact List.mem_cons_self)
    have hob := HInv.out.row old0 hor.1
    have hnd : (old0 :: t).Nodup := by rw [← hrt, Hr.out]; exact Cc.wo_nodup HInv.out.nd q
    obtain ⟨p, hp⟩ : ∃ p : Nat, old0 = p := ⟨old0.toNat, by omega⟩
    have hwt : Cc.wo (old0 :: t ++ [(q : Int)]) (p : Int) = t ++ [(q : Int)] := by rw [← hp]; exact Cc.wo_tail hnd (q := (q : Int)) (fun e => hor.2 e.symm)
    have hpb : p < mb := by have := hob.2; rw [← Hmb.out] at this; omega
    have hpv : p < mv := by have := H.out.vlen; rw [← Hmv.out, ← Hmb.out] at this; omega
    have hpbI : (p : Int) < (mb : Int) := by omega
    have hpvI : (p : Int) < (mv : Int) := by omega
    have hput := Cc.put_big (s := s) (i := q) (b := b) (old := old0) (t := t) (by rw [← Hr.out, ← Hlr.out]; exact hfull) (by rw [← Hr.out]; exact hrt)
    have hpq : p ≠ q := by intro e; exact hor.2 (by rw [hp, e])
    have hvp : Cc.at' (vals.set q b) p = s.val p := by
      rw [Cc.at_set_other (fun e => hpq e.symm)]
      have := HV.out old0 hor.1
      rw [hp, Int.toNat_natCast] at this; exact this
    have hlt12 : t.length + 1 = lr := by rw [Hlr.out, hrt]; rfl
    rw [hrt] at H4 Hrv
    have Hput := Lib.hid hput
    have Hwt := Lib.hid hwt
    have Hp := Lib.hid hp
    have Hvp := Lib.hid hvp
    have hlr1 : lr ≤ 12 := by omega
    have ht12 : t.length ≤ 12 := by omega
    clear hfull hor hob hnd hp hwt hput hvp hrt hpos hlt12
    go_quiet (fail)
    have H5 := Lib.hid (H4.out.below' (bdrew (Below.refl _ _) nq))
    have HK5 := Lib.hid (HK4.out.drewN nq)
    obtain ⟨w5, hw5⟩ : ∃ w5, w5 = w4.drewN nq := ⟨_, rfl⟩
    rw [← hw5] at H5 HK5 ⊢
    obtain ⟨g2, o2, c2', hv2, _, _, _, _, hc2, _⟩ := H5.out.row.at0 (by rw [List.length_map]; simp)
    injection hv2 with e1 e2 e3
    subst e1
    have d0 := hc2 0 (by rw [List.length_map]; simp)
    have d0' : w5.cell? ⟨g2, o2 + 0, none⟩ = some (iv p) := by rw [d0, ← Hp.out]; rfl
    rw [Nat.add_zero] at d0'
    have d2 := H5.out.c2
    have d4 := H5.out.c4
    have HIn := Lib.hid (in_any s.dirty p vd w5 H5.out.dirty.row)
    obtain ⟨isd, hisd⟩ : ∃ isd, isd = s.dirty.contains (p : Int) := ⟨_, rfl⟩
    rw [← hisd] at HIn
    have Hisd := Lib.hid hisd
    clear hw5 e2 e3 hc2 d0 hisd k1 k2 H4 HK4 hgt
    go_wp2_with fail
    refine HIn.out.mono ?_
    rintro e w' ⟨rfl, rfl⟩
    clear HIn d0'
    cases isd with
    | false =>
      have HW8 := Lib.hid (rwithout_any (old0 :: t ++ [(q : Int)]) (p : Int) (by rw [List.length_append, List.length_cons, List.length_singleton]; omega) _ _ H5.out.row.row)
      have k2 := H5.out.c2
      go_wp2_with fail
      refine HW8.out.mono ?_
      rintro e w9 ⟨v9, rfl, hO9, hb9⟩
      have H9 := Lib.hid (H5.out.below' hb9)
      have HK9 := Lib.hid (HK5.out.also (Kept.new F hb9))
      have k9 := H9.out.c2
      have f9 := H9.out.f
      rw [Hwt.out] at hO9
      have hfr : ∀ g, v9.ownBlock = some g → some g ∉ rcB c (.slice (some ⟨gb, ob, none⟩) mb cb) (.slice (some ⟨g2, o2, none⟩) (lr + 1) c2) (.slice (some ⟨gv, ov, none⟩) mv cv) vd := fun g e hm => by
        have h1 := (hO9.lt e).1
        have h2 := H5.out.lt hm
        omega
      have H10 := H9.out.rowT (v' := v9) (r' := t ++ [(q : Int)]) (Kept.refl (fun _ => False) _) (fun g hm t => t.elim) (hO9.mono (Nat.zero_le _)) (.inr hfr) (fun g e => HF.out g (Nat.le_trans HK5.out.size (hO9.lt e).1))
      have H10' := Lib.hid H10
      have hk10 := HK9.out.setCell (p := ⟨c, 2, none⟩) (fun _ => H9.out.inF c Rc.m0) v9
      have HK10 := Lib.hid hk10
      obtain ⟨p9, m9, c9, hv9⟩ := hO9.slice
      subst hv9
      clear hO9 hb9 HW8 hfr H10 hk10
      go_wp2_with fail
      go_end0
      refine ⟨rfl, ?_, HK10.out⟩
      rw [Hput.out, Hp.out, ← Hisd.out]
      exact ⟨_, _, _, _, _, H10'.out.val' _, fun x hx => Hrv.out x (List.mem_cons_of_mem _ hx)⟩
    | true =>
      have c0 := H5.out.c0
      have c3 := H5.out.c3
      obtain ⟨gv', ov', cv', hvv', _, _, _, _, hcv', hfv'⟩ := H5.out.val.at0 (by rw [List.length_map, List.length_set, ← Hmv.out]; omega)
      rw [List.length_map, List.length_set] at hvv' hcv'
      injection hvv' with e1 e2' e3'
      injection e1 with e1
      injection e1 with e1 e1'
      subst e1 e1'
      have dp := hcv' p (by rw [← Hmv.out]; exact hpv)
      rw [List.getElem?_map, Cc.at_get (by rw [List.length_set, ← Hmv.out]; exact hpv), Hvp.out] at dp
      have dp' : w5.cell? ⟨gv, ov + p, none⟩ = some (.string (s.val p)) := dp
      obtain ⟨gb', ob', cb', hvb', _, _, _, _, hcb', hfb'⟩ := H5.out.below.at0 (by rw [List.length_map, ← Hmb.out]; omega)
      rw [List.length_map] at hvb' hcb'
      injection hvb' with e1 e2'' e3''
      injection e1 with e1
      injection e1 with e1 e1'
      subst e1 e1'
      have db := hcb' p (by rw [← Hmb.out]; exact hpb)
      have db' : ∃ s1 : ByteArray, w5.cell? ⟨gb, ob + p, none⟩ = some (.string s1) := by
        rw [db, List.getElem?_map, List.getElem?_eq_getElem (by rw [← Hmb.out]; exact hpb)]; exact ⟨_, rfl⟩
      obtain ⟨s1, db'⟩ := db'
      obtain ⟨x0, hx0⟩ : ∃ x0, x0 = s.val p := ⟨_, rfl⟩
      rw [← hx0] at dp'
      have H6 := Lib.hid ((H5.out.setBelow rfl p (by show p < s.below.length; rw [← Hmb.out]; exact hpb) x0).below' ((Below.refl _ _).drew))
      have HK6 := Lib.hid ((HK5.out.setCell (p := ⟨gb, ob + p, none⟩) (fun _ => H5.out.inF gb (Rc.m1 rfl)) (.string x0)).drew)
      have Hx0 := Lib.hid hx0
      clear e2' e3' e2'' e3'' hcv' hcb' dp db hx0 hfv'
      go_wp2_with fail
      go_region
      go_upto_region 7 with (fail)
      obtain ⟨w6, hw6⟩ : ∃ w6, w6 = (w5.setCell ⟨gb, ob + p, none⟩ (.string x0)).drew := ⟨_, rfl⟩
      rw [← hw6] at H6 HK6 ⊢
      have j4 := H6.out.c4
      have HW7 := Lib.hid (rwithout_any s.dirty p (by omega) _ _ H6.out.dirty.row)
      clear hw6 c0 c3 dp' db' hfb' H5 HK5 d2 d4
      go_wp2_with fail
      refine HW7.out.mono ?_
      rintro e w7 ⟨v7, rfl, hO7, hb7⟩
      have H7 := Lib.hid (H6.out.below' hb7)
      have HK7 := Lib.hid (HK6.out.also (Kept.new F hb7))
      have i4 := H7.out.c4
      have f7 := H7.out.f
      have H8 := H7.out.dirtyT (v' := v7) (r' := Cc.wo s.dirty p) (Kept.refl (fun _ => False) _) (fun g hm t => t.elim) (hO7.mono (Nat.zero_le _)) (.inr (fun g e hm => by have h1 := (hO7.lt e).1; have h2 := H6.out.lt hm; omega)) (fun g e => HF.out g (Nat.le_trans HK6.out.size (hO7.lt e).1))
      have H8' := Lib.hid H8
      have HK8 := Lib.hid (HK7.out.setCell (p := ⟨c, 4, none⟩) (fun _ => H7.out.inF c Rc.m0) v7)
      obtain ⟨p7, m7, c7, hv7⟩ := hO7.slice
      subst hv7
      clear hO7 hb7 HW7 H8 j4
      go_upto_region 8 with (fail)
      obtain ⟨w8, hw8⟩ : ∃ w8, w8 = w7.setCell ⟨c, 4, none⟩ (.slice p7 m7 c7) := ⟨_, rfl⟩
      rw [← hw8] at H8' HK8 ⊢
      clear hw8 i4 f7 H6 HK6 H7 HK7
      have HW8 := Lib.hid (rwithout_any (old0 :: t ++ [(q : Int)]) (p : Int) (by rw [List.length_append, List.length_cons, List.length_singleton]; omega) _ _ H8'.out.row.row)
      have k2 := H8'.out.c2
      go_wp2_with fail
      refine HW8.out.mono ?_
      rintro e w9 ⟨v9, rfl, hO9, hb9⟩
      have H9 := Lib.hid (H8'.out.below' hb9)
      have HK9 := Lib.hid (HK8.out.also (Kept.new F hb9))
      have k9 := H9.out.c2
      have f9 := H9.out.f
      rw [Hwt.out] at hO9
      have hfr : ∀ g, v9.ownBlock = some g → some g ∉ rcB c (.slice (some ⟨gb, ob, none⟩) mb cb) (.slice (some ⟨g2, o2, none⟩) (lr + 1) c2) (.slice (some ⟨gv, ov, none⟩) mv cv) (.slice p7 m7 c7) := fun g e hm => by
        have h1 := (hO9.lt e).1
        have h2 := H8'.out.lt hm
        omega
      have H10 := H9.out.rowT (v' := v9) (r' := t ++ [(q : Int)]) (Kept.refl (fun _ => False) _) (fun g hm t => t.elim) (hO9.mono (Nat.zero_le _)) (.inr hfr) (fun g e => HF.out g (Nat.le_trans HK8.out.size (hO9.lt e).1))
      have H10' := Lib.hid H10
      have hk10 := HK9.out.setCell (p := ⟨c, 2, none⟩) (fun _ => H9.out.inF c Rc.m0) v9
      have HK10 := Lib.hid hk10
      obtain ⟨p9, m9, c9, hv9⟩ := hO9.slice
      subst hv9
      clear hO9 hb9 HW8 hfr H10 hk10
      go_wp2_with fail
      go_end0
      refine ⟨rfl, ?_, HK10.out⟩
      rw [Hput.out, Hp.out, ← Hisd.out]
      have hfin := H10'.out
      rw [Hx0.out] at hfin
      exact ⟨_, _, _, _, _, hfin.val' _, fun x hx => Hrv.out x (List.mem_cons_of_mem _ hx)⟩
  · have hgt : decide ((s.room : Int) < (lr : Int) + 1) = false := dec_f (by omega)
    have hput := Cc.put_small (s := s) (i := q) (b := b) (by rw [← Hr.out, ← Hlr.out]; exact hfull)
    rw [← Hr.out] at hput
    have Hput := Lib.hid hput
    clear hfull hput
    go_quiet (fail)
    go_wp2_with fail
    go_end0
    refine ⟨rfl, ?_, HK4.out.drewN nq⟩
    rw [Hput.out]
    exact ⟨_, _, _, _, _, (H4.out.below' (bdrew (Below.refl _ _) nq)).val' _, Hrv.out⟩
end Go.Proofs.YtangcjffiooapaaDoor
