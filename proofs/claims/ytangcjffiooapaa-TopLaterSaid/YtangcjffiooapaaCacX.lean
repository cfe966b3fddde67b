/- A cache in memory, and the walks of New, clean, put. -/
import Derived.Test.YtangcjffiooapaaCacW
import Derived.Test.YtangcjffiooapaaCloneS
import Derived.Deep.QuietTactic
import Derived.BigQuiet
import Derived.RegionTactic
import Derived.Deep.DeepCutAuto
import Derived.Deep.CutBlock
import Derived.Deep.RegionHeld3
import Derived.Maps.OwnSet
namespace Go.Proofs.Ytangcjffiooapaa
open Go.ChangeShapes Go.WideShapes Go.ChangeAt Go.RowKit Go.Maps
set_option linter.unusedVariables false
def cacBlk (room hits : Nat) (mb : Nat) (vb vr vd : Value) : Obj := .cells #[vb, iv room, .map (some mb), vr, vd, iv hits] 69 (0, 0)
def Sep (v v' : Value) : Prop := ∀ g, v.ownBlock = some g → v'.ownBlock ≠ some g
structure CacAt (w : World) (b mb : Nat) (vb vr vd : Value) (n : Nat) (D : DataW Unit) (ks : List Int) (c : Cc.C) : Prop where
  blk : w.heap[b]? = some (cacBlk c.room c.hits mb vb vr vd)
  below : OwnR w 0 9 vb (c.below.map Value.string)
  has : HasAt w mb n ks c.val D
  row : OwnR w 0 3 vr (c.row.map iv)
  dirty : OwnR w 0 3 vd (c.dirty.map iv)
  bm : b ≠ mb
  b1 : vb.ownBlock ≠ some b
  b2 : vr.ownBlock ≠ some b
  b3 : vd.ownBlock ≠ some b
  m1 : vb.ownBlock ≠ some mb
  m2 : vr.ownBlock ≠ some mb
  m3 : vd.ownBlock ≠ some mb
  s12 : Sep vb vr
  s13 : Sep vb vd
  s23 : Sep vr vd
structure CacIn (F : Nat → Prop) (b mb : Nat) (vb vr vd : Value) : Prop where
  b : F b
  m : F mb
  v1 : ∀ g, vb.ownBlock = some g → F g
  v2 : ∀ g, vr.ownBlock = some g → F g
  v3 : ∀ g, vd.ownBlock = some g → F g
namespace CacAt
variable {w w' : World} {b mb n : Nat} {vb vr vd : Value} {D : DataW Unit} {ks : List Int} {c : Cc.C}
theorem lt (h : CacAt w b mb vb vr vd n D ks c) : b < w.heap.size := (Array.getElem?_eq_some_iff.1 h.blk).1
theorem cell (h : CacAt w b mb vb vr vd n D ks c) (j : Nat) : w.cell? ⟨b, j, none⟩ = #[vb, iv c.room, .map (some mb), vr, vd, iv c.hits][j]? := by rw [cell_of_row _ _ _ _ _ _ h.blk]
theorem c0 (h : CacAt w b mb vb vr vd n D ks c) : w.cell? ⟨b, 0, none⟩ = some vb := by rw [h.cell]; rfl
theorem c1 (h : CacAt w b mb vb vr vd n D ks c) : w.cell? ⟨b, 1, none⟩ = some (iv c.room) := by rw [h.cell]; rfl
theorem c2 (h : CacAt w b mb vb vr vd n D ks c) : w.cell? ⟨b, 2, none⟩ = some (.map (some mb)) := by rw [h.cell]; rfl
theorem c3 (h : CacAt w b mb vb vr vd n D ks c) : w.cell? ⟨b, 3, none⟩ = some vr := by rw [h.cell]; rfl
theorem c4 (h : CacAt w b mb vb vr vd n D ks c) : w.cell? ⟨b, 4, none⟩ = some vd := by rw [h.cell]; rfl
theorem c5 (h : CacAt w b mb vb vr vd n D ks c) : w.cell? ⟨b, 5, none⟩ = some (iv c.hits) := by rw [h.cell]; rfl
theorem f (h : CacAt w b mb vb vr vd n D ks c) (j : Nat) : w.frozen? ⟨b, j, none⟩ = false := frozen_of_row _ _ _ _ _ h.blk
theorem below' (h : CacAt w b mb vb vr vd n D ks c) (hb : Below w.heap.size w w') : CacAt w' b mb vb vr vd n D ks c :=
  { h with blk := by rw [hb.block b h.lt]; exact h.blk, below := h.below.below hb, has := h.has.kept (Kept.new (fun _ => False) hb) (fun e => e), row := h.row.below hb, dirty := h.dirty.below hb }
/-- only what none of its blocks is has turned -/
theorem kept (h : CacAt w b mb vb vr vd n D ks c) {T : Nat → Prop} (hk : Kept T w w') (hb : ¬ T b) (hm : ¬ T mb) (h1 : ∀ g, vb.ownBlock = some g → ¬ T g) (h2 : ∀ g, vr.ownBlock = some g → ¬ T g) (h3 : ∀ g, vd.ownBlock = some g → ¬ T g) : CacAt w' b mb vb vr vd n D ks c :=
  { h with blk := hk.heap h.blk hb, below := h.below.kept hk h1, has := h.has.kept hk hm, row := h.row.kept hk h2, dirty := h.dirty.kept hk h3 }
/-- the map has turned -/
theorem mapped (h : CacAt w b mb vb vr vd n D ks c) (hk : Kept (fun k => some k = some mb) w w') {n' : Nat} {D' : DataW Unit} {ks' : List Int} {val' : Int → ByteArray} (hh : HasAt w' mb n' ks' val' D') : CacAt w' b mb vb vr vd n' D' ks' { c with val := val' } :=
  { h with blk := hk.heap h.blk (fun e => h.bm (Option.some.inj e)), below := h.below.kept hk (fun g hg e => h.m1 (by rw [hg, e])), has := hh, row := h.row.kept hk (fun g hg e => h.m2 (by rw [hg, e])), dirty := h.dirty.kept hk (fun g hg e => h.m3 (by rw [hg, e])) }
/-- the row is another list, in a block of its own or that of the old one -/
theorem setRow (h : CacAt w b mb vb vr vd n D ks c) {vr' : Value} {row' : List Int} (hr : OwnR w 0 3 vr' (row'.map iv)) (hv : ∀ g, vr'.ownBlock = some g → g ≠ b ∧ g ≠ mb ∧ vb.ownBlock ≠ some g ∧ vd.ownBlock ≠ some g) : CacAt (w.setCell ⟨b, 3, none⟩ vr') b mb vb vr' vd n D ks { c with row := row' } := by
  have hk : Kept (· = b) w (w.setCell ⟨b, 3, none⟩ vr') := (Kept.self b w).set1 _ _
  refine ⟨?_, h.below.kept hk (fun g hg e => h.b1 (by rw [hg, e])), h.has.kept hk (fun e => h.bm e.symm), hr.kept hk (fun g hg e => (hv g hg).1 e), h.dirty.kept hk (fun g hg e => h.b3 (by rw [hg, e])), h.bm, h.b1, fun e => (hv b e).1 rfl, h.b3, h.m1, fun e => (hv mb e).2.1 rfl, h.m3, fun g hg e => (hv g e).2.2.1 hg, h.s13, fun g hg e => (hv g hg).2.2.2 e⟩
  rw [heap_setCell_same _ _ _ _ _ _ h.blk]; rfl
theorem turnRow (h : CacAt w b mb vb vr vd n D ks c) {v' : Value} (ht : Turned w w' vr v') {row' : List Int} (hr : OwnR w' 0 3 v' (row'.map iv)) : CacAt (w'.setCell ⟨b, 3, none⟩ v') b mb vb v' vd n D ks { c with row := row' } := by
  have hT : ∀ g, v'.ownBlock = some g → vr.ownBlock = some g ∨ w.heap.size ≤ g := fun g hg => by
    rcases ht.2 with e | e
    · left; rw [← e]; exact hg
    · right; exact e g hg
  have hbl := h.lt
  have hml := h.has.lt
  have hn1 : v'.ownBlock ≠ some b := fun e => by
    rcases hT b e with e2 | e2
    · exact h.b2 e2
    · omega
  have hn2 : v'.ownBlock ≠ some mb := fun e => by
    rcases hT mb e with e2 | e2
    · exact h.m2 e2
    · omega
  have hs1 : Sep vb v' := fun g hg e => by
    rcases hT g e with e2 | e2
    · exact h.s12 g hg e2
    · have := (h.below.lt hg).2; omega
  have hs2 : Sep v' vd := fun g hg e => by
    rcases hT g hg with e2 | e2
    · exact h.s23 g e2 e
    · have := (h.dirty.lt e).2; omega
  have hkr : Kept (· = b) w' (w'.setCell ⟨b, 3, none⟩ v') := (Kept.self b w').set1 _ _
  refine ⟨?_, (h.below.kept ht.1 (fun g hg e => h.s12 g hg e.symm)).kept hkr (fun g hg e => h.b1 (by rw [hg, e])), (h.has.kept ht.1 (fun e => h.m2 e.symm)).kept hkr (fun e => h.bm e.symm), hr.kept hkr (fun g hg e => hn1 (by rw [hg, e])), (h.dirty.kept ht.1 (fun g hg e => h.s23 g e.symm hg)).kept hkr (fun g hg e => h.b3 (by rw [hg, e])), h.bm, h.b1, hn1, h.b3, h.m1, hn2, h.m3, hs1, h.s13, hs2⟩
  rw [heap_setCell_same _ _ _ _ _ _ (ht.1.heap h.blk (fun e => h.b2 e.symm))]; rfl
theorem turnDirty (h : CacAt w b mb vb vr vd n D ks c) {v' : Value} (ht : Turned w w' vd v') {dirty' : List Int} (hr : OwnR w' 0 3 v' (dirty'.map iv)) : CacAt (w'.setCell ⟨b, 4, none⟩ v') b mb vb vr v' n D ks { c with dirty := dirty' } := by
  have hT : ∀ g, v'.ownBlock = some g → vd.ownBlock = some g ∨ w.heap.size ≤ g := fun g hg => by
    rcases ht.2 with e | e
    · left; rw [← e]; exact hg
    · right; exact e g hg
  have hbl := h.lt
  have hml := h.has.lt
  have hn1 : v'.ownBlock ≠ some b := fun e => by
    rcases hT b e with e2 | e2
    · exact h.b3 e2
    · omega
  have hn2 : v'.ownBlock ≠ some mb := fun e => by
    rcases hT mb e with e2 | e2
    · exact h.m3 e2
    · omega
  have hs1 : Sep vb v' := fun g hg e => by
    rcases hT g e with e2 | e2
    · exact h.s13 g hg e2
    · have := (h.below.lt hg).2; omega
  have hs2 : Sep vr v' := fun g hg e => by
    rcases hT g e with e2 | e2
    · exact h.s23 g hg e2
    · have := (h.row.lt hg).2; omega
  have hkr : Kept (· = b) w' (w'.setCell ⟨b, 4, none⟩ v') := (Kept.self b w').set1 _ _
  refine ⟨?_, (h.below.kept ht.1 (fun g hg e => h.s13 g hg e.symm)).kept hkr (fun g hg e => h.b1 (by rw [hg, e])), (h.has.kept ht.1 (fun e => h.m3 e.symm)).kept hkr (fun e => h.bm e.symm), (h.row.kept ht.1 (fun g hg e => h.s23 g hg e.symm)).kept hkr (fun g hg e => h.b2 (by rw [hg, e])), hr.kept hkr (fun g hg e => hn1 (by rw [hg, e])), h.bm, h.b1, h.b2, hn1, h.m1, h.m2, hn2, h.s12, hs1, hs2⟩
  rw [heap_setCell_same _ _ _ _ _ _ (ht.1.heap h.blk (fun e => h.b3 e.symm))]; rfl
theorem setDirty (h : CacAt w b mb vb vr vd n D ks c) {vd' : Value} {dirty' : List Int} (hr : OwnR w 0 3 vd' (dirty'.map iv)) (hv : ∀ g, vd'.ownBlock = some g → g ≠ b ∧ g ≠ mb ∧ vb.ownBlock ≠ some g ∧ vr.ownBlock ≠ some g) : CacAt (w.setCell ⟨b, 4, none⟩ vd') b mb vb vr vd' n D ks { c with dirty := dirty' } := by
  have hk : Kept (· = b) w (w.setCell ⟨b, 4, none⟩ vd') := (Kept.self b w).set1 _ _
  refine ⟨?_, h.below.kept hk (fun g hg e => h.b1 (by rw [hg, e])), h.has.kept hk (fun e => h.bm e.symm), h.row.kept hk (fun g hg e => h.b2 (by rw [hg, e])), hr.kept hk (fun g hg e => (hv g hg).1 e), h.bm, h.b1, h.b2, fun e => (hv b e).1 rfl, h.m1, h.m2, fun e => (hv mb e).2.1 rfl, h.s12, fun g hg e => (hv g e).2.2.1 hg, fun g hg e => (hv g e).2.2.2 hg⟩
  rw [heap_setCell_same _ _ _ _ _ _ h.blk]; rfl
theorem setHits (h : CacAt w b mb vb vr vd n D ks c) (k : Nat) : CacAt (w.setCell ⟨b, 5, none⟩ (iv k)) b mb vb vr vd n D ks { c with hits := k } := by
  have hk : Kept (· = b) w (w.setCell ⟨b, 5, none⟩ (iv k)) := (Kept.self b w).set1 _ _
  refine { h with blk := ?_, below := h.below.kept hk (fun g hg e => h.b1 (by rw [hg, e])), has := h.has.kept hk (fun e => h.bm e.symm), row := h.row.kept hk (fun g hg e => h.b2 (by rw [hg, e])), dirty := h.dirty.kept hk (fun g hg e => h.b3 (by rw [hg, e])) }
  rw [heap_setCell_same _ _ _ _ _ _ h.blk]; rfl
theorem setBelow (h : CacAt w b mb vb vr vd n D ks c) {g o m cap : Nat} (hv : vb = .slice (some ⟨g, o, none⟩) m cap) (i : Nat) (hi : i < c.below.length) (s : ByteArray) : CacAt (w.setCell ⟨g, o + i, none⟩ (.string s)) b mb vb vr vd n D ks { c with below := c.below.set i s } := by
  have hk : Kept (· = g) w (w.setCell ⟨g, o + i, none⟩ (.string s)) := (Kept.self g w).set1 _ _
  have hg : vb.ownBlock = some g := by rw [hv]; rfl
  have hbg : b ≠ g := fun e => h.b1 (by rw [hg, e])
  have hmg : mb ≠ g := fun e => h.m1 (by rw [hg, e])
  refine { h with blk := hk.heap h.blk hbg, below := ?_, has := h.has.kept hk hmg, row := h.row.kept hk (fun q hq e => h.s12 g hg (by rw [hq, e])), dirty := h.dirty.kept hk (fun q hq e => h.s13 g hg (by rw [hq, e])) }
  rcases h.below with ⟨hn, hx⟩ | ⟨g', o', cap', cur, hv', hb', hg', h1, h2, h3, h4⟩
  · rw [hn] at hv; cases hv
  · rw [hv] at hv'
    cases hv'
    rw [List.length_map] at h1 h4
    refine .inr ⟨g, o, cap, cur.setIfInBounds (o + i) (.string s), by rw [hv]; simp, Nat.zero_le _, heap_setCell_same _ _ _ _ _ _ hg', by rw [List.length_map, List.length_set]; exact h1, h2, by rw [Array.size_setIfInBounds]; exact h3, fun j hj => ?_⟩
    rw [List.length_map, List.length_set] at hj
    rw [List.map_set, List.getElem?_set, List.length_map]
    by_cases e : i = j
    · subst e
      rw [Array.getElem?_setIfInBounds_self_of_lt (by omega), if_pos rfl, if_pos hi]
    · rw [Array.getElem?_setIfInBounds_ne (by omega), if_neg e]
      exact h4 j hj
end CacAt
def CacOk (F : Nat → Prop) (w : World) (b n : Nat) (c : Cc.C) : Prop := ∃ mb vb vr vd D, CacAt w b mb vb vr vd n D c.row c ∧ CacIn F b mb vb vr vd
theorem CacOk.below {F : Nat → Prop} {w w' : World} {b n : Nat} {c : Cc.C} (h : CacOk F w b n c) (hb : Below w.heap.size w w') : CacOk F w' b n c := by
  obtain ⟨mb, vb, vr, vd, D, h1, h2⟩ := h; exact ⟨mb, vb, vr, vd, D, h1.below' hb, h2⟩
theorem CacOk.wide {F F' : Nat → Prop} {w : World} {b n : Nat} {c : Cc.C} (h : CacOk F w b n c) (hF : ∀ k, k < w.heap.size → F k → F' k) : CacOk F' w b n c := by
  obtain ⟨mb, vb, vr, vd, D, h1, h2⟩ := h
  exact ⟨mb, vb, vr, vd, D, h1, hF _ h1.lt h2.b, hF _ h1.has.lt h2.m, fun g hg => hF _ (h1.below.lt hg).2 (h2.v1 g hg), fun g hg => hF _ (h1.row.lt hg).2 (h2.v2 g hg), fun g hg => hF _ (h1.dirty.lt hg).2 (h2.v3 g hg)⟩
theorem there_any {w : World} {b mb n : Nat} {vb vr vd : Value} {D : DataW Unit} {ks : List Int} {c : Cc.C} (h : CacAt w b mb vb vr vd n D ks c) (i : Int) :
    Calls Try.prog 34 #[.pointer (some ⟨b, 0, none⟩), iv i] w fun e w' => e = .returned (.bool (Cc.there c i)) ∧ w = w' := by
  have c0 := h.c0
  obtain ⟨p, cap, hv, hl, hm⟩ := h.below.shape
  rw [List.length_map] at hv hl
  subst hv
  unfold maxLen at hm
  unfold Cc.there
  generalize c.below.length = m at *
  clear h
  by_cases h0 : 0 ≤ i
  · rw [dec_t h0, Bool.true_and]
    obtain ⟨r, hr⟩ : ∃ r, r = decide (i < (m : Int)) := ⟨_, rfl⟩
    rw [← hr]
    have Hr := Lib.hid hr
    clear hr
    go_enter Try.func34, Try.ntmps34
    go_wp2
    go_ret
    exact ⟨by rw [Hr.out]; rfl, rfl⟩
  · rw [dec_f h0, Bool.false_and]
    go_enter Try.func34, Try.ntmps34
    go_wp2
    go_ret
    exact ⟨rfl, rfl⟩
def CacNewPost (cells : List ByteArray) (room : Nat) (w : World) (e : Ending) (w' : World) : Prop :=
  ∃ b, e = .returned (.tuple #[.pointer (some ⟨b, 0, none⟩), .nilIface]) ∧ CacOk (fun k => w.heap.size ≤ k) w' b 0 (Cc.new cells room) ∧ Below w.heap.size w w'
theorem cacNew_any (cells : List ByteArray) (room : Nat) (h1 : 1 ≤ room) (h2 : room ≤ 12) (h0 : cellsF cells = 0) (v : Value) (w : World) (hv : Row w v (cells.map Value.string)) :
    Calls Try.prog 8 #[v, iv room] w (CacNewPost cells room w) := by
  have hmm := @run_makeMap Try.prog
  have HC := Lib.hid (cells_any cells v w hv)
  rw [h0] at HC
  have hlen := (cellsF_0 h0).1
  have HL := Lib.hid (clone_str (cells.map Value.string) (by intro u hu; obtain ⟨x, _, rfl⟩ := List.mem_map.1 hu; rfl) (by rw [List.length_map]; omega) v w hv)
  clear h0 hv
  go_enter Try.func8, Try.ntmps8
  go_wp2_with fail
  refine HC.out.mono ?_
  rintro e w' ⟨he, rfl⟩
  obtain rfl : e = .returned .nilIface := he
  go_wp2_with fail
  refine HL.out.mono ?_
  rintro e w1 ⟨v1, rfl, hown, hb⟩
  have hO := (OwnR.of_owns hown).mono (Nat.zero_le _)
  obtain ⟨pv, mv, cv, rfl⟩ := hO.slice
  have hOl := fun g (hg : (Value.slice pv mv cv).ownBlock = some g) => (OwnR.of_owns hown).lt hg
  have HO := Lib.hid hO
  have HOl := Lib.hid hOl
  have HB := Lib.hid hb
  have hz := hb.size
  clear hown hb hO hOl HC HL
  go_wp2_with fail
  go_ret2
  obtain ⟨w2, hw2⟩ : ∃ w2, w2 = w1.alloc (.map #[] 0) := ⟨_, rfl⟩
  have hz2 : w2.heap.size = w1.heap.size + 1 := by rw [hw2]; simp
  have hA : CacAt ((w1.alloc (.map #[] 0)).alloc (.cells #[.slice pv mv cv, iv room, .map (some w1.heap.size), .slice none 0 0, .slice none 0 0, iv 0] 69)) (w1.heap.size + 1) w1.heap.size (.slice pv mv cv) (.slice none 0 0) (.slice none 0 0) 0 (.map []) [] (Cc.new cells room) := by
    have hb1 : Below w1.heap.size w1 ((w1.alloc (.map #[] 0)).alloc (.cells #[.slice pv mv cv, iv room, .map (some w1.heap.size), .slice none 0 0, .slice none 0 0, iv 0] 69)) := ((Below.refl _ _).alloc (Nat.le_refl _) _).alloc (by simp) _
    refine ⟨?_, HO.out.below hb1, (HasAt.made w1 _).kept (Kept.new (fun _ => False) ((Below.refl _ _).alloc (Nat.le_refl _) _)) (fun e => e), OwnR.nil _ _ _, OwnR.nil _ _ _, by omega, fun e => by have := (HOl.out _ e).2; omega, (fun e => by cases e), (fun e => by cases e), fun e => by have := (HOl.out _ e).2; omega, (fun e => by cases e), (fun e => by cases e), (fun g _ e => by cases e), (fun g _ e => by cases e), (fun g _ e => by cases e)⟩
    have := heap_alloc_new (w1.alloc (.map #[] 0)) (.cells #[.slice pv mv cv, iv room, .map (some w1.heap.size), .slice none 0 0, .slice none 0 0, iv 0] 69)
    rw [← hw2] at this ⊢
    rw [hz2] at this
    exact this
  exact ⟨_, rfl, ⟨_, _, _, _, _, hA, by omega, hz, fun g hg => (HOl.out g hg).1, (fun g hg => by cases hg), (fun g hg => by cases hg)⟩, (HB.out.alloc hz _).alloc (by simp; omega) _⟩
end Go.Proofs.Ytangcjffiooapaa
