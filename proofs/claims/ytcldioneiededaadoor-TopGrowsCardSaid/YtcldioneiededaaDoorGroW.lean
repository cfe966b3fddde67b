/- Disks in memory: lists of strings, each in a block of its own, their slices in a list of one's own. -/
import Derived.Test.YtcldioneiededaaDoorGroP
import Derived.Test.YtcldioneiededaaDoorBlk
import Derived.Test.YtcldioneiededaaDoorPqH
namespace Go.Proofs.YtcldioneiededaaDoor
open Go.ChangeShapes Go.WideShapes Go.ChangeAt Go.RowKit
set_option linter.unusedVariables false
def Sepr (v v' : Value) : Prop := ∀ g, v.ownBlock = some g → v'.ownBlock ≠ some g
def upd {α : Type} (f : Nat → α) (i : Nat) (x : α) : Nat → α := fun r => if r = i then x else f r
theorem upd_self {α : Type} (f : Nat → α) (i : Nat) (x : α) : upd f i x i = x := if_pos rfl
theorem upd_ne {α : Type} (f : Nat → α) {i r : Nat} (x : α) (h : r ≠ i) : upd f i x r = f r := if_neg h
theorem upd_same {α : Type} (f : Nat → α) (i : Nat) : upd f i (f i) = f := by funext r; unfold upd; split <;> simp_all
theorem upd_upd {α : Type} (f : Nat → α) (i : Nat) (x y : α) : upd (upd f i x) i y = upd f i y := by funext r; unfold upd; split <;> rfl
def vss (n : Nat) (vs : Nat → Value) : List Value := (List.range n).map vs
theorem vss_len (n : Nat) (vs : Nat → Value) : (vss n vs).length = n := by unfold vss; simp
theorem vss_get {n i : Nat} (vs : Nat → Value) (h : i < n) : (vss n vs)[i]? = some (vs i) := by unfold vss; rw [List.getElem?_map, List.getElem?_range h]; rfl
theorem vss_set {n i : Nat} (vs : Nat → Value) (v : Value) : (vss n vs).set i v = vss n (upd vs i v) := by
  apply List.ext_getElem?
  intro j
  rw [List.getElem?_set, vss_len]
  by_cases h : j < n
  · rw [vss_get _ h, vss_get _ h]
    by_cases e : i = j
    · subst e; rw [if_pos rfl, if_pos h, upd_self]
    · rw [if_neg e, upd_ne _ _ (fun h => e h.symm)]
  · rw [List.getElem?_eq_none (by rw [vss_len]; omega), List.getElem?_eq_none (by rw [vss_len]; omega)]
    split
    · rw [if_neg (by omega)]
    · rfl
/-- a list of one's own, of whatever values: a store into it -/
theorem OwnR.setV {w : World} {base g o n cap k : Nat} {E : TypeId} {xs : List Value} (h : OwnR w base E (.slice (some ⟨g, o, none⟩) n cap) xs) (hk : k < xs.length) (v : Value) :
    OwnR (w.setCell ⟨g, o + k, none⟩ v) base E (.slice (some ⟨g, o, none⟩) n cap) (xs.set k v) := by
  rcases h with ⟨hn, hx⟩ | ⟨g', o', cap', cur, hv', hb', hg', h1, h2, h3, h4⟩
  · cases hn
  · injection hv' with e1 e2 e3
    injection e1 with e1
    injection e1 with e4 e5
    subst e4 e5 e3
    refine .inr ⟨g, o, cap, cur.setIfInBounds (o + k) v, by rw [List.length_set, e2], hb', heap_setCell_same _ _ _ _ _ _ hg', by rw [List.length_set]; exact h1, h2, by rw [Array.size_setIfInBounds]; exact h3, fun j hj => ?_⟩
    rw [List.length_set] at hj
    rw [List.getElem?_set]
    by_cases e : k = j
    · subst e
      rw [Array.getElem?_setIfInBounds_self_of_lt (by omega), if_pos rfl, if_pos hk]
    · rw [Array.getElem?_setIfInBounds_ne (by omega), if_neg e]
      exact h4 j hj
theorem owns_cut {w : World} {base k n : Nat} {e : TypeId} {v : Value} {xs : List Value} (h : w.ownsRow base e 1 v n xs) (hk : k ≤ n) :
    ∃ p c, v = .slice p n c ∧ (v.ownBlock = none → n = 0 ∧ p = none ∧ c = 0) ∧ n ≤ c ∧ c ≤ maxLen ∧ w.ownsRow base e 1 (.slice p k c) k (xs.take k) ∧ (Value.slice p k c).ownBlock = v.ownBlock := by
  have hl : xs.length = n := by simpa using h.1
  rcases h.2 with ⟨rfl, h0⟩ | ⟨g, cap, cur, rfl, hb, hg, hnc, hcm, hcs, ht⟩
  · subst h0
    have : k = 0 := by omega
    subst this
    exact ⟨none, 0, rfl, fun _ => ⟨rfl, rfl, rfl⟩, Nat.le_refl _, Nat.zero_le _, ⟨by simp, .inl ⟨rfl, rfl⟩⟩, rfl⟩
  · refine ⟨_, cap, rfl, (fun h => by cases h), hnc, hcm, ⟨by rw [List.length_take]; omega, .inr ⟨g, cap, cur, rfl, hb, hg, by omega, hcm, hcs, ?_⟩⟩, rfl⟩
    rw [← ht, List.take_take]; congr 1; omega
theorem owns_set {w : World} {base g n cap k : Nat} {e : TypeId} {xs : List Value} (h : w.ownsRow base e 1 (.slice (some ⟨g, 0, none⟩) n cap) n xs) (hk : k < n) (v : Value) :
    (w.setCell ⟨g, k, none⟩ v).ownsRow base e 1 (.slice (some ⟨g, 0, none⟩) n cap) n (xs.set k v) := by
  rcases h.2 with ⟨hv, _⟩ | ⟨g', cap', cur, hv, hb, hg, hnc, hcm, hcs, ht⟩
  · cases hv
  · cases hv
    refine ⟨by rw [List.length_set]; exact h.1, .inr ⟨g, cap, cur.setIfInBounds k v, rfl, hb, heap_setCell_same _ _ _ _ _ _ hg, hnc, hcm, by rw [Array.size_setIfInBounds]; exact hcs, ?_⟩⟩
    rw [← ht]
    simp [List.take_set]
structure DsAt (w : World) (g c n : Nat) (vs : Nat → Value) (D : Gr.Ds) : Prop where
  out : OwnR w 0 40 (.slice (some ⟨g, 0, none⟩) n c) (vss n vs)
  rows : ∀ i, i < n → w.ownsRow 0 9 1 (vs i) (D i).length ((D i).map Value.string)
  ng : ∀ i, i < n → (vs i).ownBlock ≠ some g
  ap : ∀ i j, i < n → j < n → i ≠ j → Sepr (vs i) (vs j)
def DsIn (F : Nat → Prop) (g n : Nat) (vs : Nat → Value) : Prop := F g ∧ ∀ i, i < n → ∀ k, (vs i).ownBlock = some k → F k
namespace DsAt
variable {w w1 : World} {g c n : Nat} {vs : Nat → Value} {D : Gr.Ds}
theorem outer (h : DsAt w g c n vs D) (h0 : 0 < n) : g < w.heap.size ∧ n ≤ c ∧ c ≤ maxLen ∧ (∀ j, j < n → w.cell? ⟨g, j, none⟩ = some (vs j)) ∧ ∀ i, w.frozen? ⟨g, i, none⟩ = false := by
  obtain ⟨g', o', cap', hv, _, h2, h3, h4, h5, h6⟩ := h.out.at0 (by rw [vss_len]; exact h0)
  rw [vss_len] at hv h3 h5
  injection hv with e1 e2 e3
  injection e1 with e1
  injection e1 with e4 e5
  subst e4 e5 e3
  exact ⟨h2, h3, h4, fun j hj => by have := h5 j hj; rw [Nat.zero_add] at this; rw [this, vss_get vs hj], h6⟩
theorem kept {T : Nat → Prop} (h : DsAt w g c n vs D) (hk : Kept T w w1) (hg : ¬ T g) (hr : ∀ i, i < n → ∀ k, (vs i).ownBlock = some k → ¬ T k) : DsAt w1 g c n vs D :=
  ⟨h.out.kept hk (fun b hb => by cases hb; exact hg), fun i hi => Kept.owns (h.rows i hi) hk (fun k hk' => hr i hi k hk'), h.ng, h.ap⟩
theorem below (h : DsAt w g c n vs D) (hb : Below w.heap.size w w1) : DsAt w1 g c n vs D :=
  ⟨h.out.below hb, fun i hi => owns_below (h.rows i hi) hb, h.ng, h.ap⟩
theorem lt (h : DsAt w g c n vs D) {i k : Nat} (hi : i < n) (hk : (vs i).ownBlock = some k) : k < w.heap.size := ((h.rows i hi).lt k hk).2
/-- a row is another one, in its own block or a new one, and its slice is stored -/
theorem turn {i m : Nat} {v' : Value} {l : List ByteArray} (h : DsAt w g c n vs D) (hi : i < n) (hk : Kept (fun k => some k = (vs i).ownBlock) w w1) (hO : w1.ownsRow 0 9 1 v' m (l.map Value.string))
    (hv : ∀ k, v'.ownBlock = some k → (vs i).ownBlock = some k ∨ w.heap.size ≤ k) : DsAt (w1.setCell ⟨g, i, none⟩ v') g c n (upd vs i v') (upd D i l) := by
  have hgl : g < w.heap.size := (h.outer (by omega)).1
  have hml : m = l.length := by have := hO.1; simpa using this.symm
  subst hml
  have hvg : v'.ownBlock ≠ some g := fun e => by
    rcases hv g e with e2 | e2
    · exact h.ng i hi e2
    · omega
  have hsep : ∀ j, j < n → j ≠ i → Sepr (vs j) v' := fun j hj hne k hk' e => by
    rcases hv k e with e2 | e2
    · exact h.ap j i hj hi hne k hk' e2
    · have := h.lt hj hk'; omega
  have hs : Kept (· = g) w1 (w1.setCell ⟨g, i, none⟩ v') := (Kept.self g w1).set1 _ _
  have h1 := (h.out.kept hk (fun b hb => by cases hb; exact fun e => h.ng i hi e.symm)).setV (k := i) (by rw [vss_len]; exact hi) v'
  rw [vss_set, Nat.zero_add] at h1
  refine ⟨h1, fun r hr => ?_, fun r hr => ?_, fun r s hr hs' hne => ?_⟩
  · by_cases e : r = i
    · subst e; rw [upd_self, upd_self]; exact Kept.owns hO hs (fun k hk' e => hvg (by rw [hk', e]))
    · rw [upd_ne _ _ e, upd_ne _ _ e]
      exact Kept.owns (Kept.owns (h.rows r hr) hk (fun k hk' e2 => h.ap r i hr hi e k hk' e2.symm)) hs (fun k hk' e2 => h.ng r hr (by rw [hk', e2]))
  · by_cases e : r = i
    · subst e; rw [upd_self]; exact hvg
    · rw [upd_ne _ _ e]; exact h.ng r hr
  · by_cases e : r = i
    · subst e
      rw [upd_self, upd_ne _ _ (fun e => hne e.symm)]
      exact fun k hk' e2 => hsep s hs' (fun e => hne e.symm) k e2 hk'
    · by_cases e2 : s = i
      · subst e2
        rw [upd_self, upd_ne _ _ e]; exact hsep r hr e
      · rw [upd_ne _ _ e, upd_ne _ _ e2]; exact h.ap r s hr hs' hne
/-- a string is stored in a row -/
theorem setStr {i r b m cap : Nat} (h : DsAt w g c n vs D) (hi : i < n) (hv : vs i = .slice (some ⟨b, 0, none⟩) m cap) (hr : r < (D i).length) (s : ByteArray) : DsAt (w.setCell ⟨b, r, none⟩ (.string s)) g c n vs (upd D i ((D i).set r s)) := by
  have hk : Kept (· = b) w (w.setCell ⟨b, r, none⟩ (.string s)) := (Kept.self b w).set1 _ _
  have hvb : (vs i).ownBlock = some b := by rw [hv]; rfl
  refine ⟨h.out.kept hk (fun x hx => by cases hx; exact fun e => h.ng i hi (hvb.trans (congrArg some e.symm))), fun x hx => ?_, h.ng, h.ap⟩
  by_cases e : x = i
  · subst e
    rw [upd_self, List.length_set, List.map_set, hv]
    have := h.rows x hx
    rw [hv] at this
    rcases this.2 with ⟨hn, _⟩ | ⟨g', cap', cur, hn, _⟩
    · cases hn
    · injection hn with _ e2 _
      subst e2
      exact owns_set this hr _
  · rw [upd_ne _ _ e]
    exact Kept.owns (h.rows x hx) hk (fun k hk' e2 => h.ap x i hx hi e k hk' (by rw [hvb, e2]))
theorem ext {D' : Gr.Ds} (h : DsAt w g c n vs D) (he : ∀ i, i < n → D i = D' i) : DsAt w g c n vs D' := ⟨h.out, fun i hi => by rw [← he i hi]; exact h.rows i hi, h.ng, h.ap⟩
end DsAt
theorem DsIn.turn {F : Nat → Prop} {w : World} {g n i : Nat} {vs : Nat → Value} {v' : Value} (h : DsIn F g n vs) (hF : ∀ k, w.heap.size ≤ k → F k) (hi : i < n) (hv : ∀ k, v'.ownBlock = some k → (vs i).ownBlock = some k ∨ w.heap.size ≤ k) : DsIn F g n (upd vs i v') := by
  refine ⟨h.1, fun r hr k hk => ?_⟩
  by_cases e : r = i
  · subst e
    rw [upd_self] at hk
    rcases hv k hk with e2 | e2
    · exact h.2 r hr k e2
    · exact hF k e2
  · rw [upd_ne _ _ e] at hk; exact h.2 r hr k hk
structure GroAt (w : World) (b g c n m done : Nat) (vs : Nat → Value) (D : Gr.Ds) : Prop where
  blk : w.heap[b]? = some (.cells #[.slice (some ⟨g, 0, none⟩) (n + 1 : Nat) c, iv n, iv m, iv done] 119 (0, 0))
  ds : DsAt w g c (n + 1) vs D
  bg : b ≠ g
  nb : ∀ i, i < n + 1 → (vs i).ownBlock ≠ some b
namespace GroAt
variable {w w1 : World} {b g c n m done : Nat} {vs : Nat → Value} {D : Gr.Ds}
theorem lt (h : GroAt w b g c n m done vs D) : b < w.heap.size := (Array.getElem?_eq_some_iff.1 h.blk).1
theorem cell (h : GroAt w b g c n m done vs D) (j : Nat) : w.cell? ⟨b, j, none⟩ = #[Value.slice (some ⟨g, 0, none⟩) (n + 1 : Nat) c, iv n, iv m, iv done][j]? := by rw [cell_of_row _ _ _ _ _ _ h.blk]
theorem c0 (h : GroAt w b g c n m done vs D) : w.cell? ⟨b, 0, none⟩ = some (.slice (some ⟨g, 0, none⟩) (n + 1 : Nat) c) := by rw [h.cell]; rfl
theorem c1 (h : GroAt w b g c n m done vs D) : w.cell? ⟨b, 1, none⟩ = some (iv n) := by rw [h.cell]; rfl
theorem c2 (h : GroAt w b g c n m done vs D) : w.cell? ⟨b, 2, none⟩ = some (iv m) := by rw [h.cell]; rfl
theorem c3 (h : GroAt w b g c n m done vs D) : w.cell? ⟨b, 3, none⟩ = some (iv done) := by rw [h.cell]; rfl
theorem f (h : GroAt w b g c n m done vs D) (j : Nat) : w.frozen? ⟨b, j, none⟩ = false := frozen_of_row _ _ _ _ _ h.blk
theorem below (h : GroAt w b g c n m done vs D) (hb : Below w.heap.size w w1) : GroAt w1 b g c n m done vs D := ⟨by rw [hb.block b h.lt]; exact h.blk, h.ds.below hb, h.bg, h.nb⟩
theorem kept {T : Nat → Prop} (h : GroAt w b g c n m done vs D) (hk : Kept T w w1) (hb : ¬ T b) (hg : ¬ T g) (hr : ∀ i, i < n + 1 → ∀ k, (vs i).ownBlock = some k → ¬ T k) : GroAt w1 b g c n m done vs D :=
  ⟨hk.heap h.blk hb, h.ds.kept hk hg hr, h.bg, h.nb⟩
theorem setDone (h : GroAt w b g c n m done vs D) (d : Nat) : GroAt (w.setCell ⟨b, 3, none⟩ (iv d)) b g c n m d vs D := by
  have hk : Kept (· = b) w (w.setCell ⟨b, 3, none⟩ (iv d)) := (Kept.self b w).set1 _ _
  refine ⟨?_, h.ds.kept hk (fun e => h.bg e.symm) (fun i hi k hk' e => h.nb i hi (by rw [hk', e])), h.bg, h.nb⟩
  rw [heap_setCell_same _ _ _ _ _ _ h.blk]; rfl
theorem turn {i k : Nat} {v' : Value} {l : List ByteArray} (h : GroAt w b g c n m done vs D) (hi : i < n + 1) (hk : Kept (fun k => some k = (vs i).ownBlock) w w1) (hO : w1.ownsRow 0 9 1 v' k (l.map Value.string))
    (hv : ∀ k, v'.ownBlock = some k → (vs i).ownBlock = some k ∨ w.heap.size ≤ k) : GroAt (w1.setCell ⟨g, i, none⟩ v') b g c n m done (upd vs i v') (upd D i l) := by
  have hs : Kept (· = g) w1 (w1.setCell ⟨g, i, none⟩ v') := (Kept.self g w1).set1 _ _
  refine ⟨hs.heap (hk.heap h.blk (fun e => h.nb i hi e.symm)) h.bg, h.ds.turn hi hk hO hv, h.bg, fun r hr => ?_⟩
  by_cases e : r = i
  · subst e; rw [upd_self]
    intro e2
    rcases hv b e2 with e3 | e3
    · exact h.nb r hr e3
    · have := h.lt; omega
  · rw [upd_ne _ _ e]; exact h.nb r hr
theorem setStr {i r gb k cap : Nat} (h : GroAt w b g c n m done vs D) (hi : i < n + 1) (hv : vs i = .slice (some ⟨gb, 0, none⟩) k cap) (hr : r < (D i).length) (s : ByteArray) : GroAt (w.setCell ⟨gb, r, none⟩ (.string s)) b g c n m done vs (upd D i ((D i).set r s)) := by
  have hk : Kept (· = gb) w (w.setCell ⟨gb, r, none⟩ (.string s)) := (Kept.self gb w).set1 _ _
  exact ⟨hk.heap h.blk (fun e => h.nb i hi (by rw [hv, e]; rfl)), h.ds.setStr hi hv hr s, h.bg, h.nb⟩
theorem ext {D' : Gr.Ds} (h : GroAt w b g c n m done vs D) (he : ∀ i, i < n + 1 → D i = D' i) : GroAt w b g c n m done vs D' := ⟨h.blk, h.ds.ext he, h.bg, h.nb⟩
end GroAt
def GroIn (F : Nat → Prop) (b g n : Nat) (vs : Nat → Value) : Prop := F b ∧ DsIn F g (n + 1) vs
/-- cells of an object of n disks and one more, of which 'done' have moved -/
def GroOk (F : Nat → Prop) (w : World) (b n done : Nat) (now : List ByteArray) : Prop :=
  ∃ g c vs, GroAt w b g c n now.length done vs (Gr.build (Gr.spot n done) now now.length) ∧ GroIn F b g n vs
theorem GroOk.below {F : Nat → Prop} {w w' : World} {b n done : Nat} {now : List ByteArray} (h : GroOk F w b n done now) (hb : Below w.heap.size w w') : GroOk F w' b n done now := by
  obtain ⟨g, c, vs, h1, h2⟩ := h; exact ⟨g, c, vs, h1.below hb, h2⟩
theorem GroOk.kept {F T : Nat → Prop} {w w' : World} {b n done : Nat} {now : List ByteArray} (h : GroOk F w b n done now) (hk : Kept T w w') (hT : ∀ k, F k → ¬ T k) : GroOk F w' b n done now := by
  obtain ⟨g, c, vs, h1, h2⟩ := h; exact ⟨g, c, vs, h1.kept hk (hT _ h2.1) (hT _ h2.2.1) (fun i hi k hk' => hT _ (h2.2.2 i hi k hk')), h2⟩
theorem GroOk.wide {F F' : Nat → Prop} {w : World} {b n done : Nat} {now : List ByteArray} (h : GroOk F w b n done now) (hF : ∀ k, k < w.heap.size → F k → F' k) : GroOk F' w b n done now := by
  obtain ⟨g, c, vs, h1, h2⟩ := h
  exact ⟨g, c, vs, h1, hF _ h1.lt h2.1, hF _ (h1.ds.outer (by omega)).1 h2.2.1, fun i hi k hk => hF _ (h1.ds.lt hi hk) (h2.2.2 i hi k hk)⟩
end Go.Proofs.YtcldioneiededaaDoor
