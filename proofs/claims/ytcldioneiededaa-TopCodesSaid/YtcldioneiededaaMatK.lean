/- Matrices of the call's own, row by row; slices.Clone at rows; the walks of matrix.own, Unit. -/
import Derived.Test.YtcldioneiededaaMatR
namespace Go.Proofs.Ytcldioneiededaa
open Go.ChangeShapes Go.WideShapes Go.ChangeAt Go.RowKit
set_option linter.unusedVariables false
def up {α : Type} (f : Nat → α) (k : Nat) (x : α) : Nat → α := fun i => if i = k then x else f i
theorem up_self {α : Type} (f : Nat → α) (k : Nat) (x : α) : up f k x k = x := if_pos rfl
theorem up_ne {α : Type} (f : Nat → α) {k i : Nat} (x : α) (h : i ≠ k) : up f k x i = f i := if_neg h
theorem set_range {n i : Nat} (f : Nat → Value) (u : Value) : ((List.range n).map f).set i u = (List.range n).map (up f i u) := by
  apply List.ext_getElem?
  intro j
  rw [List.getElem?_set, List.length_map, List.length_range, List.getElem?_map, List.getElem?_map]
  by_cases h : j < n
  · rw [List.getElem?_range h]
    by_cases e : i = j
    · subst e; rw [if_pos rfl, if_pos h]; simp [up]
    · rw [if_neg e]; simp [up, Ne.symm e]
  · rw [List.getElem?_eq_none (by rw [List.length_range]; omega)]
    split
    · rw [if_neg (by omega)]; rfl
    · rfl
/-- a matrix that is being made: the slices of its n rows in block g, the first k of one's own -/
structure MatK (w : World) (B g o c n : Nat) (vals : Nat → Value) (k : Nat) (Ls : Nat → List UInt8) : Prop where
  out : OwnR w B 74 (.slice (some ⟨g, o, none⟩) n c) ((List.range n).map vals)
  rows : ∀ i, i < k → OwnB w B (vals i) (Ls i)
  ng : ∀ i, i < k → (vals i).ownBlock ≠ some g
  ap : ∀ i j b, i < k → j < k → i ≠ j → (vals i).ownBlock = some b → (vals j).ownBlock ≠ some b
namespace MatK
variable {w w1 : World} {B g o c n k : Nat} {vals : Nat → Value} {Ls : Nat → List UInt8}
theorem outer (h : MatK w B g o c n vals k Ls) (h0 : 0 < n) : B ≤ g ∧ g < w.heap.size ∧ n ≤ c ∧ c ≤ maxLen ∧ (∀ j, j < n → w.cell? ⟨g, o + j, none⟩ = some (vals j)) ∧ ∀ i, w.frozen? ⟨g, i, none⟩ = false := by
  obtain ⟨h1, h2, _, h3, h4, h5, h6⟩ := OwnR.cells h.out (by rw [List.length_map, List.length_range]; exact h0)
  exact ⟨h1, h2, h3, h4, fun j hj => (h5 j hj).trans (by rw [List.getElem?_map, List.getElem?_range hj]; rfl), h6⟩
theorem below (h : MatK w B g o c n vals k Ls) (hb : Below w.heap.size w w1) : MatK w1 B g o c n vals k Ls := ⟨OwnR.below h.out hb, fun i hi => OwnR.below (h.rows i hi) hb, h.ng, h.ap⟩
theorem put {i k' : Nat} {u : Value} {l : List UInt8} (h : MatK w B g o c n vals k Ls) (hin : i < n) (hgw : g < w.heap.size) (hk : Kept (fun b => i < k ∧ (vals i).ownBlock = some b) w w1) (hO : OwnB w1 B u l)
    (hb : ∀ b, u.ownBlock = some b → w.heap.size ≤ b ∨ (i < k ∧ (vals i).ownBlock = some b)) (hk' : ∀ r, r < k' → r ≠ i → r < k) :
    MatK (w1.setCell ⟨g, o + i, none⟩ u) B g o c n (up vals i u) k' (up Ls i l) := by
  have hug : u.ownBlock ≠ some g := fun e => by
    rcases hb g e with h1 | ⟨h1, h2⟩
    · omega
    · exact h.ng i h1 h2
  refine ⟨?_, fun r hr => ?_, fun r hr => ?_, fun r s b hr hs hne e => ?_⟩
  · have h1 := OwnR.kept h.out hk (fun b hb' => by cases hb'; exact fun e => h.ng i e.1 e.2)
    have h2 := OwnR.setAt h1 (k := i) (by rw [List.length_map, List.length_range]; exact hin) u
    rw [set_range] at h2
    exact h2
  · by_cases e : r = i
    · subst e; rw [up_self, up_self]; exact OwnB.other hO hug
    · rw [up_ne _ _ e, up_ne _ _ e]
      have hrk := hk' r hr e
      exact OwnB.other (OwnR.kept (h.rows r hrk) hk (fun b hb' hc => h.ap r i b hrk hc.1 e hb' hc.2)) (h.ng r hrk)
  · by_cases e : r = i
    · subst e; rw [up_self]; exact hug
    · rw [up_ne _ _ e]; exact h.ng r (hk' r hr e)
  · have fresh : ∀ {r b}, r < k → r ≠ i → (vals r).ownBlock = some b → u.ownBlock ≠ some b := fun {r b} hr hne e1 e2 => by
      rcases hb b e2 with h1 | ⟨h1, h2⟩
      · have := (OwnR.lt (h.rows r hr) e1).2; omega
      · exact h.ap r i b hr h1 hne e1 h2
    by_cases e1 : r = i
    · subst e1
      rw [up_self] at e
      rw [up_ne _ _ (Ne.symm hne)]
      exact fun e2 => fresh (hk' s hs (Ne.symm hne)) (Ne.symm hne) e2 e
    · rw [up_ne _ _ e1] at e
      by_cases e2 : s = i
      · subst e2; rw [up_self]; exact fresh (hk' r hr e1) e1 e
      · rw [up_ne _ _ e2]; exact h.ap r s b (hk' r hr e1) (hk' s hs e2) hne e
/-- a row more -/
theorem next {u : Value} {l : List UInt8} (h : MatK w B g o c n vals k Ls) (hkn : k < n) (hgw : g < w.heap.size) (hbw : Below w.heap.size w w1) (hO : OwnB w1 B u l) (hb : ∀ b, u.ownBlock = some b → w.heap.size ≤ b) :
    MatK (w1.setCell ⟨g, o + k, none⟩ u) B g o c n (up vals k u) (k + 1) (up Ls k l) :=
  h.put hkn hgw (Kept.new _ hbw) hO (fun b e => .inl (hb b e)) (fun r hr hne => by omega)
/-- an entry of a row -/
theorem setAt {i j : Nat} {b ob m cb : Nat} (h : MatK w B g o c n vals k Ls) (hi : i < k) (hv : vals i = .slice (some ⟨b, ob, none⟩) m cb) (hj : j < (Ls i).length) (x : UInt8) :
    MatK (w.setCell ⟨b, ob + j, none⟩ (bv x)) B g o c n vals k (up Ls i ((Ls i).set j x)) := by
  have hb : (vals i).ownBlock = some b := by rw [hv]; rfl
  have hk : Kept (fun z => z = b) w (w.setCell ⟨b, ob + j, none⟩ (bv x)) := (Kept.self b w).set1 _ _
  refine ⟨OwnR.kept h.out hk (fun z hz e => h.ng i hi (by rw [hb, ← e]; exact hz ▸ rfl)), fun r hr => ?_, h.ng, h.ap⟩
  by_cases e : r = i
  · subst e
    rw [up_self]
    have h1 := h.rows r hr
    rw [hv] at h1 ⊢
    exact OwnB.setAt h1 hj x
  · rw [up_ne _ _ e]
    exact OwnR.kept (h.rows r hr) hk (fun z hz e' => h.ap r i z hr hi e hz (by rw [hb, e']))
theorem ext {Ls' : Nat → List UInt8} (h : MatK w B g o c n vals k Ls) (he : ∀ i, i < k → Ls i = Ls' i) : MatK w B g o c n vals k Ls' :=
  ⟨h.out, fun i hi => by rw [← he i hi]; exact h.rows i hi, h.ng, h.ap⟩
/-- made whole -/
theorem full {L : Nat} {m : Mx.Mt} (h : MatK w B g o c n vals n Ls) (hL : 0 < L) (he : ∀ i, i < n → Ls i = Gv.tab L (m i)) : ∃ bs, MatF w B g o c n L bs m ∧ ∀ i, i < n → vals i = sv L (bs i) := by
  have hx : ∀ i, ∃ x : Plc, i < n → vals i = sv L x := fun i => by
    by_cases hi : i < n
    · have h1 := h.rows i hi
      rw [he i hi] at h1
      obtain ⟨b, ob, cb, hv, _⟩ := OwnB.cellAt h1 (j := 0) (by rw [Gv.tab_len]; exact hL)
      rw [Gv.tab_len] at hv
      exact ⟨(b, ob, cb), fun _ => hv⟩
    · exact ⟨(0, 0, 0), fun h => absurd h hi⟩
  refine ⟨fun i => Classical.choose (hx i), ?_, fun i hi => Classical.choose_spec (hx i) hi⟩
  have hv := fun i hi => Classical.choose_spec (hx i) hi
  refine ⟨?_, fun i hi => ?_, fun i hi e => ?_, fun i j hi hj hne e => ?_⟩
  · have e : (List.range n).map vals = rvs n L (fun i => Classical.choose (hx i)) := List.map_congr_left (fun i hi => hv i (List.mem_range.1 hi))
    rw [← e]; exact h.out
  · have h1 := h.rows i hi
    rw [he i hi, hv i hi] at h1; exact h1
  · exact h.ng i hi (by rw [hv i hi]; show some _ = some g; rw [← e])
  · exact h.ap i j _ hi hj hne (by rw [hv i hi]; rfl) (by rw [hv j hj]; show some _ = some _; rw [e])
end MatK
theorem MatF.toK {w : World} {B g o c n L : Nat} {bs : Nat → Plc} {m : Mx.Mt} (h : MatF w B g o c n L bs m) : MatK w B g o c n (fun i => sv L (bs i)) n (fun i => Gv.tab L (m i)) :=
  ⟨h.out, h.rows, fun i hi e => h.ng i hi (by injection e), fun i j b hi hj hne e1 e2 => h.ap i j hi hj hne (by injection e1 with e1; injection e2 with e2; exact e1.trans e2.symm)⟩
/-- a matrix, wherever it lies -/
def RowsM (w : World) (v : Value) (M : List (List UInt8)) : Prop :=
  ∃ vs : List Value, Row w v vs ∧ vs.length = M.length ∧ ∀ (i : Nat) l, M[i]? = some l → ∃ u, vs[i]? = some u ∧ RowB w u l
theorem RowsM.below {w w' : World} {v : Value} {M : List (List UInt8)} (h : RowsM w v M) (hb : Below w.heap.size w w') : RowsM w' v M := by
  obtain ⟨vs, h1, h2, h3⟩ := h
  refine ⟨vs, h1.below hb, h2, fun i l hl => ?_⟩
  obtain ⟨u, hu, hr⟩ := h3 i l hl
  exact ⟨u, hu, RowB.below hr hb⟩
/-- the lists of a matrix -/
def lt (n L : Nat) (m : Mx.Mt) : List (List UInt8) := (List.range n).map (fun i => Gv.tab L (m i))
theorem lt_len (n L : Nat) (m : Mx.Mt) : (lt n L m).length = n := by unfold lt; simp
theorem lt_get {n i : Nat} (L : Nat) (m : Mx.Mt) (h : i < n) : (lt n L m)[i]? = some (Gv.tab L (m i)) := by unfold lt; rw [List.getElem?_map, List.getElem?_range h]; rfl
theorem lt_ext {n L : Nat} {m m' : Mx.Mt} (h : ∀ i, i < n → ∀ j, j < L → m i j = m' i j) : lt n L m = lt n L m' :=
  List.map_congr_left (fun i hi => Gv.tab_ext (h i (List.mem_range.1 hi)))
theorem MatF.rowsM {w : World} {B g o c n L : Nat} {bs : Nat → Plc} {m : Mx.Mt} (h : MatF w B g o c n L bs m) : RowsM w (.slice (some ⟨g, o, none⟩) n c) (lt n L m) := by
  refine ⟨_, OwnR.row h.out, by rw [rvs_len, lt_len], fun i l hl => ?_⟩
  have hi : i < n := by have := (List.getElem?_eq_some_iff.1 hl).1; rw [lt_len] at this; exact this
  rw [lt_get L m hi] at hl
  rw [← Option.some.inj hl]
  exact ⟨_, rvs_get L bs hi, OwnB.row (h.rows i hi)⟩
theorem info_rowC : (Try.prog.info? 74).map (fun i => (i.zero, i.size, i.bytes)) = some (some (.slice none 0 0), 1, 24) := by kernel_rfl
def ClonePostR (xs : List Value) (w : World) (e : Ending) (w' : World) : Prop :=
  ∃ v, e = .returned v ∧ w'.ownsRow w.heap.size 74 1 v xs.length xs ∧ Below w.heap.size w w'
set_option maxRecDepth 100000 in
theorem clone_row (xs : List Value) (h1 : ∀ u ∈ xs, u.oneCell' = true) (hs : xs.length ≤ 1000000) (v : Value) (w : World) (hv : Row w v xs) :
    Calls Try.prog 66 #[v] w (ClonePostR xs w) := by
  obtain ⟨i0, hi, hz0, hz1, hz2⟩ := info_parts info_rowC
  have q22 : ∀ (w : World) (a : Option Addr) (n c n' c' : Nat), (binOp .eql 85 (.slice a n c) (.slice none n' c')).run Try.prog w = .ok (.bool a.isNone) w := fun w a n c n' c' => Lib.run_eql_slice_nil w _ _ a n c n' c' Try.underlying85
  obtain ⟨p, cap, rfl, h2, h3, h0, h4⟩ := hv
  cases p with
  | none =>
    obtain rfl : cap = 0 := h0 rfl
    obtain rfl : xs = [] := List.eq_nil_of_length_eq_zero (by omega)
    clear h0 h4
    go_enter Try.func66, Try.ntmps66
    go_wp2
    go_ret
    exact ⟨_, rfl, World.ownsRow_nil _ _ _ _, Below.refl _ _⟩
  | some ad =>
    have H4 := Lib.hid h4
    clear h4 h0
    go_enter Try.func66, Try.ntmps66
    go_wp2_with (at_builtin; refine wpList_append_own _ rfl _ _ 85 rfl w.heap.size 74 i0 (.slice none 0 0) 1 24 Try.underlying85 hi hz0 hz1 hz2 rfl (by decide) _ _ _ rfl (World.ownsRow_made w #[] 0 (Nat.le_refl _) (Nat.zero_le _) rfl) ad xs.length cap xs rfl ?qc1 ?qc2 ?qc3 ?qc4 ?qc5 ?qc6 ?_)
    case qc1 => simp
    case qc2 =>
      intro j u hj
      have hjn := (List.getElem?_eq_some_iff.1 hj).1
      obtain ⟨g, off, hp, h4⟩ := H4.out (by omega)
      injection hp with hp
      rw [hp, Addr.add_lit]
      have h := h4 j hjn
      rw [hj] at h
      exact ((Below.refl w.heap.size w).alloc (Nat.le_refl _) _).cell (World.block_lt_of_cell? w _ h) |>.trans h
    case qc3 => exact h1
    case qc4 => unfold maxLen; omega
    case qc5 => omega
    case qc6 => simp
    intro v' w1 hown hgrow _
    have Hown := Lib.hid hown
    clear hown
    go_wp2
    go_ret
    refine ⟨v', rfl, ?_, ?_⟩
    · exact Hown.out
    · exact ((Below.refl _ w).alloc (Nat.le_refl _) _).grown hgrow (by simp) (by intro k hk; simp [Value.ownBlock] at hk; omega)
/-- a list of bytes of one's own that fills its block: one may append to it -/
def OwnT (w : World) (base : Nat) (v : Value) (l : List UInt8) : Prop := w.ownsRow base 5 1 v l.length (l.map bv)
theorem OwnT.toB {w : World} {base : Nat} {v : Value} {l : List UInt8} (h : OwnT w base v l) : OwnB w base v l := OwnR.of_owns h
theorem OwnT.mono {w : World} {base base' : Nat} {v : Value} {l : List UInt8} (h : OwnT w base v l) (hb : base' ≤ base) : OwnT w base' v l := by
  refine ⟨h.1, ?_⟩
  rcases h.2 with h2 | ⟨g, cap, cur, hv, hb', h3⟩
  · exact .inl h2
  · exact .inr ⟨g, cap, cur, hv, by omega, h3⟩
theorem OwnT.kept {F : Nat → Prop} {w w1 : World} {base : Nat} {v : Value} {l : List UInt8} (h : OwnT w base v l) (hk : Kept F w w1) (hn : ∀ g, v.ownBlock = some g → ¬ F g) : OwnT w1 base v l := Kept.owns h hk hn
theorem OwnT.below {w w1 : World} {base : Nat} {v : Value} {l : List UInt8} (h : OwnT w base v l) (hb : Below w.heap.size w w1) : OwnT w1 base v l := owns_below h hb
def OwRel (vs : List Value) (n L : Nat) (m : Mx.Mt) (w : World) (g c gk : Nat) (i : Value) (wr : World) : Prop :=
  ∃ k vals, k + gk = n ∧ i = iv k ∧ MatK wr w.heap.size g 0 c n vals k (fun i => Gv.tab L (m i)) ∧ (∀ j, k ≤ j → j < n → some (vals j) = vs[j]?) ∧ (∀ j, j < k → OwnT wr w.heap.size (vals j) (Gv.tab L (m j))) ∧ Below w.heap.size w wr
def OwPost (n L : Nat) (m : Mx.Mt) (w : World) (e : Ending) (w' : World) : Prop :=
  ∃ g c bs, e = .returned (.slice (some ⟨g, 0, none⟩) n c) ∧ MatF w' w.heap.size g 0 c n L bs m ∧ (∀ j, j < n → OwnT w' w.heap.size (sv L (bs j)) (Gv.tab L (m j))) ∧ Below w.heap.size w w'
def OwKPost (n L : Nat) (m : Mx.Mt) (w : World) (e : Ending) (w' : World) : Prop :=
  ∃ g c vals, e = .returned (.slice (some ⟨g, 0, none⟩) n c) ∧ MatK w' w.heap.size g 0 c n vals n (fun i => Gv.tab L (m i)) ∧ (∀ j, j < n → OwnT w' w.heap.size (vals j) (Gv.tab L (m j))) ∧ Below w.heap.size w w'
set_option maxRecDepth 100000 in
set_option maxHeartbeats 2000000 in
theorem own_k (m : Mx.Mt) (n L : Nat) (h0 : 0 < n) (hn9 : n ≤ 1000) (hL9 : L ≤ 1000) (v : Value) (w : World) (hv : RowsM w v (lt n L m)) :
    Calls Try.prog 56 #[v] w (OwKPost n L m w) := by
  obtain ⟨vs, hr, hlen, hrow⟩ := hv
  rw [lt_len] at hlen
  have hvs1 : ∀ u ∈ vs, u.oneCell' = true := by
    intro u hu
    obtain ⟨i, hi, rfl⟩ := List.mem_iff_getElem.1 hu
    obtain ⟨u', hu', hrb⟩ := hrow i _ (lt_get L m (by omega))
    rw [List.getElem?_eq_getElem hi] at hu'
    obtain ⟨p, c, hv, _⟩ := RowB.shape hrb
    rw [Option.some.inj hu', hv]; rfl
  have HC := Lib.hid (clone_row vs hvs1 (by omega) v w hr)
  have Hrow := Lib.hid hrow
  unfold ClonePostR at HC
  rw [hlen] at HC
  have Hlen := Lib.hid hlen
  clear hr hlen hrow hvs1
  go_enter Try.func56, Try.ntmps56
  go_wp2_with fail
  refine HC.out.mono ?_
  rintro e w1 ⟨v1, rfl, ho, hb1⟩
  obtain ⟨g, c, rfl, hg1, hg2, hnc, hcm, hcell, hfz⟩ := owns_pos ho h0
  have HK0 : Hid (MatK w1 w.heap.size g 0 c n (fun j => vs.getD j undef) 0 (fun i => Gv.tab L (m i))) := Lib.hid ⟨by
    have h := OwnR.of_owns ho
    have e : (List.range n).map (fun j => vs.getD j undef) = vs := by
      apply List.ext_getElem?
      intro j
      rw [List.getElem?_map]
      by_cases hj : j < n
      · rw [List.getElem?_range hj, List.getElem?_eq_getElem (by rw [Hlen.out]; exact hj)]
        simp [List.getD_eq_getElem?_getD, Hlen.out, hj]
      · rw [List.getElem?_eq_none (by rw [List.length_range]; omega), List.getElem?_eq_none (by rw [Hlen.out]; omega)]; rfl
    rw [e]; exact h, fun i hi => by omega, fun i hi => by omega, fun i j b hi => by omega⟩
  have HB1 := Lib.hid hb1
  unfold maxLen at hcm
  clear ho hb1 hcell hfz HC
  go_wp2_with fail
  go_loopg [3, 4, 9] n (fun gk v3 v4 v9 wr => OwRel vs n L m w g c gk v9 wr)
  case atStart => exact ⟨0, _, by omega, rfl, HK0.out, (fun j _ hj => by rw [List.getD_eq_getElem?_getD, List.getElem?_eq_getElem (by rw [Hlen.out]; exact hj)]; rfl), (fun j hj => by omega), HB1.out⟩
  case round =>
    clear HK0 HB1
    obtain ⟨k, vals, hk, rfl, hK, hvl, hT, hB⟩ := hrel
    have HT := Lib.hid hT
    have Hk := Lib.hid hk
    have HK := Lib.hid hK
    have HB := Lib.hid hB
    have Hvl := Lib.hid hvl
    clear hk hK hB hvl hT
    by_cases hkn : k < n
    · obtain ⟨hx1, hgs, _, _, hcc, hfz⟩ := HK.out.outer h0
      obtain ⟨u, hu, hrb⟩ := Hrow.out k _ (lt_get L m hkn)
      have e1 := Hvl.out k (Nat.le_refl _) hkn
      rw [hu] at e1
      have d0 := hcc k hkn
      rw [Option.some.inj e1, Nat.zero_add] at d0
      have hrb' := RowB.below hrb HB.out
      obtain ⟨p, c9, rfl, _, _⟩ := RowB.shape hrb
      rw [Gv.tab_len] at d0 hrb'
      have HCl := Lib.hid (clone_byte _ (by intro u hu; obtain ⟨x, _, rfl⟩ := List.mem_map.1 hu; rfl) (by rw [List.length_map, Gv.tab_len]; omega) (.slice p L c9) wr hrb')
      unfold ClonePostB at HCl
      have hz := HB.out.size
      clear hcc hfz hu hrb e1 hrb' hx1
      go_wp2_with fail
      refine HCl.out.mono ?_
      rintro e w2 ⟨v2, rfl, ho2, hb2⟩
      have hO2 : OwnB w2 wr.heap.size v2 (Gv.tab L (m k)) := OwnR.of_owns ho2
      have hK2 := HK.out.next hkn hgs hb2 (OwnR.mono hO2 hz) (fun b hb => (OwnR.lt hO2 hb).1)
      have hK3 := hK2.ext (Ls' := fun i => Gv.tab L (m i)) (fun i _ => by
        by_cases e : i = k
        · subst e; rw [up_self]
        · rw [up_ne _ _ e])
      have HK3 := Lib.hid hK3
      have hT2 : ∀ j, j < k + 1 → OwnT (w2.setCell ⟨g, 0 + k, none⟩ v2) w.heap.size (up vals k v2 j) (Gv.tab L (m j)) := fun j hj => by
        have hks : Kept (fun z => z = g) w2 (w2.setCell ⟨g, 0 + k, none⟩ v2) := (Kept.self g w2).set1 _ _
        by_cases e : j = k
        · subst e
          rw [up_self]
          refine OwnT.kept (OwnT.mono (l := Gv.tab L (m j)) (by unfold OwnT; rw [List.length_map] at ho2; exact ho2) hz) hks (fun z hz' e => ?_)
          have := (OwnR.lt hO2 hz').1
          omega
        · rw [up_ne _ _ e]
          exact OwnT.kept (OwnT.below (HT.out j (by omega)) hb2) hks (fun z hz' e' => HK.out.ng j (by omega) (by rw [hz', e']))
      have HT2 := Lib.hid hT2
      have HB3 := Lib.hid ((HB.out.trans (hb2.mono hz)).setCell (p := ⟨g, 0 + k, none⟩) hg1 v2)
      obtain ⟨_, hgs2, _, _, hcc, hfz⟩ := (HK.out.below hb2).outer h0
      have d1 := hcc k hkn
      have f1 := hfz (0 + k)
      rw [Nat.zero_add] at d1 f1 HK3 HB3 HT2
      obtain ⟨p2, c2, rfl, _, _⟩ := RowB.shape (OwnB.row hO2)
      rw [Gv.tab_len] at HK3 HB3 HT2 ⊢
      clear hcc hfz hT2 hK3 hK2 hO2 ho2 hb2 HCl d0
      go_wp2_with fail
      go_roundg (gk - 1)
      case measure => have := Hk.out; omega
      case rel => exact ⟨k + 1, _, by have := Hk.out; omega, by go_num, HK3.out, (fun j h1 h2 => by rw [up_ne _ _ (by omega)]; exact Hvl.out j (by omega) h2), HT2.out, HB3.out⟩
    · have hkn' : k = n := by have := Hk.out; omega
      subst hkn'
      go_wp2_with fail
      go_ret
      exact ⟨g, c, vals, rfl, HK.out, HT.out, HB.out⟩
theorem own_any (m : Mx.Mt) (n L : Nat) (h0 : 0 < n) (hL : 0 < L) (hn9 : n ≤ 1000) (hL9 : L ≤ 1000) (v : Value) (w : World) (hv : RowsM w v (lt n L m)) :
    Calls Try.prog 56 #[v] w (OwPost n L m w) :=
  (own_k m n L h0 hn9 hL9 v w hv).mono (fun e w' ⟨g, c, vals, he, hK, hT, hB⟩ => by
    obtain ⟨bs, hF, hsv⟩ := hK.full hL (fun i _ => rfl)
    exact ⟨g, c, bs, he, hF, fun j hj => by rw [← hsv j hj]; exact hT j hj, hB⟩)
end Go.Proofs.Ytcldioneiededaa
