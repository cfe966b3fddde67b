/- Where one part is wrong; P and Q behind a change of one block. Plain. · The walk of the library's slices.Clone at lists of strings. · The walks of pq.plus, pq.times. -/
import Derived.Test.YtneebcniofolmaaGreatDoorPqR
import Derived.Test.YtneebcniofolmaaGreatDoorLift
import Derived.Test.YtneebcniofolmaaGreatDoorBlk
namespace Go.Proofs.YtneebcniofolmaaGreatDoor
set_option linter.unusedVariables false
namespace Gv
/-- data with P and Q -/
structure Cw (n k : Nat) (c : List ByteArray) : Prop where
  ex : ∃ ds : List ByteArray, ds.length = k ∧ (∀ s ∈ ds, s.size = n) ∧ c = ds ++ [P ds, Q ds]
def marks2 (m x y : Nat) : List Bool := (List.range m).map (fun i => decide (i = x ∨ i = y))
theorem marks2_at {m x y i : Nat} : lo (marks2 m x y) i = true ↔ i < m ∧ (i = x ∨ i = y) := by
  unfold lo marks2
  rw [List.getD_eq_getElem?_getD, List.getElem?_map]
  by_cases h : i < m
  · rw [List.getElem?_range h]; simp [h]
  · rw [List.getElem?_eq_none (by simp; omega)]; simp [h]
theorem Cw.len {n k : Nat} {c : List ByteArray} (h : Cw n k c) : c.length = k + 2 := by
  obtain ⟨ds, h1, _, rfl⟩ := h.ex; exact all_len3 h1
theorem Cw.sz {n k : Nat} {c : List ByteArray} (h : Cw n k c) (hk : 0 < k) : ∀ s ∈ c, s.size = n := by
  obtain ⟨ds, h1, h2, rfl⟩ := h.ex
  intro s hs
  rcases List.mem_append.1 hs with h | h
  · exact h2 s h
  · simp at h
    rcases h with rfl | rfl
    · rw [P_size, size0_of h2 (by omega)]
    · rw [Q_size, size0_of h2 (by omega)]
theorem Cw.heal {n k : Nat} {c ps : List ByteArray} (h : Cw n k c) (hk : 0 < k) (h255 : k ≤ 255) {x y : Nat} (hl : ps.length = k + 2) (hp : ∀ i, i < k + 2 → i ≠ x → i ≠ y → ps.getD i ⟨#[]⟩ = c.getD i ⟨#[]⟩) : Gv.heal ps (marks2 (k + 2) x y) = c := by
  obtain ⟨ds, h1, h2, rfl⟩ := h.ex
  refine heal_right (x := x) (y := y) h2 (by omega) (by omega) (by omega) (fun i hi hn => ?_) (fun i hi => (marks2_at.1 hi).2)
  have hxy : ¬ (i = x ∨ i = y) := fun h => by rw [marks2_at.2 ⟨by omega, h⟩] at hn; cases hn
  exact hp i (by omega) (fun e => hxy (.inl e)) (fun e => hxy (.inr e))
theorem Cw.unique {n k : Nat} {c c' : List ByteArray} (h : Cw n k c) (h' : Cw n k c') (hk : 0 < k) (h255 : k ≤ 255) {x y : Nat} (hp : ∀ i, i < k + 2 → i ≠ x → i ≠ y → c'.getD i ⟨#[]⟩ = c.getD i ⟨#[]⟩) : c' = c :=
  (h'.heal hk h255 (x := x) (y := y) h'.len (fun _ _ _ _ => rfl)).symm.trans (h.heal hk h255 h'.len hp)
/-- what stands at all but one part is what was healed -/
def sameB (ps : List ByteArray) (i : Nat) : Bool := (List.range ps.length).all (fun j => j == i || decide ((heal ps (marks2 ps.length i i)).getD j ⟨#[]⟩ = ps.getD j ⟨#[]⟩))
theorem sameB_iff {ps : List ByteArray} {i : Nat} : sameB ps i = true ↔ ∀ j, j < ps.length → j ≠ i → (heal ps (marks2 ps.length i i)).getD j ⟨#[]⟩ = ps.getD j ⟨#[]⟩ := by
  unfold sameB
  rw [List.all_eq_true]
  constructor
  · intro h j hj hne
    have := h j (List.mem_range.2 hj)
    simp [hne] at this
    simpa using this
  · intro h j hj
    rw [List.mem_range] at hj
    by_cases e : j = i
    · rw [Bool.or_eq_true]; exact .inl (by simp [e])
    · rw [Bool.or_eq_true]; exact .inr (decide_eq_true (h j hj e))
def cleanB (ps : List ByteArray) : Bool := decide (P (ps.take (ps.length - 2)) = ps.getD (ps.length - 2) ⟨#[]⟩) && decide (Q (ps.take (ps.length - 2)) = ps.getD (ps.length - 2 + 1) ⟨#[]⟩)
/-- the first of m parts from i on that is wrong -/
def findF (ps : List ByteArray) : Nat → Nat → Option Nat
  | 0, _ => none
  | m + 1, i => if sameB ps i then some i else findF ps m (i + 1)
def locate (ps : List ByteArray) : Int × Int := if cleanB ps then (-1, 0) else match findF ps ps.length 0 with | some i => ((i : Int), 0) | none => (0, 8)
theorem clean_cw {n k : Nat} {c : List ByteArray} (hs : ∀ s ∈ c, s.size = n) (hl : c.length = k + 2) (h : cleanB c = true) : Cw n k c := by
  unfold cleanB at h
  rw [hl, show k + 2 - 2 = k by omega] at h
  simp at h
  refine ⟨c.take k, by rw [List.length_take]; omega, fun s hs' => hs s (List.mem_of_mem_take hs'), ?_⟩
  refine list_ext (by rw [all_len3 (k := k) (by rw [List.length_take]; omega), hl]) (fun i hi => ?_)
  have htl : (c.take k).length = k := by rw [List.length_take]; omega
  by_cases h1 : i < k
  · rw [all_at (by omega), List.getD_eq_getElem?_getD, List.getD_eq_getElem?_getD, List.getElem?_take, if_pos h1]
  · by_cases h2 : i = k
    · subst h2
      have e := all_p (c.take i)
      rw [htl] at e
      rw [e, List.getD_eq_getElem?_getD]; exact h.1.symm
    · have h3 : i = k + 1 := by omega
      subst h3
      have e := all_q (c.take k)
      rw [htl] at e
      rw [e, List.getD_eq_getElem?_getD]; exact h.2.symm
theorem Cw.clean {n k : Nat} {c : List ByteArray} (h : Cw n k c) : cleanB c = true := by
  have hl := h.len
  obtain ⟨ds, h1, h2, rfl⟩ := h.ex
  unfold cleanB
  rw [hl, show k + 2 - 2 = k by omega, ← h1, List.take_left, all_p, all_q]
  simp
theorem locate_clean {n k : Nat} {c : List ByteArray} (h : Cw n k c) : locate c = (-1, 0) := by
  unfold locate; rw [if_pos h.clean]
theorem findF_at (ps : List ByteArray) : ∀ (m i j : Nat), i ≤ j → j < i + m → sameB ps j = true → (∀ q, i ≤ q → q < j → sameB ps q = false) → findF ps m i = some j
  | 0, i, j, h1, h2, _, _ => by omega
  | m + 1, i, j, h1, h2, h3, h4 => by
    unfold findF
    by_cases e : i = j
    · subst e; rw [if_pos h3]
    · rw [if_neg (by rw [h4 i (Nat.le_refl _) (by omega)]; decide)]
      exact findF_at ps m (i + 1) j (by omega) (by omega) h3 (fun q hq => h4 q (by omega))
/-- what is healed has its own P and Q -/
theorem heal_cw {n k : Nat} {ps : List ByteArray} {ls : List Bool} (hl : ps.length = k + 2) (hk : 0 < k) (hs : ∀ s ∈ ps, s.size = n) (hex : ∃ i, i < k + 2 ∧ lo ls i = false) : Cw n k (heal ps ls) := by
  have hsz : lastSz ps ls ps.length = n := by
    obtain ⟨i, hi, h0⟩ := hex
    exact lastSz_eq _ (fun i hi _ => hs _ (getD_mem hi)) ⟨i, by omega, h0⟩
  unfold heal
  simp only [hl, hsz, show k + 2 - 2 = k by omega]
  rw [hl] at hsz
  obtain ⟨o, ho⟩ : ∃ o, o = outs ps ls (lastSz ps ls (k + 2)) (k + 2) := ⟨_, rfl⟩
  rw [hsz] at ho
  have hol : o.length = k + 2 := by rw [ho, outs_len, hl]
  have hos : ∀ s ∈ o, s.size = n := by
    intro s hs'
    rw [ho] at hs'
    unfold outs at hs'
    obtain ⟨i, hi, rfl⟩ := List.mem_map.1 hs'
    rw [List.mem_range] at hi
    split
    · exact zer_size n
    · exact hs _ (getD_mem hi)
  rw [hsz, ← ho]
  have htl : (o.take k).length = k := by rw [List.length_take]; omega
  have hts : ∀ s ∈ o.take k, s.size = n := fun s h => hos s (List.mem_of_mem_take h)
  have hP : (P (o.take k)).size = n := by rw [P_size, size0_of hts (by omega)]
  have hQ : (Q (o.take k)).size = n := by rw [Q_size, size0_of hts (by omega)]
  have hset : ∀ (l : List ByteArray) (i : Nat) (x : ByteArray), (∀ s ∈ l, s.size = n) → x.size = n → ∀ s ∈ l.set i x, s.size = n := by
    intro l i x h1 h2 s hs'
    rcases List.mem_or_eq_of_mem_set hs' with h | h
    · exact h1 s h
    · rw [h]; exact h2
  have hh : ∀ g p q lp lq, (healed (o.take k) g p q lp lq).length = k ∧ ∀ s ∈ healed (o.take k) g p q lp lq, s.size = n := by
    intro g p q lp lq
    unfold healed
    split
    · simp only
      have hx : ∀ u v, (timesS (plusS (timesS (plusS (P (o.take k)) p) u) (plusS (Q (o.take k)) q)) v).size = n := by
        intro u v
        rw [times_size, plus_size, times_size, plus_size, hP]
      exact ⟨by rw [List.length_set, List.length_set, htl], hset _ _ _ (hset _ _ _ hts (hx _ _)) (by rw [plus_size, plus_size, hP])⟩
    · split
      · exact ⟨by rw [List.length_set, htl], hset _ _ _ hts (by rw [plus_size, hP])⟩
      · split
        · exact ⟨by rw [List.length_set, htl], hset _ _ _ hts (by rw [times_size, plus_size, hQ])⟩
        · exact ⟨htl, hts⟩
    · exact ⟨htl, hts⟩
  exact ⟨_, (hh _ _ _ _ _).1, (hh _ _ _ _ _).2, rfl⟩
/-- one part is another one -/
theorem locate_one {n k i : Nat} {c ps : List ByteArray} (h : Cw n k c) (hk : 0 < k) (h255 : k ≤ 255) (hl : ps.length = k + 2) (hs : ∀ s ∈ ps, s.size = n) (hi : i < k + 2) (hp : ∀ j, j < k + 2 → j ≠ i → ps.getD j ⟨#[]⟩ = c.getD j ⟨#[]⟩) (hne : ps.getD i ⟨#[]⟩ ≠ c.getD i ⟨#[]⟩) : locate ps = ((i : Int), 0) := by
  have hnc : cleanB ps = false := by
    cases hc : cleanB ps with
    | false => rfl
    | true =>
      exfalso
      have e := h.unique (clean_cw hs hl hc) hk h255 (x := i) (y := i) (fun j hj h1 _ => hp j hj h1)
      exact hne (by rw [e])
  have hi1 : sameB ps i = true := by
    rw [sameB_iff, hl]
    intro j hj hji
    rw [h.heal hk h255 hl (fun j hj h1 _ => hp j hj h1), hp j hj hji]
  have hbe : ∀ q, 0 ≤ q → q < i → sameB ps q = false := by
    intro q _ hq
    cases hsq : sameB ps q with
    | false => rfl
    | true =>
      exfalso
      rw [sameB_iff, hl] at hsq
      have hcw : Cw n k (Gv.heal ps (marks2 (k + 2) q q)) := heal_cw hl hk hs (by
        refine ⟨i, hi, ?_⟩
        cases h9 : lo (marks2 (k + 2) q q) i with
        | false => rfl
        | true => have := (marks2_at.1 h9).2; omega)
      have e := h.unique hcw hk h255 (x := i) (y := q) (fun j hj h1 h2 => (hsq j hj h2).trans (hp j hj h1))
      have h3 := hsq i hi (by omega)
      rw [e] at h3
      exact hne h3.symm
  unfold locate
  rw [hnc, hl, findF_at ps (k + 2) 0 i (Nat.zero_le _) (by omega) hi1 hbe]
  rfl
/-- P and Q behind a change of block i -/
theorem delta_right {ds : List ByteArray} {n i : Nat} {now : ByteArray} (hsz : ∀ s ∈ ds, s.size = n) (hi : i < ds.length) (hn : now.size = n) :
    P (ds.set i now) = plusS (P ds) (plusS (ds.getD i ⟨#[]⟩) now) ∧ Q (ds.set i now) = plusS (Q ds) (timesS (plusS (ds.getD i ⟨#[]⟩) now) (Gf.pow 2 i)) := by
  have h0 : 0 < ds.length := by omega
  have hsz2 : ∀ s ∈ ds.set i now, s.size = n := by
    intro s hs
    rcases List.mem_or_eq_of_mem_set hs with h | h
    · exact hsz s h
    · rw [h]; exact hn
  have h02 : 0 < (ds.set i now).length := by rw [List.length_set]; exact h0
  have hP : (P ds).size = n := by rw [P_size, size0_of hsz h0]
  have hQ : (Q ds).size = n := by rw [Q_size, size0_of hsz h0]
  have hP2 : (P (ds.set i now)).size = n := by rw [P_size, size0_of hsz2 h02]
  have hQ2 : (Q (ds.set i now)).size = n := by rw [Q_size, size0_of hsz2 h02]
  have hw : (ds.getD i ⟨#[]⟩).size = n := hsz _ (getD_mem hi)
  have hd : (plusS (ds.getD i ⟨#[]⟩) now).size = n := by rw [plus_size, hw]
  have key : ∀ q j, ent (ds.set i now) q j = if q = i then en now j else ent ds q j := by
    intro q j
    rw [ent_en, set_getD hi]
    by_cases e : q = i
    · rw [if_pos e, if_pos e]
    · rw [if_neg e, if_neg e]; rfl
  constructor
  · refine block_ext hP2 (by rw [plus_size, hP]) (fun j hj => ?_)
    rw [en_P hsz2 h02 hj, en_plus _ _ (by rw [hP]; exact hj), en_P hsz h0 hj, en_plus _ _ (by rw [hw]; exact hj), List.length_set]
    have e : xsum ds.length (fun q => ent (ds.set i now) q j) = xsum ds.length (fun q => ent ds q j ^^^ (if q = i then en (ds.getD i ⟨#[]⟩) j ^^^ en now j else 0)) := xsum_congr (fun q _ => by
      rw [key]
      by_cases e : q = i
      · subst e; rw [if_pos rfl, if_pos rfl, ent_en, Gf.add_cancel]
      · rw [if_neg e, if_neg e, Gf.add_zero])
    rw [e, xsum_xor, xsum_single hi (fun q => if q = i then en (ds.getD i ⟨#[]⟩) j ^^^ en now j else 0) (fun q _ h => by rw [if_neg h]), if_pos rfl]
  · refine block_ext hQ2 (by rw [plus_size, hQ]) (fun j hj => ?_)
    rw [en_Q hsz2 h02 hj, en_plus _ _ (by rw [hQ]; exact hj), en_Q hsz h0 hj, en_times _ _ (by rw [hd]; exact hj), en_plus _ _ (by rw [hw]; exact hj), List.length_set]
    have e : xsum ds.length (fun q => Gf.mul (Gf.pow 2 q) (ent (ds.set i now) q j)) = xsum ds.length (fun q => Gf.mul (Gf.pow 2 q) (ent ds q j) ^^^ (if q = i then Gf.mul (Gf.pow 2 i) (en (ds.getD i ⟨#[]⟩) j ^^^ en now j) else 0)) := xsum_congr (fun q _ => by
      rw [key]
      by_cases e : q = i
      · subst e; rw [if_pos rfl, if_pos rfl, ent_en, Gf.mul_add, Gf.add_cancel]
      · rw [if_neg e, if_neg e, Gf.add_zero])
    rw [e, xsum_xor, xsum_single hi (fun q => if q = i then Gf.mul (Gf.pow 2 i) (en (ds.getD i ⟨#[]⟩) j ^^^ en now j) else 0) (fun q _ h => by rw [if_neg h]), if_pos rfl]
end Gv
end Go.Proofs.YtneebcniofolmaaGreatDoor
namespace Go.Proofs.YtneebcniofolmaaGreatDoor
open Go.ChangeShapes Go.WideShapes Go.ChangeAt Go.RowKit
set_option linter.unusedVariables false
theorem info_strS : (Tryz.prog.info? 9).map (fun i => (i.zero, i.size, i.bytes)) = some (some (.string ⟨#[]⟩), 1, 16) := by kernel_rfl
def ClonePostS (xs : List Value) (w : World) (e : Ending) (w' : World) : Prop :=
  ∃ v, e = .returned v ∧ w'.ownsRow w.heap.size 9 1 v xs.length xs ∧ Below w.heap.size w w'
set_option maxRecDepth 100000 in
theorem clone_str (xs : List Value) (h1 : ∀ u ∈ xs, u.oneCell' = true) (hs : xs.length ≤ 1000000) (v : Value) (w : World) (hv : Row w v xs) :
    Calls Tryz.prog 144 #[v] w (ClonePostS xs w) := by
  obtain ⟨i0, hi, hz0, hz1, hz2⟩ := info_parts info_strS
  have q22 : ∀ (w : World) (a : Option Addr) (n c n' c' : Nat), (binOp .eql 23 (.slice a n c) (.slice none n' c')).run Tryz.prog w = .ok (.bool a.isNone) w := fun w a n c n' c' => Lib.run_eql_slice_nil w _ _ a n c n' c' Tryz.underlying23
  obtain ⟨p, cap, rfl, h2, h3, h0, h4⟩ := hv
  cases p with
  | none =>
    obtain rfl : cap = 0 := h0 rfl
    obtain rfl : xs = [] := List.eq_nil_of_length_eq_zero (by omega)
    clear h0 h4
    go_enter Tryz.func144, Tryz.ntmps144
    go_wp2
    go_ret
    exact ⟨_, rfl, World.ownsRow_nil _ _ _ _, Below.refl _ _⟩
  | some ad =>
    have H4 := Lib.hid h4
    clear h4 h0
    go_enter Tryz.func144, Tryz.ntmps144
    go_wp2_with (at_builtin; refine wpList_append_own _ rfl _ _ 23 rfl w.heap.size 9 i0 (.string ⟨#[]⟩) 1 16 Tryz.underlying23 hi hz0 hz1 hz2 rfl (by decide) _ _ _ rfl (World.ownsRow_made w #[] 0 (Nat.le_refl _) (Nat.zero_le _) rfl) ad xs.length cap xs rfl ?qc1 ?qc2 ?qc3 ?qc4 ?qc5 ?qc6 ?_)
    case qc1 => simp
    case qc2 =>
      intro j u hj
      have hjn := (List.getElem?_eq_some_iff.1 hj).1
      obtain ⟨g, off, hp, h4⟩ := H4.out (by omega)
      injection hp with hp
      rw [hp, Addr.add_lit]
      have h := h4 j hjn
      rw [hj] at h
      exact ((Below.refl w.heap.size w).alloc (Nat.le_refl _) _).cell (World.block_lt_of_cell? w _ h) |>.trans h
    case qc3 => exact h1
    case qc4 => unfold maxLen; omega
    case qc5 => omega
    case qc6 => simp
    intro v' w1 hown hgrow _
    have Hown := Lib.hid hown
    clear hown
    go_wp2
    go_ret
    refine ⟨v', rfl, ?_, ?_⟩
    · exact Hown.out
    · exact ((Below.refl _ w).alloc (Nat.le_refl _) _).grown hgrow (by simp) (by intro k hk; simp [Value.ownBlock] at hk; omega)
end Go.Proofs.YtneebcniofolmaaGreatDoor
namespace Go.Proofs.YtneebcniofolmaaGreatDoor
open Go.ChangeShapes Go.WideShapes Go.ChangeAt Go.RowKit
set_option linter.unusedVariables false
theorem alloc_row (w : World) (vs : List Value) (E : TypeId) (hl : vs.length ≤ maxLen) : Row (w.alloc (.cells vs.toArray E)) (.slice (some ⟨w.heap.size, 0, none⟩) vs.length vs.length) vs := by
  refine ⟨some ⟨w.heap.size, 0, none⟩, vs.length, rfl, Nat.le_refl _, hl, (fun h => by cases h), fun _ => ⟨w.heap.size, 0, rfl, fun j hj => ?_⟩⟩
  rw [cell_of_row _ _ _ _ _ _ (heap_alloc_new w _), Nat.zero_add]
  simp
theorem plus_any (a b : ByteArray) (hs : b.size = a.size) (hn : a.size ≤ 1000000) (w : World) :
    Calls Tryz.prog 160 #[.string a, .string b] w fun e w' => e = .returned (.string (Gv.plusS a b)) ∧ Below w.heap.size w w' := by
  have hb1 : Below w.heap.size w (w.alloc (.cells #[.string a, .string b] 9)) := (Below.refl _ _).alloc (Nat.le_refl _) _
  have hz : (w.alloc (.cells #[.string a, .string b] 9)).heap.size = w.heap.size + 1 := by simp
  have hb2 : Below (w.alloc (.cells #[.string a, .string b] 9)).heap.size (w.alloc (.cells #[.string a, .string b] 9)) ((w.alloc (.cells #[.string a, .string b] 9)).alloc (.cells #[.int .u8 1, .int .u8 1] 5)) := (Below.refl _ _).alloc (Nat.le_refl _) _
  have r1 : Strs ((w.alloc (.cells #[.string a, .string b] 9)).alloc (.cells #[.int .u8 1, .int .u8 1] 5)) (.slice (some ⟨w.heap.size, 0, none⟩) 2 2) [a, b] := Row.below (alloc_row w [.string a, .string b] _ (by simp [maxLen])) hb2
  have r2 : RowB ((w.alloc (.cells #[.string a, .string b] 9)).alloc (.cells #[.int .u8 1, .int .u8 1] 5)) (.slice (some ⟨w.heap.size + 1, 0, none⟩) 2 2) [1, 1] := by
    have h := alloc_row (w.alloc (.cells #[.string a, .string b] 9)) [.int .u8 1, .int .u8 1] 5 (by simp [maxLen])
    rw [hz] at h; exact h
  have hall : ∀ s ∈ [a, b], s.size = size0 [a, b] := by
    intro s hs'; simp at hs'
    rcases hs' with rfl | rfl
    · rfl
    · exact hs
  have HS := Lib.hid (csum_any [a, b] [1, 1] hall hn (by simp) _ _ _ r1 r2)
  have HB := Lib.hid (hb1.trans (hb2.mono (by omega)))
  have hz2 := HB.out.size
  have he : Gv.sumS [a, b] (Gv.at' [1, 1]) = Gv.plusS a b := Gv.sumS_congr (fun i hi => by
    have : i = 0 ∨ i = 1 := by simp at hi; omega
    rcases this with rfl | rfl <;> rfl)
  have HE := Lib.hid he
  clear hb1 hb2 r1 r2 hall hs hn he hz
  go_enter Tryz.func160, Tryz.ntmps160
  go_wp2_with fail
  refine HS.out.mono ?_
  rintro e w' ⟨rfl, hb⟩
  have HB3 := Lib.hid (HB.out.trans (hb.mono hz2))
  clear hb
  go_wp2_with fail
  go_ret
  exact ⟨by rw [HE.out]; rfl, HB3.out⟩
theorem times_any (a : ByteArray) (c : UInt8) (hn : a.size ≤ 1000000) (w : World) :
    Calls Tryz.prog 161 #[.string a, bv c] w fun e w' => e = .returned (.string (Gv.timesS a c)) ∧ Below w.heap.size w w' := by
  have hb1 : Below w.heap.size w (w.alloc (.cells #[.string a] 9)) := (Below.refl _ _).alloc (Nat.le_refl _) _
  have hz : (w.alloc (.cells #[.string a] 9)).heap.size = w.heap.size + 1 := by simp
  have hb2 : Below (w.alloc (.cells #[.string a] 9)).heap.size (w.alloc (.cells #[.string a] 9)) ((w.alloc (.cells #[.string a] 9)).alloc (.cells #[bv c] 5)) := (Below.refl _ _).alloc (Nat.le_refl _) _
  have r1 : Strs ((w.alloc (.cells #[.string a] 9)).alloc (.cells #[bv c] 5)) (.slice (some ⟨w.heap.size, 0, none⟩) 1 1) [a] := Row.below (alloc_row w [.string a] _ (by simp [maxLen])) hb2
  have r2 : RowB ((w.alloc (.cells #[.string a] 9)).alloc (.cells #[bv c] 5)) (.slice (some ⟨w.heap.size + 1, 0, none⟩) 1 1) [c] := by
    have h := alloc_row (w.alloc (.cells #[.string a] 9)) [bv c] 5 (by simp [maxLen])
    rw [hz] at h; exact h
  have hall : ∀ s ∈ [a], s.size = size0 [a] := by
    intro s hs'; simp at hs'; subst hs'; rfl
  have HS := Lib.hid (csum_any [a] [c] hall hn (by simp) _ _ _ r1 r2)
  have HB := Lib.hid (hb1.trans (hb2.mono (by omega)))
  have hz2 := HB.out.size
  have he : Gv.sumS [a] (Gv.at' [c]) = Gv.timesS a c := Gv.sumS_congr (fun i hi => by
    have : i = 0 := by simp at hi; omega
    subst this; rfl)
  have HE := Lib.hid he
  clear hb1 hb2 r1 r2 hall hn he hz
  go_enter Tryz.func161, Tryz.ntmps161
  go_wp2_with fail
  refine HS.out.mono ?_
  rintro e w' ⟨rfl, hb⟩
  have HB3 := Lib.hid (HB.out.trans (hb.mono hz2))
  clear hb
  go_wp2_with fail
  go_ret
  exact ⟨by rw [HE.out]; rfl, HB3.out⟩
end Go.Proofs.YtneebcniofolmaaGreatDoor
