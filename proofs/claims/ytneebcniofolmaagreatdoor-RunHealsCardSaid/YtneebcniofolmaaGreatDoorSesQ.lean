/- Sessions in plain: lines with their newlines; what never turns; how long an answer is. -/
import Derived.Test.YtneebcniofolmaaGreatDoorSesP
import Derived.Test.YtneebcniofolmaaGreatDoorSesS
import Derived.Lib.Strings
namespace Go.Proofs.YtneebcniofolmaaGreatDoor
set_option linter.unusedVariables false
namespace Ar.S
/-- what never turns -/
def Like (n rows size : Nat) (s : S) : Prop := s.n = n ∧ s.rows = rows ∧ s.size = size
variable {n rows size : Nat} {s : S}
theorem like_fail (h : Like n rows size s) (d : Int) : Like n rows size (s.fail d).2 := by
  unfold fail; split
  · split <;> exact h
  · exact h
theorem like_replace (h : Like n rows size s) (d : Int) : Like n rows size (s.replace d).2 := by
  unfold replace; split
  · split <;> exact h
  · exact h
theorem like_rebuild (h : Like n rows size s) (d : Int) : Like n rows size (s.rebuild d).2 := by
  unfold rebuild; split
  · split
    · exact h
    · split <;> exact h
  · exact h
theorem like_write (h : Like n rows size s) (d : Int) (x : ByteArray) : Like n rows size (s.write d x).2 := by
  unfold write; split
  · split
    · split <;> exact h
    · exact h
  · exact h
theorem like_poke (h : Like n rows size s) (d r : Int) (x : ByteArray) : Like n rows size (s.poke d r x).2 := by
  unfold poke; split
  · split
    · split <;> exact h
    · exact h
  · exact h
theorem like_scrubAt {n rows size : Nat} {s : S} (h : Like n rows size s) (r : Nat) : Like n rows size (s.scrubAt r).2 := by
  have e := scrubAt_same s r
  exact ⟨e.1.trans h.1, e.2.1.trans h.2.1, e.2.2.1.trans h.2.2⟩
theorem like_scrubTo {n rows size : Nat} {s : S} (h : Like n rows size s) : ∀ k, Like n rows size (s.scrubTo k).1
  | 0 => h
  | k + 1 => like_scrubAt (like_scrubTo h k) k
theorem read_size {s : S} (h : s.Ok) (b : Int) : (s.read b).1.size ≤ s.size := by
  have h3 := h.n3
  unfold read
  split
  · rename_i hb
    obtain ⟨k, rfl, hk⟩ := hasBlock_nat hb
    rw [Int.toNat_natCast]
    unfold readAt
    have hm := Nat.mod_lt k (show s.n - 2 > 0 by omega)
    split
    · rename_i hl
      exact Nat.le_of_eq (h.cl _ _ (dk_lt (by omega)) (row_lt h hk) hl)
    · split
      · exact Nat.zero_le _
      · rename_i h2
        exact Nat.le_of_eq (heal_size h (row_lt h hk) h2 (by omega))
  · exact Nat.zero_le _
theorem rebuild_bd {s : S} (h : s.Ok) (d : Int) : 0 ≤ (s.rebuild d).1.1 ∧ (s.rebuild d).1.1 ≤ (s.rows : Int) := by
  unfold rebuild
  split
  · rename_i hd
    obtain ⟨k, rfl, hk⟩ := has_nat hd
    rw [Int.toNat_natCast]
    split
    · exact ⟨Int.le_refl _, by show (0 : Int) ≤ _; omega⟩
    · rename_i hc
      have hb := h.bt k hk
      have : s.bt k ≠ s.rows := fun e => hc (.inr e)
      split
      · exact ⟨Int.le_refl _, by show (0 : Int) ≤ _; omega⟩
      · exact ⟨by show (0 : Int) ≤ (s.rows : Int) - (s.bt k + 1); omega, by show (s.rows : Int) - (s.bt k + 1) ≤ _; omega⟩
  · exact ⟨Int.le_refl _, by show (0 : Int) ≤ _; omega⟩
theorem lostN_le (s : S) (r : Int) : s.lostN r ≤ s.n := by
  unfold lostN
  split
  · unfold many
    exact Nat.le_trans (List.length_filter_le _ _) (by rw [List.length_range]; exact Nat.le_refl _)
  · exact Nat.zero_le _
end Ar.S
namespace Ru
def raws : List UInt8 → List (List UInt8)
  | [] => []
  | x :: l => if x = 10 then [10] :: raws l else match raws l with
    | [] => [[x]]
    | a :: b => (x :: a) :: b
theorem raws_other {x : UInt8} (h : x ≠ 10) (l : List UInt8) : raws (x :: l) = match raws l with | [] => [[x]] | a :: b => (x :: a) :: b := by
  show (if x = 10 then _ else _) = _
  rw [if_neg h]
theorem raws_mid : ∀ p q, (10 : UInt8) ∉ p → raws (p ++ 10 :: q) = (p ++ [10]) :: raws q
  | [], q, _ => by show (if (10 : UInt8) = 10 then _ else _) = _; rw [if_pos rfl]; rfl
  | x :: p, q, h => by
    simp only [List.mem_cons, not_or] at h
    show raws (x :: (p ++ 10 :: q)) = _
    rw [raws_other (fun e => h.1 e.symm), raws_mid p q h.2]; rfl
theorem raws_one : ∀ l, (10 : UInt8) ∉ l → l ≠ [] → raws l = [l]
  | [], _, h => absurd rfl h
  | [x], h, _ => by
    simp only [List.mem_cons, not_or] at h
    rw [raws_other (fun e => h.1 e.symm)]; rfl
  | x :: y :: l, h, _ => by
    have h' := h
    simp only [List.mem_cons, not_or] at h
    rw [raws_other (fun e => h.1 e.symm), raws_one (y :: l) (fun hm => h' (List.mem_cons_of_mem _ hm)) (by simp)]
def trim (l : List UInt8) : List UInt8 := Lib.trimSuffix l [10]
theorem trim_nl (p : List UInt8) : trim (p ++ [10]) = p := by
  unfold trim Lib.trimSuffix Lib.hasSuffix
  rw [if_pos (List.isSuffixOf_iff_suffix.2 ⟨p, rfl⟩)]
  simp
theorem trim_no {l : List UInt8} (h : (10 : UInt8) ∉ l) : trim l = l := by
  unfold trim Lib.trimSuffix Lib.hasSuffix
  rw [if_neg]
  intro hs
  obtain ⟨p, hp⟩ := List.isSuffixOf_iff_suffix.1 hs
  exact h (by rw [← hp]; simp)
/-- a text that is not empty: its first line, and the rest -/
theorem raws_no {l : List UInt8} (h : Lib.indexByte l 10 = -1) (h0 : l ≠ []) : raws l = [l] := raws_one l ((index_nil 10 l).2 h) h0
theorem raws_yes {l : List UInt8} {k : Nat} (h : Lib.indexByte l 10 = k) : k < l.length ∧ raws l = l.take (k + 1) :: raws (l.drop (k + 1)) := by
  obtain ⟨a, b, c⟩ := index_some 10 l k h
  refine ⟨a, ?_⟩
  have hk : l[k]? = some 10 := by
    conv => lhs; rw [c]
    rw [List.getElem?_append_right (by rw [List.length_take]; omega), List.length_take, show k - min k l.length = 0 by omega]; rfl
  conv => lhs; rw [c, raws_mid _ _ b]
  rw [List.take_add_one, hk]; rfl
theorem raws_lines : ∀ (n : Nat) (l : List UInt8), l.length ≤ n → (raws l).map trim = lines l
  | 0, l, h => by
    obtain rfl := List.eq_nil_of_length_eq_zero (by omega : l.length = 0)
    rw [lines_nil]; rfl
  | n + 1, l, h => by
    by_cases h0 : l = []
    · subst h0; rw [lines_nil]; rfl
    by_cases hm : Lib.indexByte l 10 = -1
    · have hno := (index_nil 10 l).2 hm
      rw [raws_no hm h0]
      show [trim l] = lines l
      unfold lines
      rw [trim_no hno, cut_no 10 l hno]
      show [l] = if some l = some [] then _ else _
      rw [if_neg (fun e => h0 (Option.some.inj e))]
    · have hg := Lib.indexByte_ge l 10
      obtain ⟨k, hk⟩ : ∃ k : Nat, Lib.indexByte l 10 = k := ⟨(Lib.indexByte l 10).toNat, by omega⟩
      obtain ⟨a, b, c⟩ := index_some 10 l k hk
      have ih := raws_lines n (l.drop (k + 1)) (by rw [List.length_drop]; omega)
      conv => lhs; rw [c, raws_mid _ _ b]
      conv => rhs; rw [c, lines_mid, cut_no 10 _ b]
      rw [List.map_cons, trim_nl, ih]; rfl
theorem raws_flat : ∀ (l : List UInt8), (raws l).flatten = l
  | [] => rfl
  | x :: l => by
    have ih := raws_flat l
    by_cases h : x = 10
    · subst h
      show (if (10 : UInt8) = 10 then [10] :: raws l else _).flatten = _
      rw [if_pos rfl, List.flatten_cons, ih]; rfl
    · rw [raws_other h]
      cases hq : raws l with
      | nil => rw [hq] at ih; rw [← ih]; rfl
      | cons a b => rw [hq] at ih; rw [← ih]; rfl
theorem flat_mem_len : ∀ (L : List (List UInt8)), ∀ x ∈ L, x.length ≤ L.flatten.length
  | [], x, h => by cases h
  | y :: L, x, h => by
    rw [List.flatten_cons, List.length_append]
    rcases List.mem_cons.1 h with h | h
    · rw [h]; omega
    · have := flat_mem_len L x h; omega
theorem raws_mem_len (l : List UInt8) : ∀ x ∈ raws l, x.length ≤ l.length := fun x h => by
  have := flat_mem_len (raws l) x h
  rw [raws_flat] at this; exact this
theorem raws_len : ∀ (l : List UInt8), (raws l).length ≤ l.length
  | [] => Nat.le_refl _
  | x :: l => by
    have ih := raws_len l
    by_cases h : x = 10
    · subst h
      show (if (10 : UInt8) = 10 then [10] :: raws l else _).length ≤ _
      rw [if_pos rfl, List.length_cons, List.length_cons]; omega
    · rw [raws_other h]
      cases hq : raws l with
      | nil => simp
      | cons a b => rw [hq] at ih; simp at ih ⊢; omega
theorem trim_len (l : List UInt8) : (trim l).length ≤ l.length := by
  unfold trim Lib.trimSuffix
  split
  · rw [List.length_take]; omega
  · exact Nat.le_refl _
theorem stateOf_append : ∀ (a b : List (List UInt8)) (s : Ar.S), stateOf s (a ++ b) = stateOf (stateOf s a) b
  | [], b, s => rfl
  | x :: a, b, s => stateOf_append a b (line s x).2
theorem stateOf_snoc (a : List (List UInt8)) (x : List UInt8) (s : Ar.S) : stateOf s (a ++ [x]) = (line (stateOf s a) x).2 := by rw [stateOf_append]; rfl
theorem runs_snoc (a : List (List UInt8)) (x : List UInt8) (s : Ar.S) : runs s (a ++ [x]) = runs s a ++ ((line (stateOf s a) x).1 ++ [10]) := by
  rw [runs_append]
  show _ ++ ((line (stateOf s a) x).1 ++ [10] ++ []) = _
  rw [List.append_nil]
theorem name_len (e : Int) : (name e).length ≤ 9 := by
  unfold name
  rw [List.getD_eq_getElem?_getD]
  have hm : ∀ x ∈ ([[79, 75], [69, 114, 114, 82, 97, 110, 103, 101], [69, 114, 114, 83, 121, 110, 116, 97, 120], [69, 114, 114, 83, 104, 97, 112, 101], [69, 114, 114, 70, 117, 108, 108], [69, 114, 114, 78, 111, 110, 101], [69, 114, 114, 83, 116, 97, 116, 101], [69, 114, 114, 67, 108, 97, 115, 104], [69, 114, 114, 76, 111, 115, 116], [69, 114, 114, 68, 101, 110, 105, 101, 100]] : List (List UInt8)), x.length ≤ 9 := by decide
  cases hq : ([[79, 75], [69, 114, 114, 82, 97, 110, 103, 101], [69, 114, 114, 83, 121, 110, 116, 97, 120], [69, 114, 114, 83, 104, 97, 112, 101], [69, 114, 114, 70, 117, 108, 108], [69, 114, 114, 78, 111, 110, 101], [69, 114, 114, 83, 116, 97, 116, 101], [69, 114, 114, 67, 108, 97, 115, 104], [69, 114, 114, 76, 111, 115, 116], [69, 114, 114, 68, 101, 110, 105, 101, 100]] : List (List UInt8))[e.toNat]? with
  | none => simp
  | some y => exact hm y (List.mem_of_getElem? hq)
/-- an array of five disks of four rows of blocks of two -/
structure Sized (s : Ar.S) : Prop where
  ok : s.Ok
  like : Ar.S.Like 5 4 2 s
theorem run1_like {s : Ar.S} (h : Ar.S.Like 5 4 2 s) (k : Wd) (v : List Nat) (b : List UInt8) : Ar.S.Like 5 4 2 (run1 s k v b).2 := by
  cases k
  · exact h
  · exact Ar.S.like_write h _ _
  · exact Ar.S.like_fail h _
  · exact Ar.S.like_replace h _
  · exact Ar.S.like_poke h _ _ _
  · exact Ar.S.like_rebuild h _
  · exact h
  · rw [run1_scrub]; dsimp only; exact Ar.S.like_scrubTo h 4
theorem line_like {s : Ar.S} (h : Ar.S.Like 5 4 2 s) (l : List UInt8) : Ar.S.Like 5 4 2 (line s l).2 := by
  unfold line
  split
  · exact h
  · exact run1_like h _ _ _
theorem stateOf_like : ∀ (l : List (List UInt8)) {s : Ar.S}, Ar.S.Like 5 4 2 s → Ar.S.Like 5 4 2 (stateOf s l)
  | [], _, h => h
  | x :: l, _, h => stateOf_like l (line_like h x)
theorem run1_len {s : Ar.S} (h : Sized s) (k : Wd) (v : List Nat) (b : List UInt8) : (run1 s k v b).1.1.length ≤ 40 := by
  have ho : ok.length ≤ 40 := by decide
  cases k
  · show (hex (s.read _).1.data.toList).length ≤ 40
    rw [hex_len]
    have h1 := Ar.S.read_size h.ok ((v.getD 0 0 : Nat) : Int)
    have h2 : (s.read ((v.getD 0 0 : Nat) : Int)).1.data.toList.length = (s.read ((v.getD 0 0 : Nat) : Int)).1.size := by simp
    rw [h.like.2.2] at h1
    omega
  · exact ho
  · exact ho
  · exact ho
  · exact ho
  · show (Lib.decDigits (s.rebuild _).1.1.toNat).length ≤ 40
    have h1 := (Ar.S.rebuild_bd h.ok ((v.getD 0 0 : Nat) : Int)).2
    rw [h.like.2.1] at h1
    exact Nat.le_trans (dec_len _ (by omega)) (by omega)
  · show (Lib.decDigits (s.lostN _)).length ≤ 40
    have h1 := s.lostN_le ((v.getD 0 0 : Nat) : Int)
    rw [h.like.1] at h1
    exact Nat.le_trans (dec_len _ (by omega)) (by omega)
  · rw [run1_scrub]
    dsimp only
    refine spots_len _ (s.scrubTo_len 4) (fun x hx => ?_)
    have h1 := s.scrubTo_bd (by rw [h.like.1]; omega) 4 x hx
    rw [h.like.1] at h1
    omega
theorem line_len {s : Ar.S} (h : Sized s) (l : List UInt8) : (line s l).1.length ≤ 40 := by
  unfold line
  split
  · show bad.length ≤ 40
    decide
  · show (told _).length ≤ 40
    unfold told
    split
    · exact run1_len h _ _ _
    · exact Nat.le_trans (name_len _) (by omega)
end Ru
end Go.Proofs.YtneebcniofolmaaGreatDoor
