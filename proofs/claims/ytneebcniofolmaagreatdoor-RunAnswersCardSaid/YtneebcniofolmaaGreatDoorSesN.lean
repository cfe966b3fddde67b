/- Sessions in plain: lines with their newlines; what never turns; how long an answer is. · The map of words. · The numbers of a line, in plain; the words in memory. -/
import Derived.Test.YtneebcniofolmaaGreatDoorSesP
import Derived.Test.YtneebcniofolmaaGreatDoorSesS
import Derived.Lib.Strings
import Derived.Test.YtneebcniofolmaaGreatDoorRunH
import Derived.Test.YtneebcniofolmaaGreatDoorRunN
import Derived.MapKept
import Derived.Test.YtneebcniofolmaaGreatDoorRunK
namespace Go.Proofs.YtneebcniofolmaaGreatDoor
set_option linter.unusedVariables false
namespace Ar.S
/-- what never turns -/
def Like (n rows size : Nat) (s : S) : Prop := s.n = n ∧ s.rows = rows ∧ s.size = size
variable {n rows size : Nat} {s : S}
theorem like_fail (h : Like n rows size s) (d : Int) : Like n rows size (s.fail d).2 := by
  unfold fail; split
  · split <;> exact h
  · exact h
theorem like_replace (h : Like n rows size s) (d : Int) : Like n rows size (s.replace d).2 := by
  unfold replace; split
  · split <;> exact h
  · exact h
theorem like_rebuild (h : Like n rows size s) (d : Int) : Like n rows size (s.rebuild d).2 := by
  unfold rebuild; split
  · split
    · exact h
    · split <;> exact h
  · exact h
theorem like_write (h : Like n rows size s) (d : Int) (x : ByteArray) : Like n rows size (s.write d x).2 := by
  unfold write; split
  · split
    · split <;> exact h
    · exact h
  · exact h
theorem like_poke (h : Like n rows size s) (d r : Int) (x : ByteArray) : Like n rows size (s.poke d r x).2 := by
  unfold poke; split
  · split
    · split <;> exact h
    · exact h
  · exact h
theorem like_scrubAt {n rows size : Nat} {s : S} (h : Like n rows size s) (r : Nat) : Like n rows size (s.scrubAt r).2 := by
  have e := scrubAt_same s r
  exact ⟨e.1.trans h.1, e.2.1.trans h.2.1, e.2.2.1.trans h.2.2⟩
theorem like_scrubTo {n rows size : Nat} {s : S} (h : Like n rows size s) : ∀ k, Like n rows size (s.scrubTo k).1
  | 0 => h
  | k + 1 => like_scrubAt (like_scrubTo h k) k
theorem read_size {s : S} (h : s.Ok) (b : Int) : (s.read b).1.size ≤ s.size := by
  have h3 := h.n3
  unfold read
  split
  · rename_i hb
    obtain ⟨k, rfl, hk⟩ := hasBlock_nat hb
    rw [Int.toNat_natCast]
    unfold readAt
    have hm := Nat.mod_lt k (show s.n - 2 > 0 by omega)
    split
    · rename_i hl
      exact Nat.le_of_eq (h.cl _ _ (dk_lt (by omega)) (row_lt h hk) hl)
    · split
      · exact Nat.zero_le _
      · rename_i h2
        exact Nat.le_of_eq (heal_size h (row_lt h hk) h2 (by omega))
  · exact Nat.zero_le _
theorem rebuild_bd {s : S} (h : s.Ok) (d : Int) : 0 ≤ (s.rebuild d).1.1 ∧ (s.rebuild d).1.1 ≤ (s.rows : Int) := by
  unfold rebuild
  split
  · rename_i hd
    obtain ⟨k, rfl, hk⟩ := has_nat hd
    rw [Int.toNat_natCast]
    split
    · exact ⟨Int.le_refl _, by show (0 : Int) ≤ _; omega⟩
    · rename_i hc
      have hb := h.bt k hk
      have : s.bt k ≠ s.rows := fun e => hc (.inr e)
      split
      · exact ⟨Int.le_refl _, by show (0 : Int) ≤ _; omega⟩
      · exact ⟨by show (0 : Int) ≤ (s.rows : Int) - (s.bt k + 1); omega, by show (s.rows : Int) - (s.bt k + 1) ≤ _; omega⟩
  · exact ⟨Int.le_refl _, by show (0 : Int) ≤ _; omega⟩
theorem lostN_le (s : S) (r : Int) : s.lostN r ≤ s.n := by
  unfold lostN
  split
  · unfold many
    exact Nat.le_trans (List.length_filter_le _ _) (by rw [List.length_range]; exact Nat.le_refl _)
  · exact Nat.zero_le _
end Ar.S
namespace Ru
def raws : List UInt8 → List (List UInt8)
  | [] => []
  | x :: l => if x = 10 then [10] :: raws l else match raws l with
    | [] => [[x]]
    | a :: b => (x :: a) :: b
theorem raws_other {x : UInt8} (h : x ≠ 10) (l : List UInt8) : raws (x :: l) = match raws l with | [] => [[x]] | a :: b => (x :: a) :: b := by
  show (if x = 10 then _ else _) = _
  rw [if_neg h]
theorem raws_mid : ∀ p q, (10 : UInt8) ∉ p → raws (p ++ 10 :: q) = (p ++ [10]) :: raws q
  | [], q, _ => by show (if (10 : UInt8) = 10 then _ else _) = _; rw [if_pos rfl]; rfl
  | x :: p, q, h => by
    simp only [List.mem_cons, not_or] at h
    show raws (x :: (p ++ 10 :: q)) = _
    rw [raws_other (fun e => h.1 e.symm), raws_mid p q h.2]; rfl
theorem raws_one : ∀ l, (10 : UInt8) ∉ l → l ≠ [] → raws l = [l]
  | [], _, h => absurd rfl h
  | [x], h, _ => by
    simp only [List.mem_cons, not_or] at h
    rw [raws_other (fun e => h.1 e.symm)]; rfl
  | x :: y :: l, h, _ => by
    have h' := h
    simp only [List.mem_cons, not_or] at h
    rw [raws_other (fun e => h.1 e.symm), raws_one (y :: l) (fun hm => h' (List.mem_cons_of_mem _ hm)) (by simp)]
def trim (l : List UInt8) : List UInt8 := Lib.trimSuffix l [10]
theorem trim_nl (p : List UInt8) : trim (p ++ [10]) = p := by
  unfold trim Lib.trimSuffix Lib.hasSuffix
  rw [if_pos (List.isSuffixOf_iff_suffix.2 ⟨p, rfl⟩)]
  simp
theorem trim_no {l : List UInt8} (h : (10 : UInt8) ∉ l) : trim l = l := by
  unfold trim Lib.trimSuffix Lib.hasSuffix
  rw [if_neg]
  intro hs
  obtain ⟨p, hp⟩ := List.isSuffixOf_iff_suffix.1 hs
  exact h (by rw [← hp]; simp)
/-- a text that is not empty: its first line, and the rest -/
theorem raws_no {l : List UInt8} (h : Lib.indexByte l 10 = -1) (h0 : l ≠ []) : raws l = [l] := raws_one l ((index_nil 10 l).2 h) h0
theorem raws_yes {l : List UInt8} {k : Nat} (h : Lib.indexByte l 10 = k) : k < l.length ∧ raws l = l.take (k + 1) :: raws (l.drop (k + 1)) := by
  obtain ⟨a, b, c⟩ := index_some 10 l k h
  refine ⟨a, ?_⟩
  have hk : l[k]? = some 10 := by
    conv => lhs; rw [c]
    rw [List.getElem?_append_right (by rw [List.length_take]; omega), List.length_take, show k - min k l.length = 0 by omega]; rfl
  conv => lhs; rw [c, raws_mid _ _ b]
  rw [List.take_add_one, hk]; rfl
theorem raws_lines : ∀ (n : Nat) (l : List UInt8), l.length ≤ n → (raws l).map trim = lines l
  | 0, l, h => by
    obtain rfl := List.eq_nil_of_length_eq_zero (by omega : l.length = 0)
    rw [lines_nil]; rfl
  | n + 1, l, h => by
    by_cases h0 : l = []
    · subst h0; rw [lines_nil]; rfl
    by_cases hm : Lib.indexByte l 10 = -1
    · have hno := (index_nil 10 l).2 hm
      rw [raws_no hm h0]
      show [trim l] = lines l
      unfold lines
      rw [trim_no hno, cut_no 10 l hno]
      show [l] = if some l = some [] then _ else _
      rw [if_neg (fun e => h0 (Option.some.inj e))]
    · have hg := Lib.indexByte_ge l 10
      obtain ⟨k, hk⟩ : ∃ k : Nat, Lib.indexByte l 10 = k := ⟨(Lib.indexByte l 10).toNat, by omega⟩
      obtain ⟨a, b, c⟩ := index_some 10 l k hk
      have ih := raws_lines n (l.drop (k + 1)) (by rw [List.length_drop]; omega)
      conv => lhs; rw [c, raws_mid _ _ b]
      conv => rhs; rw [c, lines_mid, cut_no 10 _ b]
      rw [List.map_cons, trim_nl, ih]; rfl
theorem raws_flat : ∀ (l : List UInt8), (raws l).flatten = l
  | [] => rfl
  | x :: l => by
    have ih := raws_flat l
    by_cases h : x = 10
    · subst h
      show (if (10 : UInt8) = 10 then [10] :: raws l else _).flatten = _
      rw [if_pos rfl, List.flatten_cons, ih]; rfl
    · rw [raws_other h]
      cases hq : raws l with
      | nil => rw [hq] at ih; rw [← ih]; rfl
      | cons a b => rw [hq] at ih; rw [← ih]; rfl
theorem flat_mem_len : ∀ (L : List (List UInt8)), ∀ x ∈ L, x.length ≤ L.flatten.length
  | [], x, h => by cases h
  | y :: L, x, h => by
    rw [List.flatten_cons, List.length_append]
    rcases List.mem_cons.1 h with h | h
    · rw [h]; omega
    · have := flat_mem_len L x h; omega
theorem raws_mem_len (l : List UInt8) : ∀ x ∈ raws l, x.length ≤ l.length := fun x h => by
  have := flat_mem_len (raws l) x h
  rw [raws_flat] at this; exact this
theorem raws_len : ∀ (l : List UInt8), (raws l).length ≤ l.length
  | [] => Nat.le_refl _
  | x :: l => by
    have ih := raws_len l
    by_cases h : x = 10
    · subst h
      show (if (10 : UInt8) = 10 then [10] :: raws l else _).length ≤ _
      rw [if_pos rfl, List.length_cons, List.length_cons]; omega
    · rw [raws_other h]
      cases hq : raws l with
      | nil => simp
      | cons a b => rw [hq] at ih; simp at ih ⊢; omega
theorem trim_len (l : List UInt8) : (trim l).length ≤ l.length := by
  unfold trim Lib.trimSuffix
  split
  · rw [List.length_take]; omega
  · exact Nat.le_refl _
theorem stateOf_append : ∀ (a b : List (List UInt8)) (s : Ar.S), stateOf s (a ++ b) = stateOf (stateOf s a) b
  | [], b, s => rfl
  | x :: a, b, s => stateOf_append a b (line s x).2
theorem stateOf_snoc (a : List (List UInt8)) (x : List UInt8) (s : Ar.S) : stateOf s (a ++ [x]) = (line (stateOf s a) x).2 := by rw [stateOf_append]; rfl
theorem runs_snoc (a : List (List UInt8)) (x : List UInt8) (s : Ar.S) : runs s (a ++ [x]) = runs s a ++ ((line (stateOf s a) x).1 ++ [10]) := by
  rw [runs_append]
  show _ ++ ((line (stateOf s a) x).1 ++ [10] ++ []) = _
  rw [List.append_nil]
theorem name_len (e : Int) : (name e).length ≤ 9 := by
  unfold name
  rw [List.getD_eq_getElem?_getD]
  have hm : ∀ x ∈ ([[79, 75], [69, 114, 114, 82, 97, 110, 103, 101], [69, 114, 114, 83, 121, 110, 116, 97, 120], [69, 114, 114, 83, 104, 97, 112, 101], [69, 114, 114, 70, 117, 108, 108], [69, 114, 114, 78, 111, 110, 101], [69, 114, 114, 83, 116, 97, 116, 101], [69, 114, 114, 67, 108, 97, 115, 104], [69, 114, 114, 76, 111, 115, 116], [69, 114, 114, 68, 101, 110, 105, 101, 100]] : List (List UInt8)), x.length ≤ 9 := by decide
  cases hq : ([[79, 75], [69, 114, 114, 82, 97, 110, 103, 101], [69, 114, 114, 83, 121, 110, 116, 97, 120], [69, 114, 114, 83, 104, 97, 112, 101], [69, 114, 114, 70, 117, 108, 108], [69, 114, 114, 78, 111, 110, 101], [69, 114, 114, 83, 116, 97, 116, 101], [69, 114, 114, 67, 108, 97, 115, 104], [69, 114, 114, 76, 111, 115, 116], [69, 114, 114, 68, 101, 110, 105, 101, 100]] : List (List UInt8))[e.toNat]? with
  | none => simp
  | some y => exact hm y (List.mem_of_getElem? hq)
/-- an array of five disks of four rows of blocks of two -/
structure Sized (s : Ar.S) : Prop where
  ok : s.Ok
  like : Ar.S.Like 5 4 2 s
theorem run1_like {s : Ar.S} (h : Ar.S.Like 5 4 2 s) (k : Wd) (v : List Nat) (b : List UInt8) : Ar.S.Like 5 4 2 (run1 s k v b).2 := by
  cases k
  · exact h
  · exact Ar.S.like_write h _ _
  · exact Ar.S.like_fail h _
  · exact Ar.S.like_replace h _
  · exact Ar.S.like_poke h _ _ _
  · exact Ar.S.like_rebuild h _
  · exact h
  · rw [run1_scrub]; dsimp only; exact Ar.S.like_scrubTo h 4
theorem line_like {s : Ar.S} (h : Ar.S.Like 5 4 2 s) (l : List UInt8) : Ar.S.Like 5 4 2 (line s l).2 := by
  unfold line
  split
  · exact h
  · exact run1_like h _ _ _
theorem stateOf_like : ∀ (l : List (List UInt8)) {s : Ar.S}, Ar.S.Like 5 4 2 s → Ar.S.Like 5 4 2 (stateOf s l)
  | [], _, h => h
  | x :: l, _, h => stateOf_like l (line_like h x)
theorem run1_len {s : Ar.S} (h : Sized s) (k : Wd) (v : List Nat) (b : List UInt8) : (run1 s k v b).1.1.length ≤ 40 := by
  have ho : ok.length ≤ 40 := by decide
  cases k
  · show (hex (s.read _).1.data.toList).length ≤ 40
    rw [hex_len]
    have h1 := Ar.S.read_size h.ok ((v.getD 0 0 : Nat) : Int)
    have h2 : (s.read ((v.getD 0 0 : Nat) : Int)).1.data.toList.length = (s.read ((v.getD 0 0 : Nat) : Int)).1.size := by simp
    rw [h.like.2.2] at h1
    omega
  · exact ho
  · exact ho
  · exact ho
  · exact ho
  · show (Lib.decDigits (s.rebuild _).1.1.toNat).length ≤ 40
    have h1 := (Ar.S.rebuild_bd h.ok ((v.getD 0 0 : Nat) : Int)).2
    rw [h.like.2.1] at h1
    exact Nat.le_trans (dec_len _ (by omega)) (by omega)
  · show (Lib.decDigits (s.lostN _)).length ≤ 40
    have h1 := s.lostN_le ((v.getD 0 0 : Nat) : Int)
    rw [h.like.1] at h1
    exact Nat.le_trans (dec_len _ (by omega)) (by omega)
  · rw [run1_scrub]
    dsimp only
    refine spots_len _ (s.scrubTo_len 4) (fun x hx => ?_)
    have h1 := s.scrubTo_bd (by rw [h.like.1]; omega) 4 x hx
    rw [h.like.1] at h1
    omega
theorem line_len {s : Ar.S} (h : Sized s) (l : List UInt8) : (line s l).1.length ≤ 40 := by
  unfold line
  split
  · show bad.length ≤ 40
    decide
  · show (told _).length ≤ 40
    unfold told
    split
    · exact run1_len h _ _ _
    · exact Nat.le_trans (name_len _) (by omega)
end Ru
end Go.Proofs.YtneebcniofolmaaGreatDoor
namespace Go.Proofs.YtneebcniofolmaaGreatDoor
open Go.ChangeShapes Go.WideShapes Go.ChangeAt Go.RowKit
set_option linter.unusedVariables false
set_option maxHeartbeats 2000000
set_option maxRecDepth 100000
def wordV (k : Ru.Wd) : Value := .agg #[iv k.many, .bool k.blk]
def wordE (k : Ru.Wd) (i : Nat) : MapEntry := ⟨.string ⟨k.txt.toArray⟩, wordV k, i⟩
def wordL : List MapEntry := [wordE .read 0, wordE .write 1, wordE .fail 2, wordE .replace 3, wordE .poke 4, wordE .rebuild 5, wordE .lost 6, wordE .scrub 7]
def wW (w : World) (i : Nat) : World := w.alloc (.map (wordL.take i).toArray i)
theorem wW_heap (w : World) (i : Nat) : (wW w i).heap[w.heap.size]? = some (.map (wordL.take i).toArray i) := by unfold wW; exact heap_alloc_new w _
theorem wW_below (w : World) (i : Nat) : Below w.heap.size w (wW w i) := (Below.refl _ _).alloc (Nat.le_refl _) _
theorem wW_size (w : World) (i : Nat) : (wW w i).heap.size = w.heap.size + 1 := by unfold wW; simp
theorem word_make (w : World) : (Instr.makeMap 114 none).run Tryz.prog w = .ok (.map (some w.heap.size)) (wW w 0) := rfl
theorem map_put (w : World) (L : List MapEntry) (i : Nat) (k : ByteArray) (v : Value) (h : Instr.findNow .string (.string k) L 0 = some none) :
    (Instr.mapUpdate 114 (.map (some w.heap.size)) (.string k) v).run Tryz.prog (w.alloc (.map L.toArray i)) = .ok () (w.alloc (.map (L ++ [(⟨.string k, v, i⟩ : MapEntry)]).toArray (i + 1))) := by
  have hu := Tryz.underlying114
  have hs := Tryz.underlying9
  have hb := heap_alloc_new w (.map L.toArray i)
  have hf : Instr.findNow .string (.string k) L.toArray.toList 0 = some none := h
  simp only [Instr.mapUpdate, Sem.run_bind, run_underlying hu, MapKept.run_getObj_map hb, MapKept.run_checkKey hs (show MapKept.IsKey .string (.string k) from trivial), MapKept.run_findKey hs hf, MapKept.run_setObj_map _ hb, Result.andThen]
  have e1 : ∀ (a : Array Obj) (x y : Obj), (a.push x).setIfInBounds a.size y = a.push y := fun a x y => by
    apply Array.ext_getElem?
    intro j
    rw [Array.getElem?_setIfInBounds, Array.getElem?_push, Array.getElem?_push, Array.size_push]
    by_cases h : a.size = j
    · subst h; simp
    · rw [if_neg h, if_neg (fun e => h e.symm), if_neg (fun e => h e.symm)]
  have e2 : L.toArray.push (⟨.string k, v, i⟩ : MapEntry) = (L ++ [(⟨.string k, v, i⟩ : MapEntry)]).toArray := by rw [List.push_toArray]
  rw [e2]
  congr 1
  unfold World.alloc
  congr 1
  exact e1 _ _ _
theorem word_put (w : World) (i : Nat) (k : ByteArray) (v : Value) (h : Instr.findNow .string (.string k) (wordL.take i) 0 = some none) (hw : wordL.take (i + 1) = wordL.take i ++ [⟨.string k, v, i⟩]) :
    (Instr.mapUpdate 114 (.map (some w.heap.size)) (.string k) v).run Tryz.prog (wW w i) = .ok () (wW w (i + 1)) := by
  unfold wW
  rw [hw]
  exact map_put w _ i k v h
theorem wants_any (w : World) : Calls Tryz.prog 58 #[] w fun e w' => e = .returned (.map (some w.heap.size)) ∧ wW w 8 = w' := by
  have hm := word_make w
  have p0 := word_put w 0 ⟨#[114, 101, 97, 100]⟩ (.agg #[.int .i64 1, .bool false]) rfl rfl
  have p1 := word_put w 1 ⟨#[119, 114, 105, 116, 101]⟩ (.agg #[.int .i64 1, .bool true]) rfl rfl
  have p2 := word_put w 2 ⟨#[102, 97, 105, 108]⟩ (.agg #[.int .i64 1, .bool false]) rfl rfl
  have p3 := word_put w 3 ⟨#[114, 101, 112, 108, 97, 99, 101]⟩ (.agg #[.int .i64 1, .bool false]) rfl rfl
  have p4 := word_put w 4 ⟨#[112, 111, 107, 101]⟩ (.agg #[.int .i64 2, .bool true]) rfl rfl
  have p5 := word_put w 5 ⟨#[114, 101, 98, 117, 105, 108, 100]⟩ (.agg #[.int .i64 1, .bool false]) rfl rfl
  have p6 := word_put w 6 ⟨#[108, 111, 115, 116]⟩ (.agg #[.int .i64 1, .bool false]) rfl rfl
  have p7 := word_put w 7 ⟨#[115, 99, 114, 117, 98]⟩ (.agg #[.int .i64 0, .bool false]) rfl rfl
  simp only [Nat.reduceAdd] at p0 p1 p2 p3 p4 p5 p6 p7
  go_enter Tryz.func58, Tryz.ntmps58
  go_wp2_with fail
  go_ret
  exact ⟨rfl, rfl⟩
/-- what the map says of a word -/
theorem word_look (W : World) (g : Nat) (l : List UInt8) (hb : W.heap[g]? = some (.map (wordL.take 8).toArray 8)) :
    (Instr.lookup 114 (.map (some g)) (.string ⟨l.toArray⟩) true).run Tryz.prog W = .ok (.tuple #[match Ru.wd l with | some k => wordV k | none => .agg #[.int .i64 0, .bool false], .bool (Ru.wd l).isSome]) W := by
  have hz : (zeroValue 112).run Tryz.prog W = .ok (.agg #[.int .i64 0, .bool false]) W := by kernel_rfl
  have hu := Tryz.underlying114
  have hs := Tryz.underlying9
  cases hw : Ru.wd l with
  | some k =>
    obtain rfl := Ru.wd_some hw
    have hf : Instr.findNow .string (.string ⟨k.txt.toArray⟩) (wordL.take 8).toArray.toList 0 = some (some (match k with | .read => 0 | .write => 1 | .fail => 2 | .replace => 3 | .poke => 4 | .rebuild => 5 | .lost => 6 | .scrub => 7, wordV k)) := by cases k <;> rfl
    simp only [Instr.lookup, Sem.run_bind, Sem.run_pure, run_underlying hu, MapKept.run_getObj_map hb, MapKept.run_checkKey hs (show MapKept.IsKey .string (.string ⟨k.txt.toArray⟩) from trivial), MapKept.run_findKey hs hf, Result.andThen]
    rfl
  | none =>
    have hf : Instr.findNow .string (.string ⟨l.toArray⟩) (wordL.take 8).toArray.toList 0 = some none := by
      have h := Ru.wd_none hw
      have e : ∀ k : Ru.Wd, (ByteArray.mk l.toArray == ByteArray.mk k.txt.toArray) = false := fun k => by
        have hk := h k
        show (l.toArray == k.txt.toArray) = false
        simpa using hk
      simp only [wordL, wordE, List.take, Instr.findNow, Instr.sameNow, e]
    simp only [Instr.lookup, Sem.run_bind, Sem.run_pure, run_underlying hu, MapKept.run_getObj_map hb, MapKept.run_checkKey hs (show MapKept.IsKey .string (.string ⟨l.toArray⟩) from trivial), MapKept.run_findKey hs hf, hz, Result.andThen]
    rfl
end Go.Proofs.YtneebcniofolmaaGreatDoor
namespace Go.Proofs.YtneebcniofolmaaGreatDoor
open Go.ChangeShapes Go.WideShapes Go.ChangeAt Go.RowKit
set_option linter.unusedVariables false
namespace Ru
theorem nums_cons {x : List UInt8} {v m : Nat} (h : num x = some v) (r : List (List UInt8)) : nums (m + 1) (x :: r) = (nums m r).map (v :: ·) := by
  show (match num x with | none => none | some v => (nums m r).map (v :: ·)) = _
  rw [h]
theorem nums_cons_no {x : List UInt8} {m : Nat} (h : num x = none) (r : List (List UInt8)) : nums (m + 1) (x :: r) = none := by
  show (match num x with | none => none | some v => (nums m r).map (v :: ·)) = _
  rw [h]
theorem nums_step : ∀ (i : Nat) (l : List (List UInt8)) (vs : List Nat) (x : List UInt8) (v : Nat), nums i l = some vs → l[i]? = some x → num x = some v → nums (i + 1) l = some (vs ++ [v])
  | 0, [], vs, x, v, _, h, _ => by cases h
  | 0, y :: r, vs, x, v, h, hx, hv => by
    injection h with h; subst h
    injection hx with hx; subst hx
    rw [nums_cons hv]; rfl
  | i + 1, [], vs, x, v, h, _, _ => by cases h
  | i + 1, y :: r, vs, x, v, h, hx, hv => by
    cases hy : num y with
    | none => rw [nums_cons_no hy] at h; cases h
    | some u =>
      rw [nums_cons hy] at h ⊢
      obtain ⟨us, hus, rfl⟩ := Option.map_eq_some_iff.1 h
      rw [nums_step i r us x v hus (by simpa using hx) hv]; rfl
theorem nums_fail : ∀ (i : Nat) (l : List (List UInt8)) (x : List UInt8), l[i]? = some x → num x = none → ∀ m, i < m → nums m l = none
  | 0, [], x, h, _, m, _ => by cases h
  | 0, y :: r, x, hx, hn, m, hm => by
    injection hx with hx; subst hx
    obtain ⟨k, rfl⟩ : ∃ k, m = k + 1 := ⟨m - 1, by omega⟩
    exact nums_cons_no hn r
  | i + 1, [], x, h, _, m, _ => by cases h
  | i + 1, y :: r, x, hx, hn, m, hm => by
    obtain ⟨k, rfl⟩ : ∃ k, m = k + 1 := ⟨m - 1, by omega⟩
    cases hy : num y with
    | none => exact nums_cons_no hy r
    | some u =>
      rw [nums_cons hy, nums_fail i r x (by simpa using hx) hn k (by omega)]; rfl
theorem nums_len : ∀ (i : Nat) (l : List (List UInt8)) (vs : List Nat), nums i l = some vs → vs.length = i
  | 0, _, vs, h => by injection h with h; subst h; rfl
  | i + 1, [], vs, h => by cases h
  | i + 1, y :: r, vs, h => by
    cases hy : num y with
    | none => rw [nums_cons_no hy] at h; cases h
    | some u =>
      rw [nums_cons hy] at h
      obtain ⟨us, hus, rfl⟩ := Option.map_eq_some_iff.1 h
      simp [nums_len i r us hus]
theorem nums_lt : ∀ (i : Nat) (l : List (List UInt8)) (vs : List Nat), nums i l = some vs → ∀ v ∈ vs, v < 10000
  | 0, _, vs, h, v, hv => by injection h with h; subst h; cases hv
  | i + 1, [], vs, h, _, _ => by cases h
  | i + 1, y :: r, vs, h, v, hv => by
    cases hy : num y with
    | none => rw [nums_cons_no hy] at h; cases h
    | some u =>
      rw [nums_cons hy] at h
      obtain ⟨us, hus, rfl⟩ := Option.map_eq_some_iff.1 h
      rcases List.mem_cons.1 hv with hv | hv
      · rw [hv]; exact num_le hy
      · exact nums_lt i r us hus v hv
theorem getD_lt {vs : List Nat} (h : ∀ v ∈ vs, v < 10000) (i : Nat) : vs.getD i 0 < 10000 := by
  rw [List.getD_eq_getElem?_getD]
  cases hq : vs[i]? with
  | none => show 0 < 10000; omega
  | some v => exact h v (List.mem_of_getElem? hq)
/-- what a line asks, word by word -/
theorem parse_cut {l : List UInt8} {w0 : List UInt8} {r : List (List UInt8)} (h : cut 32 l = w0 :: r) : parse l = match wd w0 with
    | none => none
    | some k =>
      if r.length ≠ k.many + (if k.blk then 1 else 0) then none else
      match nums k.many r with
      | none => none
      | some v => if k.blk then (unhex ((w0 :: r).getLastD [])).map fun b => (k, v, b) else some (k, v, []) := by
  unfold parse
  rw [h]
  simp only [List.headD_cons, List.length_cons, List.tail_cons]
  cases wd w0 with
  | none => rfl
  | some k =>
    dsimp only
    by_cases hc : r.length ≠ k.many + (if k.blk then 1 else 0)
    · rw [if_pos hc, if_pos (by omega)]
    · rw [if_neg hc, if_neg (by omega)]; rfl
theorem parse_unknown {l w0 : List UInt8} {r : List (List UInt8)} (h : cut 32 l = w0 :: r) (hw : wd w0 = none) : parse l = none := by rw [parse_cut h, hw]
theorem parse_long {l w0 : List UInt8} {r : List (List UInt8)} {k : Wd} (h : cut 32 l = w0 :: r) (hw : wd w0 = some k) (hl : r.length ≠ k.many + (if k.blk then 1 else 0)) : parse l = none := by
  rw [parse_cut h, hw]; dsimp only; rw [if_pos hl]
theorem parse_badnum {l w0 : List UInt8} {r : List (List UInt8)} {k : Wd} (h : cut 32 l = w0 :: r) (hw : wd w0 = some k) (hn : nums k.many r = none) : parse l = none := by
  rw [parse_cut h, hw]; dsimp only
  by_cases hc : r.length ≠ k.many + (if k.blk then 1 else 0)
  · rw [if_pos hc]
  · rw [if_neg hc, hn]
theorem parse_badhex {l w0 : List UInt8} {r : List (List UInt8)} {k : Wd} (h : cut 32 l = w0 :: r) (hw : wd w0 = some k) (hb : k.blk = true) (hu : unhex ((w0 :: r).getLastD []) = none) : parse l = none := by
  rw [parse_cut h, hw]; dsimp only
  by_cases hc : r.length ≠ k.many + (if k.blk then 1 else 0)
  · rw [if_pos hc]
  · rw [if_neg hc]
    cases nums k.many r with
    | none => rfl
    | some v => dsimp only; rw [if_pos hb, hu]; rfl
theorem parse_good {l w0 : List UInt8} {r : List (List UInt8)} {k : Wd} {v : List Nat} {x : List UInt8} (h : cut 32 l = w0 :: r) (hw : wd w0 = some k) (hl : r.length = k.many + (if k.blk then 1 else 0)) (hn : nums k.many r = some v) (hb : k.blk = true) (hu : unhex ((w0 :: r).getLastD []) = some x) : parse l = some (k, v, x) := by
  rw [parse_cut h, hw]; dsimp only
  rw [if_neg (by omega), hn]; dsimp only; rw [if_pos hb, hu]; rfl
theorem parse_plain {l w0 : List UInt8} {r : List (List UInt8)} {k : Wd} {v : List Nat} (h : cut 32 l = w0 :: r) (hw : wd w0 = some k) (hl : r.length = k.many + (if k.blk then 1 else 0)) (hn : nums k.many r = some v) (hb : k.blk = false) : parse l = some (k, v, []) := by
  rw [parse_cut h, hw]; dsimp only
  rw [if_neg (by omega), hn]; dsimp only; rw [if_neg (by rw [hb]; decide)]
theorem unhex_len {l x : List UInt8} (h : unhex l = some x) : x.length = 2 := by
  match l, h with
  | [a, b, c, d], h =>
    have h' : (if sg a < 0 ∨ sg b < 0 ∨ sg c < 0 ∨ sg d < 0 then none else some [UInt8.ofNat (16 * (sg a).toNat + (sg b).toNat), UInt8.ofNat (16 * (sg c).toNat + (sg d).toNat)]) = some x := h
    split at h'
    · cases h'
    · injection h' with h'; rw [← h']; rfl
end Ru
/-- run.block at whatever text -/
theorem block_any (l : List UInt8) (hs : l.length ≤ 100000) (w : World) : Calls Tryz.prog 60 #[.string ⟨l.toArray⟩] w (UnhPost l w) := by
  by_cases h : l.length = 4
  · match l, h with
    | [a, b, c, d], _ => exact block_yes a b c d w
  · exact block_no l hs h w
/-- a list of texts in memory, read alone -/
def Txts (w : World) (v : Value) (xs : List (List UInt8)) : Prop := ∃ g o cap, v = .slice (some ⟨g, o, none⟩) xs.length cap ∧ g < w.heap.size ∧ ∀ j x, xs[j]? = some x → w.cell? ⟨g, o + j, none⟩ = some (.string ⟨x.toArray⟩)
theorem Txts.of_owns {w : World} {base n : Nat} {v : Value} {xs : List (List UInt8)} (h : w.ownsRow base 9 1 v n (xs.map strB)) (hn : n = xs.length) (h0 : 0 < n) : ∃ g cap, v = .slice (some ⟨g, 0, none⟩) xs.length cap ∧ base ≤ g ∧ g < w.heap.size ∧ xs.length ≤ cap ∧ ∀ j x, xs[j]? = some x → w.cell? ⟨g, j, none⟩ = some (.string ⟨x.toArray⟩) := by
  rcases h.2 with ⟨rfl, h1⟩ | ⟨g, cap, cur, rfl, hb, hg, hnc, hcm, hcs, ht⟩
  · omega
  · refine ⟨g, cap, by rw [hn], hb, (Array.getElem?_eq_some_iff.1 hg).1, by omega, fun j x hj => ?_⟩
    have hjl := (List.getElem?_eq_some_iff.1 hj).1
    rw [h.cellAt j (by omega), List.getElem?_map, hj]; rfl
end Go.Proofs.YtneebcniofolmaaGreatDoor
