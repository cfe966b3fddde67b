/- The map of words. · The numbers of a line, in plain; the words in memory. -/
import Derived.Test.YtneebcniofolmaaGreatDoorRunH
import Derived.Test.YtneebcniofolmaaGreatDoorRunN
import Derived.MapKept
import Derived.Test.YtneebcniofolmaaGreatDoorSesQ
import Derived.Test.YtneebcniofolmaaGreatDoorRunK
namespace Go.Proofs.YtneebcniofolmaaGreatDoor
open Go.ChangeShapes Go.WideShapes Go.ChangeAt Go.RowKit
set_option linter.unusedVariables false
set_option maxHeartbeats 2000000
set_option maxRecDepth 100000
def wordV (k : Ru.Wd) : Value := .agg #[iv k.many, .bool k.blk]
def wordE (k : Ru.Wd) (i : Nat) : MapEntry := ⟨.string ⟨k.txt.toArray⟩, wordV k, i⟩
def wordL : List MapEntry := [wordE .read 0, wordE .write 1, wordE .fail 2, wordE .replace 3, wordE .poke 4, wordE .rebuild 5, wordE .lost 6, wordE .scrub 7]
def wW (w : World) (i : Nat) : World := w.alloc (.map (wordL.take i).toArray i)
theorem wW_heap (w : World) (i : Nat) : (wW w i).heap[w.heap.size]? = some (.map (wordL.take i).toArray i) := by unfold wW; exact heap_alloc_new w _
theorem wW_below (w : World) (i : Nat) : Below w.heap.size w (wW w i) := (Below.refl _ _).alloc (Nat.le_refl _) _
theorem wW_size (w : World) (i : Nat) : (wW w i).heap.size = w.heap.size + 1 := by unfold wW; simp
theorem word_make (w : World) : (Instr.makeMap 114 none).run Tryz.prog w = .ok (.map (some w.heap.size)) (wW w 0) := rfl
theorem map_put (w : World) (L : List MapEntry) (i : Nat) (k : ByteArray) (v : Value) (h : Instr.findNow .string (.string k) L 0 = some none) :
    (Instr.mapUpdate 114 (.map (some w.heap.size)) (.string k) v).run Tryz.prog (w.alloc (.map L.toArray i)) = .ok () (w.alloc (.map (L ++ [(⟨.string k, v, i⟩ : MapEntry)]).toArray (i + 1))) := by
  have hu := Tryz.underlying114
  have hs := Tryz.underlying9
  have hb := heap_alloc_new w (.map L.toArray i)
  have hf : Instr.findNow .string (.string k) L.toArray.toList 0 = some none := h
  simp only [Instr.mapUpdate, Sem.run_bind, run_underlying hu, MapKept.run_getObj_map hb, MapKept.run_checkKey hs (show MapKept.IsKey .string (.string k) from trivial), MapKept.run_findKey hs hf, MapKept.run_setObj_map _ hb, Result.andThen]
  have e1 : ∀ (a : Array Obj) (x y : Obj), (a.push x).setIfInBounds a.size y = a.push y := fun a x y => by
    apply Array.ext_getElem?
    intro j
    rw [Array.getElem?_setIfInBounds, Array.getElem?_push, Array.getElem?_push, Array.size_push]
    by_cases h : a.size = j
    · subst h; simp
    · rw [if_neg h, if_neg (fun e => h e.symm), if_neg (fun e => h e.symm)]
  have e2 : L.toArray.push (⟨.string k, v, i⟩ : MapEntry) = (L ++ [(⟨.string k, v, i⟩ : MapEntry)]).toArray := by rw [List.push_toArray]
  rw [e2]
  congr 1
  unfold World.alloc
  congr 1
  exact e1 _ _ _
theorem word_put (w : World) (i : Nat) (k : ByteArray) (v : Value) (h : Instr.findNow .string (.string k) (wordL.take i) 0 = some none) (hw : wordL.take (i + 1) = wordL.take i ++ [⟨.string k, v, i⟩]) :
    (Instr.mapUpdate 114 (.map (some w.heap.size)) (.string k) v).run Tryz.prog (wW w i) = .ok () (wW w (i + 1)) := by
  unfold wW
  rw [hw]
  exact map_put w _ i k v h
theorem wants_any (w : World) : Calls Tryz.prog 58 #[] w fun e w' => e = .returned (.map (some w.heap.size)) ∧ wW w 8 = w' := by
  have hm := word_make w
  have p0 := word_put w 0 ⟨#[114, 101, 97, 100]⟩ (.agg #[.int .i64 1, .bool false]) rfl rfl
  have p1 := word_put w 1 ⟨#[119, 114, 105, 116, 101]⟩ (.agg #[.int .i64 1, .bool true]) rfl rfl
  have p2 := word_put w 2 ⟨#[102, 97, 105, 108]⟩ (.agg #[.int .i64 1, .bool false]) rfl rfl
  have p3 := word_put w 3 ⟨#[114, 101, 112, 108, 97, 99, 101]⟩ (.agg #[.int .i64 1, .bool false]) rfl rfl
  have p4 := word_put w 4 ⟨#[112, 111, 107, 101]⟩ (.agg #[.int .i64 2, .bool true]) rfl rfl
  have p5 := word_put w 5 ⟨#[114, 101, 98, 117, 105, 108, 100]⟩ (.agg #[.int .i64 1, .bool false]) rfl rfl
  have p6 := word_put w 6 ⟨#[108, 111, 115, 116]⟩ (.agg #[.int .i64 1, .bool false]) rfl rfl
  have p7 := word_put w 7 ⟨#[115, 99, 114, 117, 98]⟩ (.agg #[.int .i64 0, .bool false]) rfl rfl
  simp only [Nat.reduceAdd] at p0 p1 p2 p3 p4 p5 p6 p7
  go_enter Tryz.func58, Tryz.ntmps58
  go_wp2_with fail
  go_ret
  exact ⟨rfl, rfl⟩
/-- what the map says of a word -/
theorem word_look (W : World) (g : Nat) (l : List UInt8) (hb : W.heap[g]? = some (.map (wordL.take 8).toArray 8)) :
    (Instr.lookup 114 (.map (some g)) (.string ⟨l.toArray⟩) true).run Tryz.prog W = .ok (.tuple #[match Ru.wd l with | some k => wordV k | none => .agg #[.int .i64 0, .bool false], .bool (Ru.wd l).isSome]) W := by
  have hz : (zeroValue 112).run Tryz.prog W = .ok (.agg #[.int .i64 0, .bool false]) W := by kernel_rfl
  have hu := Tryz.underlying114
  have hs := Tryz.underlying9
  cases hw : Ru.wd l with
  | some k =>
    obtain rfl := Ru.wd_some hw
    have hf : Instr.findNow .string (.string ⟨k.txt.toArray⟩) (wordL.take 8).toArray.toList 0 = some (some (match k with | .read => 0 | .write => 1 | .fail => 2 | .replace => 3 | .poke => 4 | .rebuild => 5 | .lost => 6 | .scrub => 7, wordV k)) := by cases k <;> rfl
    simp only [Instr.lookup, Sem.run_bind, Sem.run_pure, run_underlying hu, MapKept.run_getObj_map hb, MapKept.run_checkKey hs (show MapKept.IsKey .string (.string ⟨k.txt.toArray⟩) from trivial), MapKept.run_findKey hs hf, Result.andThen]
    rfl
  | none =>
    have hf : Instr.findNow .string (.string ⟨l.toArray⟩) (wordL.take 8).toArray.toList 0 = some none := by
      have h := Ru.wd_none hw
      have e : ∀ k : Ru.Wd, (ByteArray.mk l.toArray == ByteArray.mk k.txt.toArray) = false := fun k => by
        have hk := h k
        show (l.toArray == k.txt.toArray) = false
        simpa using hk
      simp only [wordL, wordE, List.take, Instr.findNow, Instr.sameNow, e]
    simp only [Instr.lookup, Sem.run_bind, Sem.run_pure, run_underlying hu, MapKept.run_getObj_map hb, MapKept.run_checkKey hs (show MapKept.IsKey .string (.string ⟨l.toArray⟩) from trivial), MapKept.run_findKey hs hf, hz, Result.andThen]
    rfl
end Go.Proofs.YtneebcniofolmaaGreatDoor
namespace Go.Proofs.YtneebcniofolmaaGreatDoor
open Go.ChangeShapes Go.WideShapes Go.ChangeAt Go.RowKit
set_option linter.unusedVariables false
namespace Ru
theorem nums_cons {x : List UInt8} {v m : Nat} (h : num x = some v) (r : List (List UInt8)) : nums (m + 1) (x :: r) = (nums m r).map (v :: ·) := by
  show (match num x with | none => none | some v => (nums m r).map (v :: ·)) = _
  rw [h]
theorem nums_cons_no {x : List UInt8} {m : Nat} (h : num x = none) (r : List (List UInt8)) : nums (m + 1) (x :: r) = none := by
  show (match num x with | none => none | some v => (nums m r).map (v :: ·)) = _
  rw [h]
theorem nums_step : ∀ (i : Nat) (l : List (List UInt8)) (vs : List Nat) (x : List UInt8) (v : Nat), nums i l = some vs → l[i]? = some x → num x = some v → nums (i + 1) l = some (vs ++ [v])
  | 0, [], vs, x, v, _, h, _ => by cases h
  | 0, y :: r, vs, x, v, h, hx, hv => by
    injection h with h; subst h
    injection hx with hx; subst hx
    rw [nums_cons hv]; rfl
  | i + 1, [], vs, x, v, h, _, _ => by cases h
  | i + 1, y :: r, vs, x, v, h, hx, hv => by
    cases hy : num y with
    | none => rw [nums_cons_no hy] at h; cases h
    | some u =>
      rw [nums_cons hy] at h ⊢
      obtain ⟨us, hus, rfl⟩ := Option.map_eq_some_iff.1 h
      rw [nums_step i r us x v hus (by simpa using hx) hv]; rfl
theorem nums_fail : ∀ (i : Nat) (l : List (List UInt8)) (x : List UInt8), l[i]? = some x → num x = none → ∀ m, i < m → nums m l = none
  | 0, [], x, h, _, m, _ => by cases h
  | 0, y :: r, x, hx, hn, m, hm => by
    injection hx with hx; subst hx
    obtain ⟨k, rfl⟩ : ∃ k, m = k + 1 := ⟨m - 1, by omega⟩
    exact nums_cons_no hn r
  | i + 1, [], x, h, _, m, _ => by cases h
  | i + 1, y :: r, x, hx, hn, m, hm => by
    obtain ⟨k, rfl⟩ : ∃ k, m = k + 1 := ⟨m - 1, by omega⟩
    cases hy : num y with
    | none => exact nums_cons_no hy r
    | some u =>
      rw [nums_cons hy, nums_fail i r x (by simpa using hx) hn k (by omega)]; rfl
theorem nums_len : ∀ (i : Nat) (l : List (List UInt8)) (vs : List Nat), nums i l = some vs → vs.length = i
  | 0, _, vs, h => by injection h with h; subst h; rfl
  | i + 1, [], vs, h => by cases h
  | i + 1, y :: r, vs, h => by
    cases hy : num y with
    | none => rw [nums_cons_no hy] at h; cases h
    | some u =>
      rw [nums_cons hy] at h
      obtain ⟨us, hus, rfl⟩ := Option.map_eq_some_iff.1 h
      simp [nums_len i r us hus]
theorem nums_lt : ∀ (i : Nat) (l : List (List UInt8)) (vs : List Nat), nums i l = some vs → ∀ v ∈ vs, v < 10000
  | 0, _, vs, h, v, hv => by injection h with h; subst h; cases hv
  | i + 1, [], vs, h, _, _ => by cases h
  | i + 1, y :: r, vs, h, v, hv => by
    cases hy : num y with
    | none => rw [nums_cons_no hy] at h; cases h
    | some u =>
      rw [nums_cons hy] at h
      obtain ⟨us, hus, rfl⟩ := Option.map_eq_some_iff.1 h
      rcases List.mem_cons.1 hv with hv | hv
      · rw [hv]; exact num_le hy
      · exact nums_lt i r us hus v hv
theorem getD_lt {vs : List Nat} (h : ∀ v ∈ vs, v < 10000) (i : Nat) : vs.getD i 0 < 10000 := by
  rw [List.getD_eq_getElem?_getD]
  cases hq : vs[i]? with
  | none => show 0 < 10000; omega
  | some v => exact h v (List.mem_of_getElem? hq)
/-- what a line asks, word by word -/
theorem parse_cut {l : List UInt8} {w0 : List UInt8} {r : List (List UInt8)} (h : cut 32 l = w0 :: r) : parse l = match wd w0 with
    | none => none
    | some k =>
      if r.length ≠ k.many + (if k.blk then 1 else 0) then none else
      match nums k.many r with
      | none => none
      | some v => if k.blk then (unhex ((w0 :: r).getLastD [])).map fun b => (k, v, b) else some (k, v, []) := by
  unfold parse
  rw [h]
  simp only [List.headD_cons, List.length_cons, List.tail_cons]
  cases wd w0 with
  | none => rfl
  | some k =>
    dsimp only
    by_cases hc : r.length ≠ k.many + (if k.blk then 1 else 0)
    · rw [if_pos hc, if_pos (by omega)]
    · rw [if_neg hc, if_neg (by omega)]; rfl
theorem parse_unknown {l w0 : List UInt8} {r : List (List UInt8)} (h : cut 32 l = w0 :: r) (hw : wd w0 = none) : parse l = none := by rw [parse_cut h, hw]
theorem parse_long {l w0 : List UInt8} {r : List (List UInt8)} {k : Wd} (h : cut 32 l = w0 :: r) (hw : wd w0 = some k) (hl : r.length ≠ k.many + (if k.blk then 1 else 0)) : parse l = none := by
  rw [parse_cut h, hw]; dsimp only; rw [if_pos hl]
theorem parse_badnum {l w0 : List UInt8} {r : List (List UInt8)} {k : Wd} (h : cut 32 l = w0 :: r) (hw : wd w0 = some k) (hn : nums k.many r = none) : parse l = none := by
  rw [parse_cut h, hw]; dsimp only
  by_cases hc : r.length ≠ k.many + (if k.blk then 1 else 0)
  · rw [if_pos hc]
  · rw [if_neg hc, hn]
theorem parse_badhex {l w0 : List UInt8} {r : List (List UInt8)} {k : Wd} (h : cut 32 l = w0 :: r) (hw : wd w0 = some k) (hb : k.blk = true) (hu : unhex ((w0 :: r).getLastD []) = none) : parse l = none := by
  rw [parse_cut h, hw]; dsimp only
  by_cases hc : r.length ≠ k.many + (if k.blk then 1 else 0)
  · rw [if_pos hc]
  · rw [if_neg hc]
    cases nums k.many r with
    | none => rfl
    | some v => dsimp only; rw [if_pos hb, hu]; rfl
theorem parse_good {l w0 : List UInt8} {r : List (List UInt8)} {k : Wd} {v : List Nat} {x : List UInt8} (h : cut 32 l = w0 :: r) (hw : wd w0 = some k) (hl : r.length = k.many + (if k.blk then 1 else 0)) (hn : nums k.many r = some v) (hb : k.blk = true) (hu : unhex ((w0 :: r).getLastD []) = some x) : parse l = some (k, v, x) := by
  rw [parse_cut h, hw]; dsimp only
  rw [if_neg (by omega), hn]; dsimp only; rw [if_pos hb, hu]; rfl
theorem parse_plain {l w0 : List UInt8} {r : List (List UInt8)} {k : Wd} {v : List Nat} (h : cut 32 l = w0 :: r) (hw : wd w0 = some k) (hl : r.length = k.many + (if k.blk then 1 else 0)) (hn : nums k.many r = some v) (hb : k.blk = false) : parse l = some (k, v, []) := by
  rw [parse_cut h, hw]; dsimp only
  rw [if_neg (by omega), hn]; dsimp only; rw [if_neg (by rw [hb]; decide)]
theorem unhex_len {l x : List UInt8} (h : unhex l = some x) : x.length = 2 := by
  match l, h with
  | [a, b, c, d], h =>
    have h' : (if sg a < 0 ∨ sg b < 0 ∨ sg c < 0 ∨ sg d < 0 then none else some [UInt8.ofNat (16 * (sg a).toNat + (sg b).toNat), UInt8.ofNat (16 * (sg c).toNat + (sg d).toNat)]) = some x := h
    split at h'
    · cases h'
    · injection h' with h'; rw [← h']; rfl
end Ru
/-- run.block at whatever text -/
theorem block_any (l : List UInt8) (hs : l.length ≤ 100000) (w : World) : Calls Tryz.prog 60 #[.string ⟨l.toArray⟩] w (UnhPost l w) := by
  by_cases h : l.length = 4
  · match l, h with
    | [a, b, c, d], _ => exact block_yes a b c d w
  · exact block_no l hs h w
/-- a list of texts in memory, read alone -/
def Txts (w : World) (v : Value) (xs : List (List UInt8)) : Prop := ∃ g o cap, v = .slice (some ⟨g, o, none⟩) xs.length cap ∧ g < w.heap.size ∧ ∀ j x, xs[j]? = some x → w.cell? ⟨g, o + j, none⟩ = some (.string ⟨x.toArray⟩)
theorem Txts.of_owns {w : World} {base n : Nat} {v : Value} {xs : List (List UInt8)} (h : w.ownsRow base 9 1 v n (xs.map strB)) (hn : n = xs.length) (h0 : 0 < n) : ∃ g cap, v = .slice (some ⟨g, 0, none⟩) xs.length cap ∧ base ≤ g ∧ g < w.heap.size ∧ xs.length ≤ cap ∧ ∀ j x, xs[j]? = some x → w.cell? ⟨g, j, none⟩ = some (.string ⟨x.toArray⟩) := by
  rcases h.2 with ⟨rfl, h1⟩ | ⟨g, cap, cur, rfl, hb, hg, hnc, hcm, hcs, ht⟩
  · omega
  · refine ⟨g, cap, by rw [hn], hb, (Array.getElem?_eq_some_iff.1 hg).1, by omega, fun j x hj => ?_⟩
    have hjl := (List.getElem?_eq_some_iff.1 hj).1
    rw [h.cellAt j (by omega), List.getElem?_map, hj]; rfl
end Go.Proofs.YtneebcniofolmaaGreatDoor
