/- What a call leaves as it was: all blocks but some. · An error as a value. · The builder of strings: WriteString, with what it leaves. · Lists of ints in a block of the object's own, from whatever cell on: cut ahead, with a number more, one taken out, one put in. -/
import Derived.Test.YtneebcniofolmaaGreatDoorLift
import Derived.Test.YtneebcniofolmaaGreatDoorShelf
import Derived.Shelf.Strings.BuilderK
import Derived.Laws.Externs
import Derived.Deep.RegionLaw
import Derived.Lib.SliceRun
import Derived.Deep.Upon
namespace Go.Proofs.YtneebcniofolmaaGreatDoor
open Go.ChangeShapes Go.WideShapes Go.ChangeAt Go.RowKit
/-- w' is w with new blocks, and of the old ones those of T alone may have turned -/
structure Kept (T : Nat → Prop) (w w' : World) : Prop where
  os : w'.os = w.os
  tape : w'.tape = w.tape
  output : w'.output = w.output
  size : w.heap.size ≤ w'.heap.size
  block : ∀ k, k < w.heap.size → ¬ T k → w'.heap[k]? = w.heap[k]?
namespace Kept
variable {T T' : Nat → Prop} {w w1 w2 : World}
theorem refl (T : Nat → Prop) (w : World) : Kept T w w := ⟨rfl, rfl, rfl, Nat.le_refl _, fun _ _ _ => rfl⟩
theorem mono (h : Kept T w w1) (hT : ∀ k, k < w.heap.size → T k → T' k) : Kept T' w w1 := ⟨h.os, h.tape, h.output, h.size, fun k hk hn => h.block k hk (fun ht => hn (hT k hk ht))⟩
theorem trans (h : Kept T w w1) (h' : Kept T' w1 w2) (hT : ∀ k, k < w.heap.size → T' k → T k) : Kept T w w2 :=
  ⟨h'.os.trans h.os, h'.tape.trans h.tape, h'.output.trans h.output, Nat.le_trans h.size h'.size, fun k hk hn => (h'.block k (Nat.lt_of_lt_of_le hk h.size) (fun ht => hn (hT k hk ht))).trans (h.block k hk hn)⟩
theorem also (h : Kept T w w1) (h' : Kept T w1 w2) : Kept T w w2 := h.trans h' fun _ _ h => h
theorem drewN (h : Kept T w w1) (n : Nat) : Kept T w (w1.drewN n) := ⟨h.os, h.tape, h.output, h.size, h.block⟩
theorem drew (h : Kept T w w1) : Kept T w w1.drew := h.drewN 1
theorem below {B : Nat} (h : Below B w w1) : Kept (fun k => B ≤ k) w w1 := ⟨h.os, h.tape, h.output, h.size, fun k _ hn => h.block k (by omega)⟩
theorem new (T : Nat → Prop) (h : Below w.heap.size w w1) : Kept T w w1 := ⟨h.os, h.tape, h.output, h.size, fun k hk _ => h.block k hk⟩
theorem toBelow {B : Nat} (h : Kept T w w1) (hB : B ≤ w.heap.size) (hT : ∀ k, k < w.heap.size → T k → B ≤ k) : Below B w w1 :=
  ⟨h.os, h.tape, h.output, h.size, fun k hk => h.block k (by omega) (fun ht => by have := hT k (by omega) ht; omega)⟩
theorem alloc (h : Kept T w w1) (o : Obj) : Kept T w (w1.alloc o) := h.also (new T ((Below.refl _ _).alloc (Nat.le_refl _) o))
theorem setCell (h : Kept T w w1) {p : Addr} (hp : p.block < w.heap.size → T p.block) (u : Value) : Kept T w (w1.setCell p u) :=
  ⟨h.os, h.tape, h.output, by simpa [World.setCell] using h.size, fun k hk hn => by
    rw [Below.heap_setCell _ _ _ _ (fun e => hn (by rw [e]; exact hp (by omega)))]; exact h.block k hk hn⟩
theorem grown {row : Option Nat} (h : w.grownBy w1 row) : Kept (fun k => some k = row) w w1 := ⟨h.os, h.tape, h.output, h.size, fun k hk hn => h.block k hk hn⟩
theorem cell (h : Kept T w w1) {b o : Nat} {v : Value} (hc : w.cell? ⟨b, o, none⟩ = some v) (hn : ¬ T b) : w1.cell? ⟨b, o, none⟩ = some v :=
  (World.cell?_of_block (h.block b (World.block_lt_of_cell? w _ hc) hn)).trans hc
theorem frozen (h : Kept T w w1) {b o : Nat} (hb : b < w.heap.size) (hn : ¬ T b) : w1.frozen? ⟨b, o, none⟩ = w.frozen? ⟨b, o, none⟩ :=
  World.frozen?_of_block (h.block b hb hn)
theorem heap (h : Kept T w w1) {b : Nat} {o : Obj} (hc : w.heap[b]? = some o) (hn : ¬ T b) : w1.heap[b]? = some o :=
  (h.block b (Array.getElem?_eq_some_iff.1 hc).1 hn).trans hc
theorem owns {base : Nat} {e : TypeId} {size : Nat} {v : Value} {n : Nat} {xs : List Value} (h : w.ownsRow base e size v n xs) (hk : Kept T w w1) (hn : ∀ g, v.ownBlock = some g → ¬ T g) : w1.ownsRow base e size v n xs := by
  cases hv : v.ownBlock with
  | none =>
    refine ⟨h.1, ?_⟩
    rcases h.2 with h2 | ⟨g, cap, cur, rfl, _⟩
    · exact .inl h2
    · cases hv
  | some g =>
    rcases h.2 with ⟨rfl, _⟩ | ⟨g', cap, cur, rfl, hb, hg, h3⟩
    · cases hv
    · exact ⟨h.1, .inr ⟨g', cap, cur, rfl, hb, hk.heap hg (hn g' rfl), h3⟩⟩
theorem row {v : Value} {xs : List Value} (h : Row w v xs) (hk : Kept T w w1) (hn : ∀ g o n c, v = .slice (some ⟨g, o, none⟩) n c → g < w.heap.size → ¬ T g) : Row w1 v xs := by
  obtain ⟨p, cap, rfl, h1, h2, h3, h4⟩ := h
  refine ⟨p, cap, rfl, h1, h2, h3, fun h0 => ?_⟩
  obtain ⟨g, off, rfl, h5⟩ := h4 h0
  refine ⟨g, off, rfl, fun j hj => ?_⟩
  have h6 := h5 j hj
  rw [List.getElem?_eq_getElem hj] at h6 ⊢
  exact hk.cell h6 (hn g off _ _ rfl (World.block_lt_of_cell? w _ h6))
theorem set1 {b : Nat} (h : Kept (fun x => x = b) w w1) (j : Nat) (v : Value) : Kept (fun x => x = b) w (w1.setCell ⟨b, j, none⟩ v) := h.setCell (p := ⟨b, j, none⟩) (fun _ => rfl) v
theorem setP {b c g : Nat} (h : Kept (fun k => k = b ∨ k = c) w w1) (hg : g = b ∨ g = c) (o : Nat) (v : Value) : Kept (fun k => k = b ∨ k = c) w (w1.setCell ⟨g, o, none⟩ v) := h.setCell (p := ⟨g, o, none⟩) (fun _ => hg) v
theorem self (b : Nat) (w : World) : Kept (fun x => x = b) w w := refl _ w
end Kept
end Go.Proofs.YtneebcniofolmaaGreatDoor
namespace Go.Proofs.YtneebcniofolmaaGreatDoor
/-- the value of an error: nil for 0, else the program's own number -/
def errV (n : Int) : Value := if n = 0 then .nilIface else ev n
theorem errV_0 : errV 0 = .nilIface := rfl
theorem errV_ne {n : Int} (h : n ≠ 0) : errV n = ev n := by unfold errV; rw [if_neg h]
end Go.Proofs.YtneebcniofolmaaGreatDoor
namespace Go.Proofs.YtneebcniofolmaaGreatDoor
open Go.ChangeShapes Go.WideShapes Go.ChangeAt Go.RowKit Go.Shelf
set_option linter.unusedVariables false
set_option maxHeartbeats 1000000
set_option maxRecDepth 100000
theorem bcheck_used (b : Nat) (w : World) (h0 : w.cell? ⟨b, 0, none⟩ = some (.pointer (some ⟨b, 0, none⟩))) :
    Calls Tryz.prog 38 #[.pointer (some ⟨b, 0, none⟩)] w fun e w' => e = .returned (.tuple #[]) ∧ w' = w := by
  obtain ⟨j, hj, _⟩ := Option.map_eq_some_iff.1 Tryz.Builder_Extra_169.sizeBuilder
  go_enter Tryz.func38, Tryz.ntmps38
  go_wp2_with fail
  rw [Lib.run_neq_ptr_same w _ Tryz.underlying43 hj]
  go_wp2_with fail
  go_end0
  exact ⟨rfl, rfl⟩
theorem bcheck_fresh (b : Nat) (w : World) (h0 : w.cell? ⟨b, 0, none⟩ = some (.pointer none)) (hsh : w.shape? b = some (46, 2)) (hfz : w.frozen? ⟨b, 0, none⟩ = false) :
    Calls Tryz.prog 38 #[.pointer (some ⟨b, 0, none⟩)] w fun e w' => e = .returned (.tuple #[]) ∧ w' = w.setCell ⟨b, 0, none⟩ (.pointer (some ⟨b, 0, none⟩)) := by
  obtain ⟨j, hj, hjs⟩ := Option.map_eq_some_iff.1 Tryz.Builder_Extra_169.sizeBuilder
  go_enter Tryz.func38, Tryz.ntmps38
  go_wp2_with fail
  rw [Lib.run_to_unsafe w ⟨b, 0, none⟩ Tryz.underlying43 Tryz.underlying108 hj (by rw [hjs]; decide) hsh (Nat.zero_lt_succ 1)]
  simp only [Result.andThen]
  rw [Oper.upon_value]
  go_wp2_with fail
  rw [run_callFunc_extern Tryz.func56 (by kernel_rfl) (by kernel_rfl) (by kernel_rfl) (e := Extern.AbiNoEscape.same) (by kernel_rfl)]
  rw [Lib.run_noEscape]
  simp only [Result.andThen]
  rw [Oper.upon_value]
  go_wp2_with fail
  rw [Lib.run_from_unsafe w ⟨b, 0, none⟩ Tryz.underlying108 Tryz.underlying43 hj hsh Tryz.Builder_Extra_169.liesBuilder]
  simp only [Result.andThen]
  rw [Oper.upon_value]
  go_wp2_with fail
  go_end0
  exact ⟨rfl, rfl⟩
theorem bcheck (B b : Nat) (bs : List Value) (w : World) (h : Lib.IsBuilderF 46 5 B b bs w) :
    Calls Tryz.prog 38 #[.pointer (some ⟨b, 0, none⟩)] w fun e w' => e = .returned (.tuple #[]) ∧ (Lib.BuilderAtF 46 5 B b (.pointer (some ⟨b, 0, none⟩)) bs w' ∧ Below B w w' ∧ Lib.OthersKept 5 (some b) w w') := by
  rcases h with h | h
  · refine (bcheck_fresh b w h.cell0 h.shape h.frozen0).mono ?_
    rintro e w' ⟨rfl, rfl⟩
    exact ⟨rfl, h.used _, (Below.refl B w).setCell (p := ⟨b, 0, none⟩) h.1 _, (Lib.OthersKept.refl _ _ w).setCell ⟨b, 0, none⟩ rfl _⟩
  · refine (bcheck_used b w h.cell0).mono ?_
    rintro e w' ⟨rfl, rfl⟩
    exact ⟨rfl, h, Below.refl B _, Lib.OthersKept.refl _ _ _⟩
theorem bwrite (B b : Nat) (bs : List Value) (s : ByteArray) (w : World) (h : Lib.IsBuilderF 46 5 B b bs w) (hlen : bs.length + s.size ≤ 140737488355328) (hBw : B ≤ w.heap.size) :
    Calls Tryz.prog 16 #[.pointer (some ⟨b, 0, none⟩), .string s] w fun e w' => e = .returned (.tuple #[.int .i64 s.size, .nilIface]) ∧ (Lib.BuilderAtF 46 5 B b (.pointer (some ⟨b, 0, none⟩)) (bs ++ Lib.strCells s) w' ∧ Below B w w' ∧ Lib.OthersKept 5 (some b) w w') := by
  obtain ⟨i0, hi, hz0, hz1, hz2⟩ := info_parts Tryz.Builder_Extra_169.infoByte
  have hck := Lib.hid (bcheck B b bs w h)
  go_enter Tryz.func16, Tryz.ntmps16
  go_wp2_with fail
  refine hck.out.mono ?_
  rintro e w1 ⟨rfl, h1, hb1, hk1⟩
  obtain ⟨hB, v, hbk, hown, hne⟩ := h1
  have c0 : w1.cell? ⟨b, 0, none⟩ = some (.pointer (some ⟨b, 0, none⟩)) := by rw [Lib.cell_of_heap hbk]; rfl
  have c1 : w1.cell? ⟨b, 1, none⟩ = some v := by rw [Lib.cell_of_heap hbk]; rfl
  go_wp2_with (at_builtin; refine Lib.wpList_append_own_stringF _ rfl _ _ 44 9 rfl B 5 i0 Tryz.underlying44 Tryz.underlying9 hi hz0 hz1 hz2 _ _ _ rfl hown s rfl ?c3 ?c4 ?c5 ?_)
  case c3 => unfold maxLen; omega
  case c4 => omega
  case c5 => have := hb1.size; omega
  intro v' w2 hown' hgrow _
  have hlt : b < w1.heap.size := by
    rcases Nat.lt_or_ge b w1.heap.size with h' | h'
    · exact h'
    · simp [Array.getElem?_eq_none h'] at hbk
  have hb2 : w2.heap[b]? = some (.cells #[.pointer (some ⟨b, 0, none⟩), v] 46 (0, 0)) := by
    rw [hgrow.block b hlt (fun e => hne e.symm)]
    exact hbk
  have d0 : w2.cell? ⟨b, 0, none⟩ = some (.pointer (some ⟨b, 0, none⟩)) := by rw [Lib.cell_of_heap hb2]; rfl
  have d1 : w2.cell? ⟨b, 1, none⟩ = some v := by rw [Lib.cell_of_heap hb2]; rfl
  have f1 : w2.frozen? ⟨b, 1, none⟩ = false := Lib.frozen_of_heap hb2 1
  obtain ⟨ao, n', cap, rfl⟩ : ∃ ao n' cap, v' = .slice ao n' cap := by
    rcases hown'.2 with ⟨hv, _⟩ | ⟨g, cap, cur, fz, hv, _⟩
    · exact ⟨_, _, _, hv⟩
    · exact ⟨_, _, _, hv⟩
  go_wp2_with fail
  go_ret2
  refine ⟨rfl, ?_, ?_, (hk1.grown hgrow (Lib.ownsRowF_kind hown)).setCell ⟨b, 1, none⟩ rfl _⟩
  · exact Lib.BuilderAtF.put (T := 46) (e := 5) hB hb2 (bs' := bs ++ Lib.strCells s) (by simpa [Lib.strCells_length] using hown') (by decide)
  · exact (hb1.grown hgrow (by have := hb1.size; omega) (fun k hk => (hown.lt k hk).1)).setCell (p := ⟨b, 1, none⟩) hB _
end Go.Proofs.YtneebcniofolmaaGreatDoor
namespace Go.Proofs.YtneebcniofolmaaGreatDoor
open Go.ChangeShapes Go.WideShapes Go.ChangeAt Go.RowKit
set_option linter.unusedVariables false
/-- v is a list xs of one-cell values of type E, in a block from 'base' on that nobody else has -/
def OwnR (w : World) (base : Nat) (E : TypeId) (v : Value) (xs : List Value) : Prop :=
  (v = .slice none 0 0 ∧ xs = []) ∨
  ∃ g o cap cur, v = .slice (some ⟨g, o, none⟩) xs.length cap ∧ base ≤ g ∧ w.heap[g]? = some (.cells cur E (0, 0)) ∧ xs.length ≤ cap ∧ cap ≤ maxLen ∧ o + cap ≤ cur.size ∧ ∀ j, j < xs.length → cur[o + j]? = xs[j]?
namespace OwnR
variable {w w1 : World} {base : Nat} {E : TypeId} {v : Value} {xs : List Value}
theorem nil (w : World) (base : Nat) (E : TypeId) : OwnR w base E (.slice none 0 0) [] := .inl ⟨rfl, rfl⟩
theorem of_owns {n : Nat} (h : w.ownsRow base E 1 v n xs) : OwnR w base E v xs := by
  have hl : xs.length = n := by simpa using h.1
  rcases h.2 with ⟨hv, h0⟩ | ⟨g, cap, cur, rfl, hb, hg, hnc, hcm, hcs, ht⟩
  · exact .inl ⟨hv, List.eq_nil_of_length_eq_zero (by omega)⟩
  · refine .inr ⟨g, 0, cap, cur, by rw [hl], hb, hg, by omega, hcm, by omega, fun j hj => ?_⟩
    rw [← ht, Nat.zero_add, List.getElem?_take, if_pos (by omega), Array.getElem?_toList]
theorem row (h : OwnR w base E v xs) : Row w v xs := by
  rcases h with ⟨rfl, rfl⟩ | ⟨g, o, cap, cur, rfl, hb, hg, h1, h2, h3, h4⟩
  · exact ⟨none, 0, rfl, Nat.le_refl _, Nat.zero_le _, fun _ => rfl, fun h => by simp at h⟩
  · refine ⟨some ⟨g, o, none⟩, cap, rfl, h1, h2, (fun h => by cases h), fun _ => ⟨g, o, rfl, fun j hj => ?_⟩⟩
    rw [cell_of_row _ _ _ _ _ _ hg]; exact h4 j hj
theorem shape (h : OwnR w base E v xs) : ∃ p cap, v = .slice p xs.length cap ∧ xs.length ≤ cap ∧ cap ≤ maxLen := by
  rcases h with ⟨rfl, rfl⟩ | ⟨g, o, cap, cur, rfl, hb, hg, h1, h2, h3, h4⟩
  · exact ⟨none, 0, rfl, Nat.le_refl _, Nat.zero_le _⟩
  · exact ⟨_, cap, rfl, h1, h2⟩
theorem slice (h : OwnR w base E v xs) : ∃ p m c, v = .slice p m c := by
  obtain ⟨p, c, h1, _⟩ := h.shape
  exact ⟨p, _, c, h1⟩
theorem kept {F : Nat → Prop} (h : OwnR w base E v xs) (hk : Kept F w w1) (hn : ∀ g, v.ownBlock = some g → ¬ F g) : OwnR w1 base E v xs := by
  rcases h with h | ⟨g, o, cap, cur, rfl, hb, hg, h1, h2, h3, h4⟩
  · exact .inl h
  · exact .inr ⟨g, o, cap, cur, rfl, hb, hk.heap hg (hn g rfl), h1, h2, h3, h4⟩
theorem below (h : OwnR w base E v xs) (hb : Below w.heap.size w w1) : OwnR w1 base E v xs := by
  rcases h with h | ⟨g, o, cap, cur, rfl, hb', hg, h1, h2, h3, h4⟩
  · exact .inl h
  · exact .inr ⟨g, o, cap, cur, rfl, hb', by rw [hb.block g (Array.getElem?_eq_some_iff.1 hg).1]; exact hg, h1, h2, h3, h4⟩
theorem lt (h : OwnR w base E v xs) {g : Nat} (hv : v.ownBlock = some g) : base ≤ g ∧ g < w.heap.size := by
  rcases h with ⟨rfl, _⟩ | ⟨g', o, cap, cur, rfl, hb, hg, _⟩
  · cases hv
  · simp only [Value.ownBlock, Option.some.injEq] at hv
    subst hv
    exact ⟨hb, (Array.getElem?_eq_some_iff.1 hg).1⟩
theorem mono {base' : Nat} (h : OwnR w base E v xs) (hb : base' ≤ base) : OwnR w base' E v xs := by
  rcases h with h | ⟨g, o, cap, cur, rfl, hb', h1⟩
  · exact .inl h
  · exact .inr ⟨g, o, cap, cur, rfl, by omega, h1⟩
theorem at0 (h : OwnR w base E v xs) (h0 : 0 < xs.length) : ∃ g o cap, v = .slice (some ⟨g, o, none⟩) xs.length cap ∧ base ≤ g ∧ g < w.heap.size ∧ xs.length ≤ cap ∧ cap ≤ maxLen ∧ (∀ j, j < xs.length → w.cell? ⟨g, o + j, none⟩ = xs[j]?) ∧ ∀ j, w.frozen? ⟨g, j, none⟩ = false := by
  rcases h with ⟨rfl, rfl⟩ | ⟨g, o, cap, cur, rfl, hb, hg, h1, h2, h3, h4⟩
  · simp at h0
  · exact ⟨g, o, cap, rfl, hb, (Array.getElem?_eq_some_iff.1 hg).1, h1, h2, fun j hj => by rw [cell_of_row _ _ _ _ _ _ hg]; exact h4 j hj, fun j => frozen_of_row _ _ _ _ _ hg⟩
/-- the list without its first -/
theorem tail {g o n cap : Nat} {x : Value} (h : OwnR w base E (.slice (some ⟨g, o, none⟩) n cap) (x :: xs)) : OwnR w base E (.slice (some ⟨g, o + 1, none⟩) (n - 1) (cap - 1)) xs ∧ OwnR w base E (.slice (some ⟨g, o, none⟩) xs.length cap) (x :: xs).dropLast := by
  rcases h with ⟨hv, hx⟩ | ⟨g', o', cap', cur, hv, hb, hg, h1, h2, h3, h4⟩
  · cases hv
  · cases hv
    rw [List.length_cons] at h1
    refine ⟨.inr ⟨g, o + 1, cap - 1, cur, by rw [List.length_cons]; rfl, hb, hg, by omega, by omega, by omega, fun j hj => ?_⟩, .inr ⟨g, o, cap, cur, by simp, hb, hg, by simp; omega, h2, h3, fun j hj => ?_⟩⟩
    · have := h4 (j + 1) (by rw [List.length_cons]; omega)
      rw [show o + 1 + j = o + (j + 1) by omega, this]; rfl
    · rw [List.length_dropLast, List.length_cons] at hj
      rw [h4 j (by rw [List.length_cons]; omega), List.getElem?_dropLast, if_pos (by rw [List.length_cons]; omega)]
end OwnR
theorem shape_of {w : World} {g : Nat} {cur : Array Value} {E : TypeId} (h : w.heap[g]? = some (.cells cur E (0, 0))) : w.shape? g = some (E, cur.size) := by unfold World.shape?; rw [h]
theorem setCells_at (g : Nat) (e : TypeId) : ∀ (vs : List Value) (o : Nat) (w : World) (cur : Array Value), w.heap[g]? = some (.cells cur e (0, 0)) →
    ∃ cur', (w.setCells g o vs).heap[g]? = some (.cells cur' e (0, 0)) ∧ cur'.size = cur.size ∧ ∀ j, j < cur.size → cur'[j]? = if o ≤ j ∧ j < o + vs.length then vs[j - o]? else cur[j]?
  | [], o, w, cur, h => ⟨cur, h, rfl, fun j _ => by rw [if_neg (by simp)]⟩
  | v :: vs, o, w, cur, h => by
    obtain ⟨cur', h1, h2, h3⟩ := setCells_at g e vs (o + 1) (w.setCell ⟨g, o, none⟩ v) (cur.setIfInBounds o v) (heap_setCell_same _ _ _ _ _ _ h)
    refine ⟨cur', h1, by rw [h2]; simp, fun j hj => ?_⟩
    rw [h3 j (by simpa using hj)]
    by_cases c : j = o
    · subst c
      rw [if_neg (by omega), if_pos (by simp), Array.getElem?_setIfInBounds_self_of_lt hj]
      simp
    · by_cases c2 : o ≤ j ∧ j < o + (v :: vs).length
      · rw [List.length_cons] at c2
        rw [if_pos (by omega), if_pos (by rw [List.length_cons]; omega), show j - o = (j - (o + 1)) + 1 by omega, List.getElem?_cons_succ]
      · rw [List.length_cons] at c2
        rw [if_neg (by omega), if_neg (by rw [List.length_cons]; omega), Array.getElem?_setIfInBounds_ne (by omega)]
theorem kept_setCells (w : World) (g o : Nat) (vs : List Value) : Kept (· = g) w (w.setCells g o vs) := by
  have h := (World.keptBut_setCells g (may := fun _ => True) vs o w (fun _ _ => trivial))
  refine ⟨h.1, ?_, h.2.1, ?_, fun k hk hne => World.heap_setCells_other _ _ _ _ hk (fun e => hne e)⟩
  · induction vs generalizing o w with
    | nil => rfl
    | cons v vs ih => exact (ih (w.setCell ⟨g, o, none⟩ v) (o + 1) (World.keptBut_setCells g vs (o + 1) _ (fun _ _ => trivial))).trans rfl
  · induction vs generalizing o w with
    | nil => exact Nat.le_refl _
    | cons v vs ih => exact Nat.le_trans (by simp [World.setCell]) (ih (w.setCell ⟨g, o, none⟩ v) (o + 1) (World.keptBut_setCells g vs (o + 1) _ (fun _ _ => trivial)))
/-- of the blocks that there were at most v's own has turned; v' lies in that block or in a new one -/
def Turned (w w' : World) (v v' : Value) : Prop := Kept (fun k => some k = v.ownBlock) w w' ∧ (v'.ownBlock = v.ownBlock ∨ ∀ g, v'.ownBlock = some g → w.heap.size ≤ g)
end Go.Proofs.YtneebcniofolmaaGreatDoor
