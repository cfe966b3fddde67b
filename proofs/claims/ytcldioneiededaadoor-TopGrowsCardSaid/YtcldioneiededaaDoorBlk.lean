/- What a call leaves as it was: all blocks but some. · An error as a value. · A list of strings in memory (for a seat without wire). · An argument that is a list of strings, opened. · Blocks of one length: what is wrong with some; the walk of code.Blocks; what a text is as bytes. -/
import Derived.Test.YtcldioneiededaaDoorBase
import Derived.SliceStrings
import Derived.Lib.ConvBytes
import Derived.Laws.IdiomStrings
import Derived.Lib.SlBytesRow
import Derived.Deep.LoopGhost
import Derived.IntWalk
namespace Go.Proofs.YtcldioneiededaaDoor
open Go.ChangeShapes Go.WideShapes Go.ChangeAt Go.RowKit
/-- w' is w with new blocks, and of the old ones those of T alone may have turned -/
structure Kept (T : Nat → Prop) (w w' : World) : Prop where
  os : w'.os = w.os
  tape : w'.tape = w.tape
  output : w'.output = w.output
  size : w.heap.size ≤ w'.heap.size
  block : ∀ k, k < w.heap.size → ¬ T k → w'.heap[k]? = w.heap[k]?
namespace Kept
variable {T T' : Nat → Prop} {w w1 w2 : World}
theorem refl (T : Nat → Prop) (w : World) : Kept T w w := ⟨rfl, rfl, rfl, Nat.le_refl _, fun _ _ _ => rfl⟩
theorem mono (h : Kept T w w1) (hT : ∀ k, k < w.heap.size → T k → T' k) : Kept T' w w1 := ⟨h.os, h.tape, h.output, h.size, fun k hk hn => h.block k hk (fun ht => hn (hT k hk ht))⟩
theorem trans (h : Kept T w w1) (h' : Kept T' w1 w2) (hT : ∀ k, k < w.heap.size → T' k → T k) : Kept T w w2 :=
  ⟨h'.os.trans h.os, h'.tape.trans h.tape, h'.output.trans h.output, Nat.le_trans h.size h'.size, fun k hk hn => (h'.block k (Nat.lt_of_lt_of_le hk h.size) (fun ht => hn (hT k hk ht))).trans (h.block k hk hn)⟩
theorem also (h : Kept T w w1) (h' : Kept T w1 w2) : Kept T w w2 := h.trans h' fun _ _ h => h
theorem drewN (h : Kept T w w1) (n : Nat) : Kept T w (w1.drewN n) := ⟨h.os, h.tape, h.output, h.size, h.block⟩
theorem drew (h : Kept T w w1) : Kept T w w1.drew := h.drewN 1
theorem below {B : Nat} (h : Below B w w1) : Kept (fun k => B ≤ k) w w1 := ⟨h.os, h.tape, h.output, h.size, fun k _ hn => h.block k (by omega)⟩
theorem new (T : Nat → Prop) (h : Below w.heap.size w w1) : Kept T w w1 := ⟨h.os, h.tape, h.output, h.size, fun k hk _ => h.block k hk⟩
theorem toBelow {B : Nat} (h : Kept T w w1) (hB : B ≤ w.heap.size) (hT : ∀ k, k < w.heap.size → T k → B ≤ k) : Below B w w1 :=
  ⟨h.os, h.tape, h.output, h.size, fun k hk => h.block k (by omega) (fun ht => by have := hT k (by omega) ht; omega)⟩
theorem alloc (h : Kept T w w1) (o : Obj) : Kept T w (w1.alloc o) := h.also (new T ((Below.refl _ _).alloc (Nat.le_refl _) o))
theorem setCell (h : Kept T w w1) {p : Addr} (hp : p.block < w.heap.size → T p.block) (u : Value) : Kept T w (w1.setCell p u) :=
  ⟨h.os, h.tape, h.output, by simpa [World.setCell] using h.size, fun k hk hn => by
    rw [Below.heap_setCell _ _ _ _ (fun e => hn (by rw [e]; exact hp (by omega)))]; exact h.block k hk hn⟩
theorem grown {row : Option Nat} (h : w.grownBy w1 row) : Kept (fun k => some k = row) w w1 := ⟨h.os, h.tape, h.output, h.size, fun k hk hn => h.block k hk hn⟩
theorem cell (h : Kept T w w1) {b o : Nat} {v : Value} (hc : w.cell? ⟨b, o, none⟩ = some v) (hn : ¬ T b) : w1.cell? ⟨b, o, none⟩ = some v :=
  (World.cell?_of_block (h.block b (World.block_lt_of_cell? w _ hc) hn)).trans hc
theorem frozen (h : Kept T w w1) {b o : Nat} (hb : b < w.heap.size) (hn : ¬ T b) : w1.frozen? ⟨b, o, none⟩ = w.frozen? ⟨b, o, none⟩ :=
  World.frozen?_of_block (h.block b hb hn)
theorem heap (h : Kept T w w1) {b : Nat} {o : Obj} (hc : w.heap[b]? = some o) (hn : ¬ T b) : w1.heap[b]? = some o :=
  (h.block b (Array.getElem?_eq_some_iff.1 hc).1 hn).trans hc
theorem owns {base : Nat} {e : TypeId} {size : Nat} {v : Value} {n : Nat} {xs : List Value} (h : w.ownsRow base e size v n xs) (hk : Kept T w w1) (hn : ∀ g, v.ownBlock = some g → ¬ T g) : w1.ownsRow base e size v n xs := by
  cases hv : v.ownBlock with
  | none =>
    refine ⟨h.1, ?_⟩
    rcases h.2 with h2 | ⟨g, cap, cur, rfl, _⟩
    · exact .inl h2
    · cases hv
  | some g =>
    rcases h.2 with ⟨rfl, _⟩ | ⟨g', cap, cur, rfl, hb, hg, h3⟩
    · cases hv
    · exact ⟨h.1, .inr ⟨g', cap, cur, rfl, hb, hk.heap hg (hn g' rfl), h3⟩⟩
theorem row {v : Value} {xs : List Value} (h : Row w v xs) (hk : Kept T w w1) (hn : ∀ g o n c, v = .slice (some ⟨g, o, none⟩) n c → g < w.heap.size → ¬ T g) : Row w1 v xs := by
  obtain ⟨p, cap, rfl, h1, h2, h3, h4⟩ := h
  refine ⟨p, cap, rfl, h1, h2, h3, fun h0 => ?_⟩
  obtain ⟨g, off, rfl, h5⟩ := h4 h0
  refine ⟨g, off, rfl, fun j hj => ?_⟩
  have h6 := h5 j hj
  rw [List.getElem?_eq_getElem hj] at h6 ⊢
  exact hk.cell h6 (hn g off _ _ rfl (World.block_lt_of_cell? w _ h6))
theorem set1 {b : Nat} (h : Kept (fun x => x = b) w w1) (j : Nat) (v : Value) : Kept (fun x => x = b) w (w1.setCell ⟨b, j, none⟩ v) := h.setCell (p := ⟨b, j, none⟩) (fun _ => rfl) v
theorem setP {b c g : Nat} (h : Kept (fun k => k = b ∨ k = c) w w1) (hg : g = b ∨ g = c) (o : Nat) (v : Value) : Kept (fun k => k = b ∨ k = c) w (w1.setCell ⟨g, o, none⟩ v) := h.setCell (p := ⟨g, o, none⟩) (fun _ => hg) v
theorem self (b : Nat) (w : World) : Kept (fun x => x = b) w w := refl _ w
end Kept
end Go.Proofs.YtcldioneiededaaDoor
namespace Go.Proofs.YtcldioneiededaaDoor
/-- the value of an error: nil for 0, else the program's own number -/
def errV (n : Int) : Value := if n = 0 then .nilIface else ev n
theorem errV_0 : errV 0 = .nilIface := rfl
theorem errV_ne {n : Int} (h : n ≠ 0) : errV n = ev n := by unfold errV; rw [if_neg h]
end Go.Proofs.YtcldioneiededaaDoor
namespace Go.Proofs.YtcldioneiededaaDoor
open Go.ChangeShapes Go.WideShapes Go.ChangeAt Go.RowKit
/-- a list of strings in memory -/
def Strs (w : World) (v : Value) (ss : List ByteArray) : Prop := Row w v (ss.map Value.string)
theorem Strs.get {w : World} {v : Value} {ss : List ByteArray} (h : Strs w v ss) :
    ∃ p cap, v = .slice p ss.length cap ∧ ss.length ≤ 9223372036854775807 ∧ ∀ (j : Nat) (s : ByteArray), ss[j]? = some s → ∃ g off, p = some ⟨g, off, none⟩ ∧ w.cell? ⟨g, off + j, none⟩ = some (.string s) ∧ g < w.heap.size := by
  obtain ⟨p, cap, hv, h1, h2, h3⟩ := Row.shape h
  rw [List.length_map] at *
  unfold maxLen at h2
  refine ⟨p, cap, hv, by omega, fun j s hj => ?_⟩
  have hjl := (List.getElem?_eq_some_iff.1 hj).1
  obtain ⟨g, off, hp, h4⟩ := h3 (by omega)
  have h5 := h4 j hjl
  rw [List.getElem?_map, hj] at h5
  exact ⟨g, off, hp, h5, World.block_lt_of_cell? w _ h5⟩
theorem Strs.below {w w' : World} {v : Value} {ss : List ByteArray} (h : Strs w v ss) (hb : Below w.heap.size w w') : Strs w' v ss := Row.below h hb
end Go.Proofs.YtcldioneiededaaDoor
namespace Go.Proofs.YtcldioneiededaaDoor
open Go.ChangeShapes Go.WideShapes Go.ChangeAt Go.RowKit
theorem open_strs {H : Type} {enc : TypeId × Value → H} {P : Program} {W : World} {t e : TypeId} {v : Value} {d : DataW H} {ps : List MemPlace} {base : Nat}
    (ht : P.underlying t = some (.slice e)) (he : P.underlying e = some .string) (ce : P.cellsOf e = 1)
    (hv : Value.okWide P W .any base t v) (h : DataW.Trod enc P W 0 (fun _ => true) true t v d ps) : ∃ ss, Strs W v ss ∧ ∀ s ∈ ss, s.size ≤ maxLen := by
  obtain ⟨a0, len0, cap0, rfl⟩ := okWide_slice ht hv
  obtain ⟨fuel, hf⟩ := h
  rcases open_strings ht he ce hf with ⟨hcs, _⟩ | ⟨a, len, cap, ss, hcs, _, hl, hm, hz, _, hcell, hws⟩
  · simp only [Value.cells, List.cons.injEq, and_true] at hcs
    rw [hcs]
    exact ⟨[], ⟨none, 0, rfl, Nat.le_refl _, Nat.zero_le _, fun _ => rfl, fun h => by simp at h⟩, by intro s hs; cases hs⟩
  · simp only [Value.cells, List.cons.injEq, and_true] at hcs
    rw [hcs]
    have hlen : len ≤ ss.length := by rw [hz]; split <;> omega
    have ht' : ((ss.take len).map Value.string).length = len := by rw [List.length_map, List.length_take]; omega
    refine ⟨ss.take len, ⟨some a, cap, by rw [ht'], by rw [ht']; exact hl, hm, (fun h => by cases h), fun h0 => ?_⟩, fun s hs => hws s (List.mem_of_mem_take hs)⟩
    rw [ht'] at h0
    have h1 := hcell 0 (by omega)
    obtain ⟨g, off, spot⟩ := a
    have hspot : spot = none := by simpa [Addr.add] using World.cell?_spot h1
    subst hspot
    refine ⟨g, off, rfl, fun j hj => ?_⟩
    rw [ht'] at hj
    rw [← Go.WideShapes.add_plain, hcell j (by omega), List.getElem?_map, List.getElem?_take, if_pos hj, List.getElem?_eq_getElem (by omega)]
    simp [List.getD, List.getElem?_eq_getElem (show j < ss.length by omega)]
end Go.Proofs.YtcldioneiededaaDoor
namespace Go.Proofs.YtcldioneiededaaDoor
open Go.ChangeShapes Go.WideShapes Go.ChangeAt Go.RowKit
set_option linter.unusedVariables false
/-- the fault of blocks -/
def blkF (ss : List ByteArray) : Int :=
  match ss with
  | [] => 0
  | s0 :: _ => if ss.all (fun s => s.size == s0.size) then (if s0.size > 16 then 1 else 0) else 3
def size0 (ss : List ByteArray) : Nat := match ss with | [] => 0 | s :: _ => s.size
theorem blkF_bad {ss : List ByteArray} {k : Nat} {s s0 : ByteArray} (h0 : ss[0]? = some s0) (hk : ss[k]? = some s) (h : s.size ≠ s0.size) : blkF ss = 3 := by
  cases ss with
  | nil => simp at h0
  | cons a l =>
    simp at h0
    subst h0
    unfold blkF
    simp only
    rw [if_neg]
    intro hall
    rw [List.all_eq_true] at hall
    have := hall s (List.mem_of_getElem? hk)
    simp at this
    exact h this
theorem blkF_good {ss : List ByteArray} {s0 : ByteArray} (h0 : ss[0]? = some s0) (h : ∀ (j : Nat) (s : ByteArray), ss[j]? = some s → s.size = s0.size) : blkF ss = if s0.size > 16 then 1 else 0 := by
  cases ss with
  | nil => simp at h0
  | cons a l =>
    simp at h0
    subst h0
    unfold blkF
    simp only
    rw [if_pos]
    rw [List.all_eq_true]
    intro s hs
    obtain ⟨j, hj⟩ := List.mem_iff_getElem?.1 hs
    simpa using h j s hj
theorem blkF_zero {ss : List ByteArray} (h : blkF ss = 0) : (∀ s ∈ ss, s.size = size0 ss) ∧ size0 ss ≤ 16 := by
  cases ss with
  | nil => exact ⟨(by intro s hs; cases hs), Nat.zero_le _⟩
  | cons a l =>
    unfold blkF at h
    simp only at h
    split at h
    · rename_i hall
      rw [List.all_eq_true] at hall
      split at h
      · omega
      · exact ⟨fun s hs => by simpa [size0] using hall s hs, by simp only [size0]; omega⟩
    · omega
def BlkRel (ss : List ByteArray) (w : World) (gk : Nat) (i : Value) (wr : World) : Prop :=
  ∃ k : Nat, k + gk = ss.length ∧ i = iv k ∧ wr = w ∧ ∀ (j : Nat) (s s0 : ByteArray), j < k → ss[j]? = some s → ss[0]? = some s0 → s.size = s0.size
set_option maxRecDepth 100000 in
theorem blocks_any (ss : List ByteArray) (v : Value) (w : World) (hv : Strs w v ss) :
    Calls Tryd.prog 77 #[v] w fun e w' => e = .returned (errV (blkF ss)) ∧ w = w' := by
  obtain ⟨p, cap, rfl, hl, hc⟩ := hv.get
  have Hc := Lib.hid hc
  have HF := Lib.hid (rfl : BlkRel ss = BlkRel ss)
  generalize hn : ss.length = n at *
  have Hn := Lib.hid hn
  clear hv hc hn
  go_enter Tryd.func77, Tryd.ntmps77
  go_wp2_with fail
  go_loopg [7] n (fun gk i wr => BlkRel ss w gk i wr)
  case atStart => exact ⟨0, by rw [Hn.out]; omega, rfl, rfl, fun j _ _ hj => by omega⟩
  case round =>
    obtain ⟨k, hk, rfl, rfl, hall⟩ := hrel
    rw [Hn.out] at hk
    have Hk := Lib.hid hk
    have Hall := Lib.hid hall
    clear hk hall
    by_cases hlt : k < n
    · obtain ⟨s, hs⟩ : ∃ s, ss[k]? = some s := ⟨ss[k]'(by rw [Hn.out]; exact hlt), List.getElem?_eq_getElem _⟩
      obtain ⟨s0, hs0⟩ : ∃ s, ss[0]? = some s := ⟨ss[0]'(by rw [Hn.out]; omega), List.getElem?_eq_getElem _⟩
      obtain ⟨g, o, hp, c1, _⟩ := Hc.out k s hs
      obtain ⟨g', o', hp', c0, _⟩ := Hc.out 0 s0 hs0
      have e : g' = g ∧ o' = o := by rw [hp] at hp'; injection hp' with hp'; injection hp' with h1 h2; exact ⟨h1.symm, h2.symm⟩
      obtain ⟨rfl, rfl⟩ := e
      subst hp
      rw [Nat.add_zero] at c0
      have Hs := Lib.hid hs
      have Hs0 := Lib.hid hs0
      have hn0 : 0 < n := by omega
      clear hs hs0 hp'
      by_cases he : s.size = s0.size
      · have t1 : ((s.size : Int) != (s0.size : Int)) = false := bne_f (by omega)
        have He := Lib.hid he
        clear he
        go_wp2_with fail
        go_roundg (gk - 1)
        case measure => have := Hk.out; omega
        case rel =>
          refine ⟨k + 1, by rw [Hn.out]; have := Hk.out; omega, by go_num, rfl, fun j s' s0' hj h1 h2 => ?_⟩
          by_cases e : j = k
          · subst e
            rw [Hs.out] at h1; rw [Hs0.out] at h2
            obtain rfl := Option.some.inj h1
            obtain rfl := Option.some.inj h2
            exact He.out
          · exact Hall.out j s' s0' (by omega) h1 h2
      · have t1 : ((s.size : Int) != (s0.size : Int)) = true := bne_t (by omega)
        have HB := Lib.hid (blkF_bad Hs0.out Hs.out he)
        clear he
        go_wp2_with fail
        go_ret
        exact ⟨by rw [HB.out]; rfl, rfl⟩
    · obtain rfl : k = n := by have := Hk.out; omega
      clear hlt
      by_cases h0 : 0 < k
      · obtain ⟨s0, hs0⟩ : ∃ s, ss[0]? = some s := ⟨ss[0]'(by rw [Hn.out]; omega), List.getElem?_eq_getElem _⟩
        obtain ⟨g', o', rfl, c0, _⟩ := Hc.out 0 s0 hs0
        rw [Nat.add_zero] at c0
        have HG := Lib.hid (blkF_good hs0 (fun j s hj => Hall.out j s s0 (by rw [← Hn.out]; exact (List.getElem?_eq_some_iff.1 hj).1) hj hs0))
        clear hs0
        have d0 := dec_t h0
        by_cases hs : 16 < s0.size
        · have d1 : decide (16 < (s0.size : Int)) = true := dec_t (by omega)
          have HS := Lib.hid (if_pos hs : (if s0.size > 16 then (1 : Int) else 0) = 1)
          go_wp2_with fail
          go_ret
          exact ⟨by rw [HG.out, HS.out]; rfl, rfl⟩
        · have d1 : decide (16 < (s0.size : Int)) = false := dec_f (by omega)
          have HS := Lib.hid (if_neg hs : (if s0.size > 16 then (1 : Int) else 0) = 0)
          go_wp2_with fail
          go_ret
          exact ⟨by rw [HG.out, HS.out]; rfl, rfl⟩
      · have h00 : k = 0 := by omega
        subst h00
        have HE : Hid (blkF ss = 0) := Lib.hid (by rw [List.eq_nil_of_length_eq_zero Hn.out]; rfl)
        go_wp2_with fail
        go_ret
        exact ⟨by rw [HE.out]; rfl, rfl⟩

/-- what []byte(s) gives -/
theorem conv_bytes (w : World) (s : ByteArray) : ∃ cap w2, (convert 9 50 (.string s)).run Tryd.prog w = .ok (.slice (some ⟨w.heap.size, 0, none⟩) s.size cap) w2 ∧ Below w.heap.size w w2 ∧ w2.heap.size = w.heap.size + 1 ∧
    (∀ (j : Nat) (c : UInt8), s.data.toList[j]? = some c → w2.cell? ⟨w.heap.size, j, none⟩ = some (.int .u8 (c.toNat : Int))) ∧ (∀ j, j < s.size → w2.frozen? ⟨w.heap.size, j, none⟩ = false) := by
  refine ⟨_, _, Lib.run_convert_string_bytes w 9 50 5 s Tryd.underlying9 Tryd.underlying50 Tryd.underlying5, ?_, Lib.bytesWorld_size _ _ _, ?_, ?_⟩
  · refine ⟨rfl, rfl, rfl, by rw [Lib.bytesWorld_size]; omega, fun k hk => Lib.bytesWorld_at_old _ _ _ k hk⟩
  · intro j c hj
    have hjl := (List.getElem?_eq_some_iff.1 hj).1
    rw [Lib.bytesWorld_cell w _ s j (by simpa using hjl), List.getD_eq_getElem?_getD, hj]; rfl
  · intro j hj
    have h := Lib.bytesWorld_at_new w 5 s
    unfold World.frozen?
    rw [h]
    have hs : (Lib.bytesCells w 5 s).size = s.size + (grownCap w s.size 0 5 - s.size) := by
      unfold Lib.bytesCells
      rw [Array.size_append, Array.size_map, Array.size_replicate]; rfl
    simp
    omega
end Go.Proofs.YtcldioneiededaaDoor
