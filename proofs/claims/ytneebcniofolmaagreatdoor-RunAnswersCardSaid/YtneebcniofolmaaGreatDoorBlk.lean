/- An owned list of strings: a store into it; its marks. · A list of strings in memory (for a seat without wire). · Lists of strings that are collected. · Blocks of one length: what is wrong with some; the walk of code.Blocks; what a text is as bytes. -/
import Derived.Test.YtneebcniofolmaaGreatDoorSlI
import Derived.Test.YtneebcniofolmaaGreatDoorLift
import Derived.Lib.ConvBytes
import Derived.Laws.IdiomStrings
import Derived.Lib.SlBytesRow
import Derived.Deep.LoopGhost
import Derived.IntWalk
namespace Go.Proofs.YtneebcniofolmaaGreatDoor
open Go.ChangeShapes Go.WideShapes Go.ChangeAt Go.RowKit
theorem OwnR.fz {w : World} {base : Nat} {E : TypeId} {v : Value} {xs : List Value} (h : OwnR w base E v xs) {g : Nat} (hg : v.ownBlock = some g) (k : Nat) : w.frozen? ⟨g, k, none⟩ = false := by
  rcases h with ⟨rfl, _⟩ | ⟨g', o, cap, cur, rfl, _, hgb, _⟩
  · cases hg
  · obtain rfl := Option.some.inj hg
    exact frozen_of_row _ _ _ _ _ hgb
theorem OwnR.setStr {w : World} {base g o n cap k : Nat} {l : List ByteArray} (h : OwnR w base 9 (.slice (some ⟨g, o, none⟩) n cap) (l.map Value.string)) (hk : k < l.length) (s : ByteArray) :
    OwnR (w.setCell ⟨g, o + k, none⟩ (.string s)) base 9 (.slice (some ⟨g, o, none⟩) n cap) ((l.set k s).map Value.string) := by
  rcases h with ⟨hn, hx⟩ | ⟨g', o', cap', cur, hv', hb', hg', h1, h2, h3, h4⟩
  · cases hn
  · rw [List.length_map] at h1 h4 hv'
    injection hv' with e1 e2 e3
    injection e1 with e1
    injection e1 with e4 e5
    subst e4 e5 e3
    refine .inr ⟨g, o, cap, cur.setIfInBounds (o + k) (.string s), by rw [List.length_map, List.length_set, e2], hb', heap_setCell_same _ _ _ _ _ _ hg', by rw [List.length_map, List.length_set]; exact h1, h2, by rw [Array.size_setIfInBounds]; exact h3, fun j hj => ?_⟩
    rw [List.length_map, List.length_set] at hj
    rw [List.map_set, List.getElem?_set, List.length_map]
    by_cases e : k = j
    · subst e
      rw [Array.getElem?_setIfInBounds_self_of_lt (by omega), if_pos rfl, if_pos hk]
    · rw [Array.getElem?_setIfInBounds_ne (by omega), if_neg e]
      exact h4 j hj
end Go.Proofs.YtneebcniofolmaaGreatDoor
namespace Go.Proofs.YtneebcniofolmaaGreatDoor
open Go.ChangeShapes Go.WideShapes Go.ChangeAt Go.RowKit
/-- a list of strings in memory -/
def Strs (w : World) (v : Value) (ss : List ByteArray) : Prop := Row w v (ss.map Value.string)
theorem Strs.get {w : World} {v : Value} {ss : List ByteArray} (h : Strs w v ss) :
    ∃ p cap, v = .slice p ss.length cap ∧ ss.length ≤ 9223372036854775807 ∧ ∀ (j : Nat) (s : ByteArray), ss[j]? = some s → ∃ g off, p = some ⟨g, off, none⟩ ∧ w.cell? ⟨g, off + j, none⟩ = some (.string s) ∧ g < w.heap.size := by
  obtain ⟨p, cap, hv, h1, h2, h3⟩ := Row.shape h
  rw [List.length_map] at *
  unfold maxLen at h2
  refine ⟨p, cap, hv, by omega, fun j s hj => ?_⟩
  have hjl := (List.getElem?_eq_some_iff.1 hj).1
  obtain ⟨g, off, hp, h4⟩ := h3 (by omega)
  have h5 := h4 j hjl
  rw [List.getElem?_map, hj] at h5
  exact ⟨g, off, hp, h5, World.block_lt_of_cell? w _ h5⟩
theorem Strs.below {w w' : World} {v : Value} {ss : List ByteArray} (h : Strs w v ss) (hb : Below w.heap.size w w') : Strs w' v ss := Row.below h hb
end Go.Proofs.YtneebcniofolmaaGreatDoor
namespace Go.Proofs.YtneebcniofolmaaGreatDoor
open Go.ChangeShapes Go.WideShapes Go.ChangeAt Go.RowKit
set_option linter.unusedVariables false
/-- lists of strings that are collected -/
structure RowsT (w : World) (B : Nat) (v : Value) (vs : List Value) (D : (Nat → List ByteArray)) : Prop where
  own : w.ownsRow B 23 1 v vs.length vs
  rows : ∀ (i : Nat) u, vs[i]? = some u → OwnR w B 9 u ((D i).map Value.string) ∧ ∀ g, u.ownBlock = some g → v.ownBlock ≠ some g
theorem RowsT.nil (w : World) (B : Nat) (D : (Nat → List ByteArray)) : RowsT w B (.slice none 0 0) [] D := ⟨World.ownsRow_nil _ _ _ _, fun i u hu => by simp at hu⟩
theorem RowsT.below {w w1 : World} {B : Nat} {v : Value} {vs : List Value} {D : (Nat → List ByteArray)} (h : RowsT w B v vs D) (hb : Below w.heap.size w w1) : RowsT w1 B v vs D :=
  ⟨owns_below h.own hb, fun i u hu => ⟨OwnR.below (h.rows i u hu).1 hb, (h.rows i u hu).2⟩⟩
theorem RowsT.push {w0 w' : World} {B : Nat} {v v' u : Value} {vs : List Value} {D : (Nat → List ByteArray)} (h : RowsT w0 B v vs D) (hu : OwnR w0 B 9 u ((D vs.length).map Value.string))
    (hub : ∀ g, u.ownBlock = some g → v.ownBlock ≠ some g) (hown : w'.ownsRow B 23 1 v' (vs.length + 1) (vs ++ [u])) (hg : w0.grownBy w' v.ownBlock) (hv : v'.ownBlock = v.ownBlock ∨ v'.ownBlock = some (w0.heap.size + 1)) :
    RowsT w' B v' (vs ++ [u]) D := by
  have hk := Kept.grown hg
  refine ⟨by rw [List.length_append]; exact hown, fun i u2 h2 => ?_⟩
  have key : ∀ {u2 : Value} {i : Nat}, OwnR w0 B 9 u2 ((D i).map Value.string) → (∀ g, u2.ownBlock = some g → v.ownBlock ≠ some g) → OwnR w' B 9 u2 ((D i).map Value.string) ∧ ∀ g, u2.ownBlock = some g → v'.ownBlock ≠ some g := fun {u2 i} k1 k2 => by
    refine ⟨OwnR.kept k1 hk (fun g hg' e => k2 g hg' e.symm), fun g hg' e => ?_⟩
    rcases hv with h | h
    · rw [h] at e; exact k2 g hg' e
    · rw [h] at e
      injection e with e
      have := (OwnR.lt k1 hg').2
      omega
  by_cases hik : i < vs.length
  · rw [List.getElem?_append_left hik] at h2
    obtain ⟨k1, k2⟩ := h.rows i u2 h2
    exact key k1 k2
  · have hi9 := (List.getElem?_eq_some_iff.1 h2).1
    rw [List.length_append] at hi9
    obtain rfl : i = vs.length := by simp at hi9; omega
    rw [List.getElem?_append_right (by omega), Nat.sub_self] at h2
    obtain rfl : u = u2 := Option.some.inj h2
    exact key hu hub
theorem RowsT.kept {T : Nat → Prop} {w w1 : World} {B : Nat} {v : Value} {vs : List Value} {D : Nat → List ByteArray} (h : RowsT w B v vs D) (hk : Kept T w w1) (hT : ∀ p, B ≤ p → ¬ T p) : RowsT w1 B v vs D :=
  ⟨Kept.owns h.own hk (fun g hg => hT g (h.own.lt g hg).1), fun i u hu => ⟨OwnR.kept (h.rows i u hu).1 hk (fun g hg => hT g (OwnR.lt (h.rows i u hu).1 hg).1), (h.rows i u hu).2⟩⟩
theorem info_rowS : (Tryz.prog.info? 23).map (fun i => (i.zero, i.size, i.bytes)) = some (some (.slice none 0 0), 1, 24) := by kernel_rfl
end Go.Proofs.YtneebcniofolmaaGreatDoor
namespace Go.Proofs.YtneebcniofolmaaGreatDoor
open Go.ChangeShapes Go.WideShapes Go.ChangeAt Go.RowKit
set_option linter.unusedVariables false
/-- the fault of blocks -/
def blkF (ss : List ByteArray) : Int :=
  match ss with
  | [] => 0
  | s0 :: _ => if ss.all (fun s => s.size == s0.size) then (if s0.size > 16 then 1 else 0) else 3
def size0 (ss : List ByteArray) : Nat := match ss with | [] => 0 | s :: _ => s.size
theorem blkF_bad {ss : List ByteArray} {k : Nat} {s s0 : ByteArray} (h0 : ss[0]? = some s0) (hk : ss[k]? = some s) (h : s.size ≠ s0.size) : blkF ss = 3 := by
  cases ss with
  | nil => simp at h0
  | cons a l =>
    simp at h0
    subst h0
    unfold blkF
    simp only
    rw [if_neg]
    intro hall
    rw [List.all_eq_true] at hall
    have := hall s (List.mem_of_getElem? hk)
    simp at this
    exact h this
theorem blkF_good {ss : List ByteArray} {s0 : ByteArray} (h0 : ss[0]? = some s0) (h : ∀ (j : Nat) (s : ByteArray), ss[j]? = some s → s.size = s0.size) : blkF ss = if s0.size > 16 then 1 else 0 := by
  cases ss with
  | nil => simp at h0
  | cons a l =>
    simp at h0
    subst h0
    unfold blkF
    simp only
    rw [if_pos]
    rw [List.all_eq_true]
    intro s hs
    obtain ⟨j, hj⟩ := List.mem_iff_getElem?.1 hs
    simpa using h j s hj
theorem blkF_zero {ss : List ByteArray} (h : blkF ss = 0) : (∀ s ∈ ss, s.size = size0 ss) ∧ size0 ss ≤ 16 := by
  cases ss with
  | nil => exact ⟨(by intro s hs; cases hs), Nat.zero_le _⟩
  | cons a l =>
    unfold blkF at h
    simp only at h
    split at h
    · rename_i hall
      rw [List.all_eq_true] at hall
      split at h
      · omega
      · exact ⟨fun s hs => by simpa [size0] using hall s hs, by simp only [size0]; omega⟩
    · omega
def BlkRel (ss : List ByteArray) (w : World) (gk : Nat) (i : Value) (wr : World) : Prop :=
  ∃ k : Nat, k + gk = ss.length ∧ i = iv k ∧ wr = w ∧ ∀ (j : Nat) (s s0 : ByteArray), j < k → ss[j]? = some s → ss[0]? = some s0 → s.size = s0.size
set_option maxRecDepth 100000 in
theorem blocks_any (ss : List ByteArray) (v : Value) (w : World) (hv : Strs w v ss) :
    Calls Tryz.prog 128 #[v] w fun e w' => e = .returned (errV (blkF ss)) ∧ w = w' := by
  obtain ⟨p, cap, rfl, hl, hc⟩ := hv.get
  have Hc := Lib.hid hc
  have HF := Lib.hid (rfl : BlkRel ss = BlkRel ss)
  generalize hn : ss.length = n at *
  have Hn := Lib.hid hn
  clear hv hc hn
  go_enter Tryz.func128, Tryz.ntmps128
  go_wp2_with fail
  go_loopg [7] n (fun gk i wr => BlkRel ss w gk i wr)
  case atStart => exact ⟨0, by rw [Hn.out]; omega, rfl, rfl, fun j _ _ hj => by omega⟩
  case round =>
    obtain ⟨k, hk, rfl, rfl, hall⟩ := hrel
    rw [Hn.out] at hk
    have Hk := Lib.hid hk
    have Hall := Lib.hid hall
    clear hk hall
    by_cases hlt : k < n
    · obtain ⟨s, hs⟩ : ∃ s, ss[k]? = some s := ⟨ss[k]'(by rw [Hn.out]; exact hlt), List.getElem?_eq_getElem _⟩
      obtain ⟨s0, hs0⟩ : ∃ s, ss[0]? = some s := ⟨ss[0]'(by rw [Hn.out]; omega), List.getElem?_eq_getElem _⟩
      obtain ⟨g, o, hp, c1, _⟩ := Hc.out k s hs
      obtain ⟨g', o', hp', c0, _⟩ := Hc.out 0 s0 hs0
      have e : g' = g ∧ o' = o := by rw [hp] at hp'; injection hp' with hp'; injection hp' with h1 h2; exact ⟨h1.symm, h2.symm⟩
      obtain ⟨rfl, rfl⟩ := e
      subst hp
      rw [Nat.add_zero] at c0
      have Hs := Lib.hid hs
      have Hs0 := Lib.hid hs0
      have hn0 : 0 < n := by omega
      clear hs hs0 hp'
      by_cases he : s.size = s0.size
      · have t1 : ((s.size : Int) != (s0.size : Int)) = false := bne_f (by omega)
        have He := Lib.hid he
        clear he
        go_wp2_with fail
        go_roundg (gk - 1)
        case measure => have := Hk.out; omega
        case rel =>
          refine ⟨k + 1, by rw [Hn.out]; have := Hk.out; omega, by go_num, rfl, fun j s' s0' hj h1 h2 => ?_⟩
          by_cases e : j = k
          · subst e
            rw [Hs.out] at h1; rw [Hs0.out] at h2
            obtain rfl := Option.some.inj h1
            obtain rfl := Option.some.inj h2
            exact He.out
          · exact Hall.out j s' s0' (by omega) h1 h2
      · have t1 : ((s.size : Int) != (s0.size : Int)) = true := bne_t (by omega)
        have HB := Lib.hid (blkF_bad Hs0.out Hs.out he)
        clear he
        go_wp2_with fail
        go_ret
        exact ⟨by rw [HB.out]; rfl, rfl⟩
    · obtain rfl : k = n := by have := Hk.out; omega
      clear hlt
      by_cases h0 : 0 < k
      · obtain ⟨s0, hs0⟩ : ∃ s, ss[0]? = some s := ⟨ss[0]'(by rw [Hn.out]; omega), List.getElem?_eq_getElem _⟩
        obtain ⟨g', o', rfl, c0, _⟩ := Hc.out 0 s0 hs0
        rw [Nat.add_zero] at c0
        have HG := Lib.hid (blkF_good hs0 (fun j s hj => Hall.out j s s0 (by rw [← Hn.out]; exact (List.getElem?_eq_some_iff.1 hj).1) hj hs0))
        clear hs0
        have d0 := dec_t h0
        by_cases hs : 16 < s0.size
        · have d1 : decide (16 < (s0.size : Int)) = true := dec_t (by omega)
          have HS := Lib.hid (if_pos hs : (if s0.size > 16 then (1 : Int) else 0) = 1)
          go_wp2_with fail
          go_ret
          exact ⟨by rw [HG.out, HS.out]; rfl, rfl⟩
        · have d1 : decide (16 < (s0.size : Int)) = false := dec_f (by omega)
          have HS := Lib.hid (if_neg hs : (if s0.size > 16 then (1 : Int) else 0) = 0)
          go_wp2_with fail
          go_ret
          exact ⟨by rw [HG.out, HS.out]; rfl, rfl⟩
      · have h00 : k = 0 := by omega
        subst h00
        have HE : Hid (blkF ss = 0) := Lib.hid (by rw [List.eq_nil_of_length_eq_zero Hn.out]; rfl)
        go_wp2_with fail
        go_ret
        exact ⟨by rw [HE.out]; rfl, rfl⟩

/-- what []byte(s) gives -/
theorem conv_bytes (w : World) (s : ByteArray) : ∃ cap w2, (convert 9 44 (.string s)).run Tryz.prog w = .ok (.slice (some ⟨w.heap.size, 0, none⟩) s.size cap) w2 ∧ Below w.heap.size w w2 ∧ w2.heap.size = w.heap.size + 1 ∧
    (∀ (j : Nat) (c : UInt8), s.data.toList[j]? = some c → w2.cell? ⟨w.heap.size, j, none⟩ = some (.int .u8 (c.toNat : Int))) ∧ (∀ j, j < s.size → w2.frozen? ⟨w.heap.size, j, none⟩ = false) := by
  refine ⟨_, _, Lib.run_convert_string_bytes w 9 44 5 s Tryz.underlying9 Tryz.underlying44 Tryz.underlying5, ?_, Lib.bytesWorld_size _ _ _, ?_, ?_⟩
  · refine ⟨rfl, rfl, rfl, by rw [Lib.bytesWorld_size]; omega, fun k hk => Lib.bytesWorld_at_old _ _ _ k hk⟩
  · intro j c hj
    have hjl := (List.getElem?_eq_some_iff.1 hj).1
    rw [Lib.bytesWorld_cell w _ s j (by simpa using hjl), List.getD_eq_getElem?_getD, hj]; rfl
  · intro j hj
    have h := Lib.bytesWorld_at_new w 5 s
    unfold World.frozen?
    rw [h]
    have hs : (Lib.bytesCells w 5 s).size = s.size + (grownCap w s.size 0 5 - s.size) := by
      unfold Lib.bytesCells
      rw [Array.size_append, Array.size_map, Array.size_replicate]; rfl
    simp
    omega
end Go.Proofs.YtneebcniofolmaaGreatDoor
