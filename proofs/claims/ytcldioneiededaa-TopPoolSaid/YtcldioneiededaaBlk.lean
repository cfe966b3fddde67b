/- A list of strings in memory (for a seat without wire). · Blocks of one length: what is wrong with some; the walk of code.Blocks; what a text is as bytes. -/
import Derived.Test.YtcldioneiededaaBase
import Derived.Test.YtcldioneiededaaPoolP
import Derived.Lib.ConvBytes
import Derived.Laws.IdiomStrings
import Derived.Lib.SlBytesRow
import Derived.Deep.LoopGhost
import Derived.IntWalk
namespace Go.Proofs.Ytcldioneiededaa
open Go.ChangeShapes Go.WideShapes Go.ChangeAt Go.RowKit
/-- a list of strings in memory -/
def Strs (w : World) (v : Value) (ss : List ByteArray) : Prop := Row w v (ss.map Value.string)
theorem Strs.get {w : World} {v : Value} {ss : List ByteArray} (h : Strs w v ss) :
    ∃ p cap, v = .slice p ss.length cap ∧ ss.length ≤ 9223372036854775807 ∧ ∀ (j : Nat) (s : ByteArray), ss[j]? = some s → ∃ g off, p = some ⟨g, off, none⟩ ∧ w.cell? ⟨g, off + j, none⟩ = some (.string s) ∧ g < w.heap.size := by
  obtain ⟨p, cap, hv, h1, h2, h3⟩ := Row.shape h
  rw [List.length_map] at *
  unfold maxLen at h2
  refine ⟨p, cap, hv, by omega, fun j s hj => ?_⟩
  have hjl := (List.getElem?_eq_some_iff.1 hj).1
  obtain ⟨g, off, hp, h4⟩ := h3 (by omega)
  have h5 := h4 j hjl
  rw [List.getElem?_map, hj] at h5
  exact ⟨g, off, hp, h5, World.block_lt_of_cell? w _ h5⟩
theorem Strs.below {w w' : World} {v : Value} {ss : List ByteArray} (h : Strs w v ss) (hb : Below w.heap.size w w') : Strs w' v ss := Row.below h hb
end Go.Proofs.Ytcldioneiededaa
namespace Go.Proofs.Ytcldioneiededaa
open Go.ChangeShapes Go.WideShapes Go.ChangeAt Go.RowKit
set_option linter.unusedVariables false
/-- the fault of blocks -/
def blkF (ss : List ByteArray) : Int :=
  match ss with
  | [] => 0
  | s0 :: _ => if ss.all (fun s => s.size == s0.size) then (if s0.size > 16 then 1 else 0) else 3
def size0 (ss : List ByteArray) : Nat := match ss with | [] => 0 | s :: _ => s.size
theorem blkF_bad {ss : List ByteArray} {k : Nat} {s s0 : ByteArray} (h0 : ss[0]? = some s0) (hk : ss[k]? = some s) (h : s.size ≠ s0.size) : blkF ss = 3 := by
  cases ss with
  | nil => simp at h0
  | cons a l =>
    simp at h0
    subst h0
    unfold blkF
    simp only
    rw [if_neg]
    intro hall
    rw [List.all_eq_true] at hall
    have := hall s (List.mem_of_getElem? hk)
    simp at this
    exact h this
theorem blkF_good {ss : List ByteArray} {s0 : ByteArray} (h0 : ss[0]? = some s0) (h : ∀ (j : Nat) (s : ByteArray), ss[j]? = some s → s.size = s0.size) : blkF ss = if s0.size > 16 then 1 else 0 := by
  cases ss with
  | nil => simp at h0
  | cons a l =>
    simp at h0
    subst h0
    unfold blkF
    simp only
    rw [if_pos]
    rw [List.all_eq_true]
    intro s hs
    obtain ⟨j, hj⟩ := List.mem_iff_getElem?.1 hs
    simpa using h j s hj
theorem blkF_zero {ss : List ByteArray} (h : blkF ss = 0) : (∀ s ∈ ss, s.size = size0 ss) ∧ size0 ss ≤ 16 := by
  cases ss with
  | nil => exact ⟨(by intro s hs; cases hs), Nat.zero_le _⟩
  | cons a l =>
    unfold blkF at h
    simp only at h
    split at h
    · rename_i hall
      rw [List.all_eq_true] at hall
      split at h
      · omega
      · exact ⟨fun s hs => by simpa [size0] using hall s hs, by simp only [size0]; omega⟩
    · omega
def BlkRel (ss : List ByteArray) (w : World) (gk : Nat) (i : Value) (wr : World) : Prop :=
  ∃ k : Nat, k + gk = ss.length ∧ i = iv k ∧ wr = w ∧ ∀ (j : Nat) (s s0 : ByteArray), j < k → ss[j]? = some s → ss[0]? = some s0 → s.size = s0.size
set_option maxRecDepth 100000 in
theorem blocks_any (ss : List ByteArray) (v : Value) (w : World) (hv : Strs w v ss) :
    Calls Try.prog 40 #[v] w fun e w' => e = .returned (errV (blkF ss)) ∧ w = w' := by
  obtain ⟨p, cap, rfl, hl, hc⟩ := hv.get
  have Hc := Lib.hid hc
  have HF := Lib.hid (rfl : BlkRel ss = BlkRel ss)
  generalize hn : ss.length = n at *
  have Hn := Lib.hid hn
  clear hv hc hn
  go_enter Try.func40, Try.ntmps40
  go_wp2_with fail
  go_loopg [7] n (fun gk i wr => BlkRel ss w gk i wr)
  case atStart => exact ⟨0, by rw [Hn.out]; omega, rfl, rfl, fun j _ _ hj => by omega⟩
  case round =>
    obtain ⟨k, hk, rfl, rfl, hall⟩ := hrel
    rw [Hn.out] at hk
    have Hk := Lib.hid hk
    have Hall := Lib.hid hall
    clear hk hall
    by_cases hlt : k < n
    · obtain ⟨s, hs⟩ : ∃ s, ss[k]? = some s := ⟨ss[k]'(by rw [Hn.out]; exact hlt), List.getElem?_eq_getElem _⟩
      obtain ⟨s0, hs0⟩ : ∃ s, ss[0]? = some s := ⟨ss[0]'(by rw [Hn.out]; omega), List.getElem?_eq_getElem _⟩
      obtain ⟨g, o, hp, c1, _⟩ := Hc.out k s hs
      obtain ⟨g', o', hp', c0, _⟩ := Hc.out 0 s0 hs0
      have e : g' = g ∧ o' = o := by rw [hp] at hp'; injection hp' with hp'; injection hp' with h1 h2; exact ⟨h1.symm, h2.symm⟩
      obtain ⟨rfl, rfl⟩ := e
      subst hp
      rw [Nat.add_zero] at c0
      have Hs := Lib.hid hs
      have Hs0 := Lib.hid hs0
      have hn0 : 0 < n := by omega
      clear hs hs0 hp'
      by_cases he : s.size = s0.size
      · have t1 : ((s.size : Int) != (s0.size : Int)) = false := bne_f (by omega)
        have He := Lib.hid he
        clear he
        go_wp2_with fail
        go_roundg (gk - 1)
        case measure => have := Hk.out; omega
        case rel =>
          refine ⟨k + 1, by rw [Hn.out]; have := Hk.out; omega, by go_num, rfl, fun j s' s0' hj h1 h2 => ?_⟩
          by_cases e : j = k
          · subst e
            rw [Hs.out] at h1; rw [Hs0.out] at h2
            obtain rfl := Option.some.inj h1
            obtain rfl := Option.some.inj h2
            exact He.out
          · exact Hall.out j s' s0' (by omega) h1 h2
      · have t1 : ((s.size : Int) != (s0.size : Int)) = true := bne_t (by omega)
        have HB := Lib.hid (blkF_bad Hs0.out Hs.out he)
        clear he
        go_wp2_with fail
        go_ret
        exact ⟨by rw [HB.out]; rfl, rfl⟩
    · obtain rfl : k = n := by have := Hk.out; omega
      clear hlt
      by_cases h0 : 0 < k
      · obtain ⟨s0, hs0⟩ : ∃ s, ss[0]? = some s := ⟨ss[0]'(by rw [Hn.out]; omega), List.getElem?_eq_getElem _⟩
        obtain ⟨g', o', rfl, c0, _⟩ := Hc.out 0 s0 hs0
        rw [Nat.add_zero] at c0
        have HG := Lib.hid (blkF_good hs0 (fun j s hj => Hall.out j s s0 (by rw [← Hn.out]; exact (List.getElem?_eq_some_iff.1 hj).1) hj hs0))
        clear hs0
        have d0 := dec_t h0
        by_cases hs : 16 < s0.size
        · have d1 : decide (16 < (s0.size : Int)) = true := dec_t (by omega)
          have HS := Lib.hid (if_pos hs : (if s0.size > 16 then (1 : Int) else 0) = 1)
          go_wp2_with fail
          go_ret
          exact ⟨by rw [HG.out, HS.out]; rfl, rfl⟩
        · have d1 : decide (16 < (s0.size : Int)) = false := dec_f (by omega)
          have HS := Lib.hid (if_neg hs : (if s0.size > 16 then (1 : Int) else 0) = 0)
          go_wp2_with fail
          go_ret
          exact ⟨by rw [HG.out, HS.out]; rfl, rfl⟩
      · have h00 : k = 0 := by omega
        subst h00
        have HE : Hid (blkF ss = 0) := Lib.hid (by rw [List.eq_nil_of_length_eq_zero Hn.out]; rfl)
        go_wp2_with fail
        go_ret
        exact ⟨by rw [HE.out]; rfl, rfl⟩

/-- what []byte(s) gives -/
theorem conv_bytes (w : World) (s : ByteArray) : ∃ cap w2, (convert 9 74 (.string s)).run Try.prog w = .ok (.slice (some ⟨w.heap.size, 0, none⟩) s.size cap) w2 ∧ Below w.heap.size w w2 ∧ w2.heap.size = w.heap.size + 1 ∧
    (∀ (j : Nat) (c : UInt8), s.data.toList[j]? = some c → w2.cell? ⟨w.heap.size, j, none⟩ = some (.int .u8 (c.toNat : Int))) ∧ (∀ j, j < s.size → w2.frozen? ⟨w.heap.size, j, none⟩ = false) := by
  refine ⟨_, _, Lib.run_convert_string_bytes w 9 74 5 s Try.underlying9 Try.underlying74 Try.underlying5, ?_, Lib.bytesWorld_size _ _ _, ?_, ?_⟩
  · refine ⟨rfl, rfl, rfl, by rw [Lib.bytesWorld_size]; omega, fun k hk => Lib.bytesWorld_at_old _ _ _ k hk⟩
  · intro j c hj
    have hjl := (List.getElem?_eq_some_iff.1 hj).1
    rw [Lib.bytesWorld_cell w _ s j (by simpa using hjl), List.getD_eq_getElem?_getD, hj]; rfl
  · intro j hj
    have h := Lib.bytesWorld_at_new w 5 s
    unfold World.frozen?
    rw [h]
    have hs : (Lib.bytesCells w 5 s).size = s.size + (grownCap w s.size 0 5 - s.size) := by
      unfold Lib.bytesCells
      rw [Array.size_append, Array.size_map, Array.size_replicate]; rfl
    simp
    omega
end Go.Proofs.Ytcldioneiededaa
