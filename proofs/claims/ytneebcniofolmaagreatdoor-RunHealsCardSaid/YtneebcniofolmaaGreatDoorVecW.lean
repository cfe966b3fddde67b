/- A list of strings in memory (for a seat without wire). · Blocks of one length: what is wrong with some; the walk of code.Blocks; what a text is as bytes. · Lists of bytes over the field by their entries, and sums over them, in plain lists. · Lists of bytes of the call's own: an entry is stored, the list made, as a text. -/
import Derived.Test.YtneebcniofolmaaGreatDoorLift
import Derived.Test.YtneebcniofolmaaGreatDoorSlI
import Derived.Lib.ConvBytes
import Derived.Laws.IdiomStrings
import Derived.Lib.SlBytesRow
import Derived.Deep.LoopGhost
import Derived.IntWalk
import Derived.Test.YtneebcniofolmaaGreatDoorGf
import Derived.Test.YtneebcniofolmaaGreatDoorFieldW
import Derived.StillTailTactics
import Derived.Deep.OwnRows
import Derived.Laws.OwnMore
namespace Go.Proofs.YtneebcniofolmaaGreatDoor
open Go.ChangeShapes Go.WideShapes Go.ChangeAt Go.RowKit
/-- a list of strings in memory -/
def Strs (w : World) (v : Value) (ss : List ByteArray) : Prop := Row w v (ss.map Value.string)
theorem Strs.get {w : World} {v : Value} {ss : List ByteArray} (h : Strs w v ss) :
    ∃ p cap, v = .slice p ss.length cap ∧ ss.length ≤ 9223372036854775807 ∧ ∀ (j : Nat) (s : ByteArray), ss[j]? = some s → ∃ g off, p = some ⟨g, off, none⟩ ∧ w.cell? ⟨g, off + j, none⟩ = some (.string s) ∧ g < w.heap.size := by
  obtain ⟨p, cap, hv, h1, h2, h3⟩ := Row.shape h
  rw [List.length_map] at *
  unfold maxLen at h2
  refine ⟨p, cap, hv, by omega, fun j s hj => ?_⟩
  have hjl := (List.getElem?_eq_some_iff.1 hj).1
  obtain ⟨g, off, hp, h4⟩ := h3 (by omega)
  have h5 := h4 j hjl
  rw [List.getElem?_map, hj] at h5
  exact ⟨g, off, hp, h5, World.block_lt_of_cell? w _ h5⟩
theorem Strs.below {w w' : World} {v : Value} {ss : List ByteArray} (h : Strs w v ss) (hb : Below w.heap.size w w') : Strs w' v ss := Row.below h hb
end Go.Proofs.YtneebcniofolmaaGreatDoor
namespace Go.Proofs.YtneebcniofolmaaGreatDoor
open Go.ChangeShapes Go.WideShapes Go.ChangeAt Go.RowKit
set_option linter.unusedVariables false
/-- the fault of blocks -/
def blkF (ss : List ByteArray) : Int :=
  match ss with
  | [] => 0
  | s0 :: _ => if ss.all (fun s => s.size == s0.size) then (if s0.size > 16 then 1 else 0) else 3
def size0 (ss : List ByteArray) : Nat := match ss with | [] => 0 | s :: _ => s.size
theorem blkF_bad {ss : List ByteArray} {k : Nat} {s s0 : ByteArray} (h0 : ss[0]? = some s0) (hk : ss[k]? = some s) (h : s.size ≠ s0.size) : blkF ss = 3 := by
  cases ss with
  | nil => simp at h0
  | cons a l =>
    simp at h0
    subst h0
    unfold blkF
    simp only
    rw [if_neg]
    intro hall
    rw [List.all_eq_true] at hall
    have := hall s (List.mem_of_getElem? hk)
    simp at this
    exact h this
theorem blkF_good {ss : List ByteArray} {s0 : ByteArray} (h0 : ss[0]? = some s0) (h : ∀ (j : Nat) (s : ByteArray), ss[j]? = some s → s.size = s0.size) : blkF ss = if s0.size > 16 then 1 else 0 := by
  cases ss with
  | nil => simp at h0
  | cons a l =>
    simp at h0
    subst h0
    unfold blkF
    simp only
    rw [if_pos]
    rw [List.all_eq_true]
    intro s hs
    obtain ⟨j, hj⟩ := List.mem_iff_getElem?.1 hs
    simpa using h j s hj
theorem blkF_zero {ss : List ByteArray} (h : blkF ss = 0) : (∀ s ∈ ss, s.size = size0 ss) ∧ size0 ss ≤ 16 := by
  cases ss with
  | nil => exact ⟨(by intro s hs; cases hs), Nat.zero_le _⟩
  | cons a l =>
    unfold blkF at h
    simp only at h
    split at h
    · rename_i hall
      rw [List.all_eq_true] at hall
      split at h
      · omega
      · exact ⟨fun s hs => by simpa [size0] using hall s hs, by simp only [size0]; omega⟩
    · omega
def BlkRel (ss : List ByteArray) (w : World) (gk : Nat) (i : Value) (wr : World) : Prop :=
  ∃ k : Nat, k + gk = ss.length ∧ i = iv k ∧ wr = w ∧ ∀ (j : Nat) (s s0 : ByteArray), j < k → ss[j]? = some s → ss[0]? = some s0 → s.size = s0.size
set_option maxRecDepth 100000 in
theorem blocks_any (ss : List ByteArray) (v : Value) (w : World) (hv : Strs w v ss) :
    Calls Tryz.prog 128 #[v] w fun e w' => e = .returned (errV (blkF ss)) ∧ w = w' := by
  obtain ⟨p, cap, rfl, hl, hc⟩ := hv.get
  have Hc := Lib.hid hc
  have HF := Lib.hid (rfl : BlkRel ss = BlkRel ss)
  generalize hn : ss.length = n at *
  have Hn := Lib.hid hn
  clear hv hc hn
  go_enter Tryz.func128, Tryz.ntmps128
  go_wp2_with fail
  go_loopg [7] n (fun gk i wr => BlkRel ss w gk i wr)
  case atStart => exact ⟨0, by rw [Hn.out]; omega, rfl, rfl, fun j _ _ hj => by omega⟩
  case round =>
    obtain ⟨k, hk, rfl, rfl, hall⟩ := hrel
    rw [Hn.out] at hk
    have Hk := Lib.hid hk
    have Hall := Lib.hid hall
    clear hk hall
    by_cases hlt : k < n
    · obtain ⟨s, hs⟩ : ∃ s, ss[k]? = some s := ⟨ss[k]'(by rw [Hn.out]; exact hlt), List.getElem?_eq_getElem _⟩
      obtain ⟨s0, hs0⟩ : ∃ s, ss[0]? = some s := ⟨ss[0]'(by rw [Hn.out]; omega), List.getElem?_eq_getElem _⟩
      obtain ⟨g, o, hp, c1, _⟩ := Hc.out k s hs
      obtain ⟨g', o', hp', c0, _⟩ := Hc.out 0 s0 hs0
      have e : g' = g ∧ o' = o := by rw [hp] at hp'; injection hp' with hp'; injection hp' with h1 h2; exact ⟨h1.symm, h2.symm⟩
      obtain ⟨rfl, rfl⟩ := e
      subst hp
      rw [Nat.add_zero] at c0
      have Hs := Lib.hid hs
      have Hs0 := Lib.hid hs0
      have hn0 : 0 < n := by omega
      clear hs hs0 hp'
      by_cases he : s.size = s0.size
      · have t1 : ((s.size : Int) != (s0.size : Int)) = false := bne_f (by omega)
        have He := Lib.hid he
        clear he
        go_wp2_with fail
        go_roundg (gk - 1)
        case measure => have := Hk.out; omega
        case rel =>
          refine ⟨k + 1, by rw [Hn.out]; have := Hk.out; omega, by go_num, rfl, fun j s' s0' hj h1 h2 => ?_⟩
          by_cases e : j = k
          · subst e
            rw [Hs.out] at h1; rw [Hs0.out] at h2
            obtain rfl := Option.some.inj h1
            obtain rfl := Option.some.inj h2
            exact He.out
          · exact Hall.out j s' s0' (by omega) h1 h2
      · have t1 : ((s.size : Int) != (s0.size : Int)) = true := bne_t (by omega)
        have HB := Lib.hid (blkF_bad Hs0.out Hs.out he)
        clear he
        go_wp2_with fail
        go_ret
        exact ⟨by rw [HB.out]; rfl, rfl⟩
    · obtain rfl : k = n := by have := Hk.out; omega
      clear hlt
      by_cases h0 : 0 < k
      · obtain ⟨s0, hs0⟩ : ∃ s, ss[0]? = some s := ⟨ss[0]'(by rw [Hn.out]; omega), List.getElem?_eq_getElem _⟩
        obtain ⟨g', o', rfl, c0, _⟩ := Hc.out 0 s0 hs0
        rw [Nat.add_zero] at c0
        have HG := Lib.hid (blkF_good hs0 (fun j s hj => Hall.out j s s0 (by rw [← Hn.out]; exact (List.getElem?_eq_some_iff.1 hj).1) hj hs0))
        clear hs0
        have d0 := dec_t h0
        by_cases hs : 16 < s0.size
        · have d1 : decide (16 < (s0.size : Int)) = true := dec_t (by omega)
          have HS := Lib.hid (if_pos hs : (if s0.size > 16 then (1 : Int) else 0) = 1)
          go_wp2_with fail
          go_ret
          exact ⟨by rw [HG.out, HS.out]; rfl, rfl⟩
        · have d1 : decide (16 < (s0.size : Int)) = false := dec_f (by omega)
          have HS := Lib.hid (if_neg hs : (if s0.size > 16 then (1 : Int) else 0) = 0)
          go_wp2_with fail
          go_ret
          exact ⟨by rw [HG.out, HS.out]; rfl, rfl⟩
      · have h00 : k = 0 := by omega
        subst h00
        have HE : Hid (blkF ss = 0) := Lib.hid (by rw [List.eq_nil_of_length_eq_zero Hn.out]; rfl)
        go_wp2_with fail
        go_ret
        exact ⟨by rw [HE.out]; rfl, rfl⟩

/-- what []byte(s) gives -/
theorem conv_bytes (w : World) (s : ByteArray) : ∃ cap w2, (convert 9 44 (.string s)).run Tryz.prog w = .ok (.slice (some ⟨w.heap.size, 0, none⟩) s.size cap) w2 ∧ Below w.heap.size w w2 ∧ w2.heap.size = w.heap.size + 1 ∧
    (∀ (j : Nat) (c : UInt8), s.data.toList[j]? = some c → w2.cell? ⟨w.heap.size, j, none⟩ = some (.int .u8 (c.toNat : Int))) ∧ (∀ j, j < s.size → w2.frozen? ⟨w.heap.size, j, none⟩ = false) := by
  refine ⟨_, _, Lib.run_convert_string_bytes w 9 44 5 s Tryz.underlying9 Tryz.underlying44 Tryz.underlying5, ?_, Lib.bytesWorld_size _ _ _, ?_, ?_⟩
  · refine ⟨rfl, rfl, rfl, by rw [Lib.bytesWorld_size]; omega, fun k hk => Lib.bytesWorld_at_old _ _ _ k hk⟩
  · intro j c hj
    have hjl := (List.getElem?_eq_some_iff.1 hj).1
    rw [Lib.bytesWorld_cell w _ s j (by simpa using hjl), List.getD_eq_getElem?_getD, hj]; rfl
  · intro j hj
    have h := Lib.bytesWorld_at_new w 5 s
    unfold World.frozen?
    rw [h]
    have hs : (Lib.bytesCells w 5 s).size = s.size + (grownCap w s.size 0 5 - s.size) := by
      unfold Lib.bytesCells
      rw [Array.size_append, Array.size_map, Array.size_replicate]; rfl
    simp
    omega
end Go.Proofs.YtneebcniofolmaaGreatDoor
namespace Go.Proofs.YtneebcniofolmaaGreatDoor.Gv
/-- the list of f 0, f 1, .. -/
def tab (n : Nat) (f : Nat → UInt8) : List UInt8 := (List.range n).map f
theorem tab_len (n : Nat) (f : Nat → UInt8) : (tab n f).length = n := by unfold tab; simp
theorem tab_get? (n : Nat) (f : Nat → UInt8) (j : Nat) : (tab n f)[j]? = if j < n then some (f j) else none := by
  unfold tab
  rw [List.getElem?_map]
  by_cases h : j < n
  · rw [List.getElem?_range h, if_pos h]; rfl
  · rw [if_neg h, List.getElem?_eq_none (by rw [List.length_range]; omega)]; rfl
theorem tab_getD (n : Nat) (f : Nat → UInt8) (j : Nat) : (tab n f).getD j 0 = if j < n then f j else 0 := by
  rw [List.getD_eq_getElem?_getD, tab_get?]
  by_cases h : j < n
  · rw [if_pos h, if_pos h]; rfl
  · rw [if_neg h, if_neg h]; rfl
theorem tab_at {n : Nat} (f : Nat → UInt8) {j : Nat} (h : j < n) : (tab n f).getD j 0 = f j := by rw [tab_getD, if_pos h]
theorem tab_ext {n : Nat} {f g : Nat → UInt8} (h : ∀ j, j < n → f j = g j) : tab n f = tab n g := by
  unfold tab
  exact List.map_congr_left (fun j hj => h j (List.mem_range.1 hj))
theorem ext {l m : List UInt8} (hl : l.length = m.length) (h : ∀ j, j < l.length → l.getD j 0 = m.getD j 0) : l = m := by
  apply List.ext_getElem? 
  intro j
  by_cases hj : j < l.length
  · have := h j hj
    rw [List.getD_eq_getElem?_getD, List.getD_eq_getElem?_getD, List.getElem?_eq_getElem hj, List.getElem?_eq_getElem (by omega)] at this
    rw [List.getElem?_eq_getElem hj, List.getElem?_eq_getElem (by omega)]
    exact congrArg some this
  · rw [List.getElem?_eq_none (by omega), List.getElem?_eq_none (by omega)]
theorem tab_self (l : List UInt8) : tab l.length (fun j => l.getD j 0) = l :=
  ext (tab_len _ _) (fun j hj => by rw [tab_len] at hj; rw [tab_at _ hj])
theorem tab_inj {n : Nat} {f g : Nat → UInt8} (h : tab n f = tab n g) {j : Nat} (hj : j < n) : f j = g j := by
  rw [← tab_at f hj, h, tab_at g hj]
/-- the first k as f, the others as g -/
def upto (k : Nat) (f g : Nat → UInt8) : Nat → UInt8 := fun j => if j < k then f j else g j
theorem upto_zero (f g : Nat → UInt8) : upto 0 f g = g := by funext j; unfold upto; rw [if_neg (by omega)]
theorem upto_at (k : Nat) (f g : Nat → UInt8) : upto k f g k = g k := by unfold upto; rw [if_neg (by omega)]
theorem tab_upto (n : Nat) (f g : Nat → UInt8) : tab n (upto n f g) = tab n f := tab_ext (fun j hj => by unfold upto; rw [if_pos hj])
theorem tab_set {n k : Nat} (f : Nat → UInt8) (v : UInt8) : (tab n f).set k v = tab n (fun j => if j = k then v else f j) := by
  apply ext
  · rw [List.length_set, tab_len, tab_len]
  · intro j hj
    rw [List.length_set, tab_len] at hj
    rw [List.getD_eq_getElem?_getD, List.getElem?_set, tab_len, tab_at _ hj]
    by_cases e : k = j
    · subst e; rw [if_pos rfl, if_pos hj, if_pos rfl]; rfl
    · rw [if_neg e, ← List.getD_eq_getElem?_getD, tab_at _ hj, if_neg (fun h => e h.symm)]
theorem upto_set {n k : Nat} (f g : Nat → UInt8) : (tab n (upto k f g)).set k (f k) = tab n (upto (k + 1) f g) := by
  rw [tab_set]
  refine tab_ext (fun j _ => ?_)
  unfold upto
  by_cases e : j = k
  · subst e; rw [if_pos rfl, if_pos (by omega)]
  · rw [if_neg e]
    by_cases h : j < k
    · rw [if_pos h, if_pos (by omega)]
    · rw [if_neg h, if_neg (by omega)]
theorem tab_zero (n : Nat) : tab n (fun _ => 0) = List.replicate n 0 := by
  apply List.ext_getElem?
  intro j
  rw [tab_get?, List.getElem?_replicate]
/-- a sum by exclusive or -/
def xsum : Nat → (Nat → UInt8) → UInt8
  | 0, _ => 0
  | n + 1, f => xsum n f ^^^ f n
theorem xsum_succ (n : Nat) (f : Nat → UInt8) : xsum (n + 1) f = xsum n f ^^^ f n := rfl
theorem xsum_congr {n : Nat} {f g : Nat → UInt8} (h : ∀ j, j < n → f j = g j) : xsum n f = xsum n g := by
  induction n with
  | zero => rfl
  | succ n ih => rw [xsum_succ, xsum_succ, ih (fun j hj => h j (by omega)), h n (by omega)]
theorem xsum_zero (n : Nat) : xsum n (fun _ => 0) = 0 := by
  induction n with
  | zero => rfl
  | succ n ih => rw [xsum_succ, ih]; rfl
theorem xsum_all0 {n : Nat} {f : Nat → UInt8} (h : ∀ j, j < n → f j = 0) : xsum n f = 0 := (xsum_congr h).trans (xsum_zero n)
theorem xsum_xor (n : Nat) (f g : Nat → UInt8) : xsum n (fun j => f j ^^^ g j) = xsum n f ^^^ xsum n g := by
  induction n with
  | zero => exact (Gf.add_self 0).symm
  | succ n ih =>
    rw [xsum_succ, xsum_succ, xsum_succ, ih, Gf.add_assoc, Gf.add_assoc, Gf.add_left_comm (xsum n g) (f n) (g n)]
theorem xsum_mul (c : UInt8) (n : Nat) (f : Nat → UInt8) : Gf.mul c (xsum n f) = xsum n (fun j => Gf.mul c (f j)) := by
  induction n with
  | zero => exact Gf.mul_zero c
  | succ n ih => rw [xsum_succ, xsum_succ, Gf.mul_add, ih]
theorem mul_xsum (c : UInt8) (n : Nat) (f : Nat → UInt8) : Gf.mul (xsum n f) c = xsum n (fun j => Gf.mul (f j) c) := by
  rw [Gf.mul_comm, xsum_mul]; exact xsum_congr (fun j _ => Gf.mul_comm _ _)
theorem xsum_swap (n m : Nat) (f : Nat → Nat → UInt8) : xsum n (fun i => xsum m (fun j => f i j)) = xsum m (fun j => xsum n (fun i => f i j)) := by
  induction n with
  | zero => exact (xsum_zero m).symm
  | succ n ih => rw [xsum_succ, ih, ← xsum_xor]; rfl
theorem xsum_single {n k : Nat} (hk : k < n) (f : Nat → UInt8) (h : ∀ j, j < n → j ≠ k → f j = 0) : xsum n f = f k := by
  induction n with
  | zero => omega
  | succ n ih =>
    rw [xsum_succ]
    by_cases e : k = n
    · subst e
      rw [xsum_all0 (fun j hj => h j (by omega) (by omega)), Gf.zero_add]
    · rw [ih (by omega) (fun j hj => h j (by omega)), h n (by omega) (by omega), Gf.add_zero]
theorem xsum_add (n m : Nat) (f : Nat → UInt8) : xsum (n + m) f = xsum n f ^^^ xsum m (fun j => f (n + j)) := by
  induction m with
  | zero => exact (Gf.add_zero _).symm
  | succ m ih => rw [← Nat.add_assoc, xsum_succ, ih, xsum_succ, Gf.add_assoc]
/-- a sum of k lists of n, each so many times -/
def comb (n k : Nat) (t : Nat → UInt8) (x : Nat → Nat → UInt8) : List UInt8 := tab n (fun j => xsum k (fun i => Gf.mul (t i) (x i j)))
theorem comb_len (n k : Nat) (t : Nat → UInt8) (x : Nat → Nat → UInt8) : (comb n k t x).length = n := tab_len _ _
theorem comb_zero (n : Nat) (t : Nat → UInt8) (x : Nat → Nat → UInt8) : comb n 0 t x = tab n (fun _ => 0) := rfl
/-- an entry of a list of bytes -/
def at' (l : List UInt8) (j : Nat) : UInt8 := l.getD j 0
theorem at_get? {l : List UInt8} {j : Nat} (h : j < l.length) : l[j]? = some (at' l j) := by
  unfold at'; rw [List.getD_eq_getElem?_getD, List.getElem?_eq_getElem h]; rfl
end Go.Proofs.YtneebcniofolmaaGreatDoor.Gv
namespace Go.Proofs.YtneebcniofolmaaGreatDoor
open Go.ChangeShapes Go.WideShapes Go.ChangeAt Go.RowKit
set_option linter.unusedVariables false
theorem OwnR.setAt {w : World} {base g o n cap k : Nat} {E : TypeId} {xs : List Value} (h : OwnR w base E (.slice (some ⟨g, o, none⟩) n cap) xs) (hk : k < xs.length) (u : Value) :
    OwnR (w.setCell ⟨g, o + k, none⟩ u) base E (.slice (some ⟨g, o, none⟩) n cap) (xs.set k u) := by
  rcases h with ⟨hn, hx⟩ | ⟨g', o', cap', cur, hv', hb', hg', h1, h2, h3, h4⟩
  · cases hn
  · injection hv' with e1 e2 e3
    injection e1 with e1
    injection e1 with e4 e5
    subst e4 e5 e3
    refine .inr ⟨g, o, cap, cur.setIfInBounds (o + k) u, by rw [List.length_set, e2], hb', heap_setCell_same _ _ _ _ _ _ hg', by rw [List.length_set]; exact h1, h2, by rw [Array.size_setIfInBounds]; exact h3, fun j hj => ?_⟩
    rw [List.length_set] at hj
    rw [List.getElem?_set]
    by_cases e : k = j
    · subst e
      rw [Array.getElem?_setIfInBounds_self_of_lt (by omega), if_pos rfl, if_pos hk]
    · rw [Array.getElem?_setIfInBounds_ne (by omega), if_neg e]
      exact h4 j hj
/-- a list of bytes of one's own -/
def OwnB (w : World) (base : Nat) (v : Value) (l : List UInt8) : Prop := OwnR w base 5 v (l.map bv)
theorem OwnB.setAt {w : World} {base g o n cap k : Nat} {l : List UInt8} (h : OwnB w base (.slice (some ⟨g, o, none⟩) n cap) l) (hk : k < l.length) (u : UInt8) :
    OwnB (w.setCell ⟨g, o + k, none⟩ (bv u)) base (.slice (some ⟨g, o, none⟩) n cap) (l.set k u) := by
  unfold OwnB
  rw [List.map_set]
  exact OwnR.setAt h (by rw [List.length_map]; exact hk) (bv u)
theorem OwnB.cellAt {w : World} {base : Nat} {v : Value} {l : List UInt8} (h : OwnB w base v l) {j : Nat} (hj : j < l.length) :
    ∃ g o cap, v = .slice (some ⟨g, o, none⟩) l.length cap ∧ base ≤ g ∧ g < w.heap.size ∧ l.length ≤ cap ∧ cap ≤ maxLen ∧ w.cell? ⟨g, o + j, none⟩ = some (bv (Gv.at' l j)) ∧ ∀ i, w.frozen? ⟨g, i, none⟩ = false := by
  obtain ⟨g, o, cap, hv, hb, hg, h1, h2, h3, h4⟩ := OwnR.at0 h (by rw [List.length_map]; omega)
  rw [List.length_map] at hv h1
  refine ⟨g, o, cap, hv, hb, hg, h1, h2, ?_, h4⟩
  rw [h3 j (by rw [List.length_map]; exact hj), List.getElem?_map, Gv.at_get? hj]; rfl
theorem info_byteV : (Tryz.prog.info? 5).map (fun i => (i.zero, i.size, i.bytes)) = some (some (.int .u8 0), 1, 1) := by kernel_rfl
theorem make_bytesV (n : Nat) (h : n ≤ 1000000) (w : World) : (Instr.makeSlice 44 (.int .i64 (n : Int)) (.int .i64 (n : Int))).run Tryz.prog w = .ok (.slice (some ⟨w.heap.size, 0, none⟩) n n) (w.alloc (.cells (madeCells #[.int .u8 0] n) 5)) :=
  run_make_row' 44 5 (.int .u8 0) 1 Tryz.underlying44 info_byteV rfl .i64 .i64 n (by omega) (by omega) w
theorem owns_made (n : Nat) (hn : n ≤ 1000000) (w : World) : OwnB (w.alloc (.cells (madeCells #[.int .u8 0] n) 5)) w.heap.size (.slice (some ⟨w.heap.size, 0, none⟩) n n) (Gv.tab n (fun _ => 0)) := by
  have hl : (madeCells #[Value.int .u8 0] n).toList = List.replicate n (.int .u8 0) := toList_madeCells_one _ _
  have hs : (madeCells #[Value.int .u8 0] n).size = n := by rw [← Array.length_toList, hl, List.length_replicate]
  refine .inr ⟨w.heap.size, 0, n, _, by rw [List.length_map, Gv.tab_len], Nat.le_refl _, heap_alloc_new w _, by rw [List.length_map, Gv.tab_len]; exact Nat.le_refl _, by unfold maxLen; omega, by rw [hs]; omega, fun j hj => ?_⟩
  rw [List.length_map, Gv.tab_len] at hj
  rw [Nat.zero_add, ← Array.getElem?_toList, hl, List.getElem?_replicate, if_pos hj, List.getElem?_map, Gv.tab_get?, if_pos hj]; rfl
theorem conv_nilB (w : World) : (convert 44 9 (.slice none 0 0)).run Tryz.prog w = .ok (.string ⟨#[]⟩) w := by kernel_rfl
/-- bytes of the call's own, as a text -/
theorem conv_ownB (w : World) (base : Nat) (v : Value) (l : List UInt8) (h : OwnB w base v l) : (convert 44 9 v).run Tryz.prog w = .ok (.string ⟨l.toArray⟩) w := by
  rcases h with ⟨rfl, hx⟩ | ⟨g, o, cap, cur, rfl, hb, hg, h1, h2, h3, h4⟩
  · obtain rfl : l = [] := by cases l with | nil => rfl | cons a t => cases hx
    exact conv_nilB w
  · rw [List.length_map]
    exact run_convert_bytes_back (P := Tryz.prog) w 44 9 5 ⟨g, o, none⟩ cap l Tryz.underlying44 Tryz.underlying5 Tryz.underlying9 (fun j hj => by
      rw [Addr.add_lit, cell_of_row _ _ _ _ _ _ hg, h4 j (by rw [List.length_map]; exact hj), List.getElem?_map, List.getElem?_eq_getElem hj]; rfl)
/-- a list of bytes, wherever it lies: what is read there -/
def RowB (w : World) (v : Value) (l : List UInt8) : Prop := Row w v (l.map bv)
theorem RowB.below {w w' : World} {v : Value} {l : List UInt8} (h : RowB w v l) (hb : Below w.heap.size w w') : RowB w' v l := Row.below h hb
theorem RowB.cellAt {w : World} {v : Value} {l : List UInt8} (h : RowB w v l) {j : Nat} (hj : j < l.length) :
    ∃ g o cap, v = .slice (some ⟨g, o, none⟩) l.length cap ∧ g < w.heap.size ∧ l.length ≤ cap ∧ cap ≤ maxLen ∧ w.cell? ⟨g, o + j, none⟩ = some (bv (Gv.at' l j)) := by
  obtain ⟨g, o, cap, hv, h1, h2, h3⟩ := Row.pos h (by rw [List.length_map]; omega)
  rw [List.length_map] at hv h1
  have h4 := h3 j (by rw [List.length_map]; exact hj)
  rw [List.getElem?_map, Gv.at_get? hj] at h4
  exact ⟨g, o, cap, hv, World.block_lt_of_cell? w _ h4, h1, h2, h4⟩
theorem RowB.shape {w : World} {v : Value} {l : List UInt8} (h : RowB w v l) : ∃ p cap, v = .slice p l.length cap ∧ l.length ≤ cap ∧ cap ≤ maxLen := by
  obtain ⟨p, cap, hv, h1, h2, _⟩ := Row.shape h
  rw [List.length_map] at *
  exact ⟨p, cap, hv, h1, h2⟩
end Go.Proofs.YtneebcniofolmaaGreatDoor
