/- Lists of bytes over the field by their entries, and sums over them, in plain lists. · Lists of bytes of the call's own: an entry is stored, the list made, as a text. · Words that the references' walks share. · The walk of the laws' own blocks: some text of 17 bytes at most. -/
import Derived.Test.YtcldioneiededaaDoorGf
import Derived.Test.YtcldioneiededaaDoorSlI
import Derived.Test.YtcldioneiededaaDoorBlk
import Derived.Test.YtcldioneiededaaDoorFieldW
import Derived.StillTailTactics
import Derived.Deep.OwnRows
import Derived.Laws.OwnMore
namespace Go.Proofs.YtcldioneiededaaDoor.Gv
/-- the list of f 0, f 1, .. -/
def tab (n : Nat) (f : Nat → UInt8) : List UInt8 := (List.range n).map f
theorem tab_len (n : Nat) (f : Nat → UInt8) : (tab n f).length = n := by unfold tab; simp
theorem tab_get? (n : Nat) (f : Nat → UInt8) (j : Nat) : (tab n f)[j]? = if j < n then some (f j) else none := by
  unfold tab
  rw [List.getElem?_map]
  by_cases h : j < n
  · rw [List.getElem?_range h, if_pos h]; rfl
  · rw [if_neg h, List.getElem?_eq_none (by rw [List.length_range]; omega)]; rfl
theorem tab_getD (n : Nat) (f : Nat → UInt8) (j : Nat) : (tab n f).getD j 0 = if j < n then f j else 0 := by
  rw [List.getD_eq_getElem?_getD, tab_get?]
  by_cases h : j < n
  · rw [if_pos h, if_pos h]; rfl
  · rw [if_neg h, if_neg h]; rfl
theorem tab_at {n : Nat} (f : Nat → UInt8) {j : Nat} (h : j < n) : (tab n f).getD j 0 = f j := by rw [tab_getD, if_pos h]
theorem tab_ext {n : Nat} {f g : Nat → UInt8} (h : ∀ j, j < n → f j = g j) : tab n f = tab n g := by
  unfold tab
  exact List.map_congr_left (fun j hj => h j (List.mem_range.1 hj))
theorem ext {l m : List UInt8} (hl : l.length = m.length) (h : ∀ j, j < l.length → l.getD j 0 = m.getD j 0) : l = m := by
  apply List.ext_getElem? 
  intro j
  by_cases hj : j < l.length
  · have := h j hj
    rw [List.getD_eq_getElem?_getD, List.getD_eq_getElem?_getD, List.getElem?_eq_getElem hj, List.getElem?_eq_getElem (by omega)] at this
    rw [List.getElem?_eq_getElem hj, List.getElem?_eq_getElem (by omega)]
    exact congrArg some this
  · rw [List.getElem?_eq_none (by omega), List.getElem?_eq_none (by omega)]
theorem tab_self (l : List UInt8) : tab l.length (fun j => l.getD j 0) = l :=
  ext (tab_len _ _) (fun j hj => by rw [tab_len] at hj; rw [tab_at _ hj])
theorem tab_inj {n : Nat} {f g : Nat → UInt8} (h : tab n f = tab n g) {j : Nat} (hj : j < n) : f j = g j := by
  rw [← tab_at f hj, h, tab_at g hj]
/-- the first k as f, the others as g -/
def upto (k : Nat) (f g : Nat → UInt8) : Nat → UInt8 := fun j => if j < k then f j else g j
theorem upto_zero (f g : Nat → UInt8) : upto 0 f g = g := by funext j; unfold upto; rw [if_neg (by omega)]
theorem upto_at (k : Nat) (f g : Nat → UInt8) : upto k f g k = g k := by unfold upto; rw [if_neg (by omega)]
theorem tab_upto (n : Nat) (f g : Nat → UInt8) : tab n (upto n f g) = tab n f := tab_ext (fun j hj => by unfold upto; rw [if_pos hj])
theorem tab_set {n k : Nat} (f : Nat → UInt8) (v : UInt8) : (tab n f).set k v = tab n (fun j => if j = k then v else f j) := by
  apply ext
  · rw [List.length_set, tab_len, tab_len]
  · intro j hj
    rw [List.length_set, tab_len] at hj
    rw [List.getD_eq_getElem?_getD, List.getElem?_set, tab_len, tab_at _ hj]
    by_cases e : k = j
    · subst e; rw [if_pos rfl, if_pos hj, if_pos rfl]; rfl
    · rw [if_neg e, ← List.getD_eq_getElem?_getD, tab_at _ hj, if_neg (fun h => e h.symm)]
theorem upto_set {n k : Nat} (f g : Nat → UInt8) : (tab n (upto k f g)).set k (f k) = tab n (upto (k + 1) f g) := by
  rw [tab_set]
  refine tab_ext (fun j _ => ?_)
  unfold upto
  by_cases e : j = k
  · subst e; rw [if_pos rfl, if_pos (by omega)]
  · rw [if_neg e]
    by_cases h : j < k
    · rw [if_pos h, if_pos (by omega)]
    · rw [if_neg h, if_neg (by omega)]
theorem tab_zero (n : Nat) : tab n (fun _ => 0) = List.replicate n 0 := by
  apply List.ext_getElem?
  intro j
  rw [tab_get?, List.getElem?_replicate]
/-- a sum by exclusive or -/
def xsum : Nat → (Nat → UInt8) → UInt8
  | 0, _ => 0
  | n + 1, f => xsum n f ^^^ f n
theorem xsum_succ (n : Nat) (f : Nat → UInt8) : xsum (n + 1) f = xsum n f ^^^ f n := rfl
theorem xsum_congr {n : Nat} {f g : Nat → UInt8} (h : ∀ j, j < n → f j = g j) : xsum n f = xsum n g := by
  induction n with
  | zero => rfl
  | succ n ih => rw [xsum_succ, xsum_succ, ih (fun j hj => h j (by omega)), h n (by omega)]
theorem xsum_zero (n : Nat) : xsum n (fun _ => 0) = 0 := by
  induction n with
  | zero => rfl
  | succ n ih => rw [xsum_succ, ih]; rfl
theorem xsum_all0 {n : Nat} {f : Nat → UInt8} (h : ∀ j, j < n → f j = 0) : xsum n f = 0 := (xsum_congr h).trans (xsum_zero n)
theorem xsum_xor (n : Nat) (f g : Nat → UInt8) : xsum n (fun j => f j ^^^ g j) = xsum n f ^^^ xsum n g := by
  induction n with
  | zero => exact (Gf.add_self 0).symm
  | succ n ih =>
    rw [xsum_succ, xsum_succ, xsum_succ, ih, Gf.add_assoc, Gf.add_assoc, Gf.add_left_comm (xsum n g) (f n) (g n)]
theorem xsum_mul (c : UInt8) (n : Nat) (f : Nat → UInt8) : Gf.mul c (xsum n f) = xsum n (fun j => Gf.mul c (f j)) := by
  induction n with
  | zero => exact Gf.mul_zero c
  | succ n ih => rw [xsum_succ, xsum_succ, Gf.mul_add, ih]
theorem mul_xsum (c : UInt8) (n : Nat) (f : Nat → UInt8) : Gf.mul (xsum n f) c = xsum n (fun j => Gf.mul (f j) c) := by
  rw [Gf.mul_comm, xsum_mul]; exact xsum_congr (fun j _ => Gf.mul_comm _ _)
theorem xsum_swap (n m : Nat) (f : Nat → Nat → UInt8) : xsum n (fun i => xsum m (fun j => f i j)) = xsum m (fun j => xsum n (fun i => f i j)) := by
  induction n with
  | zero => exact (xsum_zero m).symm
  | succ n ih => rw [xsum_succ, ih, ← xsum_xor]; rfl
theorem xsum_single {n k : Nat} (hk : k < n) (f : Nat → UInt8) (h : ∀ j, j < n → j ≠ k → f j = 0) : xsum n f = f k := by
  induction n with
  | zero => omega
  | succ n ih =>
    rw [xsum_succ]
    by_cases e : k = n
    · subst e
      rw [xsum_all0 (fun j hj => h j (by omega) (by omega)), Gf.zero_add]
    · rw [ih (by omega) (fun j hj => h j (by omega)), h n (by omega) (by omega), Gf.add_zero]
theorem xsum_add (n m : Nat) (f : Nat → UInt8) : xsum (n + m) f = xsum n f ^^^ xsum m (fun j => f (n + j)) := by
  induction m with
  | zero => exact (Gf.add_zero _).symm
  | succ m ih => rw [← Nat.add_assoc, xsum_succ, ih, xsum_succ, Gf.add_assoc]
/-- a sum of k lists of n, each so many times -/
def comb (n k : Nat) (t : Nat → UInt8) (x : Nat → Nat → UInt8) : List UInt8 := tab n (fun j => xsum k (fun i => Gf.mul (t i) (x i j)))
theorem comb_len (n k : Nat) (t : Nat → UInt8) (x : Nat → Nat → UInt8) : (comb n k t x).length = n := tab_len _ _
theorem comb_zero (n : Nat) (t : Nat → UInt8) (x : Nat → Nat → UInt8) : comb n 0 t x = tab n (fun _ => 0) := rfl
/-- an entry of a list of bytes -/
def at' (l : List UInt8) (j : Nat) : UInt8 := l.getD j 0
theorem at_get? {l : List UInt8} {j : Nat} (h : j < l.length) : l[j]? = some (at' l j) := by
  unfold at'; rw [List.getD_eq_getElem?_getD, List.getElem?_eq_getElem h]; rfl
end Go.Proofs.YtcldioneiededaaDoor.Gv
namespace Go.Proofs.YtcldioneiededaaDoor
open Go.ChangeShapes Go.WideShapes Go.ChangeAt Go.RowKit
set_option linter.unusedVariables false
theorem OwnR.setAt {w : World} {base g o n cap k : Nat} {E : TypeId} {xs : List Value} (h : OwnR w base E (.slice (some ⟨g, o, none⟩) n cap) xs) (hk : k < xs.length) (u : Value) :
    OwnR (w.setCell ⟨g, o + k, none⟩ u) base E (.slice (some ⟨g, o, none⟩) n cap) (xs.set k u) := by
  rcases h with ⟨hn, hx⟩ | ⟨g', o', cap', cur, hv', hb', hg', h1, h2, h3, h4⟩
  · cases hn
  · injection hv' with e1 e2 e3
    injection e1 with e1
    injection e1 with e4 e5
    subst e4 e5 e3
    refine .inr ⟨g, o, cap, cur.setIfInBounds (o + k) u, by rw [List.length_set, e2], hb', heap_setCell_same _ _ _ _ _ _ hg', by rw [List.length_set]; exact h1, h2, by rw [Array.size_setIfInBounds]; exact h3, fun j hj => ?_⟩
    rw [List.length_set] at hj
    rw [List.getElem?_set]
    by_cases e : k = j
    · subst e
      rw [Array.getElem?_setIfInBounds_self_of_lt (by omega), if_pos rfl, if_pos hk]
    · rw [Array.getElem?_setIfInBounds_ne (by omega), if_neg e]
      exact h4 j hj
/-- a list of bytes of one's own -/
def OwnB (w : World) (base : Nat) (v : Value) (l : List UInt8) : Prop := OwnR w base 5 v (l.map bv)
theorem OwnB.setAt {w : World} {base g o n cap k : Nat} {l : List UInt8} (h : OwnB w base (.slice (some ⟨g, o, none⟩) n cap) l) (hk : k < l.length) (u : UInt8) :
    OwnB (w.setCell ⟨g, o + k, none⟩ (bv u)) base (.slice (some ⟨g, o, none⟩) n cap) (l.set k u) := by
  unfold OwnB
  rw [List.map_set]
  exact OwnR.setAt h (by rw [List.length_map]; exact hk) (bv u)
theorem OwnB.cellAt {w : World} {base : Nat} {v : Value} {l : List UInt8} (h : OwnB w base v l) {j : Nat} (hj : j < l.length) :
    ∃ g o cap, v = .slice (some ⟨g, o, none⟩) l.length cap ∧ base ≤ g ∧ g < w.heap.size ∧ l.length ≤ cap ∧ cap ≤ maxLen ∧ w.cell? ⟨g, o + j, none⟩ = some (bv (Gv.at' l j)) ∧ ∀ i, w.frozen? ⟨g, i, none⟩ = false := by
  obtain ⟨g, o, cap, hv, hb, hg, h1, h2, h3, h4⟩ := OwnR.at0 h (by rw [List.length_map]; omega)
  rw [List.length_map] at hv h1
  refine ⟨g, o, cap, hv, hb, hg, h1, h2, ?_, h4⟩
  rw [h3 j (by rw [List.length_map]; exact hj), List.getElem?_map, Gv.at_get? hj]; rfl
theorem info_byteV : (Tryd.prog.info? 5).map (fun i => (i.zero, i.size, i.bytes)) = some (some (.int .u8 0), 1, 1) := by kernel_rfl
theorem make_bytesV (n : Nat) (h : n ≤ 1000000) (w : World) : (Instr.makeSlice 50 (.int .i64 (n : Int)) (.int .i64 (n : Int))).run Tryd.prog w = .ok (.slice (some ⟨w.heap.size, 0, none⟩) n n) (w.alloc (.cells (madeCells #[.int .u8 0] n) 5)) :=
  run_make_row' 50 5 (.int .u8 0) 1 Tryd.underlying50 info_byteV rfl .i64 .i64 n (by omega) (by omega) w
theorem owns_made (n : Nat) (hn : n ≤ 1000000) (w : World) : OwnB (w.alloc (.cells (madeCells #[.int .u8 0] n) 5)) w.heap.size (.slice (some ⟨w.heap.size, 0, none⟩) n n) (Gv.tab n (fun _ => 0)) := by
  have hl : (madeCells #[Value.int .u8 0] n).toList = List.replicate n (.int .u8 0) := toList_madeCells_one _ _
  have hs : (madeCells #[Value.int .u8 0] n).size = n := by rw [← Array.length_toList, hl, List.length_replicate]
  refine .inr ⟨w.heap.size, 0, n, _, by rw [List.length_map, Gv.tab_len], Nat.le_refl _, heap_alloc_new w _, by rw [List.length_map, Gv.tab_len]; exact Nat.le_refl _, by unfold maxLen; omega, by rw [hs]; omega, fun j hj => ?_⟩
  rw [List.length_map, Gv.tab_len] at hj
  rw [Nat.zero_add, ← Array.getElem?_toList, hl, List.getElem?_replicate, if_pos hj, List.getElem?_map, Gv.tab_get?, if_pos hj]; rfl
theorem conv_nilB (w : World) : (convert 50 9 (.slice none 0 0)).run Tryd.prog w = .ok (.string ⟨#[]⟩) w := by kernel_rfl
/-- bytes of the call's own, as a text -/
theorem conv_ownB (w : World) (base : Nat) (v : Value) (l : List UInt8) (h : OwnB w base v l) : (convert 50 9 v).run Tryd.prog w = .ok (.string ⟨l.toArray⟩) w := by
  rcases h with ⟨rfl, hx⟩ | ⟨g, o, cap, cur, rfl, hb, hg, h1, h2, h3, h4⟩
  · obtain rfl : l = [] := by cases l with | nil => rfl | cons a t => cases hx
    exact conv_nilB w
  · rw [List.length_map]
    exact run_convert_bytes_back (P := Tryd.prog) w 50 9 5 ⟨g, o, none⟩ cap l Tryd.underlying50 Tryd.underlying5 Tryd.underlying9 (fun j hj => by
      rw [Addr.add_lit, cell_of_row _ _ _ _ _ _ hg, h4 j (by rw [List.length_map]; exact hj), List.getElem?_map, List.getElem?_eq_getElem hj]; rfl)
/-- a list of bytes, wherever it lies: what is read there -/
def RowB (w : World) (v : Value) (l : List UInt8) : Prop := Row w v (l.map bv)
theorem RowB.below {w w' : World} {v : Value} {l : List UInt8} (h : RowB w v l) (hb : Below w.heap.size w w') : RowB w' v l := Row.below h hb
theorem RowB.cellAt {w : World} {v : Value} {l : List UInt8} (h : RowB w v l) {j : Nat} (hj : j < l.length) :
    ∃ g o cap, v = .slice (some ⟨g, o, none⟩) l.length cap ∧ g < w.heap.size ∧ l.length ≤ cap ∧ cap ≤ maxLen ∧ w.cell? ⟨g, o + j, none⟩ = some (bv (Gv.at' l j)) := by
  obtain ⟨g, o, cap, hv, h1, h2, h3⟩ := Row.pos h (by rw [List.length_map]; omega)
  rw [List.length_map] at hv h1
  have h4 := h3 j (by rw [List.length_map]; exact hj)
  rw [List.getElem?_map, Gv.at_get? hj] at h4
  exact ⟨g, o, cap, hv, World.block_lt_of_cell? w _ h4, h1, h2, h4⟩
theorem RowB.shape {w : World} {v : Value} {l : List UInt8} (h : RowB w v l) : ∃ p cap, v = .slice p l.length cap ∧ l.length ≤ cap ∧ cap ≤ maxLen := by
  obtain ⟨p, cap, hv, h1, h2, _⟩ := Row.shape h
  rw [List.length_map] at *
  exact ⟨p, cap, hv, h1, h2⟩
end Go.Proofs.YtcldioneiededaaDoor
namespace Go.Proofs.YtcldioneiededaaDoor
open Go.ChangeShapes Go.WideShapes Go.ChangeAt Go.RowKit
set_option linter.unusedVariables false
theorem quiet_drew {P : Program} {f : FuncId} {args : Array Value} {w : World} {n : Nat} {v : Value}
    (h : Calls P f args (w.drewN n) fun e w' => e = .returned v ∧ ∃ k, (w.drewN n).drewN k = w') : Calls P f args (w.drewN n) fun e w'' => e = .returned v ∧ ∃ m, w'' = w.drewN m :=
  h.mono fun _ _ ⟨he, k, hm⟩ => ⟨he, n + k, by rw [← hm, World.drewN_drewN]⟩
theorem tab_succ (q : Nat) (f : Nat → UInt8) : (Gv.tab (q + 1) f).map bv = (Gv.tab q f).map bv ++ [bv (f q)] := by
  unfold Gv.tab; rw [List.range_succ]; simp
end Go.Proofs.YtcldioneiededaaDoor
namespace Go.Proofs.YtcldioneiededaaDoor
open Go.ChangeShapes Go.WideShapes Go.ChangeAt Go.RowKit
set_option linter.unusedVariables false
theorem mod_byteB (t : Int) : ∃ a : UInt8, t % 256 = (a.toNat : Int) := by
  refine ⟨UInt8.ofNat (t % 256).toNat, ?_⟩
  rw [UInt8.toNat_ofNat', Nat.mod_eq_of_lt (by omega)]
  omega
def BlockPost (w : World) (e : Ending) (w' : World) : Prop := ∃ q : ByteArray, e = .returned (.string q) ∧ q.size ≤ 17 ∧ Below w.heap.size w w'
def BlockRel (B z : Nat) (w : World) (gk : Nat) (v5 v6 : Value) (wr : World) : Prop :=
  ∃ l : List UInt8, l.length + gk = z ∧ v6 = iv l.length ∧ wr.ownsRow B 5 1 v5 l.length (l.map bv) ∧ Below B w wr
set_option maxRecDepth 100000 in
theorem block_law (z : Nat) (hz : z ≤ 16) (n : Int) (w : World) :
    Calls Tryd.prog 23 #[iv z, iv n] w (BlockPost w) := by
  go_enter Tryd.func23, Tryd.ntmps23
  go_wp2_with fail
  go_loopg [5, 6] z (fun gk v5 v6 wr => BlockRel w.heap.size z w gk v5 v6 wr)
  case atStart => exact ⟨[], by simp, rfl, World.ownsRow_nil _ _ _ _, Below.refl _ _⟩
  case round =>
    obtain ⟨l, hk, rfl, hO, hB⟩ := hrel
    obtain ⟨k, hk0⟩ : ∃ k, k = l.length := ⟨_, rfl⟩
    rw [← hk0] at hk hO ⊢
    have Hk := Lib.hid hk
    have HO := Lib.hid hO
    have HB := Lib.hid hB
    have Hk0 := Lib.hid hk0
    have hzr := hB.size
    clear hk hO hB hk0
    by_cases hlt : k < z
    · obtain ⟨a, ha⟩ : ∃ a : UInt8, wrap64 (n + (k : Int)) % 256 = (a.toNat : Int) := mod_byteB _
      have hk17 : k + 1 ≤ 1000000 := by omega
      have Ha := Lib.hid ha
      go_wp2_with (at_builtin; refine app1 w wr (bv a) 5 50 rfl _ _ rfl w.heap.size Tryd.underlying50 info_byteV rfl _ k _ rfl _ rfl rfl HO.out rfl hk17 (by decide) hzr HB.out ?_)
      intro v9 w9 hO9 hB9 _ _
      have HO9 := Lib.hid hO9
      have HB9 := Lib.hid hB9
      clear hO9 hB9 ha
      go_wp2_with fail
      go_roundg (gk - 1)
      case measure => have := Hk.out; omega
      case rel => exact ⟨l ++ [a], by rw [List.length_append, ← Hk0.out]; have := Hk.out; show k + 1 + _ = _; omega, by rw [List.length_append, ← Hk0.out]; go_num, by rw [List.length_append, ← Hk0.out, List.map_append]; exact HO9.out, HB9.out⟩
    · have hkz : k = z := by have := Hk.out; omega
      by_cases hn : n < 0
      · have hk17 : k + 1 ≤ 1000000 := by omega
        go_wp2_with (at_builtin; refine app1 w wr (bv 1) 5 50 rfl _ _ rfl w.heap.size Tryd.underlying50 info_byteV rfl _ k _ rfl _ rfl rfl HO.out rfl hk17 (by decide) hzr HB.out ?_)
        intro v9 w9 hO9 hB9 _ _
        have HB9 := Lib.hid hB9
        have hcv := conv_ownB w9 w.heap.size v9 (l ++ [1]) (by rw [OwnB, List.map_append]; exact OwnR.of_owns hO9)
        obtain ⟨p9, n9, c9, rfl⟩ := (OwnR.of_owns hO9).slice
        clear hO9 hB9
        go_wp2_with fail
        go_ret
        exact ⟨_, rfl, by show (l ++ [1]).toArray.size ≤ 17; rw [List.size_toArray, List.length_append, ← Hk0.out]; show k + 1 ≤ 17; omega, HB9.out⟩
      · have hcv := conv_ownB wr w.heap.size u5 l (OwnR.of_owns HO.out)
        obtain ⟨p9, n9, c9, hu5⟩ := (OwnR.of_owns HO.out).slice
        subst hu5
        go_wp2_with fail
        go_ret
        exact ⟨_, rfl, by show l.toArray.size ≤ 17; rw [List.size_toArray, ← Hk0.out]; omega, HB.out⟩
end Go.Proofs.YtcldioneiededaaDoor
