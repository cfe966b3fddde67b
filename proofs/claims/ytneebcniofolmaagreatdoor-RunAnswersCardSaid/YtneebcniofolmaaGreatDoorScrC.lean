/- The array of disks: New. · slices.Contains of true; healing where one is lost. -/
import Derived.Test.YtneebcniofolmaaGreatDoorAryG
namespace Go.Proofs.YtneebcniofolmaaGreatDoor
open Go.ChangeShapes Go.WideShapes Go.ChangeAt Go.RowKit
set_option linter.unusedVariables false
def Ar.s0 (n rows size : Nat) : Ar.S := ⟨n, rows, size, fun _ => false, fun _ => rows, fun _ _ => Dk.noughts size⟩
theorem own_apart {w : World} {b1 k : Nat} {e1 t : TypeId} {v : Value} {n : Nat} {xs : List Value} {u : Array Value} (h : w.ownsRow b1 e1 1 v n xs) (h' : w.heap[k]? = some (.cells u t (0, 0))) (he : e1 ≠ t) : v.ownBlock ≠ some k := by
  intro hg
  rcases h.2 with ⟨rfl, _⟩ | ⟨g1, c1, cur1, rfl, _, k1, _⟩
  · cases hg
  · cases hg
    exact at_apart k1 h' he rfl
def mbs (k : Nat) (mb : Nat → Nat) : List Value := (List.range k).map fun i => .pointer (some ⟨mb i, 0, none⟩)
theorem mbs_succ (k : Nat) (mb : Nat → Nat) (x : Nat) : mbs (k + 1) (Ar.up mb k x) = mbs k mb ++ [.pointer (some ⟨x, 0, none⟩)] := by
  unfold mbs
  rw [List.range_succ, List.map_append, List.map_cons, List.map_nil, Ar.up_self]
  congr 1
  exact List.map_congr_left (fun i hi => by rw [Ar.up_ne _ _ (by have := List.mem_range.1 hi; omega)])
structure AryMk (w : World) (b : Nat) (v : Value) (k : Nat) (mb db : Nat → Nat) (rows size : Nat) : Prop where
  blk : w.heap[b]? = some (.cells #[v, iv rows, iv size] 77 (0, 0))
  lst : w.ownsRow (b + 1) 81 1 v k (mbs k mb)
  mem : ∀ i, i < k → w.heap[mb i]? = some (.cells #[.pointer (some ⟨db i, 0, none⟩), iv rows] 83 (0, 0))
  dsk : ∀ i, i < k → DiskAt w (db i) (Dk.made rows size)
  lo : ∀ i, i < k → b < mb i ∧ b < db i
  inj : ∀ i j, i < k → j < k → mb i = mb j → i = j
  inj2 : ∀ i j, i < k → j < k → db i = db j → i = j
namespace AryMk
variable {w w1 : World} {b k : Nat} {v : Value} {mb db : Nat → Nat} {rows size : Nat}
theorem lt (h : AryMk w b v k mb db rows size) : b < w.heap.size := (Array.getElem?_eq_some_iff.1 h.blk).1
theorem ltm (h : AryMk w b v k mb db rows size) {i : Nat} (hi : i < k) : mb i < w.heap.size := (Array.getElem?_eq_some_iff.1 (h.mem i hi)).1
theorem below (h : AryMk w b v k mb db rows size) (hb : Below w.heap.size w w1) : AryMk w1 b v k mb db rows size :=
  ⟨by rw [hb.block b h.lt]; exact h.blk, owns_below h.lst hb, fun i hi => by rw [hb.block _ (h.ltm hi)]; exact h.mem i hi, fun i hi => (h.dsk i hi).below hb, h.lo, h.inj, h.inj2⟩
theorem cell (h : AryMk w b v k mb db rows size) (j : Nat) : w.cell? ⟨b, j, none⟩ = #[v, iv rows, iv size][j]? := by rw [cell_of_row _ _ _ _ _ _ h.blk]
theorem c0 (h : AryMk w b v k mb db rows size) : w.cell? ⟨b, 0, none⟩ = some v := by rw [h.cell]; rfl
theorem f (h : AryMk w b v k mb db rows size) (j : Nat) : w.frozen? ⟨b, j, none⟩ = false := frozen_of_row _ _ _ _ _ h.blk
/-- one more member -/
theorem push {w8 : World} {M D : Nat} {v8 : Value} (h : AryMk w b v k mb db rows size) (hb : Below w.heap.size w w1) (hD : DiskAt w1 D (Dk.made rows size)) (hDlo : w.heap.size ≤ D) (hM : w1.heap[M]? = some (.cells #[.pointer (some ⟨D, 0, none⟩), iv rows] 83 (0, 0))) (hMlo : w.heap.size ≤ M)
    (hO : w8.ownsRow (b + 1) 81 1 v8 (k + 1) (mbs k mb ++ [.pointer (some ⟨M, 0, none⟩)])) (hg : w1.grownBy w8 v.ownBlock) : AryMk (w8.setCell ⟨b, 0, none⟩ v8) b v8 (k + 1) (Ar.up mb k M) (Ar.up db k D) rows size := by
  have h1 := h.below hb
  have hk := Kept.grown hg
  have hnb : v.ownBlock ≠ some b := own_apart h1.lst h1.blk (by decide)
  have hb8 : w8.heap[b]? = some (.cells #[v, iv rows, iv size] 77 (0, 0)) := hk.heap h1.blk (fun e => hnb e.symm)
  have hs : Kept (· = b) w8 (w8.setCell ⟨b, 0, none⟩ v8) := (Kept.self b w8).set1 _ _
  have hlb := h.lt
  refine ⟨?_, ?_, fun i hi => ?_, fun i hi => ?_, fun i hi => ?_, fun i j hi hj => ?_, fun i j hi hj => ?_⟩
  · rw [heap_setCell_same _ _ _ _ _ _ hb8]; rfl
  · rw [mbs_succ]
    exact Kept.owns hO hs (fun g hg' e => own_apart hO hb8 (by decide) (by rw [hg', e]))
  · by_cases e : i = k
    · subst e
      rw [Ar.up_self, Ar.up_self]
      exact hs.heap (hk.heap hM (fun e => own_apart h1.lst hM (by decide) e.symm)) (by omega)
    · rw [Ar.up_ne _ _ e, Ar.up_ne _ _ e]
      have hi' : i < k := by omega
      have := (h.lo i hi').1
      exact hs.heap (hk.heap (h1.mem i hi') (fun e => own_apart h1.lst (h1.mem i hi') (by decide) e.symm)) (by omega)
  · by_cases e : i = k
    · subst e
      rw [Ar.up_self]
      exact (hD.kept hk (fun e => own_apart h1.lst hD.blk (by decide) e.symm)).kept hs (by omega)
    · rw [Ar.up_ne _ _ e]
      have hi' : i < k := by omega
      have := (h.lo i hi').2
      exact ((h1.dsk i hi').kept hk (fun e => own_apart h1.lst (h1.dsk i hi').blk (by decide) e.symm)).kept hs (by omega)
  · by_cases e : i = k
    · subst e; rw [Ar.up_self, Ar.up_self]; omega
    · rw [Ar.up_ne _ _ e, Ar.up_ne _ _ e]; exact h.lo i (by omega)
  · intro he
    by_cases e : i = k
    · by_cases e2 : j = k
      · omega
      · subst e
        rw [Ar.up_self, Ar.up_ne _ _ e2] at he
        have := h.ltm (i := j) (by omega); omega
    · by_cases e2 : j = k
      · subst e2
        rw [Ar.up_self, Ar.up_ne _ _ e] at he
        have := h.ltm (i := i) (by omega); omega
      · rw [Ar.up_ne _ _ e, Ar.up_ne _ _ e2] at he
        exact h.inj i j (by omega) (by omega) he
  · intro he
    by_cases e : i = k
    · by_cases e2 : j = k
      · omega
      · subst e
        rw [Ar.up_self, Ar.up_ne _ _ e2] at he
        have := (h.dsk j (by omega)).lt; omega
    · by_cases e2 : j = k
      · subst e2
        rw [Ar.up_self, Ar.up_ne _ _ e] at he
        have := (h.dsk i (by omega)).lt; omega
      · rw [Ar.up_ne _ _ e, Ar.up_ne _ _ e2] at he
        exact h.inj2 i j (by omega) (by omega) he
theorem done (h : AryMk w b v k mb db rows size) (hk : 3 ≤ k) (hk10 : k ≤ 10) (h1 : 1 ≤ rows) (h2 : rows ≤ 20) (h3 : 1 ≤ size) (h4 : size ≤ 16) : AryOk (fun p => b ≤ p) 0 w b (Ar.s0 k rows size) := by
  obtain ⟨g, c, rfl, hg, hgl, hc1, hc2, hcc, _⟩ := owns_pos h.lst (by omega)
  refine ⟨⟨hk, hk10, h1, h2, h3, h4, fun d r _ _ _ => Dk.noughts_size size, fun d _ => Nat.le_refl _⟩, g, c, mb, db, fun _ => Dk.made rows size, ⟨h.blk, ⟨hc1, hc2⟩, fun i hi => ?_, h.mem, h.dsk, h.inj, h.inj2, fun i hi => ⟨fun e => ?_, fun e => ?_⟩⟩, ⟨Nat.le_refl _, by omega, fun i hi => ⟨by have := (h.lo i hi).1; omega, by have := (h.lo i hi).2; omega⟩⟩, ⟨fun _ _ => rfl, fun _ _ => rfl, fun _ _ => ?_, fun _ _ => rfl, fun _ _ => Nat.le_refl _, fun d r _ hr _ => ?_⟩⟩
  · replace hi : i < k := hi
    rw [hcc i hi]; unfold mbs; rw [List.getElem?_map, List.getElem?_range hi]; rfl
  · exact own_apart h.lst (h.mem i hi) (by decide) (by rw [← e]; rfl)
  · exact own_apart h.lst (h.dsk i hi).blk (by decide) (by rw [← e]; rfl)
  · show (Dk.fresh _ _ _).length = 20
    rw [Dk.fresh_len]; rfl
  · show (Dk.fresh rows size (List.replicate 20 ⟨#[]⟩)).getD r ⟨#[]⟩ = Dk.noughts size
    have hr : r < rows := hr
    rw [List.getD_eq_getElem?_getD, Dk.fresh_at (by rw [List.length_replicate]; omega), if_pos hr]; rfl
end AryMk
def ANewRel (B rows size : Nat) (w : World) (n gk : Nat) (v22 : Value) (wr : World) : Prop :=
  ∃ k v mb db, k + gk = n ∧ v22 = iv k ∧ AryMk wr B v k mb db rows size ∧ Below B w wr
def ANewPost (n rows size : Nat) (w : World) (e : Ending) (w' : World) : Prop :=
  e = .returned (.tuple #[.pointer (some ⟨w.heap.size, 0, none⟩), .nilIface]) ∧ AryOk (fun p => w.heap.size ≤ p) 0 w' w.heap.size (Ar.s0 n rows size) ∧ Below w.heap.size w w'
theorem info_mem : (Tryz.prog.info? 81).map (fun i => (i.zero, i.size, i.bytes)) = some (some (.pointer none), 1, 8) := by kernel_rfl
set_option maxRecDepth 100000 in
set_option maxHeartbeats 2000000 in
theorem aNew_yes (n rows size : Nat) (h3 : 3 ≤ n) (h10 : n ≤ 10) (h1 : 1 ≤ rows) (h2 : rows ≤ 20) (h4 : 1 ≤ size) (h5 : size ≤ 16) (w : World) :
    Calls Tryz.prog 14 #[iv n, iv rows, iv size] w (ANewPost n rows size w) := by
  go_enter Tryz.func14, Tryz.ntmps14
  go_wp2_with fail
  refine (lcheck_yes (n : Int) (by omega) (by omega) _).mono ?_
  rintro e w' ⟨rfl, rfl⟩
  go_wp2_with fail
  obtain ⟨wA, hwA⟩ : ∃ wA, wA = w.alloc (.cells #[.slice none 0 0, iv rows, iv size] 77) := ⟨_, rfl⟩
  rw [← hwA]
  have hA : AryMk wA w.heap.size (.slice none 0 0) 0 (fun _ => 0) (fun _ => 0) rows size := by
    refine ⟨by rw [hwA]; exact heap_alloc_new _ _, World.ownsRow_nil _ _ _ _, fun i hi => by omega, fun i hi => by omega, fun i hi => by omega, fun i j hi => by omega, fun i j hi => by omega⟩
  have hB : Below w.heap.size w wA := by rw [hwA]; exact (Below.refl _ _).alloc (Nat.le_refl _) _
  have HA := Lib.hid hA
  have HB := Lib.hid hB
  clear hwA hA hB
  go_loopg [10, 11, 22] n (fun gk v10 v11 v22 wr => ANewRel w.heap.size rows size w n gk v22 wr)
  case atStart => exact ⟨0, _, _, _, by omega, rfl, HA.out, HB.out⟩
  case round =>
    clear HA HB
    obtain ⟨k, v, mb, db, hk, rfl, hA, hB⟩ := hrel
    have Hk := Lib.hid hk
    have HA := Lib.hid hA
    have HB := Lib.hid hB
    have hz := hB.size
    clear hk hA hB
    by_cases hlt : k < n
    · go_wp2_with fail
      refine (new_any rows size h1 h2 h4 h5 wr).mono ?_
      rintro e w1 ⟨rfl, hD, hB1, hz1⟩
      have HD := Lib.hid hD
      have HB1 := Lib.hid hB1
      have HA1 := Lib.hid (HA.out.below hB1)
      have hlo1 := HA1.out.lst
      obtain ⟨w2, hw2⟩ : ∃ w2, w2 = w1.alloc (.cells #[.pointer (some ⟨wr.heap.size, 0, none⟩), iv rows] 83) := ⟨_, rfl⟩
      have hb2 : Below w1.heap.size w1 w2 := by rw [hw2]; exact (Below.refl _ _).alloc (Nat.le_refl _) _
      have HA2 := Lib.hid (HA1.out.below hb2)
      have HM2 : Hid (w2.heap[w1.heap.size]? = some (.cells #[.pointer (some ⟨wr.heap.size, 0, none⟩), iv rows] 83 (0, 0))) := Lib.hid (by rw [hw2]; exact heap_alloc_new _ _)
      have Hb2 := Lib.hid hb2
      have Hw2 := Lib.hid hw2
      have c0 := HA1.out.c0
      have hbl := HA1.out.lt
      have hw2z : w2.heap.size = w1.heap.size + 1 := by rw [hw2]; simp
      have hBz := HB.out.size
      have hlst : (w1.alloc (.cells #[.pointer (some ⟨wr.heap.size, 0, none⟩), iv rows] 83)).ownsRow (w.heap.size + 1) 81 1 v k (mbs k mb) := by rw [← hw2]; exact HA2.out.lst
      have hsz2 : w1.heap.size + 1 = (w1.alloc (.cells #[.pointer (some ⟨wr.heap.size, 0, none⟩), iv rows] 83)).heap.size := by simp
      have hbb2 : Below (w.heap.size + 1) w2 (w1.alloc (.cells #[.pointer (some ⟨wr.heap.size, 0, none⟩), iv rows] 83)) := by rw [← hw2]; exact Below.refl _ _
      have Hlst := Lib.hid hlst
      have Hsz2 := Lib.hid hsz2
      have Hbb2 := Lib.hid hbb2
      clear hD hB1 hlo1 hw2 hb2 hlst hsz2 hbb2
      go_wp2_with (at_builtin; refine app1 w2 (w1.alloc (.cells #[.pointer (some ⟨wr.heap.size, 0, none⟩), iv rows] 83)) (.pointer (some ⟨w1.heap.size, 0, none⟩)) 81 75 rfl _ _ rfl (w.heap.size + 1) Tryz.underlying75 info_mem rfl _ k _ rfl _ rfl Hsz2.out Hlst.out rfl ?c1 ?c2 ?c3 Hbb2.out ?_)
      case c1 => omega
      case c2 => omega
      case c3 => rw [← Hsz2.out]; omega
      intro v8 w8 hO8 hB8 hg8 hat8
      obtain ⟨p8, n8, cc8, rfl⟩ := (OwnR.of_owns hO8).slice
      rw [← Hw2.out] at hg8
      have hk8 := Kept.grown hg8
      have hb8 : w8.heap[w.heap.size]? = some (.cells #[v, iv rows, iv size] 77 (0, 0)) := hk8.heap HA2.out.blk (fun e => own_apart HA2.out.lst HA2.out.blk (by decide) e.symm)
      have c8 : w8.cell? ⟨w.heap.size, 0, none⟩ = some v := by rw [cell_of_row _ _ _ _ _ _ hb8]; rfl
      have f8 : w8.frozen? ⟨w.heap.size, 0, none⟩ = false := frozen_of_row _ _ _ _ _ hb8
      have HAn := Lib.hid (HA.out.push (HB1.out.trans (Hb2.out.mono (by omega))) (HD.out.below Hb2.out) (Nat.le_refl _) HM2.out (by omega) hO8 hg8)
      have HBn := Lib.hid ((((HB.out.trans (HB1.out.mono hBz)).trans (Hb2.out.mono (by omega))).trans ((hB8.mono (by omega)))).setCell (p := ⟨w.heap.size, 0, none⟩) (Nat.le_refl _) (.slice p8 n8 cc8))
      clear hO8 hB8 hg8 hat8 hk8 hb8
      go_wp2_with fail
      go_roundg (gk - 1)
      case measure => have := Hk.out; omega
      case rel => exact ⟨k + 1, _, _, _, by have := Hk.out; omega, by go_num, HAn.out, HBn.out⟩
    · have hkn : k = n := by have := Hk.out; omega
      subst hkn
      go_wp2_with fail
      go_ret2
      exact ⟨rfl, HA.out.done h3 h10 h1 h2 h4 h5, HB.out⟩
def aNewF (n rows size : Int) : Int := if n < 3 ∨ 10 < n ∨ rows < 1 ∨ 20 < rows ∨ size < 1 ∨ 16 < size then 1 else 0
set_option maxRecDepth 100000 in
theorem aNew_no (n rows size : Int) (h : aNewF n rows size ≠ 0) (w : World) :
    Calls Tryz.prog 14 #[iv n, iv rows, iv size] w fun e w' => e = .returned (.tuple #[.pointer none, ev 1]) ∧ Below w.heap.size w w' := by
  unfold aNewF at h
  by_cases hn : n < 3 ∨ 10 < n
  · have HC := Lib.hid (lcheck_no n hn w)
    clear h hn
    go_enter Tryz.func14, Tryz.ntmps14
    go_wp2_with fail
    refine HC.out.mono ?_
    rintro e w' ⟨rfl, rfl⟩
    go_wp2_with fail
    go_ret2
    exact ⟨rfl, Below.refl _ _⟩
  · have hbad : rows < 1 ∨ 1 ≤ rows ∧ 20 < rows ∨ 1 ≤ rows ∧ rows ≤ 20 ∧ size < 1 ∨ 1 ≤ rows ∧ rows ≤ 20 ∧ 1 ≤ size ∧ 16 < size := by
      by_cases hc : n < 3 ∨ 10 < n ∨ rows < 1 ∨ 20 < rows ∨ size < 1 ∨ 16 < size
      · omega
      · rw [if_neg hc] at h; exact absurd rfl h
    have HN := Lib.hid (fun w' => new_no rows size hbad w')
    have hn3 : 3 ≤ n := by omega
    have HC := Lib.hid (lcheck_yes n hn3 (by omega) w)
    clear h hn hbad
    go_enter Tryz.func14, Tryz.ntmps14
    go_wp2_with fail
    refine HC.out.mono ?_
    rintro e w' ⟨rfl, rfl⟩
    go_wp2_with fail
    obtain ⟨wA, hwA⟩ : ∃ wA, wA = w.alloc (.cells #[.slice none 0 0, iv rows, iv size] 77) := ⟨_, rfl⟩
    have HB : Hid (Below w.heap.size w wA) := Lib.hid (by rw [hwA]; exact (Below.refl _ _).alloc (Nat.le_refl _) _)
    rw [← hwA]
    clear hwA
    go_loopg [10, 11, 22] 1 (fun gk v10 v11 v22 wr => gk = 1 ∧ v22 = iv 0 ∧ wr = wA)
    case atStart => exact ⟨rfl, rfl, rfl⟩
    case round =>
      obtain ⟨_, rfl, rfl⟩ := hrel
      go_wp2_with fail
      refine (HN.out _).mono ?_
      rintro e w' ⟨rfl, rfl⟩
      go_wp2_with fail
      go_ret2
      exact ⟨rfl, HB.out⟩
end Go.Proofs.YtneebcniofolmaaGreatDoor
namespace Go.Proofs.YtneebcniofolmaaGreatDoor
open Go.ChangeShapes Go.WideShapes Go.ChangeAt Go.RowKit
set_option linter.unusedVariables false
theorem indexB_any (ls : List Bool) (v : Value) (w : World) (hv : BoolR w v ls) :
    Calls Tryz.prog 163 #[v, .bool true] w fun e w' => ∃ i : Int, e = .returned (iv i) ∧ decide (0 ≤ i) = ls.any id ∧ -1 ≤ i ∧ w = w' := by
  obtain ⟨p, cap, rfl, hlen, hcap, hcells⟩ := Row.shape hv
  clear hv
  rw [List.length_map] at *
  unfold maxLen at hcap
  obtain ⟨n, hn⟩ : ∃ n, n = ls.length := ⟨_, rfl⟩
  rw [← hn] at hlen hcells ⊢
  have Hn := Lib.hid hn
  have Hcells := Lib.hid hcells
  clear hn hcells
  go_enter Tryz.func163, Tryz.ntmps163
  go_wp2_with fail
  go_loopg [5, 8] n (fun gk v5 v8 wr => ∃ k : Nat, k + gk = n ∧ v8 = iv k ∧ w = wr ∧ ∀ j, j < k → ls[j]? = some false)
  case atStart => exact ⟨0, by omega, rfl, rfl, fun j h => by omega⟩
  case round =>
    obtain ⟨k, hk, rfl, rfl, hm⟩ := hrel
    have Hk := Lib.hid hk
    have Hm := Lib.hid hm
    clear hk hm
    by_cases hlt : k < n
    · obtain ⟨g, off, rfl, hc⟩ := Hcells.out (by omega)
      obtain ⟨y, hy⟩ : ∃ y, ls[k]? = some y := ⟨ls[k]'(by rw [← Hn.out]; exact hlt), List.getElem?_eq_getElem _⟩
      have hc' := hc k hlt
      rw [List.getElem?_map, hy] at hc'
      have hc2 : w.cell? ⟨g, off + k, none⟩ = some (.bool y) := hc'
      have Hy := Lib.hid hy
      clear hc hc' hy
      cases y with
      | true =>
        go_wp2_with fail
        go_ret
        refine ⟨_, rfl, ?_, by omega, rfl⟩
        rw [dec_t (by omega)]
        exact (List.any_eq_true.2 ⟨true, List.mem_of_getElem? Hy.out, rfl⟩).symm
      | false =>
        go_wp2_with fail
        go_roundg (gk - 1)
        case measure => have := Hk.out; omega
        case rel => exact ⟨k + 1, by have := Hk.out; omega, by go_num, rfl, fun j hj => by
          by_cases e : j = k
          · rw [e]; exact Hy.out
          · exact Hm.out j (by omega)⟩
    · have hkn : k = n := by have := Hk.out; omega
      go_wp2_with fail
      go_ret
      refine ⟨-1, rfl, ?_, by omega, rfl⟩
      rw [dec_f (by omega)]
      symm
      rw [List.any_eq_false]
      intro x hx
      obtain ⟨j, hj, hjx⟩ := List.mem_iff_getElem.1 hx
      have := Hm.out j (by rw [hkn, Hn.out]; exact hj)
      rw [List.getElem?_eq_getElem hj] at this
      rw [← hjx, Option.some.inj this]; decide
theorem containsB_any (ls : List Bool) (v : Value) (w : World) (hv : BoolR w v ls) :
    Calls Tryz.prog 149 #[v, .bool true] w fun e w' => e = .returned (.bool (ls.any id)) ∧ w = w' := by
  have HI := Lib.hid (indexB_any ls v w hv)
  obtain ⟨b, hb⟩ : ∃ b, b = ls.any id := ⟨_, rfl⟩
  rw [← hb] at HI ⊢
  clear hv hb
  go_enter Tryz.func149, Tryz.ntmps149
  go_wp2_with fail
  refine HI.out.mono ?_
  rintro e w' ⟨i, rfl, hi, hi1, rfl⟩
  cases b with
  | true =>
    have := of_decide_eq_true hi
    clear hi
    go_wp2_with fail
    go_ret
    exact ⟨rfl, rfl⟩
  | false =>
    have Hi := Lib.hid hi
    clear hi
    go_wp2_with fail
    go_ret
    exact ⟨by show Ending.returned (.bool (decide (0 ≤ i))) = _; rw [Hi.out], rfl⟩
/-- the fault of healing parts of one length -/
theorem healF_gen {ps : List ByteArray} {ls : List Bool} {z : Nat} (h3 : 3 ≤ ps.length) (h12 : ps.length ≤ 12) (hl : ls.length = ps.length) (hz : ∀ i, i < ps.length → Gv.lo ls i = false → (ps.getD i ⟨#[]⟩).size = z) (hz16 : z ≤ 16) : Gv.healF ps ls = if 2 < (Gv.goneL ls ps.length).length then 8 else 0 := by
  have hm : manyB (ps.length : Int) = true := by unfold manyB; rw [dec_t (by omega), dec_t (by omega)]; rfl
  have hlen := Gv.have_len ps ls ps.length
  unfold Gv.healF
  rw [hm, if_neg (by decide), hl, if_neg (by simp)]
  by_cases hc : 2 < (Gv.goneL ls ps.length).length
  · rw [if_pos hc, if_pos (by omega)]
  · rw [if_neg hc, if_neg (by omega)]
    have hall : ∀ m, m ≤ ps.length → ∀ x ∈ Gv.have' ps ls m, x.size = z := by
      intro m
      induction m with
      | zero => intro _ x hx; cases hx
      | succ m ih =>
        intro hm x hx
        unfold Gv.have' at hx
        by_cases e : Gv.lo ls m = true
        · rw [if_pos e] at hx; exact ih (by omega) x hx
        · rw [if_neg e] at hx
          rcases List.mem_append.1 hx with hx | hx
          · exact ih (by omega) x hx
          · rw [List.mem_singleton.1 hx]; exact hz m (by omega) (by simpa using e)
    have hall := hall ps.length (Nat.le_refl _)
    generalize Gv.have' ps ls ps.length = hv at *
    have h0 : hv[0]? = some (hv[0]'(by omega)) := List.getElem?_eq_getElem (by omega)
    rw [blkF_good h0 (fun j x hx => by rw [hall x (List.mem_of_getElem? hx), hall _ (List.getElem_mem (by omega))]), hall _ (List.getElem_mem (by omega)), if_neg (by omega)]
theorem gone_one (n i : Nat) : (Gv.goneL (Gv.marks2 n i i) n).length ≤ 1 := by
  have h1 := Gv.gone_nodup (Gv.marks2 n i i) n
  have h2 : ∀ j ∈ Gv.goneL (Gv.marks2 n i i) n, j = i := fun j hj => by
    have := (Gv.marks2_at.1 (Gv.gone_mem.1 hj).2).2
    omega
  generalize Gv.goneL (Gv.marks2 n i i) n = g at *
  match g, h1, h2 with
  | [], _, _ => simp
  | [a], _, _ => simp
  | a :: b :: l, h1, h2 =>
    have e1 := h2 a (by simp)
    have e2 := h2 b (by simp)
    rw [e1, e2] at h1
    simp at h1
theorem any_marks {s : Ar.S} (ho : s.Ok) (row : Nat) : (s.marks row).any id = decide (0 < s.many row) := by
  have hg := s.many_gone ho row
  by_cases h : 0 < s.many row
  · rw [decide_eq_true h]
    have : 0 < (Gv.goneL (s.marks row) s.n).length := by omega
    obtain ⟨j, hj⟩ := List.exists_mem_of_length_pos this
    have := Gv.gone_mem.1 hj
    refine List.any_eq_true.2 ⟨true, ?_, rfl⟩
    have h2 := this.2
    unfold Gv.lo at h2
    rw [List.getD_eq_getElem?_getD, List.getElem?_eq_getElem (by rw [s.marks_len]; exact this.1)] at h2
    have h3 : (s.marks row)[j]'(by rw [s.marks_len]; exact this.1) = true := h2
    rw [← h3]; exact List.getElem_mem _
  · rw [decide_eq_false h]
    rw [List.any_eq_false]
    intro x hx
    unfold Ar.S.marks at hx
    obtain ⟨j, hj, rfl⟩ := List.mem_map.1 hx
    have h3 := ho.n3
    rw [Ar.S.none_lost h (Ar.dk_lt (by omega))]; decide
theorem marks_set {s : Ar.S} {row i : Nat} (h3 : 3 ≤ s.n) (h : ¬ 0 < s.many row) : ((s.marks row).map Value.bool).set i (.bool true) = (Gv.marks2 s.n i i).map Value.bool := by
  apply List.ext_getElem?
  intro j
  rw [List.getElem?_set, List.length_map, s.marks_len, List.getElem?_map, List.getElem?_map]
  unfold Ar.S.marks Gv.marks2
  by_cases hj : j < s.n
  · rw [List.getElem?_map, List.getElem?_map, List.getElem?_range hj]
    by_cases e : i = j
    · subst e; rw [if_pos rfl, if_pos hj]; simp
    · rw [if_neg e]
      have e' : ¬ j = i := fun h => e h.symm
      simp [Ar.S.none_lost h (Ar.dk_lt (n := s.n) (row := row) (j := j) (by omega)), e']
  · rw [List.getElem?_eq_none (l := List.map _ _) (by simp; omega), List.getElem?_eq_none (l := List.map _ _) (by simp; omega)]
    split
    · rw [if_neg (by omega)]; rfl
    · rfl
end Go.Proofs.YtneebcniofolmaaGreatDoor
