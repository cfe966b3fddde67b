/- The array of disks in memory. · The walks of package array: the small ones. · The walks of package array: the parts of a row. -/
import Derived.Test.YtneebcniofolmaaGreatDoorAryP
import Derived.Test.YtneebcniofolmaaGreatDoorDiskY
import Derived.Test.YtneebcniofolmaaGreatDoorLayR
import Derived.RegionTactic
import Derived.Deep.QuietTactic
import Derived.BigQuiet
import Derived.IntWalk
import Derived.Test.YtneebcniofolmaaGreatDoorPqK
import Derived.Deep.LoopGhost
import Derived.Deep.DeepCutAuto
import Derived.Deep.CutBlock
namespace Go.Proofs.YtneebcniofolmaaGreatDoor
open Go.ChangeShapes Go.WideShapes Go.ChangeAt Go.RowKit
set_option linter.unusedVariables false
structure AryAt (w : World) (b g c : Nat) (mb db : Nat → Nat) (n rows size : Nat) (ms : Nat → Dk.D) (bt : Nat → Nat) : Prop where
  blk : w.heap[b]? = some (.cells #[.slice (some ⟨g, 0, none⟩) (n : Nat) c, iv rows, iv size] 77 (0, 0))
  cap : n ≤ c ∧ c ≤ maxLen
  lst : ∀ i, i < n → w.cell? ⟨g, i, none⟩ = some (.pointer (some ⟨mb i, 0, none⟩))
  mem : ∀ i, i < n → w.heap[mb i]? = some (.cells #[.pointer (some ⟨db i, 0, none⟩), iv (bt i)] 83 (0, 0))
  dsk : ∀ i, i < n → DiskAt w (db i) (ms i)
  inj : ∀ i j, i < n → j < n → mb i = mb j → i = j
  inj2 : ∀ i j, i < n → j < n → db i = db j → i = j
  ng : ∀ i, i < n → g ≠ mb i ∧ g ≠ db i
theorem at_apart {w : World} {p q : Nat} {u v : Array Value} {s t : TypeId} (h : w.heap[p]? = some (.cells u s (0, 0))) (h' : w.heap[q]? = some (.cells v t (0, 0))) (hst : s ≠ t) : p ≠ q := fun e => by
  subst e
  rw [h] at h'
  injection h' with h'
  injection h' with _ h' _
  exact hst h'
namespace AryAt
variable {w w1 : World} {b g c : Nat} {mb db : Nat → Nat} {n rows size : Nat} {ms : Nat → Dk.D} {bt : Nat → Nat}
theorem nbm (h : AryAt w b g c mb db n rows size ms bt) {i : Nat} (hi : i < n) : b ≠ mb i := at_apart h.blk (h.mem i hi) (by decide)
theorem nbd (h : AryAt w b g c mb db n rows size ms bt) {i : Nat} (hi : i < n) : b ≠ db i := at_apart h.blk (h.dsk i hi).blk (by decide)
theorem nmd (h : AryAt w b g c mb db n rows size ms bt) {i j : Nat} (hi : i < n) (hj : j < n) : mb i ≠ db j := at_apart (h.mem i hi) (h.dsk j hj).blk (by decide)
theorem lt (h : AryAt w b g c mb db n rows size ms bt) : b < w.heap.size := (Array.getElem?_eq_some_iff.1 h.blk).1
theorem ltm (h : AryAt w b g c mb db n rows size ms bt) {i : Nat} (hi : i < n) : mb i < w.heap.size := (Array.getElem?_eq_some_iff.1 (h.mem i hi)).1
theorem ltd (h : AryAt w b g c mb db n rows size ms bt) {i : Nat} (hi : i < n) : db i < w.heap.size := (h.dsk i hi).lt
theorem ltg (h : AryAt w b g c mb db n rows size ms bt) (h0 : 0 < n) : g < w.heap.size := World.block_lt_of_cell? w _ (h.lst 0 h0)
theorem cell (h : AryAt w b g c mb db n rows size ms bt) (j : Nat) : w.cell? ⟨b, j, none⟩ = #[Value.slice (some ⟨g, 0, none⟩) (n : Nat) c, iv rows, iv size][j]? := by rw [cell_of_row _ _ _ _ _ _ h.blk]
theorem c0 (h : AryAt w b g c mb db n rows size ms bt) : w.cell? ⟨b, 0, none⟩ = some (.slice (some ⟨g, 0, none⟩) (n : Nat) c) := by rw [h.cell]; rfl
theorem c1 (h : AryAt w b g c mb db n rows size ms bt) : w.cell? ⟨b, 1, none⟩ = some (iv rows) := by rw [h.cell]; rfl
theorem c2 (h : AryAt w b g c mb db n rows size ms bt) : w.cell? ⟨b, 2, none⟩ = some (iv size) := by rw [h.cell]; rfl
theorem m0 (h : AryAt w b g c mb db n rows size ms bt) {i : Nat} (hi : i < n) : w.cell? ⟨mb i, 0, none⟩ = some (.pointer (some ⟨db i, 0, none⟩)) := by rw [cell_of_row _ _ _ _ _ _ (h.mem i hi)]; rfl
theorem m1 (h : AryAt w b g c mb db n rows size ms bt) {i : Nat} (hi : i < n) : w.cell? ⟨mb i, 1, none⟩ = some (iv (bt i)) := by rw [cell_of_row _ _ _ _ _ _ (h.mem i hi)]; rfl
theorem mf (h : AryAt w b g c mb db n rows size ms bt) {i : Nat} (hi : i < n) (j : Nat) : w.frozen? ⟨mb i, j, none⟩ = false := frozen_of_row _ _ _ _ _ (h.mem i hi)
theorem kept {T : Nat → Prop} (h : AryAt w b g c mb db n rows size ms bt) (hk : Kept T w w1) (hb : ¬ T b) (hg : ¬ T g) (hm : ∀ i, i < n → ¬ T (mb i) ∧ ¬ T (db i)) : AryAt w1 b g c mb db n rows size ms bt :=
  ⟨hk.heap h.blk hb, h.cap, fun i hi => hk.cell (h.lst i hi) hg, fun i hi => hk.heap (h.mem i hi) (hm i hi).1, fun i hi => (h.dsk i hi).kept hk (hm i hi).2, h.inj, h.inj2, h.ng⟩
theorem below (h : AryAt w b g c mb db n rows size ms bt) (hb : Below w.heap.size w w1) : AryAt w1 b g c mb db n rows size ms bt :=
  h.kept (Kept.new (fun _ => False) hb) (fun h => h) (fun h => h) (fun _ _ => ⟨fun h => h, fun h => h⟩)
theorem turnD {i : Nat} {d : Dk.D} (h : AryAt w b g c mb db n rows size ms bt) (hi : i < n) (hk : Kept (· = db i) w w1) (hd : DiskAt w1 (db i) d) : AryAt w1 b g c mb db n rows size (Ar.up ms i d) bt := by
  refine ⟨hk.heap h.blk (h.nbd hi), h.cap, fun j hj => hk.cell (h.lst j hj) (h.ng i hi).2, fun j hj => hk.heap (h.mem j hj) (h.nmd hj hi), fun j hj => ?_, h.inj, h.inj2, h.ng⟩
  by_cases e : j = i
  · subst e; rw [Ar.up_self]; exact hd
  · rw [Ar.up_ne _ _ e]; exact (h.dsk j hj).kept hk (fun e2 => e (h.inj2 j i hj hi e2))
theorem setB {i : Nat} (h : AryAt w b g c mb db n rows size ms bt) (hi : i < n) (x : Nat) : AryAt (w.setCell ⟨mb i, 1, none⟩ (iv x)) b g c mb db n rows size ms (Ar.up bt i x) := by
  have hk : Kept (· = mb i) w (w.setCell ⟨mb i, 1, none⟩ (iv x)) := (Kept.self (mb i) w).set1 _ _
  refine ⟨hk.heap h.blk (h.nbm hi), h.cap, fun j hj => hk.cell (h.lst j hj) (h.ng i hi).1, fun j hj => ?_, fun j hj => (h.dsk j hj).kept hk (fun e => h.nmd hi hj e.symm), h.inj, h.inj2, h.ng⟩
  by_cases e : j = i
  · subst e; rw [Ar.up_self, heap_setCell_same _ _ _ _ _ _ (h.mem j hj)]; rfl
  · rw [Ar.up_ne _ _ e]; exact hk.heap (h.mem j hj) (fun e2 => e (h.inj j i hj hi e2))
end AryAt
def AryIn (F : Nat → Prop) (b g n : Nat) (mb db : Nat → Nat) : Prop := F b ∧ F g ∧ ∀ i, i < n → F (mb i) ∧ F (db i)
/-- what the disks have is what is told, but where it is lost -/
structure ArySee (K : Nat) (s : Ar.S) (ms : Nat → Dk.D) : Prop where
  mn : ∀ d, d < s.n → (ms d).many = s.rows
  sz : ∀ d, d < s.n → (ms d).size = s.size
  ln : ∀ d, d < s.n → (ms d).rows.length = 20
  fl : ∀ d, d < s.n → (ms d).failed = s.fl d
  wr : ∀ d, d < s.n → (ms d).writes ≤ K
  cl : ∀ d r, d < s.n → r < s.rows → s.lost d r = false → (ms d).rows.getD r ⟨#[]⟩ = s.c d r
def AryOk (F : Nat → Prop) (K : Nat) (w : World) (b : Nat) (s : Ar.S) : Prop :=
  s.Ok ∧ ∃ g c mb db ms, AryAt w b g c mb db s.n s.rows s.size ms s.bt ∧ AryIn F b g s.n mb db ∧ ArySee K s ms
theorem AryOk.ok {F : Nat → Prop} {K : Nat} {w : World} {b : Nat} {s : Ar.S} (h : AryOk F K w b s) : s.Ok := h.1
theorem AryOk.kept {F T : Nat → Prop} {K : Nat} {w w1 : World} {b : Nat} {s : Ar.S} (h : AryOk F K w b s) (hk : Kept T w w1) (hT : ∀ k, F k → ¬ T k) : AryOk F K w1 b s := by
  obtain ⟨ho, g, c, mb, db, ms, h1, h2, h3⟩ := h
  exact ⟨ho, g, c, mb, db, ms, h1.kept hk (hT _ h2.1) (hT _ h2.2.1) (fun i hi => ⟨hT _ (h2.2.2 i hi).1, hT _ (h2.2.2 i hi).2⟩), h2, h3⟩
theorem AryOk.below {F : Nat → Prop} {K : Nat} {w w1 : World} {b : Nat} {s : Ar.S} (h : AryOk F K w b s) (hb : Below w.heap.size w w1) : AryOk F K w1 b s := h.kept (Kept.new (fun _ => False) hb) (fun _ _ h => h)
theorem AryOk.wide {F F' : Nat → Prop} {K : Nat} {w : World} {b : Nat} {s : Ar.S} (h : AryOk F K w b s) (hF : ∀ k, k < w.heap.size → F k → F' k) : AryOk F' K w b s := by
  obtain ⟨ho, g, c, mb, db, ms, h1, h2, h3⟩ := h
  exact ⟨ho, g, c, mb, db, ms, h1, ⟨hF _ h1.lt h2.1, hF _ (h1.ltg (by have := ho.n3; omega)) h2.2.1, fun i hi => ⟨hF _ (h1.ltm hi) (h2.2.2 i hi).1, hF _ (h1.ltd hi) (h2.2.2 i hi).2⟩⟩, h3⟩
theorem AryOk.more {F : Nat → Prop} {K K' : Nat} {w : World} {b : Nat} {s : Ar.S} (h : AryOk F K w b s) (hK : K ≤ K') : AryOk F K' w b s := by
  obtain ⟨ho, g, c, mb, db, ms, h1, h2, h3⟩ := h
  exact ⟨ho, g, c, mb, db, ms, h1, h2, ⟨h3.mn, h3.sz, h3.ln, h3.fl, fun d hd => Nat.le_trans (h3.wr d hd) hK, h3.cl⟩⟩
end Go.Proofs.YtneebcniofolmaaGreatDoor
namespace Go.Proofs.YtneebcniofolmaaGreatDoor
open Go.ChangeShapes Go.WideShapes Go.ChangeAt Go.RowKit
set_option linter.unusedVariables false
variable {w : World} {b g c : Nat} {mb db : Nat → Nat} {n rows size : Nat} {ms : Nat → Dk.D} {bt : Nat → Nat}
theorem dk_int {n row j : Nat} (h : 0 < n) : Lay.disk (n : Int) (row : Int) (j : Int) = (Ar.dk n row j : Int) := by
  unfold Lay.disk Lay.pOf Ar.dk
  have hm : row % n < n := Nat.mod_lt _ h
  rw [Int.natCast_emod]
  congr 1
  have : ((n - 1 - row % n : Nat) : Int) = (n : Int) - 1 - ((row % n : Nat) : Int) := by omega
  rw [Int.natCast_add, Int.natCast_add, this, Int.natCast_emod]
  rfl
def hasB (n : Nat) (d : Int) : Bool := decide (0 ≤ d) && decide (d < (n : Int))
theorem hasB_t {n d : Nat} (h : d < n) : hasB n (d : Int) = true := by unfold hasB; rw [dec_t (by omega), dec_t (by omega)]; rfl
set_option maxRecDepth 100000 in
theorem ahas_any (h : AryAt w b g c mb db n rows size ms bt) (d : Int) :
    Calls Tryz.prog 105 #[.pointer (some ⟨b, 0, none⟩), iv d] w fun e w' => e = .returned (.bool (hasB n d)) ∧ w = w' := by
  have c0 := h.c0
  have hc := h.cap
  have hc1 := hc.1
  have hc2 := hc.2
  unfold maxLen at hc2
  clear h hc
  by_cases h1 : 0 ≤ d
  · have d1 := dec_t h1
    by_cases h2 : d < (n : Int)
    · have d2 := dec_t h2
      have hh : hasB n d = true := by unfold hasB; rw [d1, d2]; rfl
      rw [hh]
      clear hh
      go_enter Tryz.func105, Tryz.ntmps105
      go_wp2_with fail
      go_ret
      exact ⟨rfl, rfl⟩
    · have d2 := dec_f h2
      have hh : hasB n d = false := by unfold hasB; rw [d1, d2]; rfl
      rw [hh]
      clear hh
      go_enter Tryz.func105, Tryz.ntmps105
      go_wp2_with fail
      go_ret
      exact ⟨rfl, rfl⟩
  · have d1 := dec_f h1
    have hh : hasB n d = false := by unfold hasB; rw [d1]; rfl
    rw [hh]
    clear hh
    go_enter Tryz.func105, Tryz.ntmps105
    go_wp2_with fail
    go_ret
    exact ⟨rfl, rfl⟩
set_option maxRecDepth 100000 in
theorem ahasRow_any (h : AryAt w b g c mb db n rows size ms bt) (d : Int) :
    Calls Tryz.prog 108 #[.pointer (some ⟨b, 0, none⟩), iv d] w fun e w' => e = .returned (.bool (hasB rows d)) ∧ w = w' := by
  have c1 := h.c1
  clear h
  by_cases h1 : 0 ≤ d
  · have d1 := dec_t h1
    by_cases h2 : d < (rows : Int)
    · have d2 := dec_t h2
      have hh : hasB rows d = true := by unfold hasB; rw [d1, d2]; rfl
      rw [hh]
      clear hh
      go_enter Tryz.func108, Tryz.ntmps108
      go_wp2_with fail
      go_ret
      exact ⟨rfl, rfl⟩
    · have d2 := dec_f h2
      have hh : hasB rows d = false := by unfold hasB; rw [d1, d2]; rfl
      rw [hh]
      clear hh
      go_enter Tryz.func108, Tryz.ntmps108
      go_wp2_with fail
      go_ret
      exact ⟨rfl, rfl⟩
  · have d1 := dec_f h1
    have hh : hasB rows d = false := by unfold hasB; rw [d1]; rfl
    rw [hh]
    clear hh
    go_enter Tryz.func108, Tryz.ntmps108
    go_wp2_with fail
    go_ret
    exact ⟨rfl, rfl⟩
def lostB (ms : Nat → Dk.D) (bt : Nat → Nat) (d row : Nat) : Bool := (ms d).failed || decide (bt d ≤ row)
set_option maxRecDepth 100000 in
theorem alost_any (h : AryAt w b g c mb db n rows size ms bt) {d : Nat} (hd : d < n) (row : Nat) (hb : bt d ≤ 1000) (hr : row ≤ 1000) :
    Calls Tryz.prog 99 #[.pointer (some ⟨b, 0, none⟩), iv d, iv row] w fun e w' => e = .returned (.bool (lostB ms bt d row)) ∧ w = w' := by
  have c0 := h.c0
  have c1 := h.lst d hd
  have c2 := h.m0 hd
  have c3 := h.m1 hd
  have hc1 := h.cap.1
  have hc2 := h.cap.2
  unfold maxLen at hc2
  have HW := Lib.hid (works_any (h.dsk d hd))
  have hl : lostB ms bt d row = ((ms d).failed || decide (bt d ≤ row)) := rfl
  rw [hl]
  generalize mb d = mbd at *
  generalize db d = dbd at *
  generalize bt d = btd at *
  generalize (ms d).failed = f at *
  clear h hl
  cases f with
  | true =>
    go_enter Tryz.func99, Tryz.ntmps99
    go_wp2_with fail
    refine (HW.out).mono ?_
    rintro e w' ⟨rfl, rfl⟩
    go_wp2_with fail
    go_ret
    exact ⟨rfl, rfl⟩
  | false =>
    by_cases hlt : btd ≤ row
    · have d1 : decide (btd ≤ row) = true := dec_t hlt
      have d2 : (btd : Int) ≤ (row : Int) := by omega
      rw [d1]
      clear d1
      go_enter Tryz.func99, Tryz.ntmps99
      go_wp2_with fail
      refine (HW.out).mono ?_
      rintro e w' ⟨rfl, rfl⟩
      go_wp2_with fail
      go_ret
      exact ⟨rfl, rfl⟩
    · have d1 : decide (btd ≤ row) = false := dec_f hlt
      have d2 : (row : Int) < (btd : Int) := by omega
      rw [d1]
      clear d1
      go_enter Tryz.func99, Tryz.ntmps99
      go_wp2_with fail
      refine (HW.out).mono ?_
      rintro e w' ⟨rfl, rfl⟩
      go_wp2_with fail
      go_ret
      exact ⟨rfl, rfl⟩
/-- what spot gives -/
def SpotPost (n rows : Nat) (x : Int) (w : World) (e : Ending) (w' : World) : Prop :=
  (0 ≤ x ∧ x < ((rows * (n - 2) : Nat) : Int) → e = .returned (.tuple #[.agg #[iv (Ar.dk n (x.toNat / (n - 2)) (x.toNat % (n - 2))), iv (x.toNat / (n - 2) : Nat)], .nilIface])) ∧
  (¬ (0 ≤ x ∧ x < ((rows * (n - 2) : Nat) : Int)) → e = .returned (.tuple #[.agg #[iv 0, iv 0], ev 1])) ∧ Below w.heap.size w w'
set_option maxRecDepth 100000 in
theorem aspot_any (h : AryAt w b g c mb db n rows size ms bt) (h3 : 3 ≤ n) (h10 : n ≤ 10) (hr : rows ≤ 20) (x : Int) (hx : x ≤ 9223372036854775807) (hx0 : -9223372036854775808 ≤ x) :
    Calls Tryz.prog 98 #[.pointer (some ⟨b, 0, none⟩), iv x] w (SpotPost n rows x w) := by
  have hb0 : Below w.heap.size w (w.alloc (.cells #[iv 0, iv 0] 163)) := (Below.refl _ _).alloc (Nat.le_refl _) _
  have c0 := (h.below hb0).c0
  have c1 := (h.below hb0).c1
  have hc1 := h.cap.1
  have hc2 := h.cap.2
  unfold maxLen at hc2
  have HB := Lib.hid hb0
  clear h hb0
  have hm9 : rows * (n - 2) ≤ 20 * 8 := Nat.mul_le_mul hr (by omega)
  obtain ⟨m, hm⟩ : ∃ m, m = rows * (n - 2) := ⟨_, rfl⟩
  have hmI : (rows : Int) * ((n : Int) - 2) = (m : Int) := by rw [hm, Int.natCast_mul, show ((n - 2 : Nat) : Int) = (n : Int) - 2 by omega]
  have hq : 0 ≤ x → x < (m : Int) → x / ((n : Int) - 2) < 20 := fun _ h => Int.ediv_lt_of_lt_mul (by omega) (Int.lt_of_lt_of_le h (by rw [← hmI]; exact Int.mul_le_mul_of_nonneg_right (by omega) (by omega)))
  have Hq := Lib.hid hq
  have hw1 : IntKind.i64.wrap ((n : Int) - 2) = (n : Int) - 2 := IntWalk.i64_in _ (by omega)
  have hw2 : IntKind.i64.wrap ((rows : Int) * ((n : Int) - 2)) = (m : Int) := by rw [hmI]; exact IntWalk.i64_in _ (by omega)
  unfold SpotPost
  rw [← hm] at hm9 ⊢
  have Hm := Lib.hid hm
  clear hm hq hmI
  by_cases h1 : x < 0
  · go_enter Tryz.func98, Tryz.ntmps98
    go_wp2_with fail
    go_quiet (fail)
    go_wp2_with fail
    exact bodyPost_ret (v := .tuple #[.agg #[iv 0, iv 0], ev 1]) (by simp [results, Tryz.results98, go_sem]) rfl ⟨fun h => absurd h.1 (by omega), fun _ => rfl, ((bdrew HB.out _).setCell (p := ⟨w.heap.size, 0, none⟩) (Nat.le_refl _) _).setCell (p := ⟨w.heap.size, 1, none⟩) (Nat.le_refl _) _⟩
  · by_cases h2 : x < (m : Int)
    · have hx2 : 0 ≤ x := by omega
      have hq2 := Hq.out hx2 h2
      obtain ⟨y, rfl⟩ : ∃ y : Nat, x = y := ⟨x.toNat, by omega⟩
      have hD := Lib.hid (fun w' => data_yes (n : Int) (y : Int) (by omega) (by omega) hx2 hq2 hx w')
      clear hq2
      go_enter Tryz.func98, Tryz.ntmps98
      go_wp2_with fail
      go_quiet (fail)
      go_wp2_with fail
      obtain ⟨wA, hwA⟩ : ∃ wA, wA = (w.alloc (.cells #[iv 0, iv 0] 163)).drewN nq := ⟨_, rfl⟩
      rw [← hwA]
      have hA : wA.heap[w.heap.size]? = some (.cells #[iv 0, iv 0] 163 (0, 0)) := by rw [hwA]; exact heap_alloc_new w _
      have hbA : Below w.heap.size w wA := by rw [hwA]; exact bdrew HB.out _
      clear hwA
      refine (hD.out _).mono ?_
      rintro e w1 ⟨rfl, hB1⟩
      have hlt : w.heap.size < wA.heap.size := (Array.getElem?_eq_some_iff.1 hA).1
      have h1A : w1.heap[w.heap.size]? = some (.cells #[iv 0, iv 0] 163 (0, 0)) := by rw [hB1.block _ hlt]; exact hA
      have d0 : w1.cell? ⟨w.heap.size, 0, none⟩ = some (iv 0) := by rw [cell_of_row _ _ _ _ _ _ h1A]; rfl
      have d1 : w1.cell? ⟨w.heap.size, 1, none⟩ = some (iv 0) := by rw [cell_of_row _ _ _ _ _ _ h1A]; rfl
      have f0 : w1.frozen? ⟨w.heap.size, 0, none⟩ = false := frozen_of_row _ _ _ _ _ h1A
      have f1 : w1.frozen? ⟨w.heap.size, 1, none⟩ = false := frozen_of_row _ _ _ _ _ h1A
      have HB1 := Lib.hid (hbA.trans (hB1.mono hbA.size))
      clear hB1 hbA hA h1A hlt
      have e1 : Lay.disk (n : Int) ((y : Int) / ((n : Int) - 2)) ((y : Int) % ((n : Int) - 2)) = (Ar.dk n (y / (n - 2)) (y % (n - 2)) : Int) ∧ (y : Int) / ((n : Int) - 2) = ((y / (n - 2) : Nat) : Int) := by
        rw [show (n : Int) - 2 = ((n - 2 : Nat) : Int) by omega, ← Int.natCast_ediv, ← Int.natCast_emod, dk_int (by omega)]
        exact ⟨rfl, rfl⟩
      rw [e1.1, e1.2]
      have E1 := Lib.hid e1
      clear e1
      go_wp2_with fail
      exact bodyPost_ret (v := .tuple #[.agg #[iv (Ar.dk n (y / (n - 2)) (y % (n - 2))), iv (y / (n - 2) : Nat)], .nilIface]) (by simp [results, Tryz.results98, go_sem, d0, d1]) rfl ⟨fun _ => (by rw [Int.toNat_natCast]), fun h => absurd ⟨hx2, h2⟩ h, (HB1.out.setCell (p := ⟨w.heap.size, 0, none⟩) (Nat.le_refl _) _).setCell (p := ⟨w.heap.size, 1, none⟩) (Nat.le_refl _) _⟩
    · have h2' : (m : Int) ≤ x := by omega
      go_enter Tryz.func98, Tryz.ntmps98
      go_wp2_with fail
      go_quiet (fail)
      go_wp2_with fail
      exact bodyPost_ret (v := .tuple #[.agg #[iv 0, iv 0], ev 1]) (by simp [results, Tryz.results98, go_sem]) rfl ⟨fun h => absurd h.2 (by omega), fun _ => rfl, ((bdrew HB.out _).setCell (p := ⟨w.heap.size, 0, none⟩) (Nat.le_refl _) _).setCell (p := ⟨w.heap.size, 1, none⟩) (Nat.le_refl _) _⟩
end Go.Proofs.YtneebcniofolmaaGreatDoor
namespace Go.Proofs.YtneebcniofolmaaGreatDoor
open Go.ChangeShapes Go.WideShapes Go.ChangeAt Go.RowKit
set_option linter.unusedVariables false
/-- lists of one's own of two types lie in two blocks -/
theorem own_ne {w : World} {b1 b2 : Nat} {e1 e2 : TypeId} {v v' : Value} {n n' : Nat} {xs xs' : List Value} (h : w.ownsRow b1 e1 1 v n xs) (h' : w.ownsRow b2 e2 1 v' n' xs') (he : e1 ≠ e2) : ∀ g, v.ownBlock = some g → v'.ownBlock ≠ some g := by
  intro g hg hg'
  rcases h.2 with ⟨rfl, _⟩ | ⟨g1, c1, cur1, rfl, _, k1, _⟩
  · cases hg
  · rcases h'.2 with ⟨rfl, _⟩ | ⟨g2, c2, cur2, rfl, _, k2, _⟩
    · cases hg'
    · cases hg
      cases hg'
      exact at_apart k1 k2 he rfl
def ordN (n row m : Nat) : List Value := (List.range m).map fun j => iv (Ar.dk n row j)
theorem ordN_get {n row m k : Nat} (h : k < m) : (ordN n row m)[k]? = some (iv (Ar.dk n row k)) := by unfold ordN; rw [List.getElem?_map, List.getElem?_range h]; rfl
theorem ordN_eq {n row : Nat} (h : 0 < n) (m : Nat) : Lay.orderL (n : Int) (row : Int) m = ordN n row m := by
  unfold Lay.orderL ordN
  exact List.map_congr_left (fun j _ => by rw [dk_int h])
def tabS (m : Nat) (f : Nat → ByteArray) : List Value := (List.range m).map fun j => .string (f j)
def tabB (m : Nat) (f : Nat → Bool) : List Value := (List.range m).map fun j => .bool (f j)
theorem tabS_succ (m : Nat) (f : Nat → ByteArray) : tabS (m + 1) f = tabS m f ++ [.string (f m)] := by unfold tabS; rw [List.range_succ, List.map_append]; rfl
theorem tabB_succ (m : Nat) (f : Nat → Bool) : tabB (m + 1) f = tabB m f ++ [.bool (f m)] := by unfold tabB; rw [List.range_succ, List.map_append]; rfl
def PartsRel (base n row : Nat) (PS : Nat → ByteArray) (LS : Nat → Bool) (w : World) (vo : Value) (gk : Nat) (v10 v11 v31 : Value) (wr : World) : Prop :=
  ∃ k : Nat, k + gk = n ∧ v31 = iv k ∧ wr.ownsRow base 9 1 v10 k (tabS k PS) ∧ wr.ownsRow base 4 1 v11 k (tabB k LS) ∧ wr.ownsRow base 3 1 vo n (ordN n row n) ∧ Below base w wr
def PartsPost (n row : Nat) (PS : Nat → ByteArray) (LS : Nat → Bool) (w : World) (e : Ending) (w' : World) : Prop :=
  ∃ v1 v2 v3, e = .returned (.tuple #[v1, v2, v3, .nilIface]) ∧ w'.ownsRow w.heap.size 9 1 v1 n (tabS n PS) ∧ w'.ownsRow w.heap.size 4 1 v2 n (tabB n LS) ∧ w'.ownsRow w.heap.size 3 1 v3 n (ordN n row n) ∧ Below w.heap.size w w'
theorem info_strY : (Tryz.prog.info? 9).map (fun i => (i.zero, i.size, i.bytes)) = some (some (.string ⟨#[]⟩), 1, 16) := by kernel_rfl
theorem info_boolY : (Tryz.prog.info? 4).map (fun i => (i.zero, i.size, i.bytes)) = some (some (.bool false), 1, 1) := by kernel_rfl
variable {w : World} {b g c : Nat} {mb db : Nat → Nat} {n rows size : Nat} {ms : Nat → Dk.D} {bt : Nat → Nat}
def seenAt (ms : Nat → Dk.D) (bt : Nat → Nat) (d row : Nat) : ByteArray := if lostB ms bt d row then ⟨#[]⟩ else (ms d).rows.getD row ⟨#[]⟩
set_option maxRecDepth 100000 in
set_option maxHeartbeats 2000000 in
theorem aparts_any (h : AryAt w b g c mb db n rows size ms bt) (h3 : 3 ≤ n) (h10 : n ≤ 10) (hb9 : ∀ d, d < n → bt d ≤ 1000) (row : Nat) (hr : row < rows) (hr20 : rows ≤ 20) (hm : ∀ d, d < n → (ms d).many = rows) :
    Calls Tryz.prog 101 #[.pointer (some ⟨b, 0, none⟩), iv row] w (PartsPost n row (fun j => seenAt ms bt (Ar.dk n row j) row) (fun j => lostB ms bt (Ar.dk n row j) row) w) := by
  have c0 := h.c0
  have hc1 := h.cap.1
  have hc2 := h.cap.2
  unfold maxLen at hc2
  have HA := Lib.hid h
  have Hm := Lib.hid hm
  have Hb9 := Lib.hid hb9
  have HO := Lib.hid (order_yes (n : Int) (row : Int) (by omega) (by omega) (by omega) (by omega) w)
  clear h hm hb9
  go_enter Tryz.func101, Tryz.ntmps101
  go_wp2_with fail
  refine HO.out.mono ?_
  rintro e w1 ⟨vo, rfl, hO1, hB1⟩
  rw [Int.toNat_natCast, ordN_eq (by omega)] at hO1
  obtain ⟨go, co, rfl, _, _, hco1, hco2, _, _⟩ := owns_pos hO1 (by omega)
  unfold maxLen at hco2
  have HO1 := Lib.hid hO1
  have HB1 := Lib.hid hB1
  clear hO1 hB1 c0 HO
  go_wp2_with fail
  go_loopg [10, 11, 13, 14, 15, 31] n (fun gk v10 v11 v13 v14 v15 v31 wr => PartsRel w.heap.size n row (fun j => seenAt ms bt (Ar.dk n row j) row) (fun j => lostB ms bt (Ar.dk n row j) row) w (.slice (some ⟨go, 0, none⟩) n co) gk v10 v11 v31 wr)
  case atStart => exact ⟨0, by omega, rfl, World.ownsRow_nil _ _ _ _, World.ownsRow_nil _ _ _ _, HO1.out, HB1.out⟩
  case round =>
    clear HO1 HB1
    obtain ⟨k, hk, rfl, hP, hL, hO, hB⟩ := hrel
    have hzr := hB.size
    have Hk := Lib.hid hk
    have HP := Lib.hid hP
    have HL := Lib.hid hL
    have HO := Lib.hid hO
    have HB := Lib.hid hB
    clear hk hP hL hB
    by_cases hlt : k < n
    · have c1 : wr.cell? ⟨go, k, none⟩ = some (iv (Ar.dk n row k)) := (hO.cellAt k (by omega)).trans (ordN_get hlt)
      have HA1 := Lib.hid (HA.out.below HB.out)
      have hd : Ar.dk n row k < n := Ar.dk_lt (by omega)
      obtain ⟨d, hd0⟩ : ∃ d, d = Ar.dk n row k := ⟨_, rfl⟩
      rw [← hd0] at c1 hd
      have Hs : Hid (seenAt ms bt (Ar.dk n row k) row = seenAt ms bt d row) := Lib.hid (by rw [hd0])
      have Hl : Hid (lostB ms bt (Ar.dk n row k) row = lostB ms bt d row) := Lib.hid (by rw [hd0])
      have hsd : seenAt ms bt d row = if lostB ms bt d row then ⟨#[]⟩ else (ms d).rows.getD row ⟨#[]⟩ := rfl
      rw [hsd] at Hs
      clear hd0 hsd
      have HLo := Lib.hid (alost_any HA1.out hd row (Hb9.out d hd) (by omega))
      have HR := Lib.hid (read_any (HA1.out.dsk d hd) (row : Int))
      have hmd := Hm.out d hd
      cases hf : lostB ms bt d row with
      | true =>
        rw [hf] at HLo Hl Hs
        rw [if_pos rfl] at Hs
        clear hO hf HR hmd
        go_wp2_with fail
        refine HLo.out.mono ?_
        rintro e w' ⟨rfl, rfl⟩
        go_wp2_with (at_builtin; refine app1 w wr (.string ⟨#[]⟩) 9 23 rfl _ _ rfl w.heap.size Tryz.underlying23 info_strY rfl _ k _ rfl _ rfl rfl HP.out rfl ?c1 ?c2 hzr HB.out ?_)
        case c1 => omega
        case c2 => omega
        intro v8 w8 hP8 hB8 hg8 hat8
        have hL8 := Kept.owns HL.out (Kept.grown hg8) (fun q hq e => own_ne HL.out HP.out (by decide) q hq e.symm)
        have hO8 := Kept.owns HO.out (Kept.grown hg8) (fun q hq e => own_ne HO.out HP.out (by decide) q hq e.symm)
        have HP8 := Lib.hid hP8
        have HL8 := Lib.hid hL8
        have HO8 := Lib.hid hO8
        have HB8 := Lib.hid hB8
        have hz8 := hB8.size
        clear hP8 hL8 hO8 hB8 hg8 hat8
        go_wp2_with (at_builtin; refine app1 w w8 (.bool true) 4 55 rfl _ _ rfl w.heap.size Tryz.underlying55 info_boolY rfl _ k _ rfl _ rfl rfl HL8.out rfl ?c3 ?c4 hz8 HB8.out ?_)
        case c3 => omega
        case c4 => omega
        intro v9 w9 hL9 hB9 hg9 hat9
        have hP9 := Kept.owns HP8.out (Kept.grown hg9) (fun q hq e => own_ne HP8.out HL8.out (by decide) q hq e.symm)
        have hO9 := Kept.owns HO8.out (Kept.grown hg9) (fun q hq e => own_ne HO8.out HL8.out (by decide) q hq e.symm)
        have HP9 := Lib.hid hP9
        have HL9 := Lib.hid hL9
        have HO9 := Lib.hid hO9
        have HB9 := Lib.hid hB9
        clear hP9 hL9 hO9 hB9 hg9 hat9
        go_wp2_with fail
        go_roundg (gk - 1)
        case measure => have := Hk.out; omega
        case rel => exact ⟨k + 1, by have := Hk.out; omega, by go_num, by rw [tabS_succ, Hs.out]; exact HP9.out, by rw [tabB_succ, Hl.out]; exact HL9.out, HO9.out, HB9.out⟩
      | false =>
        rw [hf] at HLo Hl Hs
        have hfl : (ms d).failed = false := by unfold lostB at hf; rw [Bool.or_eq_false_iff] at hf; exact hf.1
        have hrd : (ms d).read (row : Int) = ((ms d).rows.getD row ⟨#[]⟩, 0) := by
          have hr0 : (ms d).ready (row : Int) = 0 := by
            unfold Dk.D.ready
            rw [hfl, hmd, if_neg (by decide), if_neg (by omega)]
          unfold Dk.D.read
          rw [if_pos hr0, Int.toNat_natCast]
        rw [hrd, errV_0] at HR
        rw [if_neg (by decide)] at Hs
        have c2 := HA1.out.c0
        have c3 := HA1.out.lst d hd
        have c4 := HA1.out.m0 hd
        generalize (ms d).rows.getD row ⟨#[]⟩ = x at *
        generalize mb d = mbd at *
        generalize db d = dbd at *
        clear hO hf hmd hfl hrd
        go_wp2_with fail
        refine HLo.out.mono ?_
        rintro e w' ⟨rfl, rfl⟩
        go_wp2_with fail
        refine HR.out.mono ?_
        rintro e w' ⟨rfl, rfl⟩
        go_wp2_with (at_builtin; refine app1 w wr (.string x) 9 23 rfl _ _ rfl w.heap.size Tryz.underlying23 info_strY rfl _ k _ rfl _ rfl rfl HP.out rfl ?c1 ?c2 hzr HB.out ?_)
        case c1 => omega
        case c2 => omega
        intro v8 w8 hP8 hB8 hg8 hat8
        have hL8 := Kept.owns HL.out (Kept.grown hg8) (fun q hq e => own_ne HL.out HP.out (by decide) q hq e.symm)
        have hO8 := Kept.owns HO.out (Kept.grown hg8) (fun q hq e => own_ne HO.out HP.out (by decide) q hq e.symm)
        have HP8 := Lib.hid hP8
        have HL8 := Lib.hid hL8
        have HO8 := Lib.hid hO8
        have HB8 := Lib.hid hB8
        have hz8 := hB8.size
        clear hP8 hL8 hO8 hB8 hg8 hat8
        go_wp2_with (at_builtin; refine app1 w w8 (.bool false) 4 55 rfl _ _ rfl w.heap.size Tryz.underlying55 info_boolY rfl _ k _ rfl _ rfl rfl HL8.out rfl ?c3 ?c4 hz8 HB8.out ?_)
        case c3 => omega
        case c4 => omega
        intro v9 w9 hL9 hB9 hg9 hat9
        have hP9 := Kept.owns HP8.out (Kept.grown hg9) (fun q hq e => own_ne HP8.out HL8.out (by decide) q hq e.symm)
        have hO9 := Kept.owns HO8.out (Kept.grown hg9) (fun q hq e => own_ne HO8.out HL8.out (by decide) q hq e.symm)
        have HP9 := Lib.hid hP9
        have HL9 := Lib.hid hL9
        have HO9 := Lib.hid hO9
        have HB9 := Lib.hid hB9
        clear hP9 hL9 hO9 hB9 hg9 hat9
        go_wp2_with fail
        go_roundg (gk - 1)
        case measure => have := Hk.out; omega
        case rel => exact ⟨k + 1, by have := Hk.out; omega, by go_num, by rw [tabS_succ, Hs.out]; exact HP9.out, by rw [tabB_succ, Hl.out]; exact HL9.out, HO9.out, HB9.out⟩
    · have hkn : k = n := by have := Hk.out; omega
      subst hkn
      clear hO
      go_wp2_with fail
      exact bodyPost_ret (v := .tuple #[u10, u11, Value.slice (some ⟨go, 0, none⟩) k co, .nilIface]) (by simp [results, Tryz.results101, go_sem]) rfl ⟨_, _, _, rfl, HP.out, HL.out, HO.out, HB.out⟩
end Go.Proofs.YtneebcniofolmaaGreatDoor
