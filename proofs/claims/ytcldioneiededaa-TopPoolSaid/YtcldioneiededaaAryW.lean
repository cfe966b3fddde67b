/- The array of disks in memory. -/
import Derived.Test.YtcldioneiededaaAryP
import Derived.Test.YtcldioneiededaaDiskY
namespace Go.Proofs.Ytcldioneiededaa
open Go.ChangeShapes Go.WideShapes Go.ChangeAt Go.RowKit
set_option linter.unusedVariables false
structure AryAt (w : World) (b g c : Nat) (mb db : Nat → Nat) (n rows size : Nat) (ms : Nat → Dk.D) (bt : Nat → Nat) : Prop where
  blk : w.heap[b]? = some (.cells #[.slice (some ⟨g, 0, none⟩) (n : Nat) c, iv rows, iv size] 56 (0, 0))
  cap : n ≤ c ∧ c ≤ maxLen
  lst : ∀ i, i < n → w.cell? ⟨g, i, none⟩ = some (.pointer (some ⟨mb i, 0, none⟩))
  mem : ∀ i, i < n → w.heap[mb i]? = some (.cells #[.pointer (some ⟨db i, 0, none⟩), iv (bt i)] 62 (0, 0))
  dsk : ∀ i, i < n → DiskAt w (db i) (ms i)
  inj : ∀ i j, i < n → j < n → mb i = mb j → i = j
  inj2 : ∀ i j, i < n → j < n → db i = db j → i = j
  ng : ∀ i, i < n → g ≠ mb i ∧ g ≠ db i
theorem at_apart {w : World} {p q : Nat} {u v : Array Value} {s t : TypeId} (h : w.heap[p]? = some (.cells u s (0, 0))) (h' : w.heap[q]? = some (.cells v t (0, 0))) (hst : s ≠ t) : p ≠ q := fun e => by
  subst e
  rw [h] at h'
  injection h' with h'
  injection h' with _ h' _
  exact hst h'
namespace AryAt
variable {w w1 : World} {b g c : Nat} {mb db : Nat → Nat} {n rows size : Nat} {ms : Nat → Dk.D} {bt : Nat → Nat}
theorem nbm (h : AryAt w b g c mb db n rows size ms bt) {i : Nat} (hi : i < n) : b ≠ mb i := at_apart h.blk (h.mem i hi) (by decide)
theorem nbd (h : AryAt w b g c mb db n rows size ms bt) {i : Nat} (hi : i < n) : b ≠ db i := at_apart h.blk (h.dsk i hi).blk (by decide)
theorem nmd (h : AryAt w b g c mb db n rows size ms bt) {i j : Nat} (hi : i < n) (hj : j < n) : mb i ≠ db j := at_apart (h.mem i hi) (h.dsk j hj).blk (by decide)
theorem lt (h : AryAt w b g c mb db n rows size ms bt) : b < w.heap.size := (Array.getElem?_eq_some_iff.1 h.blk).1
theorem ltm (h : AryAt w b g c mb db n rows size ms bt) {i : Nat} (hi : i < n) : mb i < w.heap.size := (Array.getElem?_eq_some_iff.1 (h.mem i hi)).1
theorem ltd (h : AryAt w b g c mb db n rows size ms bt) {i : Nat} (hi : i < n) : db i < w.heap.size := (h.dsk i hi).lt
theorem ltg (h : AryAt w b g c mb db n rows size ms bt) (h0 : 0 < n) : g < w.heap.size := World.block_lt_of_cell? w _ (h.lst 0 h0)
theorem cell (h : AryAt w b g c mb db n rows size ms bt) (j : Nat) : w.cell? ⟨b, j, none⟩ = #[Value.slice (some ⟨g, 0, none⟩) (n : Nat) c, iv rows, iv size][j]? := by rw [cell_of_row _ _ _ _ _ _ h.blk]
theorem c0 (h : AryAt w b g c mb db n rows size ms bt) : w.cell? ⟨b, 0, none⟩ = some (.slice (some ⟨g, 0, none⟩) (n : Nat) c) := by rw [h.cell]; rfl
theorem c1 (h : AryAt w b g c mb db n rows size ms bt) : w.cell? ⟨b, 1, none⟩ = some (iv rows) := by rw [h.cell]; rfl
theorem c2 (h : AryAt w b g c mb db n rows size ms bt) : w.cell? ⟨b, 2, none⟩ = some (iv size) := by rw [h.cell]; rfl
theorem m0 (h : AryAt w b g c mb db n rows size ms bt) {i : Nat} (hi : i < n) : w.cell? ⟨mb i, 0, none⟩ = some (.pointer (some ⟨db i, 0, none⟩)) := by rw [cell_of_row _ _ _ _ _ _ (h.mem i hi)]; rfl
theorem m1 (h : AryAt w b g c mb db n rows size ms bt) {i : Nat} (hi : i < n) : w.cell? ⟨mb i, 1, none⟩ = some (iv (bt i)) := by rw [cell_of_row _ _ _ _ _ _ (h.mem i hi)]; rfl
theorem mf (h : AryAt w b g c mb db n rows size ms bt) {i : Nat} (hi : i < n) (j : Nat) : w.frozen? ⟨mb i, j, none⟩ = false := frozen_of_row _ _ _ _ _ (h.mem i hi)
theorem kept {T : Nat → Prop} (h : AryAt w b g c mb db n rows size ms bt) (hk : Kept T w w1) (hb : ¬ T b) (hg : ¬ T g) (hm : ∀ i, i < n → ¬ T (mb i) ∧ ¬ T (db i)) : AryAt w1 b g c mb db n rows size ms bt :=
  ⟨hk.heap h.blk hb, h.cap, fun i hi => hk.cell (h.lst i hi) hg, fun i hi => hk.heap (h.mem i hi) (hm i hi).1, fun i hi => (h.dsk i hi).kept hk (hm i hi).2, h.inj, h.inj2, h.ng⟩
theorem below (h : AryAt w b g c mb db n rows size ms bt) (hb : Below w.heap.size w w1) : AryAt w1 b g c mb db n rows size ms bt :=
  h.kept (Kept.new (fun _ => False) hb) (fun h => h) (fun h => h) (fun _ _ => ⟨fun h => h, fun h => h⟩)
theorem turnD {i : Nat} {d : Dk.D} (h : AryAt w b g c mb db n rows size ms bt) (hi : i < n) (hk : Kept (· = db i) w w1) (hd : DiskAt w1 (db i) d) : AryAt w1 b g c mb db n rows size (Ar.up ms i d) bt := by
  refine ⟨hk.heap h.blk (h.nbd hi), h.cap, fun j hj => hk.cell (h.lst j hj) (h.ng i hi).2, fun j hj => hk.heap (h.mem j hj) (h.nmd hj hi), fun j hj => ?_, h.inj, h.inj2, h.ng⟩
  by_cases e : j = i
  · subst e; rw [Ar.up_self]; exact hd
  · rw [Ar.up_ne _ _ e]; exact (h.dsk j hj).kept hk (fun e2 => e (h.inj2 j i hj hi e2))
theorem setB {i : Nat} (h : AryAt w b g c mb db n rows size ms bt) (hi : i < n) (x : Nat) : AryAt (w.setCell ⟨mb i, 1, none⟩ (iv x)) b g c mb db n rows size ms (Ar.up bt i x) := by
  have hk : Kept (· = mb i) w (w.setCell ⟨mb i, 1, none⟩ (iv x)) := (Kept.self (mb i) w).set1 _ _
  refine ⟨hk.heap h.blk (h.nbm hi), h.cap, fun j hj => hk.cell (h.lst j hj) (h.ng i hi).1, fun j hj => ?_, fun j hj => (h.dsk j hj).kept hk (fun e => h.nmd hi hj e.symm), h.inj, h.inj2, h.ng⟩
  by_cases e : j = i
  · subst e; rw [Ar.up_self, heap_setCell_same _ _ _ _ _ _ (h.mem j hj)]; rfl
  · rw [Ar.up_ne _ _ e]; exact hk.heap (h.mem j hj) (fun e2 => e (h.inj j i hj hi e2))
end AryAt
def AryIn (F : Nat → Prop) (b g n : Nat) (mb db : Nat → Nat) : Prop := F b ∧ F g ∧ ∀ i, i < n → F (mb i) ∧ F (db i)
/-- what the disks have is what is told, but where it is lost -/
structure ArySee (K : Nat) (s : Ar.S) (ms : Nat → Dk.D) : Prop where
  mn : ∀ d, d < s.n → (ms d).many = s.rows
  sz : ∀ d, d < s.n → (ms d).size = s.size
  ln : ∀ d, d < s.n → (ms d).rows.length = 20
  fl : ∀ d, d < s.n → (ms d).failed = s.fl d
  wr : ∀ d, d < s.n → (ms d).writes ≤ K
  cl : ∀ d r, d < s.n → r < s.rows → s.lost d r = false → (ms d).rows.getD r ⟨#[]⟩ = s.c d r
def AryOk (F : Nat → Prop) (K : Nat) (w : World) (b : Nat) (s : Ar.S) : Prop :=
  s.Ok ∧ ∃ g c mb db ms, AryAt w b g c mb db s.n s.rows s.size ms s.bt ∧ AryIn F b g s.n mb db ∧ ArySee K s ms
theorem AryOk.ok {F : Nat → Prop} {K : Nat} {w : World} {b : Nat} {s : Ar.S} (h : AryOk F K w b s) : s.Ok := h.1
theorem AryOk.kept {F T : Nat → Prop} {K : Nat} {w w1 : World} {b : Nat} {s : Ar.S} (h : AryOk F K w b s) (hk : Kept T w w1) (hT : ∀ k, F k → ¬ T k) : AryOk F K w1 b s := by
  obtain ⟨ho, g, c, mb, db, ms, h1, h2, h3⟩ := h
  exact ⟨ho, g, c, mb, db, ms, h1.kept hk (hT _ h2.1) (hT _ h2.2.1) (fun i hi => ⟨hT _ (h2.2.2 i hi).1, hT _ (h2.2.2 i hi).2⟩), h2, h3⟩
theorem AryOk.below {F : Nat → Prop} {K : Nat} {w w1 : World} {b : Nat} {s : Ar.S} (h : AryOk F K w b s) (hb : Below w.heap.size w w1) : AryOk F K w1 b s := h.kept (Kept.new (fun _ => False) hb) (fun _ _ h => h)
theorem AryOk.wide {F F' : Nat → Prop} {K : Nat} {w : World} {b : Nat} {s : Ar.S} (h : AryOk F K w b s) (hF : ∀ k, k < w.heap.size → F k → F' k) : AryOk F' K w b s := by
  obtain ⟨ho, g, c, mb, db, ms, h1, h2, h3⟩ := h
  exact ⟨ho, g, c, mb, db, ms, h1, ⟨hF _ h1.lt h2.1, hF _ (h1.ltg (by have := ho.n3; omega)) h2.2.1, fun i hi => ⟨hF _ (h1.ltm hi) (h2.2.2 i hi).1, hF _ (h1.ltd hi) (h2.2.2 i hi).2⟩⟩, h3⟩
theorem AryOk.more {F : Nat → Prop} {K K' : Nat} {w : World} {b : Nat} {s : Ar.S} (h : AryOk F K w b s) (hK : K ≤ K') : AryOk F K' w b s := by
  obtain ⟨ho, g, c, mb, db, ms, h1, h2, h3⟩ := h
  exact ⟨ho, g, c, mb, db, ms, h1, h2, ⟨h3.mn, h3.sz, h3.ln, h3.fl, fun d hd => Nat.le_trans (h3.wr d hd) hK, h3.cl⟩⟩
end Go.Proofs.Ytcldioneiededaa
