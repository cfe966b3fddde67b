/- The reference's array in memory. -/
import Derived.Test.YtcldioneiededaaDoorAryN
import Derived.Test.YtcldioneiededaaDoorLayR
import Derived.Test.YtcldioneiededaaDoorRPqZ
namespace Go.Proofs.YtcldioneiededaaDoor
open Go.ChangeShapes Go.WideShapes Go.ChangeAt Go.RowKit
set_option linter.unusedVariables false
/-- a block whose first n cells are known -/
def CellsAt (w : World) (g : Nat) (E : TypeId) (n : Nat) (f : Nat → Value) : Prop := ∃ cur, w.heap[g]? = some (.cells cur E (0, 0)) ∧ ∀ j, j < n → cur[j]? = some (f j)
namespace CellsAt
variable {w w1 : World} {g : Nat} {E : TypeId} {n : Nat} {f : Nat → Value}
theorem lt (h : CellsAt w g E n f) : g < w.heap.size := by obtain ⟨_, h, _⟩ := h; exact (Array.getElem?_eq_some_iff.1 h).1
theorem cell (h : CellsAt w g E n f) {j : Nat} (hj : j < n) : w.cell? ⟨g, j, none⟩ = some (f j) := by obtain ⟨_, h, h2⟩ := h; rw [cell_of_row _ _ _ _ _ _ h]; exact h2 j hj
theorem fz (h : CellsAt w g E n f) (j : Nat) : w.frozen? ⟨g, j, none⟩ = false := by obtain ⟨_, h, h2⟩ := h; exact frozen_of_row _ _ _ _ _ h
theorem kept {T : Nat → Prop} (h : CellsAt w g E n f) (hk : Kept T w w1) (hg : ¬ T g) : CellsAt w1 g E n f := by obtain ⟨c, h, h2⟩ := h; exact ⟨c, hk.heap h hg, h2⟩
theorem below (h : CellsAt w g E n f) (hb : Below w.heap.size w w1) : CellsAt w1 g E n f := h.kept (Kept.new (fun _ => False) hb) (fun h => h)
theorem set (h : CellsAt w g E n f) {j : Nat} (hj : j < n) (x : Value) : CellsAt (w.setCell ⟨g, j, none⟩ x) g E n (Ar.up f j x) := by
  obtain ⟨c, h, h2⟩ := h
  refine ⟨c.setIfInBounds j x, heap_setCell_same _ _ _ _ _ _ h, fun i hi => ?_⟩
  have hjs : j < c.size := by have := h2 j hj; exact (Array.getElem?_eq_some_iff.1 this).1
  by_cases e : i = j
  · subst e; rw [Array.getElem?_setIfInBounds_self_of_lt hjs, Ar.up_self]
  · rw [Array.getElem?_setIfInBounds_ne (by omega), Ar.up_ne _ _ e]; exact h2 i hi
theorem ext {f' : Nat → Value} (h : CellsAt w g E n f) (he : ∀ j, j < n → f' j = f j) : CellsAt w g E n f' := by obtain ⟨c, h, h2⟩ := h; exact ⟨c, h, fun j hj => by rw [he j hj]; exact h2 j hj⟩
theorem ne {g' : Nat} {E' : TypeId} {n' : Nat} {f' : Nat → Value} (h : CellsAt w g E n f) (h' : CellsAt w g' E' n' f') (he : E ≠ E') : g ≠ g' := by
  obtain ⟨_, h, _⟩ := h; obtain ⟨_, h', _⟩ := h'
  exact at_apart h h' he
theorem of_own {base cap : Nat} {xs : List Value} (h : w.ownsRow base E 1 (.slice (some ⟨g, 0, none⟩) n cap) n xs) (hx : ∀ j, j < n → xs[j]? = some (f j)) : CellsAt w g E n f := by
  rcases h.2 with ⟨hv, _⟩ | ⟨g', cap', cur, hv, hb, hg, hnc, hcm, hcs, ht⟩
  · cases hv
  · cases hv
    refine ⟨cur, hg, fun j hj => ?_⟩
    have h3 := h.cellAt j (by omega)
    rw [cell_of_row _ _ _ _ _ _ hg] at h3
    rw [h3]; exact hx j hj
end CellsAt
structure RAryAt (w : World) (b gc gf gb cc cf cb : Nat) (gr cr : Nat → Nat) (n rows size : Nat) (fl : Nat → Bool) (bt : Nat → Nat) (C : Nat → Nat → ByteArray) : Prop where
  blk : w.heap[b]? = some (.cells #[iv n, iv rows, iv size, .slice (some ⟨gc, 0, none⟩) (n : Nat) cc, .slice (some ⟨gf, 0, none⟩) (n : Nat) cf, .slice (some ⟨gb, 0, none⟩) (n : Nat) cb] 110 (0, 0))
  caps : n ≤ cc ∧ cc ≤ maxLen ∧ n ≤ cf ∧ cf ≤ maxLen ∧ n ≤ cb ∧ cb ≤ maxLen
  lst : CellsAt w gc 40 n (fun d => .slice (some ⟨gr d, 0, none⟩) (rows : Nat) (cr d))
  rcap : ∀ d, d < n → rows ≤ cr d ∧ cr d ≤ maxLen
  row : ∀ d, d < n → CellsAt w (gr d) 9 rows (fun r => .string (C d r))
  fls : CellsAt w gf 4 n (fun d => .bool (fl d))
  bts : CellsAt w gb 3 n (fun d => iv (bt d))
  inj : ∀ i j, i < n → j < n → gr i = gr j → i = j
namespace RAryAt
variable {w w1 : World} {b gc gf gb cc cf cb : Nat} {gr cr : Nat → Nat} {n rows size : Nat} {fl : Nat → Bool} {bt : Nat → Nat} {C : Nat → Nat → ByteArray}
theorem lt (h : RAryAt w b gc gf gb cc cf cb gr cr n rows size fl bt C) : b < w.heap.size := (Array.getElem?_eq_some_iff.1 h.blk).1
theorem cell (h : RAryAt w b gc gf gb cc cf cb gr cr n rows size fl bt C) (j : Nat) : w.cell? ⟨b, j, none⟩ = #[iv n, iv rows, iv size, Value.slice (some ⟨gc, 0, none⟩) (n : Nat) cc, Value.slice (some ⟨gf, 0, none⟩) (n : Nat) cf, Value.slice (some ⟨gb, 0, none⟩) (n : Nat) cb][j]? := by rw [cell_of_row _ _ _ _ _ _ h.blk]
theorem c0 (h : RAryAt w b gc gf gb cc cf cb gr cr n rows size fl bt C) : w.cell? ⟨b, 0, none⟩ = some (iv n) := by rw [h.cell]; rfl
theorem c1 (h : RAryAt w b gc gf gb cc cf cb gr cr n rows size fl bt C) : w.cell? ⟨b, 1, none⟩ = some (iv rows) := by rw [h.cell]; rfl
theorem c2 (h : RAryAt w b gc gf gb cc cf cb gr cr n rows size fl bt C) : w.cell? ⟨b, 2, none⟩ = some (iv size) := by rw [h.cell]; rfl
theorem c3 (h : RAryAt w b gc gf gb cc cf cb gr cr n rows size fl bt C) : w.cell? ⟨b, 3, none⟩ = some (.slice (some ⟨gc, 0, none⟩) (n : Nat) cc) := by rw [h.cell]; rfl
theorem c4 (h : RAryAt w b gc gf gb cc cf cb gr cr n rows size fl bt C) : w.cell? ⟨b, 4, none⟩ = some (.slice (some ⟨gf, 0, none⟩) (n : Nat) cf) := by rw [h.cell]; rfl
theorem c5 (h : RAryAt w b gc gf gb cc cf cb gr cr n rows size fl bt C) : w.cell? ⟨b, 5, none⟩ = some (.slice (some ⟨gb, 0, none⟩) (n : Nat) cb) := by rw [h.cell]; rfl
theorem kept {T : Nat → Prop} (h : RAryAt w b gc gf gb cc cf cb gr cr n rows size fl bt C) (hk : Kept T w w1) (hb : ¬ T b) (hgc : ¬ T gc) (hgf : ¬ T gf) (hgb : ¬ T gb) (hr : ∀ d, d < n → ¬ T (gr d)) : RAryAt w1 b gc gf gb cc cf cb gr cr n rows size fl bt C :=
  ⟨hk.heap h.blk hb, h.caps, h.lst.kept hk hgc, h.rcap, fun d hd => (h.row d hd).kept hk (hr d hd), h.fls.kept hk hgf, h.bts.kept hk hgb, h.inj⟩
theorem below (h : RAryAt w b gc gf gb cc cf cb gr cr n rows size fl bt C) (hb : Below w.heap.size w w1) : RAryAt w1 b gc gf gb cc cf cb gr cr n rows size fl bt C :=
  h.kept (Kept.new (fun _ => False) hb) (fun h => h) (fun h => h) (fun h => h) (fun h => h) (fun _ _ h => h)
theorem nb {g : Nat} {E : TypeId} {m : Nat} {f : Nat → Value} (h : RAryAt w b gc gf gb cc cf cb gr cr n rows size fl bt C) (h' : CellsAt w g E m f) (hE : 110 ≠ E) : b ≠ g := by
  obtain ⟨_, h', _⟩ := h'; exact at_apart h.blk h' hE
theorem setF {d : Nat} (h : RAryAt w b gc gf gb cc cf cb gr cr n rows size fl bt C) (hd : d < n) (x : Bool) : RAryAt (w.setCell ⟨gf, d, none⟩ (.bool x)) b gc gf gb cc cf cb gr cr n rows size (Ar.up fl d x) bt C := by
  have hk : Kept (· = gf) w (w.setCell ⟨gf, d, none⟩ (.bool x)) := (Kept.self gf w).set1 _ _
  refine ⟨hk.heap h.blk (h.nb h.fls (by decide)), h.caps, h.lst.kept hk (h.lst.ne h.fls (by decide)), h.rcap, fun e he => (h.row e he).kept hk ((h.row e he).ne h.fls (by decide)), (h.fls.set hd _).ext (fun j _ => ?_), h.bts.kept hk (h.bts.ne h.fls (by decide)), h.inj⟩
  by_cases e : j = d
  · subst e; rw [Ar.up_self, Ar.up_self]
  · rw [Ar.up_ne _ _ e, Ar.up_ne _ _ e]
theorem setB {d : Nat} (h : RAryAt w b gc gf gb cc cf cb gr cr n rows size fl bt C) (hd : d < n) (x : Nat) : RAryAt (w.setCell ⟨gb, d, none⟩ (iv x)) b gc gf gb cc cf cb gr cr n rows size fl (Ar.up bt d x) C := by
  have hk : Kept (· = gb) w (w.setCell ⟨gb, d, none⟩ (iv x)) := (Kept.self gb w).set1 _ _
  refine ⟨hk.heap h.blk (h.nb h.bts (by decide)), h.caps, h.lst.kept hk (h.lst.ne h.bts (by decide)), h.rcap, fun e he => (h.row e he).kept hk ((h.row e he).ne h.bts (by decide)), h.fls.kept hk (h.fls.ne h.bts (by decide)), (h.bts.set hd _).ext (fun j _ => ?_), h.inj⟩
  by_cases e : j = d
  · subst e; rw [Ar.up_self, Ar.up_self]
  · rw [Ar.up_ne _ _ e, Ar.up_ne _ _ e]
theorem setC {d r : Nat} (h : RAryAt w b gc gf gb cc cf cb gr cr n rows size fl bt C) (hd : d < n) (hr : r < rows) (x : ByteArray) : RAryAt (w.setCell ⟨gr d, r, none⟩ (.string x)) b gc gf gb cc cf cb gr cr n rows size fl bt (Ar.up C d (Ar.up (C d) r x)) := by
  have hk : Kept (· = gr d) w (w.setCell ⟨gr d, r, none⟩ (.string x)) := (Kept.self (gr d) w).set1 _ _
  refine ⟨hk.heap h.blk (h.nb (h.row d hd) (by decide)), h.caps, h.lst.kept hk (h.lst.ne (h.row d hd) (by decide)), h.rcap, fun e he => ?_, h.fls.kept hk (h.fls.ne (h.row d hd) (by decide)), h.bts.kept hk (h.bts.ne (h.row d hd) (by decide)), h.inj⟩
  by_cases e2 : e = d
  · subst e2
    refine ((h.row e he).set hr _).ext (fun j _ => ?_)
    rw [Ar.up_self]
    by_cases e3 : j = r
    · subst e3; rw [Ar.up_self, Ar.up_self]
    · rw [Ar.up_ne _ _ e3, Ar.up_ne _ _ e3]
  · rw [Ar.up_ne _ _ e2]
    exact (h.row e he).kept hk (fun e3 => e2 (h.inj e d he hd e3))
end RAryAt
def RAryOk (F : Nat → Prop) (w : World) (b : Nat) (s : Ar.S) : Prop :=
  s.Ok ∧ ∃ gc gf gb cc cf cb gr cr C, RAryAt w b gc gf gb cc cf cb gr cr s.n s.rows s.size s.fl s.bt C ∧ (F b ∧ F gc ∧ F gf ∧ F gb ∧ ∀ d, d < s.n → F (gr d)) ∧ ∀ d r, d < s.n → r < s.rows → s.lost d r = false → C d r = s.c d r
theorem RAryOk.kept {F T : Nat → Prop} {w w1 : World} {b : Nat} {s : Ar.S} (h : RAryOk F w b s) (hk : Kept T w w1) (hT : ∀ k, F k → ¬ T k) : RAryOk F w1 b s := by
  obtain ⟨ho, gc, gf, gb, cc, cf, cb, gr, cr, C, h1, ⟨f1, f2, f3, f4, f5⟩, h3⟩ := h
  exact ⟨ho, gc, gf, gb, cc, cf, cb, gr, cr, C, h1.kept hk (hT _ f1) (hT _ f2) (hT _ f3) (hT _ f4) (fun d hd => hT _ (f5 d hd)), ⟨f1, f2, f3, f4, f5⟩, h3⟩
theorem RAryOk.below {F : Nat → Prop} {w w1 : World} {b : Nat} {s : Ar.S} (h : RAryOk F w b s) (hb : Below w.heap.size w w1) : RAryOk F w1 b s := h.kept (Kept.new (fun _ => False) hb) (fun _ _ h => h)
theorem RAryOk.wide {F F' : Nat → Prop} {w : World} {b : Nat} {s : Ar.S} (h : RAryOk F w b s) (hF : ∀ k, k < w.heap.size → F k → F' k) : RAryOk F' w b s := by
  obtain ⟨ho, gc, gf, gb, cc, cf, cb, gr, cr, C, h1, ⟨f1, f2, f3, f4, f5⟩, h3⟩ := h
  exact ⟨ho, gc, gf, gb, cc, cf, cb, gr, cr, C, h1, ⟨hF _ h1.lt f1, hF _ h1.lst.lt f2, hF _ h1.fls.lt f3, hF _ h1.bts.lt f4, fun d hd => hF _ (h1.row d hd).lt (f5 d hd)⟩, h3⟩
def RPost (F : Nat → Prop) (b : Nat) (k : Int) (s : Ar.S) (w : World) (e : Ending) (w' : World) : Prop := e = .returned (iv k) ∧ RAryOk F w' b s ∧ Kept F w w'
variable {F : Nat → Prop} {w : World} {b : Nat} {s : Ar.S}
set_option maxRecDepth 100000 in
theorem rGone (h : RAryOk F w b s) {d : Nat} (hd : d < s.n) (row : Nat) (hr : row ≤ 1000) :
    Calls Tryd.prog 65 #[.pointer (some ⟨b, 0, none⟩), iv d, iv row] w fun e w' => e = .returned (.bool (s.lost d row)) ∧ w = w' := by
  obtain ⟨ho, gc, gf, gb, cc, cf, cb, gr, cr, C, hA, hI, hS⟩ := h
  have hcaps := hA.caps
  obtain ⟨k1, k2, k3, k4, k5, k6⟩ := hcaps
  unfold maxLen at k2 k4 k6
  have c4 := hA.c4
  have c5 := hA.c5
  have e4 := hA.fls.cell hd
  have e5 := hA.bts.cell hd
  have hbt := ho.bt d hd
  have hr20 := ho.r20
  unfold Ar.S.lost
  generalize s.bt d = btd at *
  generalize s.fl d = f at *
  clear hA hI hS ho
  cases f with
  | true =>
    go_enter Tryd.func65, Tryd.ntmps65
    go_wp2_with fail
    go_ret
    exact ⟨rfl, rfl⟩
  | false =>
    by_cases hlt : btd ≤ row
    · have d1 : decide (btd ≤ row) = true := dec_t hlt
      rw [d1]
      clear d1
      go_enter Tryd.func65, Tryd.ntmps65
      go_wp2_with fail
      go_ret
      exact ⟨rfl, rfl⟩
    · have d1 : decide (btd ≤ row) = false := dec_f hlt
      rw [d1]
      clear d1
      go_enter Tryd.func65, Tryd.ntmps65
      go_wp2_with fail
      go_ret
      exact ⟨rfl, rfl⟩
end Go.Proofs.YtcldioneiededaaDoor
