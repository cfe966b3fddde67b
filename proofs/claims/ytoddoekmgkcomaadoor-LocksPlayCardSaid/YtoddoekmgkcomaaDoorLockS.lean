/- Locks, those that are left, and who came: three things in memory side by side. -/
import Derived.Test.YtoddoekmgkcomaaDoorLockD
namespace Go.Proofs.YtoddoekmgkcomaaDoor
open Go.ChangeShapes Go.WideShapes Go.ChangeAt Go.RowKit
set_option linter.unusedVariables false
theorem owns_base {w : World} {B B' : Nat} {e : TypeId} {size : Nat} {v : Value} {n : Nat} {xs : List Value} (h : w.ownsRow B e size v n xs) (hB : B' ≤ B) : w.ownsRow B' e size v n xs :=
  ⟨h.1, h.2.imp id fun ⟨g, cap, cur, h1, h2, h3⟩ => ⟨g, cap, cur, h1, by omega, h3⟩⟩
/-- an object of two lists (its fields may be stale), a list of locks, a list of ints: all apart -/
structure SS (T : TypeId) (w : World) (B b W : Nat) (x y vh vw : Value) (s : Lk.St) (lv ov : Value) (ls : List Lk.L) (os : List Int) : Prop where
  obj : LkSt T w B b x y vh vw s
  left : w.ownsRow W 52 4 lv ls.length (lcs ls)
  out : w.ownsRow W 3 1 ov os.length (os.map iv)
  d1 : ∀ g, lv.ownBlock = some g → ¬ foot b vh vw g
  d2 : ∀ g, ov.ownBlock = some g → ¬ foot b vh vw g
  d3 : ∀ g, lv.ownBlock = some g → ov.ownBlock ≠ some g
section
variable {T : TypeId} {w w1 : World} {B b W : Nat} {x y vh vw v : Value} {s : Lk.St} {lv ov : Value} {ls : List Lk.L} {os : List Int}
theorem SS.below (h : SS T w B b W x y vh vw s lv ov ls os) (hb : Below w.heap.size w w1) : SS T w1 B b W x y vh vw s lv ov ls os :=
  { h with obj := h.obj.below hb, left := owns_below h.left hb, out := owns_below h.out hb }
theorem SS.setX (h : SS T w B b W x y vh vw s lv ov ls os) (u : Value) : SS T (w.setCell ⟨b, 0, none⟩ u) B b W u y vh vw s lv ov ls os :=
  { h with obj := h.obj.setX u, left := h.left.kept (grown_set _ _ _ _) (own_but fun e => h.d1 b e (.inl rfl)), out := h.out.kept (grown_set _ _ _ _) (own_but fun e => h.d2 b e (.inl rfl)) }
/-- the first list has turned -/
theorem SS.new1 (h : SS T w B b W x y vh vw s lv ov ls os) {hs : List Lk.L} (hown : w1.ownsRow B 52 4 v hs.length (lcs hs)) (hg : w.grownBy w1 vh.ownBlock) (hat : ∀ g, v.ownBlock = some g → vh.ownBlock = some g ∨ w.heap.size ≤ g) :
    SS T w1 B b W x y v vw (hs, s.2) lv ov ls os := by
  have far : ∀ {u : Value}, (∀ g, u.ownBlock = some g → ¬ foot b vh vw g) → (∀ g, u.ownBlock = some g → g < w.heap.size) → ∀ g, u.ownBlock = some g → ¬ foot b v vw g := by
    intro u hu hlt g e hf
    rcases hf with hf | hf | hf
    · exact hu g e (.inl hf)
    · rcases hat g hf with e' | e'
      · exact hu g e (.inr (.inl e'))
      · have := hlt g e; omega
    · exact hu g e (.inr (.inr hf))
  exact ⟨h.obj.new1 hown hg hat, h.left.kept hg (own_else fun g e e' => h.d1 g e (.inr (.inl e'))), h.out.kept hg (own_else fun g e e' => h.d2 g e (.inr (.inl e'))),
    far h.d1 (fun g e => (h.left.lt g e).2), far h.d2 (fun g e => (h.out.lt g e).2), h.d3⟩
/-- who came has turned -/
theorem SS.newO (h : SS T w B b W x y vh vw s lv ov ls os) {o2 : List Int} (hown : w1.ownsRow W 3 1 v o2.length (o2.map iv)) (hg : w.grownBy w1 ov.ownBlock) (hat : ∀ g, v.ownBlock = some g → ov.ownBlock = some g ∨ w.heap.size ≤ g) :
    SS T w1 B b W x y vh vw s lv v ls o2 := by
  refine ⟨h.obj.kept (grown_kept hg (F := fun k => ov.ownBlock = some k) fun k e _ => e) (fun k hk e => h.d2 k e hk), h.left.kept hg (own_else fun g e e' => h.d3 g e e'), hown, h.d1, ?_, ?_⟩
  · intro g e hf
    rcases hat g e with e' | e'
    · exact h.d2 g e' hf
    · have := (h.obj.low hf).2; omega
  · intro g e e2
    rcases hat g e2 with e' | e'
    · exact h.d3 g e e'
    · have := (h.left.lt g e).2; omega
/-- those that are left have turned -/
theorem SS.newL (h : SS T w B b W x y vh vw s lv ov ls os) {l2 : List Lk.L} (hown : w1.ownsRow W 52 4 v l2.length (lcs l2)) (hg : w.grownBy w1 lv.ownBlock) (hat : ∀ g, v.ownBlock = some g → lv.ownBlock = some g ∨ w.heap.size ≤ g) :
    SS T w1 B b W x y vh vw s v ov l2 os := by
  refine ⟨h.obj.kept (grown_kept hg (F := fun k => lv.ownBlock = some k) fun k e _ => e) (fun k hk e => h.d1 k e hk), hown, h.out.kept hg (own_else fun g e e' => h.d3 g e' e), ?_, h.d2, ?_⟩
  · intro g e hf
    rcases hat g e with e' | e'
    · exact h.d1 g e' hf
    · have := (h.obj.low hf).2; omega
  · intro g e e2
    rcases hat g e with e' | e'
    · exact h.d3 g e' e2
    · have := (h.out.lt g e2).2; omega
/-- those that are left are those that wait from now on -/
theorem SS.swap (h : SS T w B b W x y vh vw s lv ov ls os) (hB : B ≤ W) : LkSt T (w.setCell ⟨b, 1, none⟩ lv) B b x lv vh lv (s.1, ls) :=
  let h1 := h.obj.setY lv
  ⟨h1.hb, h1.blk, h1.own1, owns_base (h.left.kept (grown_set _ _ _ _) (own_but fun e => h.d1 b e (.inl rfl))) hB, h1.n1, fun e => h.d1 b e (.inl rfl), fun g e e' => h.d1 g e' (.inr (.inl e))⟩
end
/-- other rows that turn do not stand in the way -/
theorem Way.other {b : Nat} {vh vw vh1 vw1 : Value} {w w1 w2 : World} {row : Option Nat} (h : Way b vh vw w vh1 vw1 w1) (hg : w1.grownBy w2 row) (hlow : ∀ k, row = some k → w.heap.size ≤ k) : Way b vh vw w vh1 vw1 w2 :=
  ⟨h.kept.trans (T' := fun k => row = some k) (grown_kept hg fun k e _ => e) (fun k hk e => by have := hlow k e; omega), h.new⟩
theorem Way.swap {b : Nat} {vh vw vh1 vw1 lv : Value} {w w1 : World} (h : Way b vh vw w vh1 vw1 w1) (hlow : ∀ g, lv.ownBlock = some g → w.heap.size ≤ g) : Way b vh vw w vh1 lv (w1.setCell ⟨b, 1, none⟩ lv) :=
  ⟨(h.set 1 lv).kept, fun k hk => by
    rcases hk with hk | hk | hk
    · exact h.new k (.inl hk)
    · exact h.new k (.inr (.inl hk))
    · exact .inr (hlow k hk)⟩
theorem sift_snoc : ∀ (r h f : List Lk.L) (o : List Int) (l : Lk.L), Lk.sift h f o (r ++ [l]) = let q := Lk.sift h f o r; if Lk.free q.1.1 l && Lk.free q.1.2 l then ((q.1.1 ++ [l], q.1.2), q.2 ++ [l.who]) else ((q.1.1, q.1.2 ++ [l]), q.2)
  | [], h, f, o, l => by simp [Lk.sift]
  | a :: r, h, f, o, l => by
    rw [List.cons_append, Lk.sift, Lk.sift]
    split
    · exact sift_snoc r _ _ _ l
    · exact sift_snoc r _ _ _ l
theorem sift_sizes : ∀ (r h f : List Lk.L) (o : List Int), (Lk.sift h f o r).1.1.length + (Lk.sift h f o r).1.2.length = h.length + f.length + r.length ∧ (Lk.sift h f o r).2.length ≤ o.length + r.length
  | [], h, f, o => by simp [Lk.sift]
  | a :: r, h, f, o => by
    rw [Lk.sift]
    split
    · have := sift_sizes r (h ++ [a]) f (o ++ [a.who])
      simp only [List.length_append, List.length_cons, List.length_nil] at this ⊢
      omega
    · have := sift_sizes r h (f ++ [a]) o
      simp only [List.length_append, List.length_cons, List.length_nil] at this ⊢
      omega
end Go.Proofs.YtoddoekmgkcomaaDoor
