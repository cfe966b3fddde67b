/- The reference's array: NewArray; paritysame.Bools. -/
import Derived.Test.YtneebcniofolmaaGreatDoorRArS
import Derived.Test.YtneebcniofolmaaGreatDoorScrC
import Derived.Test.YtneebcniofolmaaGreatDoorBlk
import Derived.Test.YtneebcniofolmaaGreatDoorLift
namespace Go.Proofs.YtneebcniofolmaaGreatDoor
open Go.ChangeShapes Go.WideShapes Go.ChangeAt Go.RowKit
set_option linter.unusedVariables false
theorem own_wide {w : World} {B B' : Nat} {E : TypeId} {v : Value} {n : Nat} {xs : List Value} (h : w.ownsRow B E 1 v n xs) (hB : B' ≤ B) : w.ownsRow B' E 1 v n xs := by
  refine ⟨h.1, ?_⟩
  rcases h.2 with h | ⟨g, c, cur, h1, h2, h3⟩
  · exact .inl h
  · exact .inr ⟨g, c, cur, h1, by omega, h3⟩
structure RMk (w : World) (b : Nat) (vc vf vb : Value) (vs : List Value) (kf kb n rows size : Nat) : Prop where
  blk : w.heap[b]? = some (.cells #[iv n, iv rows, iv size, vc, vf, vb] 57 (0, 0))
  lst : w.ownsRow b 23 1 vc vs.length vs
  fls : w.ownsRow b 4 1 vf kf (List.replicate kf (.bool false))
  bts : w.ownsRow b 3 1 vb kb (List.replicate kb (iv rows))
  row : ∀ (i : Nat) u, vs[i]? = some u → w.ownsRow b 9 1 u rows (List.replicate rows (.string (Dk.noughts size)))
  ap : ∀ (i j : Nat) u v, vs[i]? = some u → vs[j]? = some v → i ≠ j → ∀ g, u.ownBlock = some g → v.ownBlock ≠ some g
namespace RMk
variable {w w1 : World} {b : Nat} {vc vf vb : Value} {vs : List Value} {kf kb n rows size : Nat}
theorem lt (h : RMk w b vc vf vb vs kf kb n rows size) : b < w.heap.size := (Array.getElem?_eq_some_iff.1 h.blk).1
theorem below (h : RMk w b vc vf vb vs kf kb n rows size) (hb : Below w.heap.size w w1) : RMk w1 b vc vf vb vs kf kb n rows size :=
  ⟨by rw [hb.block b h.lt]; exact h.blk, owns_below h.lst hb, owns_below h.fls hb, owns_below h.bts hb, fun i u hu => owns_below (h.row i u hu) hb, h.ap⟩
theorem cell (h : RMk w b vc vf vb vs kf kb n rows size) (j : Nat) : w.cell? ⟨b, j, none⟩ = #[iv n, iv rows, iv size, vc, vf, vb][j]? := by rw [cell_of_row _ _ _ _ _ _ h.blk]
theorem c3 (h : RMk w b vc vf vb vs kf kb n rows size) : w.cell? ⟨b, 3, none⟩ = some vc := by rw [h.cell]; rfl
theorem c4 (h : RMk w b vc vf vb vs kf kb n rows size) : w.cell? ⟨b, 4, none⟩ = some vf := by rw [h.cell]; rfl
theorem c5 (h : RMk w b vc vf vb vs kf kb n rows size) : w.cell? ⟨b, 5, none⟩ = some vb := by rw [h.cell]; rfl
theorem f (h : RMk w b vc vf vb vs kf kb n rows size) (j : Nat) : w.frozen? ⟨b, j, none⟩ = false := frozen_of_row _ _ _ _ _ h.blk
theorem pushC {w' : World} {u v' : Value} (h : RMk w b vc vf vb vs kf kb n rows size) (hu : w.ownsRow b 9 1 u rows (List.replicate rows (.string (Dk.noughts size)))) (hua : ∀ (i : Nat) v, vs[i]? = some v → ∀ g, u.ownBlock = some g → v.ownBlock ≠ some g)
    (hO : w'.ownsRow b 23 1 v' (vs.length + 1) (vs ++ [u])) (hg : w.grownBy w' vc.ownBlock) : RMk (w'.setCell ⟨b, 3, none⟩ v') b v' vf vb (vs ++ [u]) kf kb n rows size := by
  have hk := Kept.grown hg
  have hb8 : w'.heap[b]? = some (.cells #[iv n, iv rows, iv size, vc, vf, vb] 57 (0, 0)) := hk.heap h.blk (fun e => own_apart h.lst h.blk (by decide) e.symm)
  have hs : Kept (· = b) w' (w'.setCell ⟨b, 3, none⟩ v') := (Kept.self b w').set1 _ _
  have sw : ∀ {E : TypeId} {v : Value} {m : Nat} {xs : List Value}, w.ownsRow b E 1 v m xs → (23 : TypeId) ≠ E → E ≠ (57 : TypeId) → (w'.setCell ⟨b, 3, none⟩ v').ownsRow b E 1 v m xs := fun {E v m xs} ho he he2 => by
    have h1 := Kept.owns ho hk (fun g hg e => own_ne h.lst ho he g e.symm hg)
    exact Kept.owns h1 hs (fun g hg e => own_apart h1 hb8 he2 (by rw [hg, e]))
  refine ⟨?_, ?_, sw h.fls (by decide) (by decide), sw h.bts (by decide) (by decide), fun i u2 h2 => ?_, fun i j u2 v2 h2 h3 hij g hg1 hg2 => ?_⟩
  · rw [heap_setCell_same _ _ _ _ _ _ hb8]; rfl
  · rw [List.length_append]
    exact Kept.owns hO hs (fun g hg e => own_apart hO hb8 (by decide) (by rw [hg, e]))
  · by_cases hik : i < vs.length
    · rw [List.getElem?_append_left hik] at h2
      exact sw (h.row i u2 h2) (by decide) (by decide)
    · have hi9 := (List.getElem?_eq_some_iff.1 h2).1
      rw [List.length_append] at hi9
      obtain rfl : i = vs.length := by simp at hi9; omega
      rw [List.getElem?_append_right (by omega), Nat.sub_self] at h2
      obtain rfl : u = u2 := Option.some.inj h2
      exact sw hu (by decide) (by decide)
  · have last : ∀ {i : Nat} {u2 : Value}, (vs ++ [u])[i]? = some u2 → (i < vs.length ∧ vs[i]? = some u2) ∨ (i = vs.length ∧ u2 = u) := fun {i u2} h2 => by
      by_cases hik : i < vs.length
      · rw [List.getElem?_append_left hik] at h2; exact .inl ⟨hik, h2⟩
      · have hi9 := (List.getElem?_eq_some_iff.1 h2).1
        rw [List.length_append] at hi9
        obtain rfl : i = vs.length := by simp at hi9; omega
        rw [List.getElem?_append_right (by omega), Nat.sub_self] at h2
        exact .inr ⟨rfl, (Option.some.inj h2).symm⟩
    rcases last h2 with ⟨_, h4⟩ | ⟨e1, e2⟩
    · rcases last h3 with ⟨_, h5⟩ | ⟨e3, e4⟩
      · exact h.ap i j u2 v2 h4 h5 hij g hg1 hg2
      · rw [e4] at hg2; exact hua i u2 h4 g hg2 hg1
    · rcases last h3 with ⟨_, h5⟩ | ⟨e3, e4⟩
      · rw [e2] at hg1; exact hua j v2 h5 g hg1 hg2
      · omega
theorem pushF {w' : World} {v' : Value} (h : RMk w b vc vf vb vs kf kb n rows size)
    (hO : w'.ownsRow b 4 1 v' (kf + 1) (List.replicate kf (.bool false) ++ [.bool false])) (hg : w.grownBy w' vf.ownBlock) : RMk (w'.setCell ⟨b, 4, none⟩ v') b vc v' vb vs (kf + 1) kb n rows size := by
  have hk := Kept.grown hg
  have hb8 : w'.heap[b]? = some (.cells #[iv n, iv rows, iv size, vc, vf, vb] 57 (0, 0)) := hk.heap h.blk (fun e => own_apart h.fls h.blk (by decide) e.symm)
  have hs : Kept (· = b) w' (w'.setCell ⟨b, 4, none⟩ v') := (Kept.self b w').set1 _ _
  have sw : ∀ {E : TypeId} {v : Value} {m : Nat} {xs : List Value}, w.ownsRow b E 1 v m xs → (4 : TypeId) ≠ E → E ≠ (57 : TypeId) → (w'.setCell ⟨b, 4, none⟩ v').ownsRow b E 1 v m xs := fun {E v m xs} ho he he2 => by
    have h1 := Kept.owns ho hk (fun g hg e => own_ne h.fls ho he g e.symm hg)
    exact Kept.owns h1 hs (fun g hg e => own_apart h1 hb8 he2 (by rw [hg, e]))
  refine ⟨?_, sw h.lst (by decide) (by decide), ?_, sw h.bts (by decide) (by decide), fun i u2 h2 => sw (h.row i u2 h2) (by decide) (by decide), h.ap⟩
  · rw [heap_setCell_same _ _ _ _ _ _ hb8]; rfl
  · rw [List.replicate_succ']
    exact Kept.owns hO hs (fun g hg e => own_apart hO hb8 (by decide) (by rw [hg, e]))
theorem pushB {w' : World} {v' : Value} (h : RMk w b vc vf vb vs kf kb n rows size)
    (hO : w'.ownsRow b 3 1 v' (kb + 1) (List.replicate kb (iv rows) ++ [iv rows])) (hg : w.grownBy w' vb.ownBlock) : RMk (w'.setCell ⟨b, 5, none⟩ v') b vc vf v' vs kf (kb + 1) n rows size := by
  have hk := Kept.grown hg
  have hb8 : w'.heap[b]? = some (.cells #[iv n, iv rows, iv size, vc, vf, vb] 57 (0, 0)) := hk.heap h.blk (fun e => own_apart h.bts h.blk (by decide) e.symm)
  have hs : Kept (· = b) w' (w'.setCell ⟨b, 5, none⟩ v') := (Kept.self b w').set1 _ _
  have sw : ∀ {E : TypeId} {v : Value} {m : Nat} {xs : List Value}, w.ownsRow b E 1 v m xs → (3 : TypeId) ≠ E → E ≠ (57 : TypeId) → (w'.setCell ⟨b, 5, none⟩ v').ownsRow b E 1 v m xs := fun {E v m xs} ho he he2 => by
    have h1 := Kept.owns ho hk (fun g hg e => own_ne h.bts ho he g e.symm hg)
    exact Kept.owns h1 hs (fun g hg e => own_apart h1 hb8 he2 (by rw [hg, e]))
  refine ⟨?_, sw h.lst (by decide) (by decide), sw h.fls (by decide) (by decide), ?_, fun i u2 h2 => sw (h.row i u2 h2) (by decide) (by decide), h.ap⟩
  · rw [heap_setCell_same _ _ _ _ _ _ hb8]; rfl
  · rw [List.replicate_succ']
    exact Kept.owns hO hs (fun g hg e => own_apart hO hb8 (by decide) (by rw [hg, e]))
def gO : Value → Nat
  | .slice (some a) _ _ => a.block
  | _ => 0
def cO : Value → Nat
  | .slice _ _ c => c
  | _ => 0
theorem done (h : RMk w b vc vf vb vs n n n rows size) (hl : vs.length = n) (hk : 3 ≤ n) (hk10 : n ≤ 10) (h1 : 1 ≤ rows) (h2 : rows ≤ 20) (h3 : 1 ≤ size) (h4 : size ≤ 16) : RAryOk (fun p => b ≤ p) w b (Ar.s0 n rows size) := by
  have hL := h.lst
  rw [hl] at hL
  have hLC := hL
  have hFC := h.fls
  have hBC := h.bts
  obtain ⟨gc, cc, rfl, a1, a2, a3, a4, a5, _⟩ := owns_pos hL (by omega)
  obtain ⟨gf, cf, rfl, b1, b2, b3, b4, b5, _⟩ := owns_pos h.fls (by omega)
  obtain ⟨gb, cb, rfl, d1, d2, d3, d4, d5, _⟩ := owns_pos h.bts (by omega)
  have hrow : ∀ i, i < n → ∃ u, vs[i]? = some u := fun i hi => ⟨_, List.getElem?_eq_getElem (by omega)⟩
  have key : ∀ i, i < n → vs[i]? = some (.slice (some ⟨gO (vs.getD i .nilIface), 0, none⟩) (rows : Nat) (cO (vs.getD i .nilIface))) := fun i hi => by
    obtain ⟨u, hu⟩ := hrow i hi
    obtain ⟨g, c, rfl, _⟩ := owns_pos (h.row i u hu) (by omega)
    have e : vs.getD i .nilIface = .slice (some ⟨g, 0, none⟩) rows c := by rw [List.getD_eq_getElem?_getD, hu]; rfl
    rw [e]; exact hu
  refine ⟨⟨hk, hk10, h1, h2, h3, h4, fun d r _ _ _ => Dk.noughts_size size, fun d _ => Nat.le_refl _⟩, gc, gf, gb, cc, cf, cb, fun i => gO (vs.getD i .nilIface), fun i => cO (vs.getD i .nilIface), fun _ _ => Dk.noughts size, ⟨h.blk, ⟨a3, a4, b3, b4, d3, d4⟩, CellsAt.of_own hLC key, fun d hd => ?_, fun d hd => ?_, CellsAt.of_own hFC (fun j hj => by rw [List.getElem?_replicate]; exact if_pos hj), CellsAt.of_own hBC (fun j hj => by rw [List.getElem?_replicate]; exact if_pos hj), fun i j hi hj e => ?_⟩, ⟨Nat.le_refl _, a1, b1, d1, fun d hd => ?_⟩, fun d r _ _ _ => rfl⟩
  · obtain ⟨g, c, e, _, _, e3, e4, _⟩ := owns_pos (h.row d _ (key d hd)) (by omega)
    injection e with _ _ e
    show rows ≤ cO (vs.getD d .nilIface) ∧ cO (vs.getD d .nilIface) ≤ maxLen
    rw [e]; exact ⟨e3, e4⟩
  · exact CellsAt.of_own (h.row d _ (key d hd)) (fun j hj => by rw [List.getElem?_replicate]; exact if_pos hj)
  · apply Classical.byContradiction
    intro hij
    exact h.ap i j _ _ (key i hi) (key j hj) hij _ rfl (by show some (gO (vs.getD j .nilIface)) = some (gO (vs.getD i .nilIface)); rw [e])
  · have := (h.row d _ (key d hd)).lt _ rfl
    exact this.1
end RMk
def RNewPost (n rows size : Nat) (w : World) (e : Ending) (w' : World) : Prop :=
  e = .returned (.pointer (some ⟨w.heap.size, 0, none⟩)) ∧ RAryOk (fun p => w.heap.size ≤ p) w' w.heap.size (Ar.s0 n rows size) ∧ Below w.heap.size w w'
set_option maxRecDepth 100000 in
set_option maxHeartbeats 4000000 in
theorem rNew (n rows size : Nat) (h3 : 3 ≤ n) (h10 : n ≤ 10) (h1 : 1 ≤ rows) (h2 : rows ≤ 20) (h4 : 1 ≤ size) (h5 : size ≤ 16) (w : World) :
    Calls Tryz.prog 8 #[iv n, iv rows, iv size] w (RNewPost n rows size w) := by
  have mk := make_bytes size (by omega)
  have cv := fun w' => conv_bytes0 size w'
  go_enter Tryz.func8, Tryz.ntmps8
  go_wp2_with fail
  obtain ⟨wA, hwA⟩ : ∃ wA, wA = w.alloc (.cells #[iv n, iv rows, iv size, .slice none 0 0, .slice none 0 0, .slice none 0 0] 57) := ⟨_, rfl⟩
  rw [← hwA]
  have hA : RMk wA w.heap.size (.slice none 0 0) (.slice none 0 0) (.slice none 0 0) [] 0 0 n rows size :=
    ⟨by rw [hwA]; exact heap_alloc_new _ _, World.ownsRow_nil _ _ _ _, World.ownsRow_nil _ _ _ _, World.ownsRow_nil _ _ _ _, fun i u hu => by simp at hu, fun i j u v hu => by simp at hu⟩
  have hB : Below w.heap.size w wA := by rw [hwA]; exact (Below.refl _ _).alloc (Nat.le_refl _) _
  have HA := Lib.hid hA
  have HB := Lib.hid hB
  clear hwA hA hB
  go_loopg [8, 9, 10] n (fun gk v8 v9 v10 wr => ∃ (k : Nat) (vc vf vb : Value) (vs : List Value), k + gk = n ∧ v8 = iv k ∧ vs.length = k ∧ RMk wr w.heap.size vc vf vb vs k k n rows size ∧ Below w.heap.size w wr)
  case atStart => exact ⟨0, _, _, _, [], by omega, rfl, rfl, HA.out, HB.out⟩
  case round =>
    clear HA HB
    obtain ⟨k, vc, vf, vb, vs, hk, rfl, hvl, hA, hB⟩ := hrel
    have Hk := Lib.hid hk
    have HA := Lib.hid hA
    have HB := Lib.hid hB
    have hz := hB.size
    have Hvl := Lib.hid hvl
    clear hk hA hB hvl
    by_cases hlt : k < n
    · go_wp2_with fail
      obtain ⟨wO, hwO⟩ : ∃ x : World, x = wr := ⟨_, rfl⟩
      obtain ⟨gO', hgO⟩ : ∃ x : Nat, x = gk := ⟨_, rfl⟩
      subst hwO hgO
      go_loopg [9, 10] rows (fun gk v9 v10 wr => ∃ r : Nat, r + gk = rows ∧ v10 = iv r ∧ wr.ownsRow wO.heap.size 9 1 v9 r (List.replicate r (.string (Dk.noughts size))) ∧ Below wO.heap.size wO wr)
      case atStart => exact ⟨0, by omega, rfl, World.ownsRow_nil _ _ _ _, Below.refl _ _⟩
      case round =>
        obtain ⟨r, hr, rfl, hown, hb⟩ := hrel
        have Hr := Lib.hid hr
        have Hown := Lib.hid hown
        have Hb := Lib.hid hb
        have hbz := hb.size
        by_cases hltr : r < rows
        · have hsucc : List.replicate r (Value.string (Dk.noughts size)) ++ [Value.string (Dk.noughts size)] = List.replicate (r + 1) (Value.string (Dk.noughts size)) := by
            rw [List.replicate_succ']
          have Hsucc := Lib.hid hsucc
          have hw2 : wr.heap.size + 1 = (wr.alloc (.cells (madeCells #[.int .u8 0] size) 5)).heap.size := by simp
          have Hw2 := Lib.hid hw2
          clear hr hown hb hsucc hw2
          go_wp2_with (at_builtin; refine app1 wO (wr.alloc (.cells (madeCells #[.int .u8 0] size) 5)) _ 9 23 rfl _ _ rfl wO.heap.size Tryz.underlying23 info_strY rfl _ _ _ rfl _ rfl Hw2.out (Hown.out.alloc _) rfl ?c1 ?c2 ?c3 ?c4 ?_)
          case c1 => omega
          case c2 => omega
          case c3 => simp; omega
          case c4 => exact Hb.out.alloc (by omega) _
          intro v' w1' hown1 hb1 hg1 _
          rw [Hsucc.out] at hown1
          have Hown1 := Lib.hid hown1
          have Hb1 := Lib.hid hb1
          clear hown1 hb1
          go_wp2_with fail
          go_roundg (gk - 1)
          case measure => have := Hr.out; omega
          case rel => exact ⟨r + 1, by have := Hr.out; omega, by go_num, Hown1.out, Hb1.out⟩
        · have hrr : r = rows := by omega
          subst hrr
          have hA1 := HA.out.below hb
          have HA1 := Lib.hid hA1
          have HB1 := Lib.hid (HB.out.trans (hb.mono hz))
          have hz1 := HB1.out.size
          have c3 := hA1.c3
          obtain ⟨g9, c9, hu9, y1, y2, y3, y4, _, _⟩ := owns_pos hown (by omega)
          subst hu9
          unfold maxLen at y4
          have f3 := hA1.f 3
          have hlb := hA1.lt
          have hvl : vs.length + 1 ≤ 1000000 := by rw [Hvl.out]; omega
          have Hua := Lib.hid (fun (i : Nat) v (hv : vs[i]? = some v) g (hg : (Value.slice (some ⟨g9, 0, none⟩) r c9).ownBlock = some g) => show v.ownBlock ≠ some g from fun e => by
            have q1 := (hown.lt g hg).1
            have q2 := ((HA.out.row i v hv).lt g e).2
            omega)
          have Hu9 := Lib.hid (own_wide hown (B' := w.heap.size) (by omega))
          have HA1b := Lib.hid hA1
          clear hr hown hb hA1 Hown Hb Hr
          go_wp2_with (at_builtin; refine app1 w wr (.slice (some ⟨g9, 0, none⟩) r c9) 23 54 rfl _ _ rfl w.heap.size Tryz.underlying54 info_rowS rfl vc vs.length vs rfl _ rfl rfl HA1.out.lst rfl ?c1 ?c2 ?c3 ?c4 ?_)
          case c1 => omega
          case c2 => omega
          case c3 => exact hz1
          case c4 => exact HB1.out
          intro v3 w3 hO3 hB3 hg3 _
          obtain ⟨x3, z3, hv3, _⟩ := owns_pos hO3 (by omega)
          subst hv3
          have hk3 := Kept.grown hg3
          have hbne : ¬ some w.heap.size = vc.ownBlock := fun e => own_apart HA1.out.lst HA1.out.blk (by decide) e.symm
          have g3 := hk3.cell HA1.out.c3 hbne
          have gf3 : w3.frozen? ⟨w.heap.size, 3, none⟩ = false := (hk3.frozen hlb hbne).trans f3
          have hM3 := HA1.out.pushC Hu9.out Hua.out hO3 hg3
          have HM3 := Lib.hid hM3
          have hB3b := hB3.setCell (p := ⟨w.heap.size, 3, none⟩) (Nat.le_refl _) (.slice (some ⟨x3, 0, none⟩) (vs.length + 1) z3)
          have HB3 := Lib.hid hB3b
          have hz3 := hB3b.size
          have p4 := hM3.c4
          clear hO3 hB3 hg3 hk3 hbne hM3 hB3b c3 f3 Hua Hu9
          go_upto_region 11 with (fail)
          obtain ⟨wC, hwC⟩ : ∃ wC, wC = w3.setCell ⟨w.heap.size, 3, none⟩ (.slice (some ⟨x3, 0, none⟩) (vs.length + 1) z3) := ⟨_, rfl⟩
          rw [← hwC] at HM3 HB3 hz3 p4 ⊢
          clear hwC
          go_wp2_with (at_builtin; refine app1 w wC (.bool false) 4 55 rfl _ _ rfl w.heap.size Tryz.underlying55 info_boolY rfl vf k _ rfl _ rfl rfl HM3.out.fls rfl ?c1 ?c2 ?c3 ?c4 ?_)
          case c1 => omega
          case c2 => omega
          case c3 => exact hz3
          case c4 => exact HB3.out
          intro v4 w4 hO4 hB4 hg4 _
          obtain ⟨x4, z4, hv4, _⟩ := owns_pos hO4 (by omega)
          subst hv4
          have hk4 := Kept.grown hg4
          have hbne : ¬ some w.heap.size = vf.ownBlock := fun e => own_apart HM3.out.fls HM3.out.blk (by decide) e.symm
          have g4 := hk4.cell HM3.out.c4 hbne
          have gf4 : w4.frozen? ⟨w.heap.size, 4, none⟩ = false := (hk4.frozen HM3.out.lt hbne).trans (HM3.out.f 4)
          have hM4 := HM3.out.pushF hO4 hg4
          have HM4 := Lib.hid hM4
          have hB4b := hB4.setCell (p := ⟨w.heap.size, 4, none⟩) (Nat.le_refl _) (.slice (some ⟨x4, 0, none⟩) (k + 1) z4)
          have HB4 := Lib.hid hB4b
          have hz4 := hB4b.size
          have p5 := hM4.c5
          clear hO4 hB4 hg4 hk4 hbne hM4 hB4b p4 g3 gf3
          go_upto_region 12 with (fail)
          obtain ⟨wD, hwD⟩ : ∃ wD, wD = w4.setCell ⟨w.heap.size, 4, none⟩ (.slice (some ⟨x4, 0, none⟩) (k + 1) z4) := ⟨_, rfl⟩
          rw [← hwD] at HM4 HB4 hz4 p5 ⊢
          clear hwD
          go_wp2_with (at_builtin; refine app1 w wD (iv r) 3 30 rfl _ _ rfl w.heap.size Tryz.underlying30 info_int rfl vb k _ rfl _ rfl rfl HM4.out.bts rfl ?c1 ?c2 ?c3 ?c4 ?_)
          case c1 => omega
          case c2 => omega
          case c3 => exact hz4
          case c4 => exact HB4.out
          intro v5 w5 hO5 hB5 hg5 _
          obtain ⟨x5, z5, hv5, _⟩ := owns_pos hO5 (by omega)
          subst hv5
          have hk5 := Kept.grown hg5
          have hbne : ¬ some w.heap.size = vb.ownBlock := fun e => own_apart HM4.out.bts HM4.out.blk (by decide) e.symm
          have g5 := hk5.cell HM4.out.c5 hbne
          have gf5 : w5.frozen? ⟨w.heap.size, 5, none⟩ = false := (hk5.frozen HM4.out.lt hbne).trans (HM4.out.f 5)
          have HM5 := Lib.hid (HM4.out.pushB hO5 hg5)
          have HB5 := Lib.hid (hB5.setCell (p := ⟨w.heap.size, 5, none⟩) (Nat.le_refl _) (.slice (some ⟨x5, 0, none⟩) (k + 1) z5))
          clear hO5 hB5 hg5 hk5 hbne p5 g4 gf4
          go_wp2_with fail
          go_roundg (gO' - 1)
          case measure => have := Hk.out; omega
          case rel => exact ⟨k + 1, _, _, _, _, by have := Hk.out; omega, by go_num, by rw [List.length_append, Hvl.out]; rfl, HM5.out, HB5.out⟩
    · have hkn : k = n := by have := Hk.out; omega
      subst hkn
      go_wp2_with fail
      go_ret
      exact ⟨rfl, HA.out.done Hvl.out h3 h10 h1 h2 h4 h5, HB.out⟩
end Go.Proofs.YtneebcniofolmaaGreatDoor
