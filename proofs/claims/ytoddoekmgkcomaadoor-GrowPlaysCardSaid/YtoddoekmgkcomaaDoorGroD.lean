/- The walk of Grow's Disks. -/
import Derived.Test.YtoddoekmgkcomaaDoorGroN
import Derived.Laws.AppendOwnNone
namespace Go.Proofs.YtoddoekmgkcomaaDoor
open Go.ChangeShapes Go.WideShapes Go.ChangeAt Go.RowKit
set_option linter.unusedVariables false
set_option maxRecDepth 100000 in
/-- a list of strings appended to nil: a copy of one's own -/
theorem copyS {ops : Array Oper} {rest : List Oper} {o : Oper} {a : Act} {Q : Exit → Act → World → Prop} (w : World) (hgd : o.guard = none) (s x : Operand)
    (ho : o.op = .call { callee := .builtin .append, args := #[s, x], argTypes := #[22, 22] }) (hs : a.eval s = .slice none 0 0) (l : List ByteArray) (v : Value) (hv : Strs w v l) (hx : a.eval x = v) (hl : l.length ≤ 1000000)
    (hK : ∀ v' w', w'.ownsRow w.heap.size 9 1 v' l.length (l.map Value.string) → Below w.heap.size w w' → wpList Tryd.prog ops Q rest (a.put o.dst v') w') :
    wpList Tryd.prog ops Q (o :: rest) a w := by
  obtain ⟨i0, hi, hz0, hz1, hz2⟩ := info_parts info_strG
  obtain ⟨p, cap, rfl, h1, h2, h0, h3⟩ := hv
  rw [List.length_map] at *
  cases p with
  | none =>
    obtain rfl : cap = 0 := h0 rfl
    obtain rfl : l = [] := List.eq_nil_of_length_eq_zero (by omega)
    exact wpList_append_own_none hgd s x 22 ho w.heap.size 9 i0 1 Tryd.underlying22 hi _ _ _ hs (World.ownsRow_nil w w.heap.size 9 1) hx (hK _ _ (World.ownsRow_nil w w.heap.size 9 1) (Below.refl _ _))
  | some ad =>
    refine wpList_append_own _ hgd s x 22 ho w.heap.size 9 i0 (.string ⟨#[]⟩) 1 16 Tryd.underlying22 hi hz0 hz1 hz2 rfl (by decide) _ _ _ hs (World.ownsRow_nil w w.heap.size 9 1) ad l.length cap (l.map Value.string) hx (by simp) ?_ (by intro u hu; obtain ⟨y, _, rfl⟩ := List.mem_map.1 hu; rfl) (by unfold maxLen; omega) (by omega) (Nat.le_refl _) ?_
    · intro j u hj
      have hjn := (List.getElem?_eq_some_iff.1 hj).1
      rw [List.length_map] at hjn
      obtain ⟨g, off, hp, h4⟩ := h3 (by omega)
      injection hp with hp
      rw [hp, Addr.add_lit]
      exact (h4 j hjn).trans hj
    · intro v' w' hO hg _
      rw [Nat.zero_add, List.nil_append] at hO
      exact hK v' w' hO ⟨hg.os, hg.tape, hg.output, hg.size, fun k hk => hg.block k hk (by simp [Value.ownBlock])⟩
/-- lists of strings that are collected -/
structure RowsS (w : World) (B : Nat) (v : Value) (vs : List Value) (D : Gr.Ds) : Prop where
  own : w.ownsRow B 22 1 v vs.length vs
  rows : ∀ (i : Nat) u, vs[i]? = some u → OwnR w B 9 u ((D i).map Value.string) ∧ ∀ g, u.ownBlock = some g → v.ownBlock ≠ some g
theorem RowsS.nil (w : World) (B : Nat) (D : Gr.Ds) : RowsS w B (.slice none 0 0) [] D := ⟨World.ownsRow_nil _ _ _ _, fun i u hu => by simp at hu⟩
theorem RowsS.below {w w1 : World} {B : Nat} {v : Value} {vs : List Value} {D : Gr.Ds} (h : RowsS w B v vs D) (hb : Below w.heap.size w w1) : RowsS w1 B v vs D :=
  ⟨owns_below h.own hb, fun i u hu => ⟨OwnR.below (h.rows i u hu).1 hb, (h.rows i u hu).2⟩⟩
theorem RowsS.push {w0 w' : World} {B : Nat} {v v' u : Value} {vs : List Value} {D : Gr.Ds} (h : RowsS w0 B v vs D) (hu : OwnR w0 B 9 u ((D vs.length).map Value.string))
    (hub : ∀ g, u.ownBlock = some g → v.ownBlock ≠ some g) (hown : w'.ownsRow B 22 1 v' (vs.length + 1) (vs ++ [u])) (hg : w0.grownBy w' v.ownBlock) (hv : v'.ownBlock = v.ownBlock ∨ v'.ownBlock = some (w0.heap.size + 1)) :
    RowsS w' B v' (vs ++ [u]) D := by
  have hk := Kept.grown hg
  refine ⟨by rw [List.length_append]; exact hown, fun i u2 h2 => ?_⟩
  have key : ∀ {u2 : Value} {i : Nat}, OwnR w0 B 9 u2 ((D i).map Value.string) → (∀ g, u2.ownBlock = some g → v.ownBlock ≠ some g) → OwnR w' B 9 u2 ((D i).map Value.string) ∧ ∀ g, u2.ownBlock = some g → v'.ownBlock ≠ some g := fun {u2 i} k1 k2 => by
    refine ⟨OwnR.kept k1 hk (fun g hg' e => k2 g hg' e.symm), fun g hg' e => ?_⟩
    rcases hv with h | h
    · rw [h] at e; exact k2 g hg' e
    · rw [h] at e
      injection e with e
      have := (OwnR.lt k1 hg').2
      omega
  by_cases hik : i < vs.length
  · rw [List.getElem?_append_left hik] at h2
    obtain ⟨k1, k2⟩ := h.rows i u2 h2
    exact key k1 k2
  · have hi9 := (List.getElem?_eq_some_iff.1 h2).1
    rw [List.length_append] at hi9
    obtain rfl : i = vs.length := by simp at hi9; omega
    rw [List.getElem?_append_right (by omega), Nat.sub_self] at h2
    obtain rfl : u = u2 := Option.some.inj h2
    exact key hu hub
/-- disks, wherever they lie -/
def DsM (w : World) (v : Value) (n : Nat) (D : Gr.Ds) : Prop := ∃ vs : List Value, Row w v vs ∧ vs.length = n ∧ ∀ (i : Nat) u, vs[i]? = some u → Strs w u (D i)
theorem DsM.below {w w1 : World} {v : Value} {n : Nat} {D : Gr.Ds} (h : DsM w v n D) (hb : Below w.heap.size w w1) : DsM w1 v n D := by
  obtain ⟨vs, h1, h2, h3⟩ := h; exact ⟨vs, h1.below hb, h2, fun i u hu => (h3 i u hu).below hb⟩
theorem DsM.get {w : World} {v : Value} {n : Nat} {D : Gr.Ds} (h : DsM w v n D) : ∃ p cap, v = .slice p n cap ∧ n ≤ cap ∧ cap ≤ 9223372036854775807 ∧ ∀ i, i < n → ∃ g off u, p = some ⟨g, off, none⟩ ∧ w.cell? ⟨g, off + i, none⟩ = some u ∧ g < w.heap.size ∧ Strs w u (D i) := by
  obtain ⟨vs, h1, h2, h3⟩ := h
  obtain ⟨p, cap, hv, hl, hm, hc⟩ := h1.shape
  rw [h2] at hv hl hc
  refine ⟨p, cap, hv, hl, by unfold maxLen at hm; omega, fun i hi => ?_⟩
  obtain ⟨g, off, hp, hcc⟩ := hc (by omega)
  have hu := List.getElem?_eq_getElem (l := vs) (i := i) (by omega)
  have hci := hcc i hi
  rw [hu] at hci
  exact ⟨g, off, _, hp, hci, World.block_lt_of_cell? w _ hci, h3 i _ hu⟩
def GDisksPost (n : Nat) (D : Gr.Ds) (w : World) (e : Ending) (w' : World) : Prop := ∃ v, e = .returned v ∧ DsM w' v n D ∧ Below w.heap.size w w'
def GDisksRel (n : Nat) (D : Gr.Ds) (w : World) (gk : Nat) (v3 v11 : Value) (wr : World) : Prop :=
  ∃ vs : List Value, vs.length + gk = n ∧ v11 = iv vs.length ∧ RowsS wr w.heap.size v3 vs D ∧ Below w.heap.size w wr
set_option maxRecDepth 100000 in
set_option maxHeartbeats 1000000 in
theorem gdisks_any {w : World} {b g c n m done : Nat} {vs0 : Nat → Value} {D : Gr.Ds} (hA : GroAt w b g c n m done vs0 D) (hn : n ≤ 100) (hl : ∀ i, i ≤ n → (D i).length ≤ 1000) :
    Calls Tryd.prog 30 #[.pointer (some ⟨b, 0, none⟩)] w (GDisksPost (n + 1) D w) := by
  have c0 := hA.c0
  have HA := Lib.hid hA
  have HL := Lib.hid hl
  have hcm := (hA.ds.outer (by omega)).2.2.1
  unfold maxLen at hcm
  clear hA hl
  go_enter Tryd.func30, Tryd.ntmps30
  go_wp2_with fail
  go_loopg [3, 5, 11] (n + 1) (fun gk v3 v5 v11 wr => GDisksRel (n + 1) D w gk v3 v11 wr)
  case atStart => exact ⟨[], by simp, rfl, RowsS.nil _ _ _, Below.refl _ _⟩
  case round =>
    obtain ⟨vs, hi, rfl, hR, hB⟩ := hrel
    obtain ⟨i, hie⟩ : ∃ i, i = vs.length := ⟨_, rfl⟩
    rw [← hie] at hi ⊢
    have Hie := Lib.hid hie
    have Hi := Lib.hid hi
    have HR := Lib.hid hR
    have HB := Lib.hid hB
    have hz := hB.size
    clear hi hR hB hie
    by_cases hin : i < n + 1
    · have hA1 := HA.out.below HB.out
      obtain ⟨_, _, _, hc, _⟩ := hA1.ds.outer (by omega)
      have d0 := hc i hin
      have hrow := hA1.ds.rows i hin
      obtain ⟨p0, k0, e0, _⟩ := owns_cut hrow (Nat.le_refl _)
      rw [e0] at d0
      have hst : Strs wr (.slice p0 (D i).length k0) (D i) := by rw [← e0]; exact OwnR.row (OwnR.of_owns hrow)
      have HSt := Lib.hid hst
      have hl9 := HL.out i (by omega)
      generalize (D i).length = L at *
      clear hA1 hc hrow e0 hst
      go_wp2_with (at_builtin; refine copyS _ rfl _ _ rfl rfl (D i) _ HSt.out rfl (by have := HL.out i (by omega); omega) ?_)
      intro v1 w1 hO1 hb1
      have hu1 : OwnR w1 w.heap.size 9 v1 ((D i).map Value.string) := (OwnR.of_owns hO1).mono hz
      have hub : ∀ g, v1.ownBlock = some g → u3.ownBlock ≠ some g := fun g h1 h2 => by
        have k1 := (hO1.lt g h1).1
        have k2 := (HR.out.own.lt g h2).2
        omega
      obtain ⟨p1, n1, c1, rfl⟩ := hu1.slice
      have Hu1 := Lib.hid hu1
      have Hub := Lib.hid hub
      have HR1 := Lib.hid (HR.out.below hb1)
      have HB1 := Lib.hid (HB.out.trans (hb1.mono hz))
      have hz1 := HB1.out.size
      have hown : w1.ownsRow w.heap.size 22 1 u3 i vs := by rw [Hie.out]; exact HR1.out.own
      have Hown := Lib.hid hown
      obtain ⟨p5, n5, c5, rfl⟩ := (OwnR.of_owns hown).slice
      have hi9 : i + 1 ≤ 1000000 := by omega
      clear hO1 hb1 hu1 hub hown HR HB d0
      go_wp2_with (at_builtin; refine app1 w w1 (.slice p1 n1 c1) 22 66 rfl _ _ rfl w.heap.size Tryd.underlying66 info_rowG rfl _ i _ rfl _ rfl rfl Hown.out rfl hi9 (by decide) hz1 HB1.out ?_)
      intro v9 w9 hown9 hb9 hgr9 hat9
      rw [Hie.out] at hown9
      have hR9 := HR1.out.push (by rw [← Hie.out]; exact Hu1.out) Hub.out hown9 hgr9 hat9
      have HR9 := Lib.hid hR9
      have HB9 := Lib.hid hb9
      have hl9 : (vs ++ [Value.slice p1 n1 c1]).length = i + 1 := by rw [List.length_append, ← Hie.out]; rfl
      have Hl9 := Lib.hid hl9
      clear hown9 hb9 hgr9 hat9 hR9 hl9 HR1 Hub Hown HB1 Hu1
      go_wp2_with fail
      go_roundg (gk - 1)
      case measure => have := Hi.out; omega
      case rel => exact ⟨_, by rw [Hl9.out]; have := Hi.out; omega, by rw [Hl9.out]; go_num, HR9.out, HB9.out⟩
    · have hin' : i = n + 1 := by have := Hi.out; omega
      have HM : Hid (DsM wr u3 (n + 1) D) := Lib.hid ⟨vs, OwnR.row (OwnR.of_owns HR.out.own), by rw [← Hie.out, hin'], fun j u hu => OwnR.row (HR.out.rows j u hu).1⟩
      clear HR
      go_wp2_with fail
      go_ret
      exact ⟨_, rfl, HM.out, HB.out⟩
end Go.Proofs.YtoddoekmgkcomaaDoor
