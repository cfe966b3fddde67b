/- The walks of package intent: New, Begin, End. -/
import Derived.Test.YtangcjffiooapaaDoorIntP
import Derived.Test.YtangcjffiooapaaDoorSlI
import Derived.Test.YtangcjffiooapaaDoorSlices
import Derived.Test.YtangcjffiooapaaDoorErr
import Derived.Maps.RangeWalk
import Derived.Maps.OwnSet
import Derived.Maps.OwnOps
import Derived.Deep.QuietTactic
import Derived.BigQuiet
import Derived.Deep.DeepCutAuto
import Derived.Deep.CutBlock
import Derived.Deep.RegionHeld3
import Derived.Deep.LoopGhost
import Derived.IntWalk
namespace Go.Proofs.YtangcjffiooapaaDoor
open Go.ChangeShapes Go.WideShapes Go.ChangeAt Go.RowKit Go.Maps
set_option linter.unusedVariables false
theorem intKeyed : Keyed Tryd.prog 3 := int_keyed Tryd.underlying3
theorem zeroInt (w : World) : (zeroValue 3).run Tryd.prog w = .ok (.int .i64 0) w := by kernel_rfl
theorem wf_nat {n : Nat} (h : n ≤ 9223372036854775807) : (Lit.int .i64 (n : Int)).wf = true := by
  simp [Lit.wf, IntKind.min, IntKind.max, IntKind.signed, IntKind.bits]; omega
theorem wf_of {n : Int} (h : 0 ≤ n) (h2 : n ≤ 9223372036854775807) : (Lit.int .i64 n).wf = true := by
  simp [Lit.wf, IntKind.min, IntKind.max, IntKind.signed, IntKind.bits]; omega
theorem wrap_quo (a b r : Nat) (ha : a ≤ 1000000) (hr : r = a / b) : wrap64 ((a : Int) / (b : Int)) = (r : Int) := by
  have hl : a / b ≤ a := Nat.div_le_self _ _
  rw [← Int.natCast_ediv, ← hr]
  unfold wrap64
  omega
theorem wrap_quo' (a b r : Nat) (ha : a ≤ 1000000) (hr : r = a / b) : IntKind.i64.wrap ((a : Int) / (b : Int)) = (r : Int) := by
  have hl : a / b ≤ a := Nat.div_le_self _ _
  rw [← Int.natCast_ediv, ← hr]
  exact IntWalk.i64_in _ (by omega)
abbrev kl (n : Int) : Lit := .int .i64 n
theorem key_nat {n : Nat} (h : n ≤ 9223372036854775807) : keyOf Tryd.prog 3 (iv n) = some (kl n) := keyOf_int_mk Tryd.underlying3 (wf_nat h)
theorem kl_inj {a b : Int} (h : kl a = kl b) : a = b := by injection h
/-- the map of how often each cell is being written -/
structure ManyAt (w : World) (mb n : Nat) (many : Nat → Nat) (D : DataW Unit) : Prop where
  own : w.ownsMap Tryd.prog 3 (plainElem Tryd.prog 3) mb n D
  val : ∀ k : Nat, k < 40 → D.atKey (kl k) (.lit (kl 0)) = .lit (kl (many k))
  has : ∀ k : Nat, k < 40 → Maps.has D (kl k) = decide (many k ≠ 0)
  only : ∀ k : Int, Maps.has D (kl k) = true → 0 ≤ k ∧ k < 40
  bound : ∀ k : Nat, many k ≤ n
namespace ManyAt
variable {w w1 : World} {mb n : Nat} {many : Nat → Nat} {D : DataW Unit}
theorem made (w : World) : ManyAt (w.alloc (.map #[] 0)) w.heap.size 0 (fun _ => 0) (.map []) :=
  ⟨World.ownsMap_made _ _ _ _, fun k _ => rfl, fun k _ => rfl, (fun k h => by cases h), fun k => Nat.le_refl _⟩
theorem kept {F : Nat → Prop} (h : ManyAt w mb n many D) (hk : Kept F w w1) (hn : ¬ F mb) : ManyAt w1 mb n many D := by
  obtain ⟨es, clock, hb, r⟩ := h.own
  exact { h with own := ⟨es, clock, hk.heap hb hn, r⟩ }
theorem below (h : ManyAt w mb n many D) (hb : Below w.heap.size w w1) : ManyAt w1 mb n many D := by
  obtain ⟨es, clock, hb', r⟩ := h.own
  exact { h with own := ⟨es, clock, by rw [hb.block mb h.own.lt]; exact hb', r⟩ }
theorem put {w1 : World} {c v : Nat} (h : ManyAt w mb n many D) (hc : c < 40) (h0 : v ≠ 0) (hv : v ≤ n + 1) (ho : w1.ownsMap Tryd.prog 3 (plainElem Tryd.prog 3) mb (n + 1) (D.put (kl c) (.lit (kl v)))) :
    ManyAt w1 mb (n + 1) (Nt.upd many c v) (D.put (kl c) (.lit (kl v))) := by
  have hm := h.own.isMap
  have hk : WideAt.IsKeyLit (kl (c : Int)) := intKeyed.key (key_nat (by omega))
  refine ⟨ho, fun k hk40 => ?_, fun k hk40 => ?_, fun k hh => ?_, fun k => ?_⟩
  · by_cases e : k = c
    · subst e; rw [Nt.upd_same, atKey_put_same hm hk]
    · rw [Nt.upd_other _ _ e, atKey_put_other (fun q => e (by have := kl_inj q; omega)), h.val k hk40]
  · by_cases e : k = c
    · subst e; rw [Nt.upd_same, has_put_same hm hk]; simp [h0]
    · rw [Nt.upd_other _ _ e, has_put_other (fun q => e (by have := kl_inj q; omega)), h.has k hk40]
  · by_cases e : k = (c : Int)
    · omega
    · rw [has_put_other (fun q => e (kl_inj q))] at hh; exact h.only k hh
  · have := h.bound k
    by_cases e : k = c
    · subst e; rw [Nt.upd_same]; exact hv
    · rw [Nt.upd_other _ _ e]; omega
theorem del {w1 : World} {c n' : Nat} {m0 : Nat} (h : ManyAt w mb n (Nt.upd many c m0) (D)) (hn : n ≤ n') (hc : c < 40) (ho : w1.ownsMap Tryd.prog 3 (plainElem Tryd.prog 3) mb n' (D.del (kl c))) :
    ManyAt w1 mb n' (Nt.upd many c 0) (D.del (kl c)) := by
  refine ⟨ho, fun k hk40 => ?_, fun k hk40 => ?_, fun k hh => ?_, fun k => ?_⟩
  · by_cases e : k = c
    · subst e; rw [Nt.upd_same, atKey_del_same]; rfl
    · rw [Nt.upd_other _ _ e, atKey_del_other (fun q => e (by have := kl_inj q; omega)), h.val k hk40, Nt.upd_other _ _ e]
  · by_cases e : k = c
    · subst e; rw [Nt.upd_same, has_del_same]; rfl
    · rw [Nt.upd_other _ _ e, has_del_other (fun q => e (by have := kl_inj q; omega)), h.has k hk40, Nt.upd_other _ _ e]
  · by_cases e : k = (c : Int)
    · subst e; rw [has_del_same] at hh; cases hh
    · rw [has_del_other (fun q => e (kl_inj q))] at hh; exact h.only k hh
  · by_cases e : k = c
    · subst e; rw [Nt.upd_same]; omega
    · have := h.bound k; rw [Nt.upd_other _ _ e] at this ⊢; omega
end ManyAt
/-- an intent in memory: block b; the map in block mb; the dirty regions in a block of their own; all from block B on -/
structure IntAt (w : World) (B b mb : Nat) (v : Value) (n wide : Nat) (D : DataW Unit) (s : Nt.S) : Prop where
  hb : B ≤ b
  hm : B ≤ mb
  bm : b ≠ mb
  w1 : 1 ≤ wide
  w40 : wide ≤ 40
  blk : w.heap[b]? = some (.cells #[iv wide, .map (some mb), v] 101 (0, 0))
  many : ManyAt w mb n s.many D
  row : OwnR w B 3 v ((Nt.L s.dirty).map iv)
  vb : v.ownBlock ≠ some b
  vm : v.ownBlock ≠ some mb
namespace IntAt
variable {w w' : World} {B b mb n wide : Nat} {v : Value} {D : DataW Unit} {s : Nt.S}
theorem lt (h : IntAt w B b mb v n wide D s) : b < w.heap.size := (Array.getElem?_eq_some_iff.1 h.blk).1
theorem c0 (h : IntAt w B b mb v n wide D s) : w.cell? ⟨b, 0, none⟩ = some (iv wide) := by rw [cell_of_row _ _ _ _ _ _ h.blk]; rfl
theorem c1 (h : IntAt w B b mb v n wide D s) : w.cell? ⟨b, 1, none⟩ = some (.map (some mb)) := by rw [cell_of_row _ _ _ _ _ _ h.blk]; rfl
theorem c2 (h : IntAt w B b mb v n wide D s) : w.cell? ⟨b, 2, none⟩ = some v := by rw [cell_of_row _ _ _ _ _ _ h.blk]; rfl
theorem f (h : IntAt w B b mb v n wide D s) (j : Nat) : w.frozen? ⟨b, j, none⟩ = false := frozen_of_row _ _ _ _ _ h.blk
theorem below (h : IntAt w B b mb v n wide D s) (hb : Below w.heap.size w w') : IntAt w' B b mb v n wide D s :=
  { h with blk := by rw [hb.block b h.lt]; exact h.blk, many := h.many.below hb, row := h.row.below hb }
theorem other (h : IntAt w B b mb v n wide D s) {v' : Value} (ht : Turned w w' v v') : w'.heap[b]? = some (.cells #[iv wide, .map (some mb), v] 101 (0, 0)) := ht.1.heap h.blk (fun e => h.vb e.symm)
theorem turn (h : IntAt w B b mb v n wide D s) {v' : Value} (ht : Turned w w' v v') {f' : Nat → Bool} {xs : List Value} (hr : OwnR w' B 3 v' xs) (hx : xs = (Nt.L f').map iv) : IntAt (w'.setCell ⟨b, 2, none⟩ v') B b mb v' n wide D ⟨s.many, f'⟩ := by
  have hk : Kept (· = b) w' (w'.setCell ⟨b, 2, none⟩ v') := (Kept.self b w').set1 _ _
  have hlt := h.lt
  have hml := h.many.own.lt
  have hvb : v'.ownBlock ≠ some b := by
    rcases ht.2 with e | e
    · rw [e]; exact h.vb
    · intro q; have := e b q; omega
  have hvm : v'.ownBlock ≠ some mb := by
    rcases ht.2 with e | e
    · rw [e]; exact h.vm
    · intro q; have := e mb q; omega
  refine { h with blk := ?_, many := (h.many.kept ht.1 (fun e => h.vm e.symm)).kept hk (fun e => h.bm e.symm), row := ?_, vb := hvb, vm := hvm }
  · rw [heap_setCell_same _ _ _ _ _ _ (h.other ht)]; rfl
  · rw [← hx]; exact hr.kept hk (fun g hg e => hvb (by rw [hg, e]))
theorem drewN (h : IntAt w B b mb v n wide D s) (q : Nat) : IntAt (w.drewN q) B b mb v n wide D s := h.below (bdrew (Below.refl _ _) q)
end IntAt
/-- the object's blocks are among F -/
structure IntIn (F : Nat → Prop) (b mb : Nat) (v : Value) : Prop where
  b : F b
  m : F mb
  v : ∀ g, v.ownBlock = some g → F g
theorem IntIn.turn {F : Nat → Prop} {b mb : Nat} {v v' : Value} {w w' : World} (h : IntIn F b mb v) (ht : Turned w w' v v') (hF : ∀ k, w.heap.size ≤ k → F k) : IntIn F b mb v' :=
  ⟨h.b, h.m, fun g hg => by
    rcases ht.2 with e | e
    · rw [e] at hg; exact h.v g hg
    · exact hF g (e g hg)⟩
def IntOk (F : Nat → Prop) (w : World) (B b n wide : Nat) (s : Nt.S) : Prop := ∃ mb v D, IntAt w B b mb v n wide D s ∧ IntIn F b mb v
theorem IntOk.below {F : Nat → Prop} {w w' : World} {B b n wide : Nat} {s : Nt.S} (h : IntOk F w B b n wide s) (hb : Below w.heap.size w w') : IntOk F w' B b n wide s := by
  obtain ⟨mb, v, D, h, h2⟩ := h; exact ⟨mb, v, D, h.below hb, h2⟩
theorem IntOk.wide {F F' : Nat → Prop} {w : World} {B b n wide : Nat} {s : Nt.S} (h : IntOk F w B b n wide s) (hF : ∀ k, k < w.heap.size → F k → F' k) : IntOk F' w B b n wide s := by
  obtain ⟨mb, v, D, h, h2⟩ := h
  exact ⟨mb, v, D, h, hF _ h.lt h2.b, hF _ h.many.own.lt h2.m, fun g hg => hF _ (h.row.lt hg).2 (h2.v g hg)⟩
theorem has_any (c : Int) (w : World) : Calls Tryd.prog 63 #[iv c] w fun e w' => e = .returned (.bool (Nt.inB c)) ∧ w = w' := by
  by_cases h : 0 ≤ c
  · have e : Nt.inB c = decide (c < 40) := by unfold Nt.inB; rw [dec_t h, Bool.true_and]
    rw [e]
    clear e
    go_enter Tryd.func63, Tryd.ntmps63
    go_wp2
    go_ret
    exact ⟨rfl, rfl⟩
  · have e : Nt.inB c = false := by unfold Nt.inB; rw [dec_f h, Bool.false_and]
    rw [e]
    clear e
    go_enter Tryd.func63, Tryd.ntmps63
    go_wp2
    go_ret
    exact ⟨rfl, rfl⟩
def IntNewPost (wide : Nat) (w : World) (e : Ending) (w' : World) : Prop :=
  ∃ b, e = .returned (.tuple #[.pointer (some ⟨b, 0, none⟩), .nilIface]) ∧ IntOk (fun k => w.heap.size ≤ k) w' 0 b 0 wide Nt.zero ∧ Below w.heap.size w w'
theorem intNew_any (wide : Nat) (h1 : 1 ≤ wide) (h2 : wide ≤ 40) (w : World) : Calls Tryd.prog 27 #[iv wide] w (IntNewPost wide w) := by
  have hmm := @run_makeMap Tryd.prog
  go_enter Tryd.func27, Tryd.ntmps27
  go_wp2_with fail
  go_ret2
  have hA : IntAt ((w.alloc (.map #[] 0)).alloc (.cells #[iv wide, .map (some w.heap.size), .slice none 0 0] 101)) 0 (w.heap.size + 1) w.heap.size (.slice none 0 0) 0 wide (.map []) Nt.zero := by
    refine ⟨by omega, Nat.zero_le _, by omega, h1, h2, ?_, (ManyAt.made w).below ((Below.refl _ _).alloc (Nat.le_refl _) _), ?_, (fun e => by cases e), (fun e => by cases e)⟩
    · have := heap_alloc_new (w.alloc (.map #[] 0)) (.cells #[iv wide, .map (some w.heap.size), .slice none 0 0] 101)
      simpa using this
    · show OwnR _ _ _ _ ((Nt.L (fun _ => false)).map iv)
      rw [Nt.L_none]; exact OwnR.nil _ _ _
  exact ⟨_, rfl, ⟨_, _, _, hA, by omega, Nat.le_refl _, fun g hg => by cases hg⟩, ((Below.refl _ _).alloc (Nat.le_refl _) _).alloc (by simp) _⟩
theorem intNew_no (x : Int) (h : x < 1 ∨ 1 ≤ x ∧ 40 < x) (w : World) : Calls Tryd.prog 27 #[iv x] w fun e w' => e = .returned (.tuple #[.pointer none, ev 1]) ∧ w = w' := by
  rcases h with h | ⟨h1, h2⟩
  all_goals
    go_enter Tryd.func27, Tryd.ntmps27
    go_wp2_with fail
    go_ret2
    exact ⟨rfl, rfl⟩
end Go.Proofs.YtangcjffiooapaaDoor
