/- A range over an iterator that turns a box of its own, whose rounds never leave early. · The library's iterator over the lines of a text. -/
import Derived.Test.YtneebcniofolmaaGreatDoorSlI
import Derived.RangeFuncBox
import Derived.RangeFuncWrites
import Derived.Test.YtneebcniofolmaaGreatDoorSesN
import Derived.Test.YtneebcniofolmaaGreatDoorRunN
import Derived.RangeFuncCalls
import Derived.RangeFuncLeaves
import Derived.WalkKit
import Derived.OwnWalkIn
import Derived.TacticsInMore
import Derived.TacticsIn
import Derived.RegionIn
import Derived.LoopNIn
import Derived.LoopIn
namespace Go.Proofs.YtneebcniofolmaaGreatDoor
open Go.ChangeShapes Go.WideShapes Go.ChangeAt Go.RowKit
set_option linter.unusedVariables false
/-- what is said does not hang on what the box ob holds, nor on what is drawn -/
def NotBox {α : Type} (ob : Nat) (J : List α → World → Prop) : Prop := (∀ s A v, J s A → J s (A.setCell ⟨ob, 0, none⟩ v)) ∧ ∀ s A, J s A → J s A.drew
/-- an iterator with a box of its own: it hands on all of a list that S knows, if each round says 'go on' and leaves the box -/
def BoxSeq {α : Type} (F : Fence) (n : Nat) (P : Program) (gf : FuncId) (lb : Array Value) (encs : α → Array Value) (S : List α → Prop) (Nx : List α → α → Prop) (ob : Nat) (w : World) : Prop :=
  ∀ (l : Nat) (J : List α → World → Prop) (W : World), Below w.heap.size w W → NotBox ob J →
    (∀ pre x W1, J pre W1 → Nx pre x → YieldAt F (n - 1) P l (encs x) W1 fun e W' => e = .returned (.bool true) ∧ J (pre ++ [x]) W' ∧ W'.heap[ob]? = W1.heap[ob]?) → J [] W →
    CallsIn F n P gf (#[.func (.yield l) #[] #[]] ++ lb) W fun e W' => (∃ v, e = .returned v) ∧ ∃ xs, S xs ∧ J xs W'
def boxPost {α : Type} (B ob : Nat) (I : List α → World → Prop) (xs : List α) (W : World) : Exit → Act → World → Prop
  | .normal, _, W' => KeepsFrom B W W' ∧ W'.heap[ob]? = W.heap[ob]? ∧ I xs W'
  | _, _, _ => False
theorem range_box {α : Type} {F : Fence} {n : Nat} {P : Program} {g : Operand} {ps : Array Tmp} {assign body : Code} {Q : Exit → Act → World → Prop} {a : Act} {w : World}
    (hro : F.round = none) (h1 : 1 ≤ n) {gf : FuncId} {lb : Array Value} (hg : a.eval g = .func (.func gf) #[] lb) (hFg : F.fn gf) (eg : ∀ args w, (callFunc gf args).run P w = .ok (.enter gf args) w)
    {encs : α → Array Value} {S : List α → Prop} {Nx : List α → α → Prop} {ob : Nat} (hob : ob < w.heap.size) (hseq : BoxSeq F (n - 1) P gf lb encs S Nx ob w) (hps : ∀ x, (encs x).size = ps.size)
    (I : List α → World → Prop) (hI : OwnFrom w.heap.size I) (hIb : NotBox ob I) (h0 : I [] w) (a₁ : α → Act)
    (hassign : ∀ (l : Nat) (x : α) (W : World) (K : Act → World → Prop), K (a₁ x) W →
      assign.wpIn (F.inRound l) (n - 1 - 1) P (Exit.then K (fun _ _ _ => False)) { tmps := (ps.zip (encs x)).foldl (fun t (p, v) => t.setIfInBounds p v) a.tmps, defers := [] } W)
    (hbody : ∀ (l : Nat) (pre : List α) (x : α) (W : World), I pre W → Nx pre x → body.wpIn (F.inRound l) (n - 1 - 1) P (boxPost w.heap.size ob I (pre ++ [x]) W) (a₁ x) W)
    (hdone : ∀ (D : Nat) (xs : List α) (W : World), w.heap.size ≤ D → S xs → I xs W → W.heap[D]? = some (.deferred (some [])) → Q .normal { a with defers := { target := .collected D, args := #[] } :: a.defers } W) :
    (Code.rangeFunc g ps assign body).wpIn F n P Q a w := by
  refine wpIn_rangeFunc ?_
  intro fn hfn
  rw [hro]
  obtain ⟨lp, hlp⟩ : ∃ lp : LoopState → Option Code → Loop, lp = fun st pe => { state := st, pending := pe, fn, tmps := a.tmps, params := ps, assign, body, defers := w.heap.size } := ⟨_, rfl⟩
  obtain ⟨V, hV⟩ : ∃ V, V = (w.alloc (.deferred (some []))).alloc (.loop (lp .ready none)) := ⟨_, rfl⟩
  have vl : V.heap[w.heap.size + 1]? = some (.loop (lp .ready none)) := by
    have := World.alloc_heap_new (w.alloc (.deferred (some []))) (.loop (lp .ready none))
    rw [World.size_alloc] at this
    rw [hV]; exact this
  have vd : V.heap[w.heap.size]? = some (.deferred (some [])) := by
    rw [hV]; exact (Below.heap_alloc _ _ _ (by simp)).trans (World.alloc_heap_new w _)
  have vI : I [] V := by rw [hV]; exact hI.alloc _ (hI.alloc _ h0)
  have vb : Below w.heap.size w V := by rw [hV]; exact ((Below.refl _ w).alloc (Nat.le_refl _) _).alloc (by simp) _
  refine ⟨w.heap.size + 1, [{ target := .collected w.heap.size, args := #[] }], V, { target := .fn (.func gf) lb, args := #[.func (.yield (w.heap.size + 1)) #[] #[]] }, V, gf,
    #[.func (.yield (w.heap.size + 1)) #[] #[]] ++ lb, V, ?_, ?_, ?_, ?_, fun _ => h1, ?_⟩
  · rw [hV, hlp]; exact run_enterLoop_outer _ _ _ _ _
  · simp only [resolve, hg]
    simp [go_sem]
  · intro f' hf'
    simp [Target.leads] at hf'
    subst hf'; exact hFg
  · simp [invoke, go_sem, eg]
  clear hV
  refine (hseq (w.heap.size + 1) (fun pre W => I pre W ∧ W.heap[w.heap.size + 1]? = some (.loop (lp .ready none)) ∧ W.heap[w.heap.size]? = some (.deferred (some []))) V vb ?_ ?_ ⟨vI, vl, vd⟩).mono ?_
  · refine ⟨fun s A v ⟨ha, hl, hd⟩ => ?_, fun s A ⟨ha, hl, hd⟩ => ⟨hIb.2 s A ha, hl, hd⟩⟩
    have hg' := grownBy_setCell' A ob v
    exact ⟨hIb.1 s A v ha, (hg'.block _ (Array.getElem?_eq_some_iff.1 hl).1 (fun e => by injection e with e; omega)).trans hl, (hg'.block _ (Array.getElem?_eq_some_iff.1 hd).1 (fun e => by injection e with e; omega)).trans hd⟩
  · rintro pre x W ⟨hi, hl, hd⟩ hlen
    have hlt := (Array.getElem?_eq_some_iff.1 hl).1
    have hy := run_yield (P := P) (args := encs x) hl (by rw [hlp]; exact hps x)
    rw [hlp] at hy
    refine ⟨fn, _, assign, body, hy, roundIn_of_wpIn hfn (hassign _ x W _ ⟨_, run_beginRound hl (by rw [hlp]), ?_⟩)⟩
    obtain ⟨U, hU⟩ : ∃ U, U = W.putObj (w.heap.size + 1) (.loop { lp .ready none with state := .busy }) := ⟨_, rfl⟩
    have ul : U.heap[w.heap.size + 1]? = some (.loop { lp .ready none with state := .busy }) := by rw [hU]; exact World.putObj_heap_same hlt
    have ud : U.heap[w.heap.size]? = some (.deferred (some [])) := by rw [hU]; exact (World.putObj_heap_other (by omega)).trans hd
    have uo : U.heap[ob]? = W.heap[ob]? := by rw [hU]; exact World.putObj_heap_other (by omega)
    have ui : I pre U := by rw [hU]; exact hI.putObj _ hi (by omega) hl rfl
    rw [← hU]
    refine wpIn_mono (hbody _ pre x U ui hlen) ?_
    rintro e a3 W3 hp
    cases e with
    | normal =>
      obtain ⟨hk3, ho3, hi3⟩ := hp
      have l3 := hk3.same _ _ (by omega) ul rfl
      have d3 := hk3.same _ _ (Nat.le_refl _) ud rfl
      have hr := run_endRound (P := P) none l3
      refine ⟨_, _, hr, rfl, ⟨hI.putObj _ hi3 (by omega) l3 rfl, ?_, (World.putObj_heap_other (by omega)).trans d3⟩, ?_⟩
      · refine (World.putObj_heap_same (Array.getElem?_eq_some_iff.1 l3).1).trans ?_
        rw [hlp]; rfl
      · exact ((World.putObj_heap_other (by omega)).trans ho3).trans uo
    | ret => exact hp.elim
    | exit id => exact hp.elim
    | goto t => exact hp.elim
    | panic ch => exact hp.elim
    | outgrown => exact hp.elim
  · rintro e W2 ⟨⟨v, rfl⟩, xs, hS, hi, hl, hd⟩
    have hr := run_endLoop (P := P) hl (by rw [hlp]; simp)
    rw [hlp] at hr
    exact ⟨none, _, hr, hdone _ xs _ (Nat.le_refl _) hS (hI.putObj _ hi (by omega) hl rfl) ((World.putObj_heap_other (by omega)).trans hd)⟩
end Go.Proofs.YtneebcniofolmaaGreatDoor
namespace Go.Proofs.YtneebcniofolmaaGreatDoor
open Go.ChangeShapes Go.WideShapes Go.ChangeAt Go.RowKit Go.Shelf
set_option linter.unusedVariables false
attribute [local go_sem] Oper.semAt_some
def boxLen (ob : Nat) (w : World) : Nat := match w.cell? ⟨ob, 0, none⟩ with | some (.string s) => s.size | _ => 0
theorem boxLen_of {ob : Nat} {w : World} {r : List UInt8} (h : Boxed w ob 9 (strB r)) : boxLen ob w = r.length := by
  unfold boxLen
  rw [h.cell]; rfl
theorem slice_to (l : List UInt8) (k : Nat) (hk : k ≤ l.length) (W : World) : (Instr.slice 9 (.string ⟨l.toArray⟩) none (some (iv k)) none).run Tryz.prog W = .ok (strB (l.take k)) W := by
  have hz : ByteArray.size ⟨l.toArray⟩ = l.length := rfl
  rw [run_slice_string_to_if W 9 _ .i64 _ Tryz.underlying9, if_pos (by omega)]
  rw [show ((k : Int)).toNat = k by omega, ByteArray.extract_mk]; rfl
set_option maxRecDepth 100000 in
set_option maxHeartbeats 2000000 in
theorem lines_in (n : Nat) (hn : 1 ≤ n) (t : List UInt8) (hs : t.length ≤ 5000) (l ob : Nat) (J : List (List UInt8) → World → Prop) (hJb : NotBox ob J)
    (hY : ∀ pre x W1, J pre W1 → (∃ r, pre ++ [x] ++ r = Ru.raws t) → YieldAt Fence.wide (n - 1) Tryz.prog l #[strB x] W1 fun e W' => e = .returned (.bool true) ∧ J (pre ++ [x]) W' ∧ W'.heap[ob]? = W1.heap[ob]?)
    (W : World) (hB : Boxed W ob 9 (strB t)) (h0 : J [] W) :
    CallsIn Fence.wide n Tryz.prog 36 #[.func (.yield l) #[] #[], .pointer (some ⟨ob, 0, none⟩)] W fun e W' => (∃ v, e = .returned v) ∧ ∃ xs, xs = Ru.raws t ∧ J xs W' := by
  refine callsIn_of_wp Tryz.func36 rfl trivial ?_ rfl
  simp only [Tryz.ntmps36, List.size_toArray, List.length_cons, List.length_nil, Nat.reduceAdd, Nat.reduceSub, Array.replicate_succ, Array.replicate_zero, List.push_toArray, List.append_toArray, List.nil_append, List.cons_append]
  gi_wp2
  gi_loopw [3, 4] (fun _ _ wr => ∃ pre r, pre ++ Ru.raws r = Ru.raws t ∧ Boxed wr ob 9 (strB r) ∧ J pre wr ∧ r.length ≤ 5000)
    (fun _ _ wr => boxLen ob wr)
  case atStart => exact ⟨[], t, rfl, hB, h0, hs⟩
  case round =>
    obtain ⟨pre, r, he, hb, hJ, hr⟩ := hrel
    have hml := boxLen_of hb
    have cB := hb.cell
    have fB := hb.frozen
    by_cases hr0 : r = []
    · subst hr0
      have e0 : Ru.raws [] = [] := rfl
      rw [e0, List.append_nil] at he
      subst he
      unfold strB at cB
      gi_wp2
      go_end0
      exact ⟨⟨_, rfl⟩, _, rfl, hJ⟩
    · have hr1 : 0 < r.length := List.length_pos_iff.2 hr0
      have hsz : (ByteArray.mk r.toArray).size = r.length := rfl
      have hr1I : (0 : Int) < (r.length : Int) := by omega
      have He := Lib.hid he
      have Hb := Lib.hid hb
      have HJ := Lib.hid hJ
      have Hml := Lib.hid hml
      have hix := fun W => Tryz.strings_IndexByte ⟨r.toArray⟩ 10 W
      have e10 : (10 : Int).toNat.toUInt8 = 10 := rfl
      rw [show (ByteArray.mk r.toArray).data.toList = r by simp, e10] at hix
      clear he hb hJ hml
      by_cases hm : Lib.indexByte r 10 = -1
      · have hrr : Ru.raws r = [r] := Ru.raws_no hm hr0
        rw [hm] at hix
        have Hix := Lib.hid hix
        have hpl : ∃ q, pre ++ [r] ++ q = Ru.raws t := ⟨[], by rw [← He.out, hrr]; simp⟩
        have hY1 := hY pre r (wr.setCell ⟨ob, 0, none⟩ (.string ⟨#[]⟩)) (hJb.1 _ _ _ HJ.out) hpl
        obtain ⟨fn, tmps, assign, body, hy, hR⟩ := hY1
        have Hp : Hid (pre ++ [r] ++ Ru.raws [] = Ru.raws t) := Lib.hid (by rw [← He.out, hrr]; simp [Ru.raws])
        have Hbx : Hid (Boxed (wr.setCell ⟨ob, 0, none⟩ (.string ⟨#[]⟩)) ob 9 (strB [])) := Lib.hid (Hb.out.set _)
        clear hix hm hrr hpl
        unfold strB at cB hy
        gi_wp2_with (refine ⟨trivial, ?_⟩; gi_at_call 37; refine (callsIn_wide.2 (Hix.out _)).mono ?_; rintro e w' ⟨rfl, rfl⟩)
        refine hR.mono ?_
        rintro e W3 ⟨rfl, hJ3, hk3⟩
        have hb3 : Boxed W3 ob 9 (strB []) := hk3.trans Hbx.out
        gi_wp2
        go_roundw
        case rel => exact ⟨_, [], Hp.out, hb3, hJ3, by simp⟩
        case measure => rw [boxLen_of hb3, Hml.out]; exact hr1
      · have hg := Lib.indexByte_ge r 10
        obtain ⟨k, hk⟩ : ∃ k : Nat, Lib.indexByte r 10 = k := ⟨(Lib.indexByte r 10).toNat, by omega⟩
        obtain ⟨hkl, hrr⟩ := Ru.raws_yes hk
        rw [hk] at hix
        have Hix := Lib.hid hix
        obtain ⟨x, hx⟩ : ∃ x, x = r.take (k + 1) := ⟨_, rfl⟩
        obtain ⟨y, hy9⟩ : ∃ y, y = r.drop (k + 1) := ⟨_, rfl⟩
        have e1 : ByteArray.extract ⟨r.toArray⟩ 0 (k + 1) = ⟨x.toArray⟩ := by rw [hx, ByteArray.extract_mk]; rfl
        have e2 : ByteArray.extract ⟨r.toArray⟩ (k + 1) r.length = ⟨y.toArray⟩ := by rw [hy9, ByteArray.extract_mk, List.take_of_length_le (by simp)]
        have E1 := Lib.hid e1
        have E2 := Lib.hid e2
        clear e1 e2
        have Hyl : Hid (y.length < r.length) := Lib.hid (by rw [hy9, List.length_drop]; omega)
        have Hp : Hid (pre ++ [x] ++ Ru.raws y = Ru.raws t) := Lib.hid (by rw [← He.out, hrr, hx, hy9]; simp)
        have hw1 : IntKind.i64.wrap ((k : Int) + 1) = ((k + 1 : Nat) : Int) := by rw [IntWalk.i64_in _ (by omega)]; omega
        have hpl : ∃ q, pre ++ [x] ++ q = Ru.raws t := ⟨_, Hp.out⟩
        have hY1 := hY pre x (wr.setCell ⟨ob, 0, none⟩ (.string ⟨y.toArray⟩)).drew (hJb.2 _ _ (hJb.1 _ _ (.string ⟨y.toArray⟩) HJ.out)) hpl
        obtain ⟨fn, tmps, assign, body, hy, hR⟩ := hY1
        have Hbx : Hid (Boxed (wr.setCell ⟨ob, 0, none⟩ (.string ⟨y.toArray⟩)).drew ob 9 (strB y)) := Lib.hid (Boxed.set (v := strB r) _ Hb.out)
        clear hix hm hrr hpl hg hk hx hy9
        unfold strB at cB hy
        gi_wp2_with (refine ⟨trivial, ?_⟩; gi_at_call 37; refine (callsIn_wide.2 (Hix.out _)).mono ?_; rintro e w' ⟨rfl, rfl⟩)
        gi_region
        rw [E1.out, E2.out]
        gi_wp2
        refine hR.mono ?_
        rintro e W3 ⟨rfl, hJ3, hk3⟩
        have hb3 : Boxed W3 ob 9 (strB y) := hk3.trans Hbx.out
        gi_wp2
        go_roundw
        case rel => exact ⟨_, y, Hp.out, hb3, hJ3, by have := Hyl.out; omega⟩
        case measure => rw [boxLen_of hb3, Hml.out]; exact Hyl.out
theorem lines_seq (n : Nat) (hn : 1 ≤ n) (t : List UInt8) (hs : t.length ≤ 5000) (ob : Nat) (w : World) (hB : Boxed w ob 9 (strB t)) :
    BoxSeq Fence.wide n Tryz.prog 36 #[.pointer (some ⟨ob, 0, none⟩)] (fun x : List UInt8 => #[strB x]) (fun ys => ys = Ru.raws t) (fun pre x => ∃ r, pre ++ [x] ++ r = Ru.raws t) ob w := fun l J W hW hJ hY h0 =>
  lines_in n hn t hs l ob J hJ hY W ((hW.block ob hB.lt).trans hB) h0
end Go.Proofs.YtneebcniofolmaaGreatDoor
