/- A redo log in memory, and the walks of step, Sync, Fail, All, Bytes, Safe. -/
import Derived.Test.YtangcjffiooapaaDoorRedW
import Derived.Test.YtangcjffiooapaaDoorOwnS
import Derived.Test.YtangcjffiooapaaDoorCloneS
import Derived.RegionTactic
namespace Go.Proofs.YtangcjffiooapaaDoor
open Go.ChangeShapes Go.WideShapes Go.ChangeAt Go.RowKit
set_option linter.unusedVariables false
def redArr (vf vc : Value) (s : Rd.R) : Array Value := #[vf, vc, .string (Rd.bs s.bytes), iv s.safe, iv s.left, .bool s.stopped]
structure RedAt (w : World) (b : Nat) (vf vc : Value) (s : Rd.R) : Prop where
  blk : w.heap[b]? = some (.cells (redArr vf vc s) 107 (0, 0))
  first : OwnR w 0 9 vf (s.first.map Value.string)
  cells : OwnR w 0 9 vc (s.cells.map Value.string)
  bf : vf.ownBlock ≠ some b
  bc : vc.ownBlock ≠ some b
  fc : ∀ g, vf.ownBlock = some g → vc.ownBlock ≠ some g
structure RedIn (F : Nat → Prop) (b : Nat) (vf vc : Value) : Prop where
  b : F b
  f : ∀ g, vf.ownBlock = some g → F g
  c : ∀ g, vc.ownBlock = some g → F g
namespace RedAt
variable {w w' : World} {b : Nat} {vf vc : Value} {s s' : Rd.R}
theorem lt (h : RedAt w b vf vc s) : b < w.heap.size := (Array.getElem?_eq_some_iff.1 h.blk).1
theorem cell (h : RedAt w b vf vc s) (j : Nat) : w.cell? ⟨b, j, none⟩ = (redArr vf vc s)[j]? := by rw [cell_of_row _ _ _ _ _ _ h.blk]
theorem c0 (h : RedAt w b vf vc s) : w.cell? ⟨b, 0, none⟩ = some vf := by rw [h.cell]; rfl
theorem c1 (h : RedAt w b vf vc s) : w.cell? ⟨b, 1, none⟩ = some vc := by rw [h.cell]; rfl
theorem c2 (h : RedAt w b vf vc s) : w.cell? ⟨b, 2, none⟩ = some (.string (Rd.bs s.bytes)) := by rw [h.cell]; rfl
theorem c3 (h : RedAt w b vf vc s) : w.cell? ⟨b, 3, none⟩ = some (iv s.safe) := by rw [h.cell]; rfl
theorem c4 (h : RedAt w b vf vc s) : w.cell? ⟨b, 4, none⟩ = some (iv s.left) := by rw [h.cell]; rfl
theorem c5 (h : RedAt w b vf vc s) : w.cell? ⟨b, 5, none⟩ = some (.bool s.stopped) := by rw [h.cell]; rfl
theorem f (h : RedAt w b vf vc s) (j : Nat) : w.frozen? ⟨b, j, none⟩ = false := frozen_of_row _ _ _ _ _ h.blk
theorem below (h : RedAt w b vf vc s) (hb : Below w.heap.size w w') : RedAt w' b vf vc s :=
  { h with blk := by rw [hb.block b h.lt]; exact h.blk, first := h.first.below hb, cells := h.cells.below hb }
theorem kept {T : Nat → Prop} (h : RedAt w b vf vc s) (hk : Kept T w w') (h0 : ¬ T b) (h1 : ∀ g, vf.ownBlock = some g → ¬ T g) (h2 : ∀ g, vc.ownBlock = some g → ¬ T g) : RedAt w' b vf vc s :=
  { h with blk := hk.heap h.blk h0, first := h.first.kept hk h1, cells := h.cells.kept hk h2 }
/-- one field of its own has turned -/
theorem upd (h : RedAt w b vf vc s) (j : Nat) (v : Value) (he : (redArr vf vc s).setIfInBounds j v = redArr vf vc s') (h1 : s'.first = s.first) (h2 : s'.cells = s.cells) : RedAt (w.setCell ⟨b, j, none⟩ v) b vf vc s' := by
  have hk : Kept (· = b) w (w.setCell ⟨b, j, none⟩ v) := (Kept.self b w).set1 _ _
  refine ⟨?_, ?_, ?_, h.bf, h.bc, h.fc⟩
  · rw [heap_setCell_same _ _ _ _ _ _ h.blk, ← he]
  · rw [h1]; exact h.first.kept hk (fun g hg e => h.bf (by rw [hg, e]))
  · rw [h2]; exact h.cells.kept hk (fun g hg e => h.bc (by rw [hg, e]))
theorem setC (h : RedAt w b vf vc s) {g o m cap : Nat} (hv : vc = .slice (some ⟨g, o, none⟩) m cap) (i : Nat) (hi : i < s.cells.length) (x : ByteArray) : RedAt (w.setCell ⟨g, o + i, none⟩ (.string x)) b vf vc { s with cells := s.cells.set i x } := by
  have hk : Kept (· = g) w (w.setCell ⟨g, o + i, none⟩ (.string x)) := (Kept.self g w).set1 _ _
  have hg : vc.ownBlock = some g := by rw [hv]; rfl
  have hc := h.cells
  rw [hv] at hc
  exact ⟨hk.heap h.blk (fun e => h.bc (by rw [hg, e])), h.first.kept hk (fun q hq e => h.fc q hq (by rw [hg, e])), by rw [hv]; exact hc.setStr hi x, h.bf, h.bc, h.fc⟩
end RedAt
def RedOk (F : Nat → Prop) (w : World) (b : Nat) (s : Rd.R) : Prop := ∃ vf vc, RedAt w b vf vc s ∧ RedIn F b vf vc
theorem RedOk.below {F : Nat → Prop} {w w' : World} {b : Nat} {s : Rd.R} (h : RedOk F w b s) (hb : Below w.heap.size w w') : RedOk F w' b s := by
  obtain ⟨vf, vc, h1, h2⟩ := h; exact ⟨vf, vc, h1.below hb, h2⟩
theorem RedOk.wide {F F' : Nat → Prop} {w : World} {b : Nat} {s : Rd.R} (h : RedOk F w b s) (hF : ∀ k, k < w.heap.size → F k → F' k) : RedOk F' w b s := by
  obtain ⟨vf, vc, h1, h2⟩ := h
  exact ⟨vf, vc, h1, hF _ h1.lt h2.b, fun g hg => hF _ (h1.first.lt hg).2 (h2.f g hg), fun g hg => hF _ (h1.cells.lt hg).2 (h2.c g hg)⟩
def StepPost (b : Nat) (vf vc : Value) (s : Rd.R) (w : World) (e : Ending) (w' : World) : Prop := e = .returned (.bool (s.left == 0)) ∧ RedAt w' b vf vc (Rd.step s) ∧ Kept (· = b) w w'
theorem step_any {w : World} {b : Nat} {vf vc : Value} {s : Rd.R} (h : RedAt w b vf vc s) (h1 : -1 ≤ s.left) (h2 : s.left ≤ 9223372036854775807) :
    Calls Tryd.prog 68 #[.pointer (some ⟨b, 0, none⟩)] w (StepPost b vf vc s w) := by
  have c4 := h.c4
  have c5 := h.c5
  have ff := h.f
  have h5 := h.upd 5 (.bool (s.left == 0)) (s' := { s with stopped := s.left == 0 }) rfl rfl rfl
  have H6 := Lib.hid (h5.upd 4 (iv (max (-1) (s.left - 1))) (s' := Rd.step s) rfl rfl rfl)
  have HK : Hid (Kept (· = b) w ((w.setCell ⟨b, 5, none⟩ (.bool (s.left == 0))).setCell ⟨b, 4, none⟩ (iv (max (-1) (s.left - 1))))) := Lib.hid (((Kept.self b w).set1 _ _).set1 _ _)
  clear h h5
  go_enter Tryd.func68, Tryd.ntmps68
  go_wp2_with fail
  go_ret
  exact ⟨rfl, H6.out, HK.out⟩
def RedPost (F : Nat → Prop) (b : Nat) (r : Int × Rd.R) (w : World) (e : Ending) (w' : World) : Prop := e = .returned (errV r.1) ∧ RedOk F w' b r.2 ∧ Kept F w w'
theorem sync_any {F : Nat → Prop} {w : World} {b : Nat} {s : Rd.R} (h : RedOk F w b s) (h1 : -1 ≤ s.left) (h2 : s.left ≤ 9223372036854775807) (hb : s.bytes.length ≤ 1000000) :
    Calls Tryd.prog 40 #[.pointer (some ⟨b, 0, none⟩)] w (RedPost F b (Rd.sync s) w) := by
  obtain ⟨vf, vc, h, hI⟩ := h
  have H := Lib.hid h
  have HI := Lib.hid hI
  have c5 := h.c5
  cases hs : s.stopped with
  | true =>
    have hr : Rd.sync s = (6, s) := by unfold Rd.sync; rw [hs, if_pos rfl]
    rw [hr]
    rw [hs] at c5
    clear h hI hr hs
    go_enter Tryd.func40, Tryd.ntmps40
    go_wp2_with fail
    go_ret
    exact ⟨rfl, ⟨vf, vc, H.out, HI.out⟩, Kept.refl _ _⟩
  | false =>
    have HS := Lib.hid (step_any h h1 h2)
    rw [hs] at c5
    have hr : Rd.sync s = if s.left == 0 then (6, Rd.step s) else (0, { Rd.step s with safe := s.bytes.length }) := by unfold Rd.sync; rw [hs, if_neg (by simp)]
    cases hz : (s.left == 0) with
    | true =>
      rw [hz, if_pos rfl] at hr
      rw [hr]
      unfold StepPost at HS
      rw [hz] at HS
      have Hby := Lib.hid hb
      clear h hI hr hs hz
      go_enter Tryd.func40, Tryd.ntmps40
      go_wp2_with fail
      refine HS.out.mono ?_
      rintro e w1 ⟨rfl, h1', hk1⟩
      have HA := Lib.hid h1'
      have HK := Lib.hid (hk1.mono (T' := F) (fun k _ e => by rw [e]; exact HI.out.b))
      have d2 := h1'.c2
      have d3 := h1'.c3
      have ff := h1'.f
      have hbs : (Rd.bs (Rd.step s).bytes).size = s.bytes.length := Rd.bs_size _
      have H3 := Lib.hid (h1'.upd 3 (iv s.bytes.length) (s' := { Rd.step s with safe := s.bytes.length }) rfl rfl rfl)
      have HK3 := Lib.hid (HK.out.setCell (p := ⟨b, 3, none⟩) (fun _ => HI.out.b) (iv s.bytes.length))
      obtain ⟨m, hm⟩ : ∃ m, m = s.bytes.length := ⟨_, rfl⟩
      rw [← hm] at hbs H3 HK3 hb
      obtain ⟨t, ht⟩ : ∃ t, t = Rd.bs (Rd.step s).bytes := ⟨_, rfl⟩
      rw [← ht] at d2 hbs
      have Hm := Lib.hid hm
      clear h1' hk1 HS hm ht
      go_wp2_with fail
      go_ret
      exact ⟨rfl, ⟨vf, vc, HA.out, HI.out⟩, HK.out⟩
    | false =>
      rw [hz, if_neg (by simp)] at hr
      rw [hr]
      unfold StepPost at HS
      rw [hz] at HS
      have Hby := Lib.hid hb
      clear h hI hr hs hz
      go_enter Tryd.func40, Tryd.ntmps40
      go_wp2_with fail
      refine HS.out.mono ?_
      rintro e w1 ⟨rfl, h1', hk1⟩
      have HA := Lib.hid h1'
      have HK := Lib.hid (hk1.mono (T' := F) (fun k _ e => by rw [e]; exact HI.out.b))
      have d2 := h1'.c2
      have d3 := h1'.c3
      have ff := h1'.f
      have hbs : (Rd.bs (Rd.step s).bytes).size = s.bytes.length := Rd.bs_size _
      have H3 := Lib.hid (h1'.upd 3 (iv s.bytes.length) (s' := { Rd.step s with safe := s.bytes.length }) rfl rfl rfl)
      have HK3 := Lib.hid (HK.out.setCell (p := ⟨b, 3, none⟩) (fun _ => HI.out.b) (iv s.bytes.length))
      obtain ⟨m, hm⟩ : ∃ m, m = s.bytes.length := ⟨_, rfl⟩
      rw [← hm] at hbs H3 HK3 hb
      obtain ⟨t, ht⟩ : ∃ t, t = Rd.bs (Rd.step s).bytes := ⟨_, rfl⟩
      rw [← ht] at d2 hbs
      have Hm := Lib.hid hm
      clear h1' hk1 HS hm ht
      go_wp2_with fail
      go_ret
      refine ⟨rfl, ⟨vf, vc, ?_, HI.out⟩, HK3.out⟩
      show RedAt _ b vf vc { Rd.step s with safe := s.bytes.length }
      rw [← Hm.out]; exact H3.out
def FailPost (F : Nat → Prop) (b : Nat) (s : Rd.R) (w : World) (e : Ending) (w' : World) : Prop := e = .returned (.tuple #[]) ∧ RedOk F w' b s ∧ Kept F w w'
theorem fail_any {F : Nat → Prop} {w : World} {b : Nat} {s : Rd.R} (h : RedOk F w b s) (n : Int) :
    Calls Tryd.prog 39 #[.pointer (some ⟨b, 0, none⟩), iv n] w (FailPost F b (Rd.fail s n) w) := by
  obtain ⟨vf, vc, h, hI⟩ := h
  have c4 := h.c4
  have ff := h.f
  have H4 := Lib.hid (h.upd 4 (iv (max (-1) n)) (s' := Rd.fail s n) rfl rfl rfl)
  have HK := Lib.hid ((Kept.refl F w).setCell (p := ⟨b, 4, none⟩) (fun _ => hI.b) (iv (max (-1) n)))
  have HI := Lib.hid hI
  clear h hI
  go_enter Tryd.func39, Tryd.ntmps39
  go_wp2_with fail
  go_end0
  exact ⟨rfl, ⟨vf, vc, H4.out, HI.out⟩, HK.out⟩
end Go.Proofs.YtangcjffiooapaaDoor
