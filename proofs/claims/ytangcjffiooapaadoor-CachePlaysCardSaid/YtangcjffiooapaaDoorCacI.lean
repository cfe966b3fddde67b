/- The reference's Cache: the walk of NewCache. -/
import Derived.Test.YtangcjffiooapaaDoorCacJ
namespace Go.Proofs.YtangcjffiooapaaDoor
open Go.ChangeShapes Go.WideShapes Go.ChangeAt Go.RowKit Go.Maps
set_option linter.unusedVariables false
theorem info_strI : (Tryd.prog.info? 9).map (fun i => (i.zero, i.size, i.bytes)) = some (some (.string ⟨#[]⟩), 1, 16) := by kernel_rfl
theorem make_strsI (n : Nat) (h : n ≤ 1000000) (w : World) : (Instr.makeSlice 22 (.int .i64 (n : Int)) (.int .i64 (n : Int))).run Tryd.prog w = .ok (.slice (some ⟨w.heap.size, 0, none⟩) n n) (w.alloc (.cells (madeCells #[.string ⟨#[]⟩] n) 9)) :=
  run_make_row' 22 9 (.string ⟨#[]⟩) 16 Tryd.underlying22 info_strI rfl .i64 .i64 n (by omega) (by omega) w
def RNewPost (cells : List ByteArray) (room : Nat) (w : World) (e : Ending) (w' : World) : Prop :=
  ∃ c, e = .returned (.pointer (some ⟨c, 0, none⟩)) ∧ RcOk (fun k => w.heap.size ≤ k) w' c (Cc.new cells room) ∧ Below w.heap.size w w'
theorem rnew_core {cells : List ByteArray} {room : Nat} {w wf : World} {v : Value} {m : Nat} (hm : cells.length = m) (hm4 : m ≤ 40)
    (hO : OwnR wf (w.heap.size + 2) 9 v (cells.map Value.string)) (hb : Below w.heap.size w wf)
    (h3 : wf.heap[w.heap.size + 1]? = some (.cells #[v, iv room, .slice none 0 0, .slice (some ⟨w.heap.size, 0, none⟩) m m, .slice none 0 0, iv 0] 45 (0, 0)))
    (h31 : wf.heap[w.heap.size]? = some (.cells (madeCells #[.string ⟨#[]⟩] m) 9 (0, 0))) :
    RcOk (fun k => w.heap.size ≤ k) wf (w.heap.size + 1) (Cc.new cells room) ∧ Below w.heap.size w wf := by
  have hO0 := hO.mono (Nat.zero_le _)
  have hlt : ∀ g, v.ownBlock = some g → w.heap.size + 2 ≤ g := fun g e => (hO.lt e).1
  refine ⟨⟨v, .slice none 0 0, .slice (some ⟨w.heap.size, 0, none⟩) m m, .slice none 0 0, List.replicate m ⟨#[]⟩, ⟨h3, hO0, OwnR.nil _ _ _, ?_, OwnR.nil _ _ _, ?_, ?_, ?_⟩, (fun x hx => by cases hx)⟩, hb⟩
  · refine .inr ⟨w.heap.size, 0, m, madeCells #[.string ⟨#[]⟩] m, by simp, Nat.zero_le _, h31, by simp, by unfold maxLen; omega, ?_, fun j hj => ?_⟩
    · rw [← Array.length_toList, toList_madeCells_one]; simp
    · rw [List.length_map, List.length_replicate] at hj
      rw [Nat.zero_add, ← Array.getElem?_toList, toList_madeCells_one, List.map_replicate]
  · rw [List.length_replicate]; exact hm.symm
  · unfold Apart rcB
    rw [show (Value.slice (some ⟨w.heap.size, 0, none⟩) m m).ownBlock = some w.heap.size from rfl, show (Value.slice none 0 0).ownBlock = none from rfl]
    simp only [List.pairwise_cons, List.mem_cons, List.not_mem_nil, or_false, forall_eq_or_imp, forall_eq]
    refine ⟨⟨?_, ?_, ?_, ?_⟩, ⟨?_, ?_, ?_⟩, ⟨?_, ?_⟩, ?_, ?_⟩
    all_goals first
      | (intro g e e2; have := hlt g e2; injection e with e; omega)
      | (intro g e e2; cases e2; done)
      | (intro g e e2; cases e; done)
      | (intro g e e2; have := hlt g e; injection e2 with e2; omega)
      | (intro g e e2; injection e with e; injection e2 with e2; omega)
      | (intro a h; cases h; done)
      | exact List.Pairwise.nil
      | exact ⟨fun _ h => h.elim, List.Pairwise.nil⟩
  · intro g hg
    simp only [rcB, List.mem_cons, List.not_mem_nil, or_false] at hg
    rcases hg with e | e | e | e | e
    · injection e with e; show w.heap.size ≤ g; omega
    · have := hlt g e.symm; show w.heap.size ≤ g; omega
    · cases e
    · have e' : some g = some w.heap.size := e
      injection e' with e'; show w.heap.size ≤ g; omega
    · cases e
theorem rnew_fin {cells : List ByteArray} {room : Nat} {w w3 : World} {v : Value} {m : Nat} (hm : cells.length = m)
    (hO : OwnR w3 (w.heap.size + 2) 9 v (cells.map Value.string))
    (hb : Below ((w.alloc (.cells (madeCells #[.string ⟨#[]⟩] m) 9)).alloc (.cells #[.slice none 0 0, iv room, .slice none 0 0, .slice (some ⟨w.heap.size, 0, none⟩) m m, .slice none 0 0, iv 0] 45)).heap.size ((w.alloc (.cells (madeCells #[.string ⟨#[]⟩] m) 9)).alloc (.cells #[.slice none 0 0, iv room, .slice none 0 0, .slice (some ⟨w.heap.size, 0, none⟩) m m, .slice none 0 0, iv 0] 45)) w3) (hm4 : m ≤ 40) :
    RcOk (fun k => w.heap.size ≤ k) (w3.setCell ⟨w.heap.size + 1, 0, none⟩ v) (w.heap.size + 1) (Cc.new cells room) ∧ Below w.heap.size w (w3.setCell ⟨w.heap.size + 1, 0, none⟩ v) := by
  obtain ⟨w1, hw1⟩ : ∃ w1, w1 = w.alloc (.cells (madeCells #[.string ⟨#[]⟩] m) 9) := ⟨_, rfl⟩
  have hz1 : w1.heap.size = w.heap.size + 1 := by rw [hw1]; simp
  have h1 : w1.heap[w.heap.size]? = some (.cells (madeCells #[.string ⟨#[]⟩] m) 9 (0, 0)) := by rw [hw1]; exact heap_alloc_new w _
  have hb1 : Below w.heap.size w w1 := by rw [hw1]; exact (Below.refl _ _).alloc (Nat.le_refl _) _
  rw [← hw1] at hb
  obtain ⟨w2, hw2⟩ : ∃ w2, w2 = w1.alloc (.cells #[.slice none 0 0, iv room, .slice none 0 0, .slice (some ⟨w.heap.size, 0, none⟩) m m, .slice none 0 0, iv 0] 45) := ⟨_, rfl⟩
  have hz2 : w2.heap.size = w.heap.size + 2 := by rw [hw2]; simp; omega
  have h2 : w2.heap[w.heap.size + 1]? = some (.cells #[.slice none 0 0, iv room, .slice none 0 0, .slice (some ⟨w.heap.size, 0, none⟩) m m, .slice none 0 0, iv 0] 45 (0, 0)) := by
    rw [hw2, ← hz1]; exact heap_alloc_new w1 _
  have hb2 : Below w.heap.size w w2 := by rw [hw2]; exact hb1.alloc (by omega) _
  have h21 : w2.heap[w.heap.size]? = some (.cells (madeCells #[.string ⟨#[]⟩] m) 9 (0, 0)) := by
    rw [hw2, heap_alloc_old w1 _ (by omega)]; exact h1
  rw [← hw2] at hb
  have h3 : w3.heap[w.heap.size + 1]? = some (.cells #[.slice none 0 0, iv room, .slice none 0 0, .slice (some ⟨w.heap.size, 0, none⟩) m m, .slice none 0 0, iv 0] 45 (0, 0)) := by rw [hb.block _ (by omega)]; exact h2
  have h31 : w3.heap[w.heap.size]? = some (.cells (madeCells #[.string ⟨#[]⟩] m) 9 (0, 0)) := by rw [hb.block _ (by omega)]; exact h21
  have hs := Rc.self_c (c := w.heap.size + 1) w3 0 v
  have hlt : ∀ g, v.ownBlock = some g → w.heap.size + 2 ≤ g := fun g e => (hO.lt e).1
  exact rnew_core hm hm4 (hO.kept hs (fun g e e2 => by have := hlt g e; omega)) ((hb2.trans (hb.mono (by omega))).setCell (by show w.heap.size ≤ w.heap.size + 1; omega) _)
    (by rw [heap_setCell_same _ _ _ _ _ _ h3]; rfl) (hs.heap h31 (by show ¬ (w.heap.size = w.heap.size + 1); omega))
set_option maxRecDepth 100000 in
set_option maxHeartbeats 1000000 in
theorem rnew_any (cells : List ByteArray) (room : Nat) (h40 : cells.length ≤ 40) (va : Value) (w : World) (ha : Row w va (cells.map Value.string)) :
    Calls Tryd.prog 13 #[va, iv room] w (RNewPost cells room w) := by
  obtain ⟨i0, hi, hq0, hq1, hq2⟩ := info_parts info_strI
  have Ha := Lib.hid ha
  obtain ⟨pa, ca, rfl, ha1, ha2, ha3, ha4⟩ := ha
  rw [List.length_map] at *
  unfold maxLen at ha2
  have Ha4 := Lib.hid ha4
  obtain ⟨m, hm⟩ : ∃ m, m = cells.length := ⟨_, rfl⟩
  rw [← hm] at h40 ha1
  have Hm := Lib.hid hm
  have mk := make_strsI m (by omega)
  have hz : w.heap.size + 1 = (w.alloc (.cells (madeCells #[.string ⟨#[]⟩] m) 9)).heap.size := by simp
  rw [← hm]
  obtain ⟨wB, hwB⟩ : ∃ wB, wB = (w.alloc (.cells (madeCells #[.string ⟨#[]⟩] m) 9)).alloc (.cells #[.slice none 0 0, iv room, .slice none 0 0, .slice (some ⟨w.heap.size, 0, none⟩) m m, .slice none 0 0, iv 0] 45) := ⟨_, rfl⟩
  have hzB : wB.heap.size = w.heap.size + 2 := by rw [hwB]; simp
  have hbB : Below w.heap.size w wB := by rw [hwB]; exact ((Below.refl _ _).alloc (Nat.le_refl _) _).alloc (by simp) _
  have HA2 := Lib.hid (Ha.out.low (Nat.le_refl _) hbB)
  have HwB := Lib.hid hwB
  have HzB := Lib.hid hzB
  clear ha4 hm hz hbB hwB hzB
  go_enter Tryd.func13, Tryd.ntmps13
  cases pa with
  | none =>
    obtain rfl : ca = 0 := ha3 rfl
    obtain rfl : m = 0 := by omega
    have he : cells = [] := List.eq_nil_of_length_eq_zero Hm.out.symm
    have He := Lib.hid he
    have mk0 : ∀ w : World, (Instr.makeSlice 22 (.int .i64 0) (.int .i64 0)).run Tryd.prog w = .ok (.slice (some ⟨w.heap.size, 0, none⟩) 0 0) (w.alloc (.cells (madeCells #[.string ⟨#[]⟩] 0) 9)) := fun w => make_strsI 0 (by omega) w
    clear he mk
    go_wp2_with fail
    go_ret
    have hf := rnew_core (cells := cells) (room := room) (w := w) (wf := (w.alloc (.cells (madeCells #[.string ⟨#[]⟩] 0) 9)).alloc (.cells #[.slice none 0 0, iv room, .slice none 0 0, .slice (some ⟨w.heap.size, 0, none⟩) 0 0, .slice none 0 0, iv 0] 45)) (v := .slice none 0 0) Hm.out.symm (by omega) (by rw [He.out]; exact OwnR.nil _ _ _) (((Below.refl _ _).alloc (Nat.le_refl _) _).alloc (by simp) _)
      (by have := heap_alloc_new (w.alloc (.cells (madeCells #[.string ⟨#[]⟩] 0) 9)) (.cells #[.slice none 0 0, iv room, .slice none 0 0, .slice (some ⟨w.heap.size, 0, none⟩) 0 0, .slice none 0 0, iv 0] 45); simpa using this)
      (by rw [heap_alloc_old _ _ (by simp)]; exact heap_alloc_new w _)
    exact ⟨_, rfl, hf.1, hf.2⟩
  | some ad =>
    go_upto_region 2 with (fail)
    rw [← HwB.out]
    have k0 : wB.cell? ⟨w.heap.size + 1, 0, none⟩ = some (.slice none 0 0) := by
      rw [HwB.out, cell_of_row _ _ _ _ _ _ (by have := heap_alloc_new (w.alloc (.cells (madeCells #[.string ⟨#[]⟩] m) 9)) (.cells #[.slice none 0 0, iv room, .slice none 0 0, .slice (some ⟨w.heap.size, 0, none⟩) m m, .slice none 0 0, iv 0] 45); simpa using this)]; rfl
    go_wp2_with (at_builtin; refine wpList_append_own _ rfl _ _ 22 rfl wB.heap.size 9 i0 (.string ⟨#[]⟩) 1 16 Tryd.underlying22 hi hq0 hq1 hq2 rfl (by decide) _ _ _ rfl (World.ownsRow_nil _ _ _ _) ad m ca (cells.map Value.string) rfl ?qc1 ?qc2 ?qc3 ?qc4 ?qc5 ?qc6 ?_)
    case qc1 => rw [List.length_map, ← Hm.out, Nat.mul_one]
    case qc2 =>
      intro j u hj
      obtain ⟨p2, c2, hv2, _, _, h3⟩ := HA2.out.shape
      have hjn := (List.getElem?_eq_some_iff.1 hj).1
      obtain ⟨g, off, hp, h4⟩ := h3 (by omega)
      injection hv2 with hp2
      rw [hp] at hp2
      injection hp2 with hp2
      rw [hp2, Addr.add_lit, h4 j hjn, hj]
    case qc3 => intro u hu; obtain ⟨x, _, rfl⟩ := List.mem_map.1 hu; rfl
    case qc4 => unfold maxLen; omega
    case qc5 => omega
    case qc6 => omega
    intro v' w1' hown hgrow _
    have hO : OwnR w1' (w.heap.size + 2) 9 v' (cells.map Value.string) := by rw [← HzB.out]; exact OwnR.of_owns hown
    have hb : Below wB.heap.size wB w1' := (Below.refl _ _).grown hgrow (Nat.le_refl _) (by intro k hk; simp [Value.ownBlock] at hk)
    have k1 := (hb.cell (p := ⟨w.heap.size + 1, 0, none⟩) (World.block_lt_of_cell? wB _ k0)).trans k0
    have hf0 : wB.frozen? ⟨w.heap.size + 1, 0, none⟩ = false := by
      rw [HwB.out]; exact frozen_of_row _ _ _ _ _ (by have := heap_alloc_new (w.alloc (.cells (madeCells #[.string ⟨#[]⟩] m) 9)) (.cells #[.slice none 0 0, iv room, .slice none 0 0, .slice (some ⟨w.heap.size, 0, none⟩) m m, .slice none 0 0, iv 0] 45); simpa using this)
    have f1 : w1'.frozen? ⟨w.heap.size + 1, 0, none⟩ = false := (hb.frozen (p := ⟨w.heap.size + 1, 0, none⟩) (World.block_lt_of_cell? wB _ k0)).trans hf0
    rw [HwB.out] at hb
    have Hf := Lib.hid (rnew_fin (cells := cells) (room := room) (w := w) (v := v') Hm.out.symm hO hb h40)
    obtain ⟨pv, nv, cv, hv'⟩ := hO.slice
    subst hv'
    clear hown hgrow k0 hO hb hf0 hi hq0 hq1 hq2 mk
    go_wp2_with fail
    go_ret
    exact ⟨_, rfl, Hf.out.1, Hf.out.2⟩
end Go.Proofs.YtangcjffiooapaaDoor
