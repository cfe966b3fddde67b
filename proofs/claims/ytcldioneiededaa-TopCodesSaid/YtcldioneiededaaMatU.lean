/- The walk of matrix.Unit. -/
import Derived.Test.YtcldioneiededaaMatK
namespace Go.Proofs.Ytcldioneiededaa
open Go.ChangeShapes Go.WideShapes Go.ChangeAt Go.RowKit
set_option linter.unusedVariables false
theorem make_rowsV (n : Nat) (h : n ≤ 1000000) (w : World) : (Instr.makeSlice 85 (.int .i64 (n : Int)) (.int .i64 (n : Int))).run Try.prog w = .ok (.slice (some ⟨w.heap.size, 0, none⟩) n n) (w.alloc (.cells (madeCells #[.slice none 0 0] n) 74)) :=
  run_make_row' 85 74 (.slice none 0 0) 24 Try.underlying85 info_rowC rfl .i64 .i64 n (by omega) (by omega) w
theorem made_rows (n : Nat) (hn : n ≤ 1000000) (w : World) : OwnR (w.alloc (.cells (madeCells #[.slice none 0 0] n) 74)) w.heap.size 74 (.slice (some ⟨w.heap.size, 0, none⟩) n n) ((List.range n).map (fun _ => .slice none 0 0)) := by
  have hl : (madeCells #[Value.slice none 0 0] n).toList = List.replicate n (.slice none 0 0) := toList_madeCells_one _ _
  have hs : (madeCells #[Value.slice none 0 0] n).size = n := by rw [← Array.length_toList, hl, List.length_replicate]
  refine .inr ⟨w.heap.size, 0, n, _, by rw [List.length_map, List.length_range], Nat.le_refl _, heap_alloc_new w _, by rw [List.length_map, List.length_range]; exact Nat.le_refl _, by unfold maxLen; omega, by rw [hs]; omega, fun j hj => ?_⟩
  rw [List.length_map, List.length_range] at hj
  rw [Nat.zero_add, ← Array.getElem?_toList, hl, List.getElem?_replicate, if_pos hj, List.getElem?_map, List.getElem?_range hj]; rfl
def UnRel (n : Nat) (w : World) (gk : Nat) (i : Value) (wr : World) : Prop :=
  ∃ k vals, k + gk = n ∧ i = iv k ∧ MatK wr w.heap.size w.heap.size 0 n n vals k (fun i => Gv.tab n (Mx.un i)) ∧ Below w.heap.size w wr
def UnPost (n : Nat) (w : World) (e : Ending) (w' : World) : Prop :=
  ∃ bs, e = .returned (.slice (some ⟨w.heap.size, 0, none⟩) n n) ∧ MatF w' w.heap.size w.heap.size 0 n n n bs Mx.un ∧ Below w.heap.size w w'
set_option maxRecDepth 100000 in
set_option maxHeartbeats 2000000 in
theorem unit_any (n : Nat) (h0 : 0 < n) (hn9 : n ≤ 1000) (w : World) : Calls Try.prog 54 #[iv n] w (UnPost n w) := by
  have mk := make_rowsV n (by omega) w
  have HK0 : Hid (MatK (w.alloc (.cells (madeCells #[.slice none 0 0] n) 74)) w.heap.size w.heap.size 0 n n (fun _ => .slice none 0 0) 0 (fun i => Gv.tab n (Mx.un i))) := Lib.hid ⟨made_rows n (by omega) w, fun i hi => by omega, fun i hi => by omega, fun i j b hi => by omega⟩
  go_enter Try.func54, Try.ntmps54
  go_wp2_with fail
  go_loopg [4, 9] n (fun gk v4 v9 wr => UnRel n w gk v9 wr)
  case atStart => exact ⟨0, _, by omega, rfl, HK0.out, (Below.refl _ _).alloc (Nat.le_refl _) _⟩
  case round =>
    clear HK0 mk
    obtain ⟨k, vals, hk, rfl, hK, hB⟩ := hrel
    have Hk := Lib.hid hk
    have HK := Lib.hid hK
    have HB := Lib.hid hB
    clear hk hK hB
    by_cases hkn : k < n
    · obtain ⟨hx1, hgs, _, _, hcc, hfz⟩ := HK.out.outer h0
      have mk := make_bytesV n (by omega) wr
      have hal : Below wr.heap.size wr (wr.alloc (.cells (madeCells #[.int .u8 0] n) 5)) := (Below.refl _ _).alloc (Nat.le_refl _) _
      have hO := owns_made n (by omega) wr
      obtain ⟨w1, hw1⟩ : ∃ w1, w1 = wr.alloc (.cells (madeCells #[.int .u8 0] n) 5) := ⟨_, rfl⟩
      rw [← hw1] at mk hal hO
      obtain ⟨b, hb⟩ : ∃ b, b = wr.heap.size := ⟨_, rfl⟩
      have hgb : w.heap.size < b := by omega
      have hK1 := HK.out.next hkn hgs hal (OwnR.mono hO HB.out.size) (fun z hz => by injection hz with hz; have : z = wr.heap.size := hz.symm; omega)
      rw [← hb] at mk hK1 hO
      obtain ⟨_, _, _, _, hcc1, hfz1⟩ := (HK.out.below hal).outer h0
      have d0 := hcc1 k hkn
      have f0 := hfz1 (0 + k)
      rw [Nat.zero_add] at d0 f0 hK1
      obtain ⟨w2, hw2⟩ : ∃ w2, w2 = w1.setCell ⟨w.heap.size, k, none⟩ (.slice (some ⟨b, 0, none⟩) n n) := ⟨_, rfl⟩
      rw [← hw2] at hK1
      obtain ⟨_, _, _, _, hcc2, _⟩ := hK1.outer h0
      have d1 := hcc2 k hkn
      rw [up_self, Nat.zero_add] at d1
      have hO2 := hK1.rows k (by omega)
      rw [up_self, up_self] at hO2
      obtain ⟨_, _, hx2, _, _, hce, hfe⟩ := OwnB.cells hO2 (by rw [Gv.tab_len]; exact h0)
      clear hx2
      have d2 := hce k hkn
      have f2 := hfe (0 + k)
      rw [Nat.zero_add] at d2 f2
      have hK3 := hK1.setAt (i := k) (j := k) (by omega) (by rw [up_self]) (by rw [up_self, Gv.tab_len]; exact hkn) 1
      rw [Nat.zero_add] at hK3
      have hK4 := hK3.ext (Ls' := fun i => Gv.tab n (Mx.un i)) (fun i _ => by
        by_cases e : i = k
        · subst e
          rw [up_self, up_self, Gv.tab_set]
          refine Gv.tab_ext (fun j _ => ?_)
          unfold Mx.un
          by_cases e2 : j = i
          · rw [if_pos e2, if_pos e2.symm]
          · rw [if_neg e2, if_neg (fun h => e2 h.symm)]
        · rw [up_ne _ _ e, up_ne _ _ e])
      have HK4 := Lib.hid hK4
      have hB2 : Below w.heap.size w w2 := by rw [hw2]; exact (HB.out.trans (hal.mono HB.out.size)).setCell (p := ⟨w.heap.size, k, none⟩) (Nat.le_refl _) _
      have HB4 := Lib.hid (hB2.setCell (p := ⟨b, k, none⟩) (by show w.heap.size ≤ b; omega) (bv 1))
      have e0 : Gv.at' (Gv.tab n fun _ => 0) k = 0 := by show List.getD _ _ _ = _; rw [Gv.tab_at _ hkn]
      rw [e0] at d2
      have d3 : w1.cell? ⟨b, k, none⟩ = some (bv 0) := by
        obtain ⟨_, _, _, _, _, hce, _⟩ := OwnB.cells hO (by rw [Gv.tab_len]; exact h0)
        have h := hce k hkn
        rw [e0, Nat.zero_add] at h; exact h
      have f3 : w1.frozen? ⟨b, k, none⟩ = false := by
        obtain ⟨_, _, _, _, _, _, hfe⟩ := OwnB.cells hO (by rw [Gv.tab_len]; exact h0)
        exact hfe k
      clear d1 e0 d2 f2
      subst hw2
      have Hw1 := Lib.hid hw1
      have Hb := Lib.hid hb
      clear hw1 hb hcc hfz hal hO hK1 hcc1 hfz1 hcc2 hO2 hce hfe hK3 hK4 hB2
      go_wp2_with fail
      go_roundg (gk - 1)
      case measure => have := Hk.out; omega
      case rel => exact ⟨k + 1, _, by have := Hk.out; omega, by go_num, HK4.out, HB4.out⟩
    · have hkn' : k = n := by have := Hk.out; omega
      subst hkn'
      obtain ⟨bs, hF, _⟩ := HK.out.full h0 (fun i _ => rfl)
      have HF := Lib.hid hF
      clear hF
      go_wp2_with fail
      go_ret
      exact ⟨bs, rfl, HF.out, HB.out⟩
end Go.Proofs.Ytcldioneiededaa
