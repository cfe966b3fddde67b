/- The walks of the references' Unit and Mat. -/
import Derived.Test.YtbikmodfmckaeaaDoorCauW
import Derived.Test.YtbikmodfmckaeaaDoorRMatA
namespace Go.Proofs.YtbikmodfmckaeaaDoor
open Go.ChangeShapes Go.WideShapes Go.ChangeAt Go.RowKit
set_option linter.unusedVariables false
def RoUn (M : List (List UInt8)) (w : World) (n gk : Nat) (v3 idx : Value) (wr : World) : Prop :=
  ∃ vs : List Value, vs.length + gk = n ∧ idx = iv vs.length ∧ RowsO wr w.heap.size v3 vs M ∧ Below w.heap.size w wr
set_option maxRecDepth 100000 in
set_option maxHeartbeats 2000000 in
theorem runit_any (n : Nat) (hn9 : n ≤ 1000) (w : World) : Calls Tryd.prog 32 #[iv n] w (CaPost (lt n n Mx.un) w) := by
  go_enter Tryd.func32, Tryd.ntmps32
  go_wp2_with fail
  go_loopg [3, 4, 5] n (fun gk v3 v4 v5 wr => RoUn (lt n n Mx.un) w n gk v3 v4 wr)
  case atStart => exact ⟨[], by simp, rfl, RowsO.nil _ _ _, Below.refl _ _⟩
  case round =>
    obtain ⟨vs, hi, rfl, hR, hB⟩ := hrel
    obtain ⟨i, hie⟩ : ∃ i, i = vs.length := ⟨_, rfl⟩
    rw [← hie] at hi ⊢
    have Hie := Lib.hid hie
    have Hi := Lib.hid hi
    have HR := Lib.hid hR
    have HB := Lib.hid hB
    have hz := hB.size
    clear hi hR hB hie
    by_cases hin : i < n
    · have mk := make_bytesV n (by omega) wr
      have hal : Below wr.heap.size wr (wr.alloc (.cells (madeCells #[.int .u8 0] n) 5)) := (Below.refl _ _).alloc (Nat.le_refl _) _
      have hO := owns_made n (by omega) wr
      obtain ⟨w1, hw1⟩ : ∃ w1, w1 = wr.alloc (.cells (madeCells #[.int .u8 0] n) 5) := ⟨_, rfl⟩
      rw [← hw1] at mk hal hO
      obtain ⟨b, hb⟩ : ∃ b, b = wr.heap.size := ⟨_, rfl⟩
      have hgb : w.heap.size ≤ b := by omega
      rw [← hb] at mk hO
      obtain ⟨_, _, hx2, _, _, hce, hfe⟩ := OwnB.cells hO (by rw [Gv.tab_len]; omega)
      clear hx2
      have d2 := hce i hin
      have f2 := hfe (0 + i)
      rw [Nat.zero_add] at d2 f2
      have hO2 : OwnB (w1.setCell ⟨b, i, none⟩ (bv 1)) w.heap.size (.slice (some ⟨b, 0, none⟩) n n) (Gv.tab n (Mx.un i)) := by
        have h := OwnB.setAt (OwnR.mono hO hgb) (k := i) (by rw [Gv.tab_len]; exact hin) 1
        rw [Nat.zero_add, Gv.tab_set] at h
        rw [Gv.tab_ext (g := Mx.un i)] at h
        · exact h
        · intro j _
          unfold Mx.un
          by_cases e2 : j = i
          · rw [if_pos e2, if_pos e2.symm]
          · rw [if_neg e2, if_neg (fun h => e2 h.symm)]
      have e0 : Gv.at' (Gv.tab n fun _ => 0) i = 0 := by show List.getD _ _ _ = _; rw [Gv.tab_at _ hin]
      rw [e0] at d2
      have hb2 : Below w.heap.size w (w1.setCell ⟨b, i, none⟩ (bv 1)) := (HB.out.trans (hal.mono hz)).setCell (p := ⟨b, i, none⟩) hgb _
      have hbr : Below wr.heap.size wr (w1.setCell ⟨b, i, none⟩ (bv 1)) := hal.setCell (p := ⟨b, i, none⟩) (by rw [← hb]; exact Nat.le_refl _) _
      have HR2 := Lib.hid (HR.out.below hbr)
      have hub : ∀ g, (Value.slice (some ⟨b, 0, none⟩) n n).ownBlock = some g → u3.ownBlock ≠ some g := fun g h1 h2 => by
        injection h1 with h1
        have h1' : b = g := h1
        have k2 := (OwnR.lt (OwnR.of_owns HR.out.own) h2).2
        omega
      have Hub := Lib.hid hub
      have hlen : ∀ (j : Nat) u, vs[j]? = some u → ∃ r, (lt n n Mx.un)[j]? = some r := fun j u hu => by
        have h1 := (List.getElem?_eq_some_iff.1 hu).1
        rw [← Hie.out] at h1
        exact ⟨_, lt_get n Mx.un (by omega)⟩
      have Hlen := Lib.hid hlen
      have hi9 : i + 1 ≤ 1000000 := by omega
      have hown : (w1.setCell ⟨b, i, none⟩ (bv 1)).ownsRow w.heap.size 22 1 u3 i vs := by have h := HR2.out.own; rw [← Hie.out] at h; exact h
      obtain ⟨w2, hw2⟩ : ∃ w2, w2 = w1.setCell ⟨b, i, none⟩ (bv 1) := ⟨_, rfl⟩
      rw [← hw2] at hO2 hb2 HR2 hown
      have HO2 := Lib.hid hO2
      have HB2 := Lib.hid hb2
      have hz2 := hb2.size
      have Hown := Lib.hid hown
      have HN : Hid (w1.heap.size = w2.heap.size) := Lib.hid (by rw [hw2]; simp)
      have Hw1 := Lib.hid hw1
      have Hw2 := Lib.hid hw2
      obtain ⟨p5, n5, c5, rfl⟩ := (OwnR.of_owns hown).slice
      clear hce hfe hO hO2 hb2 hbr hub hlen hown e0 hb hw1 hw2 hal
      go_wp2_with (at_builtin; rw [show w1.setCell ⟨b, i, none⟩ (.int .u8 1) = w2 from Hw2.out.symm]; refine app1 w w2 (.slice (some ⟨b, 0, none⟩) n n) 22 44 rfl _ _ rfl w.heap.size Tryd.underlying44 info_rowC rfl _ i _ rfl _ rfl HN.out Hown.out rfl hi9 (by decide) hz2 HB2.out ?_)
      intro v9 w9 hown9 hb9 hgr9 hat9
      rw [Hie.out] at hown9
      have hR9 := HR2.out.push Hlen.out (by rw [← Hie.out]; exact lt_get n Mx.un (by omega)) HO2.out Hub.out hown9 hgr9 hat9
      have HR9 := Lib.hid hR9
      have HB9 := Lib.hid hb9
      have hl9 : (vs ++ [Value.slice (some ⟨b, 0, none⟩) n n]).length = i + 1 := by rw [List.length_append, ← Hie.out]; rfl
      have Hl9 := Lib.hid hl9
      clear hown9 hb9 hgr9 hat9 hR9 hl9 HR HR2 HO2 Hub Hlen Hown
      go_wp2_with fail
      go_roundg (gk - 1)
      case measure => have := Hi.out; omega
      case rel => exact ⟨_, by rw [Hl9.out]; have := Hi.out; omega, by rw [Hl9.out]; go_num, HR9.out, HB9.out⟩
    · have hin' : i = n := by have := Hi.out; omega
      have HM : Hid (RowsM wr u3 (lt n n Mx.un)) := Lib.hid (HR.out.rowsM (by rw [← Hie.out, hin', lt_len]))
      clear HR
      go_wp2_with fail
      go_ret
      exact ⟨_, rfl, HM.out, HB.out⟩
end Go.Proofs.YtbikmodfmckaeaaDoor
