/- The walks of package disk: the methods. -/
import Derived.Test.YtcldioneiededaaDiskW
namespace Go.Proofs.Ytcldioneiededaa
open Go.ChangeShapes Go.WideShapes Go.ChangeAt Go.RowKit
set_option linter.unusedVariables false
variable {w : World} {b : Nat} {d : Dk.D}
theorem ready_any (h : DiskAt w b d) (row : Int) :
    Calls Try.prog 52 #[.pointer (some ⟨b, 0, none⟩), iv row] w fun e w' => e = .returned (errV (d.ready row)) ∧ w = w' := by
  have c1 := h.m
  have c3 := h.fl
  have hm := h.room
  clear h
  cases hf : d.failed with
  | true =>
    have e : d.ready row = 6 := by unfold Dk.D.ready; rw [hf, if_pos rfl]
    rw [e]
    rw [hf] at c3
    clear hf e
    go_enter Try.func52, Try.ntmps52
    go_wp2_with fail
    go_ret
    exact ⟨rfl, rfl⟩
  | false =>
    rw [hf] at c3
    have e0 : d.ready row = if row < 0 ∨ (d.many : Int) ≤ row then 1 else 0 := by unfold Dk.D.ready; rw [hf, if_neg (by decide)]
    clear hf
    by_cases h1 : row < 0
    · rw [e0, if_pos (.inl h1)]
      clear e0
      go_enter Try.func52, Try.ntmps52
      go_wp2_with fail
      go_ret
      exact ⟨rfl, rfl⟩
    · by_cases h2 : (d.many : Int) ≤ row
      · rw [e0, if_pos (.inr h2)]
        clear e0
        go_enter Try.func52, Try.ntmps52
        go_wp2_with fail
        go_ret
        exact ⟨rfl, rfl⟩
      · rw [e0, if_neg (by omega)]
        clear e0
        go_enter Try.func52, Try.ntmps52
        go_wp2_with fail
        go_ret
        exact ⟨rfl, rfl⟩
theorem read_any (h : DiskAt w b d) (row : Int) :
    Calls Try.prog 38 #[.pointer (some ⟨b, 0, none⟩), iv row] w fun e w' => e = .returned (.tuple #[.string (d.read row).1, errV (d.read row).2]) ∧ w = w' := by
  have H := Lib.hid h
  unfold Dk.D.read
  by_cases h0 : d.ready row = 0
  · obtain ⟨_, h1, h2⟩ := Dk.D.ready_in h0
    obtain ⟨r, rfl⟩ : ∃ r : Nat, row = r := ⟨row.toNat, by omega⟩
    have hr20 : r < 20 := by have := h.room; omega
    have hc := h.row hr20
    rw [if_pos h0, Int.toNat_natCast]
    have H0 := Lib.hid h0
    clear h0 h1 h2 h
    go_enter Try.func38, Try.ntmps38
    go_wp2_with fail
    refine (ready_any H.out r).mono ?_
    rintro e w' ⟨rfl, rfl⟩
    rw [H0.out, errV_0]
    go_wp2_with fail
    go_ret2
    exact ⟨rfl, rfl⟩
  · rw [if_neg h0]
    obtain ⟨n, hn⟩ : ∃ n, n = d.ready row := ⟨_, rfl⟩
    rw [← hn] at h0 ⊢
    have Hn := Lib.hid hn
    have H0 := Lib.hid h0
    clear hn h0 h
    go_enter Try.func38, Try.ntmps38
    go_wp2_with fail
    refine (ready_any H.out row).mono ?_
    rintro e w' ⟨rfl, rfl⟩
    rw [← Hn.out, errV_ne H0.out]
    go_wp2_with fail
    go_ret2
    rw [errV_ne H0.out]
    exact ⟨rfl, rfl⟩
def DkPost (b : Nat) (r : Int × Dk.D) (w : World) (e : Ending) (w' : World) : Prop := e = .returned (errV r.1) ∧ DiskAt w' b r.2 ∧ Kept (· = b) w w' ∧ w.heap.size = w'.heap.size
theorem write_any (h : DiskAt w b d) (row : Int) (s : ByteArray) (hs : s.size ≤ maxLen) (hw : d.writes < 1000000) :
    Calls Try.prog 29 #[.pointer (some ⟨b, 0, none⟩), iv row, .string s] w (DkPost b (d.write row s) w) := by
  unfold maxLen at hs
  have H := Lib.hid h
  have hz := h.sz
  unfold Dk.D.write
  by_cases h0 : d.ready row = 0
  · obtain ⟨_, h1, h2⟩ := Dk.D.ready_in h0
    obtain ⟨r, rfl⟩ : ∃ r : Nat, row = r := ⟨row.toNat, by omega⟩
    have hr20 : r < 20 := by have := h.room; omega
    have c2 := h.z
    have c4 := h.n
    have cr := h.row hr20
    have cf := h.f
    rw [if_pos h0, Int.toNat_natCast]
    have H0 := Lib.hid h0
    by_cases hq : s.size = d.size
    · rw [if_pos hq]
      have Hq := Lib.hid hq
      have hd : ((s.size : Int) != (d.size : Int)) = false := bne_f (by rw [hq])
      have hn : r ≠ 23 := by omega
      clear h0 h1 h2 h hq
      go_enter Try.func29, Try.ntmps29
      go_wp2_with fail
      refine (ready_any H.out r).mono ?_
      rintro e w' ⟨rfl, rfl⟩
      rw [H0.out, errV_0]
      go_wp2_with fail
      go_ret
      exact ⟨rfl, (H.out.setRow hr20 s).setN (d.writes + 1), (Kept.self b w).set1 _ _ |>.set1 _ _, by simp [World.setCell]⟩
    · rw [if_neg hq]
      have hd : ((s.size : Int) != (d.size : Int)) = true := bne_t (by omega)
      clear h0 h1 h2 h hq
      go_enter Try.func29, Try.ntmps29
      go_wp2_with fail
      refine (ready_any H.out r).mono ?_
      rintro e w' ⟨rfl, rfl⟩
      rw [H0.out, errV_0]
      go_wp2_with fail
      go_ret
      exact ⟨rfl, H.out, Kept.self b w, rfl⟩
  · rw [if_neg h0]
    obtain ⟨n, hn⟩ : ∃ n, n = d.ready row := ⟨_, rfl⟩
    rw [← hn] at h0 ⊢
    have Hn := Lib.hid hn
    have H0 := Lib.hid h0
    clear hn h0 h
    go_enter Try.func29, Try.ntmps29
    go_wp2_with fail
    refine (ready_any H.out row).mono ?_
    rintro e w' ⟨rfl, rfl⟩
    rw [← Hn.out, errV_ne H0.out]
    go_wp2_with fail
    go_ret
    rw [DkPost, errV_ne H0.out]
    exact ⟨rfl, H.out, Kept.self b w, rfl⟩
theorem fail_any (h : DiskAt w b d) :
    Calls Try.prog 34 #[.pointer (some ⟨b, 0, none⟩)] w (DkPost b d.fail w) := by
  have H := Lib.hid h
  have c3 := h.fl
  have cf := h.f
  unfold Dk.D.fail
  clear h
  cases hf : d.failed with
  | true =>
    rw [hf] at c3
    clear hf
    go_enter Try.func34, Try.ntmps34
    go_wp2_with fail
    go_ret
    exact ⟨rfl, H.out, Kept.self b w, rfl⟩
  | false =>
    rw [hf] at c3
    clear hf
    go_enter Try.func34, Try.ntmps34
    go_wp2_with fail
    go_ret
    exact ⟨rfl, H.out.setF true, (Kept.self b w).set1 _ _, by simp [World.setCell]⟩
theorem works_any (h : DiskAt w b d) :
    Calls Try.prog 36 #[.pointer (some ⟨b, 0, none⟩)] w fun e w' => e = .returned (.bool (!d.failed)) ∧ w = w' := by
  have c3 := h.fl
  clear h
  go_enter Try.func36, Try.ntmps36
  go_wp2_with fail
  go_ret
  exact ⟨rfl, rfl⟩
end Go.Proofs.Ytcldioneiededaa
