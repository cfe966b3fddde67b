/- A redo log: the walks of All, Bytes, Safe, New. -/
import Derived.Test.YtangcjffiooapaaDoorRedZ
namespace Go.Proofs.YtangcjffiooapaaDoor
open Go.ChangeShapes Go.WideShapes Go.ChangeAt Go.RowKit
set_option linter.unusedVariables false
def RAllPost (l : List ByteArray) (w : World) (e : Ending) (w' : World) : Prop :=
  ∃ v, e = .returned v ∧ w'.ownsRow w.heap.size 9 1 v l.length (l.map Value.string) ∧ Below w.heap.size w w'
theorem all_any {F : Nat → Prop} {w : World} {b : Nat} {s : Rd.R} (h : RedOk F w b s) (hl : s.cells.length ≤ 1000) :
    Calls Tryd.prog 37 #[.pointer (some ⟨b, 0, none⟩)] w (RAllPost s.cells w) := by
  obtain ⟨vf, vc, h, hI⟩ := h
  have c1 := h.c1
  have HL := Lib.hid (clone_str (s.cells.map Value.string) (by intro u hu; obtain ⟨x, _, rfl⟩ := List.mem_map.1 hu; rfl) (by rw [List.length_map]; omega) vc w h.cells.row)
  clear h hI
  go_enter Tryd.func37, Tryd.ntmps37
  go_wp2_with fail
  refine HL.out.mono ?_
  rintro e w1 ⟨v1, rfl, hown, hb⟩
  rw [List.length_map] at hown
  go_wp2_with fail
  go_ret
  exact ⟨v1, rfl, hown, hb⟩
theorem bytes_any {F : Nat → Prop} {w : World} {b : Nat} {s : Rd.R} (h : RedOk F w b s) (hl : s.bytes.length ≤ 1000000) :
    Calls Tryd.prog 38 #[.pointer (some ⟨b, 0, none⟩)] w fun e w' => e = .returned (iv s.bytes.length) ∧ w = w' := by
  obtain ⟨vf, vc, h, hI⟩ := h
  have c2 := h.c2
  have hs := Rd.bs_size s.bytes
  obtain ⟨t, ht⟩ : ∃ t, t = Rd.bs s.bytes := ⟨_, rfl⟩
  rw [← ht] at c2 hs
  have Hs := Lib.hid hs
  clear h hI ht hs
  go_enter Tryd.func38, Tryd.ntmps38
  go_wp2_with fail
  go_ret
  exact ⟨by rw [← Hs.out]; rfl, rfl⟩
theorem safe_any {F : Nat → Prop} {w : World} {b : Nat} {s : Rd.R} (h : RedOk F w b s) :
    Calls Tryd.prog 42 #[.pointer (some ⟨b, 0, none⟩)] w fun e w' => e = .returned (iv s.safe) ∧ w = w' := by
  obtain ⟨vf, vc, h, hI⟩ := h
  have c3 := h.c3
  clear h hI
  go_enter Tryd.func42, Tryd.ntmps42
  go_wp2_with fail
  go_ret
  exact ⟨rfl, rfl⟩
def RNewPostR (cells : List ByteArray) (w : World) (e : Ending) (w' : World) : Prop :=
  ∃ b, e = .returned (.tuple #[.pointer (some ⟨b, 0, none⟩), .nilIface]) ∧ RedOk (fun k => w.heap.size ≤ k) w' b (Rd.new cells) ∧ Below w.heap.size w w'
theorem redNew_any (cells : List ByteArray) (h0 : cellsF cells = 0) (v : Value) (w : World) (hv : Row w v (cells.map Value.string)) :
    Calls Tryd.prog 35 #[v] w (RNewPostR cells w) := by
  have HC := Lib.hid (cells_any cells v w hv)
  rw [h0] at HC
  have hlen := (cellsF_0 h0).1
  have HL := Lib.hid (clone_str (cells.map Value.string) (by intro u hu; obtain ⟨x, _, rfl⟩ := List.mem_map.1 hu; rfl) (by rw [List.length_map]; omega) v w hv)
  have Hv := Lib.hid hv
  clear h0 hv
  go_enter Tryd.func35, Tryd.ntmps35
  go_wp2_with fail
  refine HC.out.mono ?_
  rintro e w' ⟨he, rfl⟩
  obtain rfl : e = .returned .nilIface := he
  go_wp2_with fail
  refine HL.out.mono ?_
  rintro e w1 ⟨v1, rfl, hown, hb⟩
  have HO1 := Lib.hid (OwnR.of_owns hown)
  have HB1 := Lib.hid hb
  have hz1 := hb.size
  have HL2 := Lib.hid (clone_str (cells.map Value.string) (by intro u hu; obtain ⟨x, _, rfl⟩ := List.mem_map.1 hu; rfl) (by rw [List.length_map]; omega) v w1 (Hv.out.below hb))
  clear hown hb HL HC
  go_wp2_with fail
  refine HL2.out.mono ?_
  rintro e w2 ⟨v2, rfl, hown2, hb2⟩
  have hO2 := OwnR.of_owns hown2
  have HO2 := Lib.hid hO2
  have HB2 := Lib.hid hb2
  have hz2 := hb2.size
  obtain ⟨p1, n1, c1, hv1⟩ := HO1.out.slice
  obtain ⟨p2, n2, c2, hv2⟩ := hO2.slice
  subst hv1 hv2
  clear hown2 hb2 HL2 hO2
  go_wp2_with fail
  go_ret2
  have hbn : Below w2.heap.size w2 (w2.alloc (.cells #[.slice p1 n1 c1, .slice p2 n2 c2, .string ⟨#[]⟩, iv 0, iv (-1), .bool false] 107)) := (Below.refl _ _).alloc (Nat.le_refl _) _
  refine ⟨w2.heap.size, rfl, ⟨.slice p1 n1 c1, .slice p2 n2 c2, ⟨?_, ((HO1.out.mono (Nat.zero_le _)).below HB2.out).below hbn, (HO2.out.mono (Nat.zero_le _)).below hbn, ?_, ?_, ?_⟩, ⟨by omega, ?_, ?_⟩⟩, (HB1.out.trans (HB2.out.mono hz1)).alloc (by omega) _⟩
  · exact heap_alloc_new w2 _
  · intro e; have := (HO1.out.lt e).2; omega
  · intro e; have := (HO2.out.lt e).2; omega
  · intro g e e2; have := (HO1.out.lt e).2; have := (HO2.out.lt e2).1; omega
  · intro g e; exact (HO1.out.lt e).1
  · intro g e; have := (HO2.out.lt e).1; show w.heap.size ≤ g; omega
end Go.Proofs.YtangcjffiooapaaDoor
