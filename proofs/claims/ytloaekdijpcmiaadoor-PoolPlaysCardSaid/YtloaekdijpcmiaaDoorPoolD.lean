/- The reference's pool of disks: what is done with a disk; both pools do alike. -/
import Derived.Test.YtloaekdijpcmiaaDoorPoolS
import Derived.Test.YtloaekdijpcmiaaDoorErr
namespace Go.Proofs.YtloaekdijpcmiaaDoor
open Go.ChangeShapes Go.WideShapes Go.ChangeAt Go.RowKit
set_option linter.unusedVariables false
/-- what is told, the fault; states, slots -/
def Pool.play (S L : List Int) (what : Nat) (d : Int) : (Int × Int) × (List Int × List Int) :=
  if d < 0 ∨ (S.length : Int) ≤ d then ((0, 1), (S, L)) else
  let s := S.getD d.toNat 0
  if what = 1 then (if s = 3 then ((0, 0), (Pool.fill S d.toNat, L)) else ((0, 6), (S, L))) else
  if what = 2 then (if s = 2 then (((Pool.fresh S L d.toNat).2.2, 0), ((Pool.fresh S L d.toNat).1, (Pool.fresh S L d.toNat).2.1)) else ((0, 6), (S, L))) else
  if s = 2 then ((0, 6), (S, L)) else (((Pool.fail S L d.toNat).2.2, 0), ((Pool.fail S L d.toNat).1, (Pool.fail S L d.toNat).2.1))
theorem play_out {S L : List Int} {what : Nat} {d : Int} (h : d < 0 ∨ (S.length : Int) ≤ d) : Pool.play S L what d = ((0, 1), (S, L)) := by unfold Pool.play; rw [if_pos h]
theorem play_in {S L : List Int} {what j : Nat} {x : Int} (hx : S[j]? = some x) : Pool.play S L what j =
    (if what = 1 then (if x = 3 then ((0, 0), (Pool.fill S j, L)) else ((0, 6), (S, L))) else
    if what = 2 then (if x = 2 then (((Pool.fresh S L j).2.2, 0), ((Pool.fresh S L j).1, (Pool.fresh S L j).2.1)) else ((0, 6), (S, L))) else
    if x = 2 then ((0, 6), (S, L)) else (((Pool.fail S L j).2.2, 0), ((Pool.fail S L j).1, (Pool.fail S L j).2.1))) := by
  have hj := (List.getElem?_eq_some_iff.1 hx).1
  unfold Pool.play
  rw [if_neg (by omega), Int.toNat_natCast, List.getD_eq_getElem?_getD, hx]
  rfl
def RDoPost (b gs cs gl cl : Nat) (B : Nat) (r : (Int × Int) × (List Int × List Int)) (w : World) (e : Ending) (w' : World) : Prop :=
  e = .returned (.tuple #[iv r.1.1, iv r.1.2]) ∧ RPoolAt w' B b gs cs gl cl r.2.1 r.2.2 ∧ Kept (fun k => k = gs ∨ k = gl) w w'
theorem rdo_out {w : World} {B b gs cs gl cl : Nat} {S L : List Int} (h : RPoolAt w B b gs cs gl cl S L) (hS : S.length ≤ 100) (what : Nat) (d : Int) (hd : d < 0 ∨ 0 ≤ d ∧ (S.length : Int) ≤ d) :
    Calls Tryd.prog 27 #[.pointer (some ⟨b, 0, none⟩), iv what, iv d] w (RDoPost b gs cs gl cl B (Pool.play S L what d) w) := by
  have HP := Lib.hid (play_out (S := S) (L := L) (what := what) (d := d) (by omega))
  have c0 := h.c0
  have H := Lib.hid h
  clear h
  rcases hd with hd | ⟨hd, hd'⟩
  all_goals
    go_enter Tryd.func27, Tryd.ntmps27
    go_wp2
    go_ret2
    rw [RDoPost, HP.out]
    exact ⟨rfl, H.out, Kept.refl _ _⟩
set_option maxRecDepth 100000 in
set_option maxHeartbeats 1000000 in
theorem rdo_fill {w : World} {B b gs cs gl cl : Nat} {S L : List Int} (h : RPoolAt w B b gs cs gl cl S L) (hS : S.length ≤ 100) (j : Nat) (x : Int) (hx : S[j]? = some x) :
    Calls Tryd.prog 27 #[.pointer (some ⟨b, 0, none⟩), iv 1, iv j] w (RDoPost b gs cs gl cl B (Pool.play S L 1 j) w) := by
  have hp := play_in (L := L) (what := 1) hx
  rw [if_pos rfl] at hp
  have hj := (List.getElem?_eq_some_iff.1 hx).1
  have c0 := h.c0
  have cj := h.s hx
  have fs := h.fs
  have H := Lib.hid h
  by_cases h3 : x = 3
  · rw [if_pos h3] at hp
    have HP := Lib.hid hp
    have t1 : (x != 3) = false := bne_f h3
    have t2 : (x == 2) = false := beq_f (by omega)
    have H1 := Lib.hid (h.setS j 0)
    clear h hx hp h3
    go_enter Tryd.func27, Tryd.ntmps27
    go_wp2
    go_ret2
    rw [RDoPost, HP.out]
    exact ⟨rfl, H1.out, (Kept.refl (fun k => k = gs ∨ k = gl) w).setP (.inl rfl) _ _⟩
  · rw [if_neg h3] at hp
    have HP := Lib.hid hp
    have t1 : (x != 3) = true := bne_t h3
    clear h hx hp h3
    by_cases h2 : x = 2
    case' pos => have t2 : (x == 2) = true := beq_t h2
    case' neg => have t2 : (x == 2) = false := beq_f h2
    all_goals
      clear h2
      go_enter Tryd.func27, Tryd.ntmps27
      go_wp2
      go_ret2
      rw [RDoPost, HP.out]
      exact ⟨rfl, H.out, Kept.refl _ _⟩
set_option maxRecDepth 100000 in
set_option maxHeartbeats 1000000 in
theorem rdo_fresh {w : World} {B b gs cs gl cl : Nat} {S L : List Int} (h : RPoolAt w B b gs cs gl cl S L) (hS : S.length ≤ 100) (hL : L.length ≤ 100) (j : Nat) (x : Int) (hx : S[j]? = some x) :
    Calls Tryd.prog 27 #[.pointer (some ⟨b, 0, none⟩), iv 2, iv j] w (RDoPost b gs cs gl cl B (Pool.play S L 2 j) w) := by
  have hp := play_in (L := L) (what := 2) hx
  rw [if_neg (by decide), if_pos rfl] at hp
  have hj := (List.getElem?_eq_some_iff.1 hx).1
  have c0 := h.c0
  have c1 := h.c1
  have cj := h.s hx
  have fs := h.fs
  have fl := h.fl
  have n1 := h.bs
  have n2 := h.bl
  have n3 := h.sl
  have H := Lib.hid h
  by_cases h2 : x = 2
  · rw [if_pos h2] at hp
    have t1 : (x != 2) = false := bne_f h2
    have H1 := Lib.hid (h.setS j 1)
    have HPP := Lib.hid hp
    clear h hx hp h2
    go_enter Tryd.func27, Tryd.ntmps27
    go_wp2_with fail
    refine (find_any L (-1) _ _ H.out.row2).mono ?_
    rintro e w' ⟨rfl, rfl⟩
    have hb1 := idx_bd L (-1)
    by_cases q1 : idx L (-1) < 0
    · have HF := Lib.hid (fresh_a (S := S) (j := j) q1)
      go_wp2_with fail
      go_ret2
      rw [RDoPost, HPP.out, HF.out]
      exact ⟨rfl, H1.out, (Kept.refl (fun k => k = gs ∨ k = gl) w).setP (.inl rfl) _ _⟩
    · obtain ⟨s, hs⟩ : ∃ s : Nat, idx L (-1) = s := ⟨(idx L (-1)).toNat, by omega⟩
      have hs2 : s < L.length := by omega
      have HF := Lib.hid (fresh_b (S := S) (L := L) (j := j) q1)
      rw [hs]
      have HS := Lib.hid hs
      clear hs q1 hb1
      have n4 : gl ≠ gs := fun e => n3 e.symm
      obtain ⟨z, cz⟩ : ∃ z, w.cell? ⟨gl, s, none⟩ = some (iv z) := ⟨L[s], H.out.l (List.getElem?_eq_getElem hs2)⟩
      have H2 := Lib.hid (H1.out.setS j 3)
      go_wp2_with fail
      go_ret2
      rw [RDoPost, HPP.out, HF.out, HS.out]
      exact ⟨rfl, H2.out.setL _ _, (((Kept.refl (fun k => k = gs ∨ k = gl) w).setP (.inl rfl) _ _).setP (.inl rfl) _ _).setP (.inr rfl) _ _⟩
  · rw [if_neg h2] at hp
    have HP := Lib.hid hp
    have t1 : (x != 2) = true := bne_t h2
    clear h hx hp h2
    go_enter Tryd.func27, Tryd.ntmps27
    go_wp2
    go_ret2
    rw [RDoPost, HP.out]
    exact ⟨rfl, H.out, Kept.refl _ _⟩
set_option maxRecDepth 100000 in
set_option maxHeartbeats 1000000 in
theorem rdo_fail {w : World} {B b gs cs gl cl : Nat} {S L : List Int} (h : RPoolAt w B b gs cs gl cl S L) (hS : S.length ≤ 100) (hL : L.length ≤ 100) (j : Nat) (x : Int) (hx : S[j]? = some x) :
    Calls Tryd.prog 27 #[.pointer (some ⟨b, 0, none⟩), iv 0, iv j] w (RDoPost b gs cs gl cl B (Pool.play S L 0 j) w) := by
  have hp := play_in (L := L) (what := 0) hx
  rw [if_neg (by decide), if_neg (by decide)] at hp
  have hj := (List.getElem?_eq_some_iff.1 hx).1
  have c0 := h.c0
  have c1 := h.c1
  have cj := h.s hx
  have fs := h.fs
  have fl := h.fl
  have n1 := h.bs
  have n2 := h.bl
  have n3 := h.sl
  have H := Lib.hid h
  by_cases h2 : x = 2
  · rw [if_pos h2] at hp
    have HP := Lib.hid hp
    have t1 : (x == 2) = true := beq_t h2
    clear h hx hp h2
    go_enter Tryd.func27, Tryd.ntmps27
    go_wp2
    go_ret2
    rw [RDoPost, HP.out]
    exact ⟨rfl, H.out, Kept.refl _ _⟩
  · rw [if_neg h2] at hp
    have t1 : (x == 2) = false := beq_f h2
    have H1 := Lib.hid (h.setS j 2)
    have HPP := Lib.hid hp
    have fa := Lib.hid (fun q => fail_a (S := S) (L := L) (j := j) q)
    clear h hx hp h2
    go_enter Tryd.func27, Tryd.ntmps27
    go_wp2_with fail
    refine (find_any L j _ _ H1.out.row2).mono ?_
    rintro e w' ⟨rfl, rfl⟩
    have hb1 := idx_bd L j
    by_cases q1 : idx L j < 0
    · go_wp2_with fail
      go_ret2
      rw [RDoPost, HPP.out, fa.out q1]
      exact ⟨rfl, H1.out, (Kept.refl (fun k => k = gs ∨ k = gl) w).setP (.inl rfl) _ _⟩
    · have fb := Lib.hid (fun q => fail_b (S := S) (L := L) (j := j) q1 q)
      have fc := Lib.hid (fun q => fail_c (S := S) (L := L) (j := j) q1 q)
      have hb2 := idx_bd (S.set j 2) 1
      rw [List.length_set] at hb2
      have hr1 := H1.out.row1
      rw [List.length_set] at hr1
      have Hr1 := Lib.hid hr1
      clear hr1
      go_wp2_with fail
      refine (find_any (S.set j 2) 1 _ _ Hr1.out).mono ?_
      rintro e w' ⟨rfl, rfl⟩
      obtain ⟨s, hs⟩ : ∃ s : Nat, idx L j = s := ⟨(idx L j).toNat, by omega⟩
      have hs2 : s < L.length := by omega
      rw [hs]
      have HS := Lib.hid hs
      clear hs q1 hb1
      have n4 : gl ≠ gs := fun e => n3 e.symm
      obtain ⟨z, cz⟩ : ∃ z, w.cell? ⟨gl, s, none⟩ = some (iv z) := ⟨L[s], H.out.l (List.getElem?_eq_getElem hs2)⟩
      by_cases q2 : idx (S.set j 2) 1 < 0
      · go_wp2_with fail
        go_ret2
        rw [RDoPost, HPP.out, fb.out q2, HS.out]
        exact ⟨rfl, H1.out.setL _ _, ((Kept.refl (fun k => k = gs ∨ k = gl) w).setP (.inl rfl) _ _).setP (.inr rfl) _ _⟩
      · obtain ⟨p, hp⟩ : ∃ p : Nat, idx (S.set j 2) 1 = p := ⟨(idx (S.set j 2) 1).toNat, by omega⟩
        have hp2 : p < S.length := by omega
        rw [hp]
        have HP := Lib.hid hp
        have Q2 := Lib.hid q2
        clear hp q2 hb2
        have H2 := Lib.hid (H1.out.setL s p)
        have cp : ∃ y, (w.setCell ⟨gs, j, none⟩ (iv 2)).cell? ⟨gs, p, none⟩ = some (iv y) := by
          obtain ⟨y, hy⟩ : ∃ y, (S.set j 2)[p]? = some y := ⟨(S.set j 2)[p]'(by rw [List.length_set]; exact hp2), List.getElem?_eq_getElem _⟩
          exact ⟨y, H1.out.s hy⟩
        obtain ⟨y, cp⟩ := cp
        go_wp2_with fail
        go_ret2
        rw [RDoPost, HPP.out, fc.out Q2.out, HS.out, HP.out]
        exact ⟨rfl, H2.out.setS _ _, (((Kept.refl (fun k => k = gs ∨ k = gl) w).setP (.inl rfl) _ _).setP (.inr rfl) _ _).setP (.inl rfl) _ _⟩
theorem rdo_any {w : World} {B b gs cs gl cl : Nat} {S L : List Int} (h : RPoolAt w B b gs cs gl cl S L) (hS : S.length ≤ 100) (hL : L.length ≤ 100) (what : Nat) (hw : what < 3) (d : Int) :
    Calls Tryd.prog 27 #[.pointer (some ⟨b, 0, none⟩), iv what, iv d] w (RDoPost b gs cs gl cl B (Pool.play S L what d) w) := by
  by_cases hd : d < 0 ∨ 0 ≤ d ∧ (S.length : Int) ≤ d
  · exact rdo_out h hS what d hd
  · obtain ⟨j, rfl⟩ : ∃ j : Nat, d = j := ⟨d.toNat, by omega⟩
    have hj : j < S.length := by omega
    have hx : S[j]? = some S[j] := List.getElem?_eq_getElem hj
    have h3 : what = 0 ∨ what = 1 ∨ what = 2 := by omega
    rcases h3 with rfl | rfl | rfl
    · exact rdo_fail h hS hL j _ hx
    · exact rdo_fill h hS j _ hx
    · exact rdo_fresh h hS hL j _ hx
end Go.Proofs.YtloaekdijpcmiaaDoor
