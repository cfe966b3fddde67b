/- The walks of the library's SortStableFunc at a list of numbers, by place's order; slices.Sort at an owned list. -/
import Derived.Test.YtkkfpdjhnffpbaaDoorShelf
import Derived.Test.YtkkfpdjhnffpbaaDoorOddX
import Derived.Test.YtkkfpdjhnffpbaaDoorPlaP
import Derived.BigRegion
import Derived.BigQuiet
import Derived.Deep.RegionHeld3
namespace Go.Proofs.YtkkfpdjhnffpbaaDoor
open Go.ChangeShapes Go.WideShapes Go.ChangeAt Go.RowKit
set_option linter.unusedVariables false
/-- the loads, where the function that compares finds them -/
structure LdAt (w : World) (gp gl ol cl : Nat) (L : List Nat) : Prop where
  ptr : w.cell? ⟨gp, 0, none⟩ = some (.slice (some ⟨gl, ol, none⟩) L.length cl)
  cell : ∀ j, j < L.length → w.cell? ⟨gl, ol + j, none⟩ = some (iv (L.getD j 0))
theorem LdAt.dn {w : World} {gp gl ol cl : Nat} {L : List Nat} (h : LdAt w gp gl ol cl L) (m : Nat) : LdAt (w.drewN m) gp gl ol cl L := ⟨h.ptr, h.cell⟩
theorem LdAt.kept {w w1 : World} {gp gl ol cl gr : Nat} {L : List Nat} (h : LdAt w gp gl ol cl L) (hk : Kept (fun k => k = gr) w w1) (h1 : gp ≠ gr) (h2 : gl ≠ gr) : LdAt w1 gp gl ol cl L :=
  ⟨hk.cell h.ptr h1, fun j hj => hk.cell (h.cell j hj) h2⟩
set_option maxHeartbeats 1000000 in
theorem pcmp_any {w : World} {gp gl ol cl : Nat} {L : List Nat} (h : LdAt w gp gl ol cl L) (hL : L.length ≤ 1000) {a b : Nat} (ha : a < L.length) (hb : b < L.length) :
    Calls Tryd.prog 28 #[iv a, iv b, .pointer (some ⟨gp, 0, none⟩)] w fun e w' => e = .returned (iv (Lib.compareInt (L.getD a 0 : Nat) (L.getD b 0 : Nat))) ∧ ∃ m, w' = w.drewN m := by
  have c0 := h.ptr
  have c1 := h.cell a ha
  have c2 := h.cell b hb
  obtain ⟨x, hx⟩ : ∃ x, x = L.getD a 0 := ⟨_, rfl⟩
  obtain ⟨y, hy⟩ : ∃ y, y = L.getD b 0 := ⟨_, rfl⟩
  obtain ⟨n, hn⟩ : ∃ n, n = L.length := ⟨_, rfl⟩
  rw [← hx] at c1 ⊢
  rw [← hy] at c2 ⊢
  rw [← hn] at c0 ha hb hL
  have haI : (a : Int) < (n : Int) := by omega
  have hbI : (b : Int) < (n : Int) := by omega
  have HC := Lib.hid (fun W => Tryd.cmp_Compare_int (x : Int) (y : Int) W)
  clear hx hy hn h
  go_enter Tryd.func28, Tryd.ntmps28
  go_wp2_with fail
  go_region_held3 (fun w' => w'.cell? ⟨gp, 0, none⟩ = some (.slice (some ⟨gl, ol, none⟩) n cl) ∧ w'.cell? ⟨gl, ol + a, none⟩ = some (iv x) ∧ w'.cell? ⟨gl, ol + b, none⟩ = some (iv y))
    (first | exact ⟨c0, c1, c2⟩ | go_keep)
    (first | (go_at_call 29; (with_reducible refine (HC.out _).mono ?_); rintro e wA ⟨rfl, rfl⟩))
  go_wp2_with fail
  go_ret
  exact ⟨rfl, 1, rfl⟩
def ivn (k : Nat) : Value := .int .i64 (k : Int)
theorem ivn_at {xs : List Nat} {k x : Nat} (h : xs[k]? = some x) : (xs.map ivn)[k]? = some (iv (x : Int)) := by rw [List.getElem?_map, h]; rfl
def plc (gp : Nat) : Value := .func (.func 28) #[] #[.pointer (some ⟨gp, 0, none⟩)]
set_option maxRecDepth 100000 in
set_option maxHeartbeats 2000000 in
theorem insort_any {w : World} {gp gl ol cl : Nat} {L : List Nat} (h : LdAt w gp gl ol cl L) {n : Nat} (hn : n = L.length) (hL : n ≤ 1000) (h0 : 1 ≤ n) {B gr o cap : Nat}
    (hO : OwnR w B 3 (.slice (some ⟨gr, o, none⟩) n cap) ((List.range n).map ivn)) (hpr : gp ≠ gr) (hlr : gl ≠ gr) :
    Calls Tryd.prog 61 #[.slice (some ⟨gr, o, none⟩) n cap, iv 0, iv n, .func (.func 28) #[] #[.pointer (some ⟨gp, 0, none⟩)]] w fun e w' => e = .returned (.tuple #[]) ∧ Kept (fun k => k = gr) w w' ∧
      ∃ ys : List Nat, ys.Perm (List.range n) ∧ ys.Pairwise (fun a b => Pl.bef L a b = true) ∧ OwnR w' B 3 (.slice (some ⟨gr, o, none⟩) n cap) (ys.map ivn) := by
  have HD := Lib.hid h
  have HO := Lib.hid hO
  have Hn := Lib.hid hn
  clear h hO hn
  go_enter Tryd.func61, Tryd.ntmps61
  go_wp2_with fail
  go_loopg [8, 9] (n - 1) (fun gk v8 v9 wr => ∃ (i : Nat) (pre : List Nat), i + gk = n ∧ 1 ≤ i ∧ v8 = iv i ∧ pre.Perm (List.range i) ∧ pre.Pairwise (fun a b => Pl.bef L a b = true) ∧ Kept (fun k => k = gr) w wr ∧ OwnR wr B 3 (.slice (some ⟨gr, o, none⟩) n cap) ((Pl.pos pre i n).map ivn))
  case atStart => exact ⟨1, [0], by omega, Nat.le_refl _, rfl, List.Perm.refl _, List.pairwise_singleton _ _, Kept.self _ _, by rw [Pl.pos_one]; exact HO.out⟩
  case round =>
    obtain ⟨gO, hgO⟩ : ∃ x : Nat, x = gk := ⟨_, rfl⟩
    obtain ⟨wO, hwO⟩ : ∃ x : World, x = wr := ⟨_, rfl⟩
    subst hgO hwO
    obtain ⟨i, pre, hi, hi1, rfl, hp, hs, hk, hO⟩ := hrel
    have HI := Lib.hid (And.intro hi hi1)
    have HP := Lib.hid hp
    have HS := Lib.hid hs
    have HK := Lib.hid hk
    have HOO := Lib.hid hO
    have HPl : Hid (pre.length = i) := Lib.hid (by have := hp.length_eq; rw [List.length_range] at this; exact this)
    by_cases hin : i < n
    · clear hi hi1 hp hs hk hO
      go_wp2_with fail
      go_loopg [9] i (fun gk v9 wr => ∃ j : Nat, gk = j ∧ j ≤ i ∧ v9 = iv j ∧ (∀ e ∈ pre.drop j, L.getD i 0 < L.getD e 0) ∧ Kept (fun k => k = gr) w wr ∧ OwnR wr B 3 (.slice (some ⟨gr, o, none⟩) n cap) ((Pl.mid pre j i n).map ivn))
      case atStart =>
        refine ⟨i, rfl, Nat.le_refl _, rfl, fun e he => ?_, HK.out, by rw [← Pl.pos_mid]; exact HOO.out⟩
        rw [List.drop_eq_nil_of_le (by rw [HPl.out]; exact Nat.le_refl _)] at he
        cases he
      case round =>
        obtain ⟨j, hgj, hj, rfl, hdr, hk, hO⟩ := hrel
        have Hgj := Lib.hid hgj
        clear hgj
        have Hj := Lib.hid hj
        have Hdr := Lib.hid hdr
        have HK2 := Lib.hid hk
        have HO2 := Lib.hid hO
        clear hj hdr hk hO
        have hI1 : ((i + 1 : Nat) : Int) = (i : Int) + 1 := by omega
        cases j with
        | zero =>
          go_wp2_with fail
          go_quiet (fail)
          go_wp2_with fail
          have hdr' : ∀ e ∈ pre, L.getD i 0 < L.getD e 0 := Hdr.out
          rw [Pl.mid_pos HPl.out (Nat.zero_le _)] at HO2
          go_roundg (gO - 1)
          case measure => have := HI.out; omega
          case rel => exact ⟨i + 1, Pl.ins pre 0 i, by have := HI.out; omega, by omega, by go_num, Pl.ins_perm HP.out, Pl.ins_sorted HP.out HS.out (Nat.zero_le _) hdr' (fun h => by omega), HK2.out.drewN _, HO2.out.below (bdrew (Below.refl _ _) _)⟩
        | succ j =>
          have hji : j < i := Hj.out
          obtain ⟨y, hy⟩ : ∃ y, y = pre.getD j 0 := ⟨_, rfl⟩
          have hyL : y < L.length := by
            rw [hy, List.getD_eq_getElem?_getD, List.getElem?_eq_getElem (by rw [HPl.out]; exact hji)]
            have := List.mem_range.1 (HP.out.mem_iff.1 (List.getElem_mem (l := pre) (n := j) (by rw [HPl.out]; exact hji)))
            have h2 := Hn.out
            show pre[j]'(by rw [HPl.out]; exact hji) < _
            omega
          have hiL : i < L.length := by rw [← Hn.out]; exact hin
          obtain ⟨hx1, hx2, hx3, hx4, hx5, hcc, hff⟩ := OwnR.cellsO HO2.out (by rw [List.length_map, Pl.mid_len]; omega)
          have c1 := hcc (j + 1) (by omega)
          rw [ivn_at (Pl.mid_get (by omega)), if_neg (by omega), if_pos rfl] at c1
          have c2 := hcc j (by omega)
          rw [ivn_at (Pl.mid_get (by omega)), if_pos (by omega), ← hy] at c2
          have HC := Lib.hid (fun (W : World) (hW : LdAt W gp gl ol cl L) => pcmp_any hW (by rw [← Hn.out]; exact hL) hiL hyL)
          have HLd := HD.out.kept HK2.out hpr hlr
          have hjI0 : (0 : Int) ≤ (j : Int) := by omega
          have hjI1 : (j : Int) < (n : Int) := by omega
          have hjI3 : (0 : Int) ≤ (j : Int) + 1 := by omega
          have hjI2 : (j : Int) + 1 < (n : Int) := by omega
          have hjw : IntKind.i64.wrap (j : Int) = (j : Int) := IntWalk.i64_in _ (by omega)
          have Hy := Lib.hid hy
          have f1 := hff (o + (j + 1))
          have f2 := hff (o + j)
          obtain ⟨z, hz⟩ : ∃ z, z = Lib.compareInt (L.getD i 0 : Nat) (L.getD y 0 : Nat) := ⟨_, rfl⟩
          rw [← hz] at HC
          have Hz := Lib.hid hz
          clear hcc hff hy hyL hiL hz hx1 hx2 hx3 hx4 hx5
          go_wp2_with fail
          go_region_held3 (fun w' => LdAt w' gp gl ol cl L ∧ w'.cell? ⟨gr, o + (j + 1), none⟩ = some (iv i) ∧ w'.cell? ⟨gr, o + j, none⟩ = some (iv y))
            (first | exact ⟨HLd.dn _, c1, c2⟩ | go_keep)
            (first | (go_at_call 28; (with_reducible refine (HC.out _ ?_).mono ?_); exact HLd.dn _; rintro e wA ⟨rfl, m, rfl⟩))
          by_cases hlt : L.getD i 0 < L.getD y 0
          · have hz0 : z < 0 := by rw [Hz.out]; unfold Lib.compareInt; rw [if_pos (by omega)]; decide
            clear HC HLd
            go_wp2_with fail
            obtain ⟨w6, hw6⟩ : ∃ x, x = wr.drewN (1 + m) := ⟨_, rfl⟩
            rw [← hw6]
            have d1 : w6.cell? ⟨gr, o + (j + 1), none⟩ = some (iv i) := by rw [hw6]; exact c1
            have d2 : w6.cell? ⟨gr, o + j, none⟩ = some (iv y) := by rw [hw6]; exact c2
            have e1 : w6.frozen? ⟨gr, o + (j + 1), none⟩ = false := by rw [hw6]; exact f1
            have e2 : w6.frozen? ⟨gr, o + j, none⟩ = false := by rw [hw6]; exact f2
            have HK6 : Hid (Kept (fun k => k = gr) w w6) := Lib.hid (by rw [hw6]; exact HK2.out.drewN _)
            have HO6 : Hid (OwnR w6 B 3 (.slice (some ⟨gr, o, none⟩) n cap) ((Pl.mid pre (j + 1) i n).map ivn)) := Lib.hid (by rw [hw6]; exact HO2.out.below (bdrew (Below.refl _ _) _))
            clear hw6 c1 c2 f1 f2 HK2 HO2
            obtain ⟨y1, t1⟩ := cell?_setCell_some (w := w6) (p := ⟨gr, o + (j + 1), none⟩) (x := iv y) (q := ⟨gr, o + j, none⟩) d2
            obtain ⟨y2, t2⟩ := cell?_setCell_some (w := w6) (p := ⟨gr, o + j, none⟩) (x := iv i) (q := ⟨gr, o + (j + 1), none⟩) d1
            go_region
            have h1 := HO6.out.setAtO (k := j + 1) (by rw [List.length_map, Pl.mid_len]; omega) (iv y)
            have h2 := h1.setAtO (k := j) (by rw [List.length_set, List.length_map, Pl.mid_len]; omega) (iv i)
            have e3 : (((Pl.mid pre (j + 1) i n).map ivn).set (j + 1) (iv y)).set j (iv i) = (Pl.mid pre j i n).map ivn := by
              rw [← Pl.mid_step hji hin, ← Hy.out, List.map_set, List.map_set]; rfl
            rw [e3] at h2
            have HO7 := Lib.hid h2
            have HK7 := Lib.hid ((HK6.out.set1 (o + (j + 1)) (iv y)).set1 (o + j) (iv i))
            have hdr2 : ∀ e ∈ pre.drop j, L.getD i 0 < L.getD e 0 := by
              intro e he
              rw [List.drop_eq_getElem_cons (by rw [HPl.out]; exact hji)] at he
              rcases List.mem_cons.1 he with rfl | he
              · have h3 := Hy.out
                rw [List.getD_eq_getElem?_getD, List.getElem?_eq_getElem (by rw [HPl.out]; exact hji)] at h3
                have h4 : y = pre[j]'(by rw [HPl.out]; exact hji) := h3
                rw [← h4]; exact hlt
              · exact Hdr.out e he
            have Hdr2 := Lib.hid hdr2
            clear h1 h2 e3 HO6 HK6 hdr2
            go_wp2_with fail
            go_roundg (gk - 1)
            case measure => have := Hgj.out; omega
            case rel => exact ⟨j, by have := Hgj.out; omega, by omega, by go_num, Hdr2.out, HK7.out.drew, HO7.out.below (Below.refl _ _).drew⟩
          · have hz0 : ¬ z < 0 := by rw [Hz.out]; unfold Lib.compareInt; rw [if_neg (by omega)]; split <;> decide
            clear HC HLd c1 c2 f1 f2
            go_wp2_with fail
            have hge : L.getD y 0 ≤ L.getD i 0 := by omega
            rw [Hy.out] at hge
            rw [Pl.mid_pos HPl.out (by omega)] at HO2
            go_roundg (gO - 1)
            case measure => have := HI.out; omega
            case rel => exact ⟨i + 1, Pl.ins pre (j + 1) i, by have := HI.out; omega, by omega, by go_num, Pl.ins_perm HP.out, Pl.ins_sorted HP.out HS.out (by rw [HPl.out]; omega) Hdr.out (fun _ => hge), HK2.out.drewN _, HO2.out.below (bdrew (Below.refl _ _) _)⟩
    · have hin' : i = n := by omega
      subst hin'
      rw [Pl.pos_full HPl.out] at HOO
      clear hi hi1 hp hs hk hO
      go_wp2_with fail
      go_end0
      exact ⟨rfl, HK.out, pre, HP.out, HS.out, HOO.out⟩
def StabPost (w : World) (L : List Nat) (n B gr o cap : Nat) (e : Ending) (w' : World) : Prop :=
  e = .returned (.tuple #[]) ∧ Kept (fun k => k = gr) w w' ∧ ∃ ys : List Nat, ys.Perm (List.range n) ∧ ys.Pairwise (fun a b => Pl.bef L a b = true) ∧ OwnR w' B 3 (.slice (some ⟨gr, o, none⟩) n cap) (ys.map ivn)
set_option maxRecDepth 100000 in
set_option maxHeartbeats 1000000 in
theorem stable_any {w : World} {gp gl ol cl : Nat} {L : List Nat} (h : LdAt w gp gl ol cl L) {n : Nat} (hn : n = L.length) (hL : n ≤ 10) (h0 : 1 ≤ n) {B gr o cap : Nat}
    (hO : OwnR w B 3 (.slice (some ⟨gr, o, none⟩) n cap) ((List.range n).map ivn)) (hpr : gp ≠ gr) (hlr : gl ≠ gr) :
    Calls Tryd.prog 40 #[.slice (some ⟨gr, o, none⟩) n cap, iv n, .func (.func 28) #[] #[.pointer (some ⟨gp, 0, none⟩)]] w (StabPost w L n B gr o cap) := by
  have HI := Lib.hid (insort_any h hn (by omega) h0 hO hpr hlr)
  have HO := Lib.hid hO
  have Hn := Lib.hid hn
  have hI0 : ¬ (20 : Int) ≤ (n : Int) := by omega
  have hI1 : ¬ (20 : Int) < (n : Int) := by omega
  clear h hO hn
  go_enter Tryd.func40, Tryd.ntmps40
  go_wp2_with fail
  go_loopg [7, 8] 0 (fun gk v7 v8 wr => v7 = iv 0 ∧ v8 = iv 20 ∧ w = wr)
  case atStart => exact ⟨rfl, rfl, rfl⟩
  case round =>
    obtain ⟨rfl, rfl, rfl⟩ := hrel
    go_wp2_with fail
    refine HI.out.mono ?_
    rintro e w1 ⟨rfl, hK, ys, hp, hs, hO1⟩
    have HR : Hid (StabPost w L n B gr o cap (.returned (.tuple #[])) w1) := Lib.hid ⟨rfl, hK, ys, hp, hs, hO1⟩
    clear hK hp hs hO1
    go_wp2_with fail
    go_loopg [6, 7, 8, 9] 0 (fun gk v6 v7 v8 v9 wr => v6 = iv 20 ∧ w1 = wr)
    case atStart => exact ⟨rfl, rfl⟩
    case round =>
      obtain ⟨rfl, rfl⟩ := hrel
      go_wp2_with fail
      go_end0
      exact HR.out
set_option maxRecDepth 100000 in
theorem sortstable_any {w : World} {gp gl ol cl : Nat} {L : List Nat} (h : LdAt w gp gl ol cl L) {n : Nat} (hn : n = L.length) (hL : n ≤ 10) (h0 : 1 ≤ n) {B gr o cap : Nat}
    (hO : OwnR w B 3 (.slice (some ⟨gr, o, none⟩) n cap) ((List.range n).map ivn)) (hpr : gp ≠ gr) (hlr : gl ≠ gr) :
    Calls Tryd.prog 27 #[.slice (some ⟨gr, o, none⟩) n cap, .func (.func 28) #[] #[.pointer (some ⟨gp, 0, none⟩)]] w (StabPost w L n B gr o cap) := by
  have HI := Lib.hid (stable_any h hn hL h0 hO hpr hlr)
  clear h hO hn
  go_enter Tryd.func27, Tryd.ntmps27
  go_wp2_with fail
  refine HI.out.mono ?_
  rintro e w1 hR
  have HR := Lib.hid hR
  obtain rfl := hR.1
  clear hR
  go_wp2_with fail
  go_end0
  exact HR.out
/-- slices.Sort of an owned list -/
theorem psort_own {w : World} {B g o cap : Nat} (xs : List Int) (hO : OwnR w B 3 (.slice (some ⟨g, o, none⟩) xs.length cap) (xs.map iv)) (h0 : 0 < xs.length) (hn : xs.length ≤ 1000000) :
    Calls Tryd.prog 26 #[.slice (some ⟨g, o, none⟩) xs.length cap] w fun e w' => e = .returned (.tuple #[]) ∧ Kept (fun k => k = g) w w' ∧
      OwnR w' B 3 (.slice (some ⟨g, o, none⟩) xs.length cap) ((xs.mergeSort fun x y => decide (x ≤ y)).map iv) := by
  have hlm : (xs.mergeSort fun x y => decide (x ≤ y)).length = xs.length := (List.mergeSort_perm _ _).length_eq
  obtain ⟨hB, hg, _, _, _, hc, hf⟩ := OwnR.cellsO hO (by rw [List.length_map]; exact h0)
  rcases hO with ⟨h1, _⟩ | ⟨g', o', cap', cur, hv, hB', hcur, h1, h2, h3, h4⟩
  · cases h1
  injection hv with q1 q2 q3
  injection q1 with q1
  injection q1 with q4 q5
  subst q4 q5 q3
  rw [List.length_map] at h1 h4
  refine (Tryd.slices_Sort_int g o cap xs w (fun j hj => ⟨?_, hf _⟩) hg (by omega)).mono ?_
  · have hj' : j < xs.length := by simpa using hj
    rw [hc j hj', List.getElem?_map, List.getElem?_eq_getElem hj']
    simp [hj']
  rintro e w' ⟨rfl, n, os, rfl⟩
  have hheap : (Go.Sort.grow (Go.Sort.putRow (Value.int .i64) (Go.Sort.ahead w n) g o (xs.mergeSort fun x y => decide (x ≤ y)).toArray) os).heap[g]? = some (.cells (Go.Sort.putCells (Value.int .i64) o (xs.mergeSort fun x y => decide (x ≤ y)).toArray cur) 3 (0, 0)) := by
    rw [Go.Sort.heap_grow_old _ _ (by simpa using hg)]
    simp [Go.Sort.putRow, Go.Sort.mapBlock, Go.Sort.ahead, Array.getElem?_modify, hcur, Go.Sort.onCells]
  refine ⟨rfl, ⟨rfl, rfl, rfl, by simp, fun k hk hne => ?_⟩, .inr ⟨g, o, cap, _, by rw [List.length_map, hlm], hB', hheap, by rw [List.length_map, hlm]; exact h1, h2, by simp [Go.Sort.putCells]; exact h3, fun j hj => ?_⟩⟩
  · rw [Go.Sort.heap_grow_old _ _ (by simpa using hk)]
    have : g ≠ k := fun e => hne e.symm
    simp [Go.Sort.putRow, Go.Sort.mapBlock, Go.Sort.ahead, Array.getElem?_modify, this]
  · rw [List.length_map, hlm] at hj
    have hj2 : j < (xs.mergeSort fun x y => decide (x ≤ y)).length := by rw [hlm]; exact hj
    rw [List.getElem?_map, List.getElem?_eq_getElem hj2]
    simp [Go.Sort.putCells, hj, show o + j < cur.size by omega]
end Go.Proofs.YtkkfpdjhnffpbaaDoor
