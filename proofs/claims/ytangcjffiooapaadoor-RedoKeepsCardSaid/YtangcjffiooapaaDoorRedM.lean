/- The walk of the law RedoKeeps: it returns true. -/
import Derived.Test.YtangcjffiooapaaDoorRedT
import Derived.Test.YtangcjffiooapaaDoorRCells
import Derived.Test.YtangcjffiooapaaDoorSame
import Derived.Test.YtangcjffiooapaaDoorTexts
import Derived.Deep.AppendLies
import Derived.Maps.AppendAt
import Derived.Deep.RegionHeld3
namespace Go.Proofs.YtangcjffiooapaaDoor
open Go.ChangeShapes Go.WideShapes Go.ChangeAt Go.RowKit
set_option linter.unusedVariables false
namespace Rd
def x0 : W := ⟨0, ⟨#[120]⟩⟩
def y1 : W := ⟨1, ⟨#[121]⟩⟩
def z0 : W := ⟨0, ⟨#[122]⟩⟩
def abK : List ByteArray := [⟨#[97]⟩, ⟨#[98]⟩]
def xyK : List ByteArray := [⟨#[120]⟩, ⟨#[121]⟩]
def u1 : R := (put (new abK) [x0, y1]).2
def u2 : R := (sync u1).2
def u3 : R := (put u2 [z0]).2
def u4 : R := crash u3 [[x0, y1]]
theorem u1_r : put (new abK) [x0, y1] = (0, u1) := rfl
theorem u2_r : sync u1 = (0, u2) := rfl
theorem u3_r : put u2 [z0] = (0, u3) := rfl
theorem u4_c : u4.cells = xyK := rfl
theorem u3_k : kept u3 0 = log [[x0, y1]] ++ [] := by decide +kernel
theorem u3_ok : ∀ l ∈ ([[x0, y1]] : List (List W)), Ok u3.first.length l := by
  intro l hl
  rw [List.mem_singleton] at hl
  subst hl
  exact writesF_0 (by decide +kernel)
end Rd
theorem abK_F : cellsF Rd.abK = 0 := by decide +kernel
theorem abK_row (w : World) : Row (w.alloc (.cells #[.string ⟨#[97]⟩, .string ⟨#[98]⟩] 9)) (.slice (some ⟨w.heap.size, 0, none⟩) 2 2) (Rd.abK.map Value.string) := by
  refine ⟨some ⟨w.heap.size, 0, none⟩, 2, rfl, Nat.le_refl _, by decide, (fun h => by cases h), fun _ => ⟨w.heap.size, 0, rfl, fun j hj => ?_⟩⟩
  rw [cell_of_row _ _ _ _ _ _ (heap_alloc_new w _), Nat.zero_add]
  have hj2 : j < 2 := hj
  have h2 : j = 0 ∨ j = 1 := by omega
  rcases h2 with rfl | rfl <;> rfl
theorem xy_wr (w : World) : RowWr (w.alloc (.cells #[iv 0, .string ⟨#[120]⟩, iv 1, .string ⟨#[121]⟩] 69)) (.slice (some ⟨w.heap.size, 0, none⟩) 2 2) [Rd.x0, Rd.y1] := by
  refine ⟨some ⟨w.heap.size, 0, none⟩, 2, rfl, by simp, fun j l hj => ?_⟩
  have h0 : j = 0 ∨ j = 1 := by have := (List.getElem?_eq_some_iff.1 hj).1; simp at this; omega
  rcases h0 with rfl | rfl
  · obtain rfl : Rd.x0 = l := by simpa using hj
    refine ⟨_, 0, rfl, by simp, ?_, ?_⟩ <;> (rw [cell_of_row _ _ _ _ _ _ (heap_alloc_new w _)]; rfl)
  · obtain rfl : Rd.y1 = l := by simpa using hj
    refine ⟨_, 0, rfl, by simp, ?_, ?_⟩ <;> (rw [cell_of_row _ _ _ _ _ _ (heap_alloc_new w _)]; rfl)
theorem z_wr (w : World) : RowWr (w.alloc (.cells #[iv 0, .string ⟨#[122]⟩] 69)) (.slice (some ⟨w.heap.size, 0, none⟩) 1 1) [Rd.z0] := by
  refine ⟨some ⟨w.heap.size, 0, none⟩, 1, rfl, by simp, fun j l hj => ?_⟩
  have h0 : j = 0 := by have := (List.getElem?_eq_some_iff.1 hj).1; simp at this; omega
  subst h0
  obtain rfl : Rd.z0 = l := by simpa using hj
  refine ⟨_, 0, rfl, by simp, ?_, ?_⟩ <;> (rw [cell_of_row _ _ _ _ _ _ (heap_alloc_new w _)]; rfl)
theorem redNew_badK (cells : List ByteArray) (h0 : cellsF cells ≠ 0) (v : Value) (w : World) (hv : Row w v (cells.map Value.string)) :
    Calls Tryd.prog 35 #[v] w fun e w' => e = .returned (.tuple #[.pointer none, errV (cellsF cells)]) ∧ w = w' := by
  have HC := Lib.hid (cells_any cells v w hv)
  rw [errV_ne h0] at HC ⊢
  generalize cellsF cells = k at *
  clear h0 hv
  go_enter Tryd.func35, Tryd.ntmps35
  go_wp2_with fail
  refine HC.out.mono ?_
  rintro e w' ⟨rfl, rfl⟩
  go_wp2_with fail
  go_ret2
  exact ⟨rfl, rfl⟩
theorem RedOk.nextK {B : Nat} {w w1 w2 : World} {b : Nat} {s : Rd.R} (h : RedOk (fun k => B ≤ k) w1 b s) (hb : Below B w w1) (hk : Kept (fun k => B ≤ k) w1 w2) (hB : B ≤ w.heap.size) : Below B w w2 :=
  hb.trans (hk.toBelow (Nat.le_trans hB hb.size) (fun _ _ h => h))
set_option maxRecDepth 100000 in
set_option maxHeartbeats 4000000 in
theorem redoKeeps_bad (cells : List ByteArray) (h0 : cellsF cells ≠ 0) (va vl vs vf vk : Value) (w : World) (hg : Handle w) (ha : Row w va (cells.map Value.string)) :
    Calls Tryd.prog 7 #[va, vl, vs, vf, vk] w fun e w' => e = .returned (.bool true) ∧ Below w.heap.size w w' := by
  have Hg := Lib.hid hg
  have Ha := Lib.hid ha
  have H0 := Lib.hid h0
  have HN := Lib.hid (redNew_any Rd.abK abK_F _ _ (abK_row w))
  have hb0 : Below w.heap.size w (w.alloc (.cells #[.string ⟨#[97]⟩, .string ⟨#[98]⟩] 9)) := (Below.refl _ _).alloc (Nat.le_refl _) _
  have HB0 := Lib.hid hb0
  have hz0 := hb0.size
  clear hg ha h0 hb0
  go_enter Tryd.func7, Tryd.ntmps7
  go_wp2_with fail
  refine HN.out.mono ?_
  rintro e w1 ⟨b0, rfl, hR, hb1⟩
  have HB1 := Lib.hid (HB0.out.trans (hb1.mono hz0))
  have hz1 := HB1.out.size
  have hba : Below w1.heap.size w1 (w1.alloc (.cells #[iv 0, .string ⟨#[120]⟩, iv 1, .string ⟨#[121]⟩] 69)) := (Below.refl _ _).alloc (Nat.le_refl _) _
  have HBa := Lib.hid (HB1.out.trans (hba.mono hz1))
  have hza := HBa.out.size
  have HP := Lib.hid (put_any ((hR.wide (F' := fun k => w.heap.size ≤ k) (fun k _ hk => Nat.le_trans hz0 hk)).below hba) (fun k hk => Nat.le_trans hza hk) (by decide) (by decide) (by decide) (by decide) [Rd.x0, Rd.y1] _ (xy_wr w1))
  rw [Rd.u1_r] at HP
  clear hR hb1 HN HB0 hba
  go_wp2_with fail
  refine HP.out.mono ?_
  rintro e w2 ⟨he, hR2, hk2⟩
  obtain rfl : e = .returned .nilIface := he
  have HB2 := Lib.hid (HBa.out.trans (hk2.toBelow hza (fun _ _ h => h)))
  have hz2 := HB2.out.size
  have HS := Lib.hid (sync_any hR2 (by decide) (by decide) (by decide))
  rw [Rd.u2_r] at HS
  clear hR2 hk2 HP HBa HB1 hz1 hza
  go_wp2_with fail
  refine HS.out.mono ?_
  rintro e w3 ⟨he, hR3, hk3⟩
  obtain rfl : e = .returned .nilIface := he
  have HB3 := Lib.hid (HB2.out.trans (hk3.toBelow hz2 (fun _ _ h => h)))
  have hz3 := HB3.out.size
  have hba : Below w3.heap.size w3 (w3.alloc (.cells #[iv 0, .string ⟨#[122]⟩] 69)) := (Below.refl _ _).alloc (Nat.le_refl _) _
  have HBa := Lib.hid (HB3.out.trans (hba.mono hz3))
  have hza := HBa.out.size
  have HP := Lib.hid (put_any (RedOk.below (s := Rd.u2) hR3 hba) (fun k hk => Nat.le_trans hza hk) (by decide) (by decide) (by decide) (by decide) [Rd.z0] _ (z_wr w3))
  rw [Rd.u3_r] at HP
  clear hR3 hk3 HS HB2 hz2 hba
  go_wp2_with fail
  refine HP.out.mono ?_
  rintro e w4 ⟨he, hR4, hk4⟩
  obtain rfl : e = .returned .nilIface := he
  have HB4 := Lib.hid (HBa.out.trans (hk4.toBelow hza (fun _ _ h => h)))
  have hz4 := HB4.out.size
  have HC := Lib.hid (crash_any (s := Rd.u3) hR4 (fun k hk => Nat.le_trans hz4 hk) (by decide +kernel) (by decide +kernel) (by decide +kernel) 0 (by decide) (by decide) [[Rd.x0, Rd.y1]] [] Rd.u3_k Rd.u3_ok Rd.short_nil)
  clear hR4 hk4 HP HBa HB3 hz3 hza
  unfold CrashPost at HC
  go_wp2_with fail
  refine HC.out.mono ?_
  rintro e w5 ⟨rfl, hR5, hk5⟩
  have HB5 := Lib.hid (HB4.out.trans (hk5.toBelow hz4 (fun _ _ h => h)))
  have hz5 := HB5.out.size
  have HR5 : Hid (RedOk (fun k => w.heap.size ≤ k) w5 b0 Rd.u4) := Lib.hid hR5
  have HA := Lib.hid (all_any HR5.out (by decide))
  clear hR5 hk5 HC HB4 hz4
  go_wp2_with fail
  refine HA.out.mono ?_
  rintro e w6 ⟨v6, rfl, hown6, hb6⟩
  rw [Rd.u4_c] at hown6
  obtain ⟨g6, cap6, rfl, _, hg6, _, _, hc6, _⟩ := owns_pos hown6 (by decide)
  have c60 : w6.cell? ⟨g6, 0, none⟩ = some (.string ⟨#[120]⟩) := hc6 0 (by decide)
  have c61 : w6.cell? ⟨g6, 1, none⟩ = some (.string ⟨#[121]⟩) := hc6 1 (by decide)
  have HB6 := Lib.hid (HB5.out.trans (hb6.mono hz5))
  have hz6 := HB6.out.size
  have HR6 := Lib.hid (HR5.out.below hb6)
  have HBy := Lib.hid (bytes_any HR6.out (by decide +kernel))
  have HSa := Lib.hid (safe_any HR6.out)
  have lxy : Rd.xyK.length = 2 := rfl
  rw [lxy]
  rw [show Rd.u4.bytes.length = 9 by decide +kernel] at HBy
  rw [show Rd.u4.safe = 9 by decide +kernel] at HSa
  clear hown6 hb6 hc6 HA HB5 hz5 HR5 lxy
  go_wp2_with fail
  refine HBy.out.mono ?_
  rintro e w' ⟨rfl, rfl⟩
  go_wp2_with fail
  refine HSa.out.mono ?_
  rintro e w' ⟨rfl, rfl⟩
  clear HBy HSa HR6 c60 c61 hg6
  go_wp2_with fail
  have HA6 := Lib.hid (Ha.out.low (Nat.le_refl _) HB6.out)
  refine (rcells_any cells va w6 HA6.out).mono ?_
  rintro e w' ⟨rfl, rfl⟩
  go_wp2_with fail
  refine (redNew_badK cells H0.out va w6 HA6.out).mono ?_
  rintro e w' ⟨rfl, rfl⟩
  have HE := Lib.hid (same_any (cellsF cells) (cellsF cells) w6 (Hg.out.below (Nat.le_refl _) HB6.out))
  rw [beq_t rfl] at HE
  go_wp2_with fail
  refine HE.out.mono ?_
  rintro e w7 ⟨rfl, hb7⟩
  have HB7 := Lib.hid (HB6.out.trans (hb7.mono hz6))
  have hne := H0.out
  generalize cellsF cells = q at *
  clear hb7 HE Hg
  go_wp2_with fail
  go_ret
  exact ⟨rfl, HB7.out⟩
def KRel (cells : List ByteArray) (m nf B b : Nat) (w : World) (N gk : Nat) (v21 v22 v23 v24 : Value) (wr : World) : Prop :=
  ∃ (round a : Nat) (s : Rd.R) (rs : List (List Rd.W)) (gd cd gm cm : Nat) (vals : List Value) (bl : Nat → Prop), round + gk = N ∧ round ≤ N ∧ v21 = .slice (some ⟨gd, 0, none⟩) (rs.length + 1) cd ∧ v22 = .slice (some ⟨gm, 0, none⟩) (rs.length + 1) cm ∧ v23 = iv a ∧ v24 = iv round ∧ a ≤ 8 * round ∧
    Rd.Kp cells a s rs ∧ Tri B b (.slice (some ⟨gd, 0, none⟩) (rs.length + 1) cd) (.slice (some ⟨gm, 0, none⟩) (rs.length + 1) cm) vals bl w wr s (Rd.dones cells rs) (Rd.marks rs)
def KIn (cells : List ByteArray) (B b A0 : Nat) (w : World) (gk : Nat) (v21 v22 v23 v25 : Value) (wr : World) : Prop :=
  ∃ (k a : Nat) (s : Rd.R) (rs : List (List Rd.W)) (gd cd gm cm : Nat) (vals : List Value) (bl : Nat → Prop), k + gk = 8 ∧ v21 = .slice (some ⟨gd, 0, none⟩) (rs.length + 1) cd ∧ v22 = .slice (some ⟨gm, 0, none⟩) (rs.length + 1) cm ∧ v23 = iv a ∧ v25 = iv k ∧ a ≤ A0 + k ∧
    Rd.Kp cells a s rs ∧ Tri B b (.slice (some ⟨gd, 0, none⟩) (rs.length + 1) cd) (.slice (some ⟨gm, 0, none⟩) (rs.length + 1) cm) vals bl w wr s (Rd.dones cells rs) (Rd.marks rs)
theorem Tri.valsLen {B b : Nat} {vd vm : Value} {vals : List Value} {bl : Nat → Prop} {w wr : World} {s : Rd.R} {cells : List ByteArray} {rs : List (List Rd.W)} (h : Tri B b vd vm vals bl w wr s (Rd.dones cells rs) (Rd.marks rs)) : vals.length = rs.length + 1 := by rw [h.ln, Rd.dones_len]
/-- what lies at an index of the cells behind the records -/
theorem Tri.val {B b : Nat} {vm : Value} {vals : List Value} {bl : Nat → Prop} {w wr : World} {s : Rd.R} {cells : List ByteArray} {rs : List (List Rd.W)} {gd cd : Nat} (h : Tri B b (.slice (some ⟨gd, 0, none⟩) (rs.length + 1) cd) vm vals bl w wr s (Rd.dones cells rs) (Rd.marks rs)) {i : Nat} (hi : i ≤ rs.length) :
    ∃ v, wr.cell? ⟨gd, i, none⟩ = some v ∧ vals[i]? = some v ∧ Strs wr v (Rd.all cells (rs.take i)) := by
  have hl := h.valsLen
  have hd := h.dn
  obtain ⟨g, cap, hv, _, _, _, _, hc, _⟩ := owns_pos hd (by omega)
  injection hv with e1 e2 e3
  injection e1 with e1
  injection e1 with e4
  subst e4
  have hv := List.getElem?_eq_getElem (l := vals) (i := i) (by omega)
  exact ⟨vals[i], (hc i (by omega)).trans hv, hv, (h.row i _ _ hv (Rd.dones_at cells rs hi)).1⟩
theorem Tri.mark {B b : Nat} {vd : Value} {vals : List Value} {bl : Nat → Prop} {w wr : World} {s : Rd.R} {cells : List ByteArray} {rs : List (List Rd.W)} {gm cm : Nat} (h : Tri B b vd (.slice (some ⟨gm, 0, none⟩) (rs.length + 1) cm) vals bl w wr s (Rd.dones cells rs) (Rd.marks rs)) {i : Nat} (hi : i ≤ rs.length) :
    wr.cell? ⟨gm, i, none⟩ = some (iv (Rd.log (rs.take i)).length) := by
  have hd := h.mr
  have hl := Rd.marks_len rs
  obtain ⟨g, cap, hv, _, _, _, _, hc, _⟩ := owns_pos hd (by omega)
  injection hv with e1 e2 e3
  injection e1 with e1
  injection e1 with e4
  subst e4
  rw [hc i (by omega), List.getElem?_map, Rd.marks_at rs hi]; rfl
theorem Tri.start {B b : Nat} {w w8 : World} {cells : List ByteArray} {va : Value} (hB : B = w.heap.size) (hb : Below B w w8) (hr : RedOk (fun k => B ≤ k) w8 b (Rd.new cells)) (ha : Row w va (cells.map Value.string)) :
    Tri B b (.slice (some ⟨w8.heap.size, 0, none⟩) 1 1) (.slice (some ⟨w8.heap.size + 1, 0, none⟩) 1 1) [va] (fun _ => False) w ((w8.alloc (.cells #[va] 22)).alloc (.cells #[iv 0] 3)) (Rd.new cells) (Rd.dones cells []) (Rd.marks []) := by
  have hz := hb.size
  have hz9 : (w8.alloc (.cells #[va] 22)).heap.size = w8.heap.size + 1 := by simp
  have h1 : Below w8.heap.size w8 (w8.alloc (.cells #[va] 22)) := (Below.refl _ _).alloc (Nat.le_refl _) _
  have h2 : Below w8.heap.size w8 ((w8.alloc (.cells #[va] 22)).alloc (.cells #[iv 0] 3)) := h1.alloc (by omega) _
  have hBw : B ≤ w8.heap.size := by omega
  refine { red := ?_, dn := ?_, mr := ?_, ln := rfl, row := ?_, low := fun g hg => hg.elim, sep := ?_, sd := fun g hg => hg.elim, bel := hb.trans (h2.mono hBw) }
  · refine (hr.wide (F' := fun k => B ≤ k ∧ k < w8.heap.size) (fun k hk h => ⟨h, hk⟩)).below h2 |>.wide (fun k _ h => ⟨h.1, fun e => ?_, fun e => ?_, fun e => e⟩)
    · have : w8.heap.size = k := Option.some.inj e
      omega
    · have : w8.heap.size + 1 = k := Option.some.inj e
      omega
  · have h3 : Below (w8.alloc (.cells #[va] 22)).heap.size (w8.alloc (.cells #[va] 22)) ((w8.alloc (.cells #[va] 22)).alloc (.cells #[iv 0] 3)) := (Below.refl _ _).alloc (Nat.le_refl _) _
    refine owns_below ⟨rfl, .inr ⟨_, 1, #[va], rfl, hBw, heap_alloc_new w8 _, Nat.le_refl _, by decide, rfl, rfl⟩⟩ h3
  · exact ⟨rfl, .inr ⟨_, 1, #[iv 0], rfl, by omega, by rw [← hz9]; exact heap_alloc_new _ _, Nat.le_refl _, by decide, rfl, rfl⟩⟩
  · intro i v l hv hl
    have hi : i = 0 := by have := (List.getElem?_eq_some_iff.1 hv).1; simp at this; omega
    subst hi
    obtain rfl : va = v := by simpa using hv
    obtain rfl : cells = l := by have : (Rd.dones cells [])[0]? = some cells := rfl; rw [this] at hl; exact Option.some.inj hl
    have hbw := hb.trans (h2.mono hBw)
    refine ⟨ha.low (Nat.le_refl _) (by rw [← hB]; exact hbw), fun h0 g hg => .inl ?_⟩
    obtain ⟨p, cap, _, hv, _, hx⟩ : ∃ p cap x, va = .slice p cells.length cap ∧ x = 0 ∧ (0 < cells.length → ∃ g off, p = some ⟨g, off, none⟩ ∧ w.cell? ⟨g, off + 0, none⟩ = (cells.map Value.string)[0]?) := by
      obtain ⟨p, cap, hv, _, _, hx⟩ := ha.shape
      rw [List.length_map] at hv hx
      exact ⟨p, cap, 0, hv, rfl, fun h => by obtain ⟨g, off, h1, h2⟩ := hx h; exact ⟨g, off, h1, h2 0 h⟩⟩
    obtain ⟨g', off, hp, hc⟩ := hx h0
    subst hv hp
    obtain rfl : g' = g := Option.some.inj hg
    rw [List.getElem?_map, List.getElem?_eq_getElem h0] at hc
    rw [hB]
    exact World.block_lt_of_cell? w _ hc
  · intro g e e'
    have e1 : w8.heap.size = g := Option.some.inj e
    have e2 : w8.heap.size + 1 = g := Option.some.inj e'
    omega
theorem bel_size {B B' : Nat} {w w' : World} (h : Below B w w') (e : B' = w.heap.size) : B' ≤ w'.heap.size := by rw [e]; exact h.size
theorem Tri.cut_rs {B b : Nat} {vals : List Value} {bl : Nat → Prop} {w wr : World} {s : Rd.R} {cells : List ByteArray} {rs : List (List Rd.W)} {gd cd gm cm R i : Nat} (h : Tri B b (.slice (some ⟨gd, 0, none⟩) (rs.length + 1) cd) (.slice (some ⟨gm, 0, none⟩) (rs.length + 1) cm) vals bl w wr s (Rd.dones cells rs) (Rd.marks rs)) (hR : R = rs.length) (hi : i ≤ R) :
    Tri B b (.slice (some ⟨gd, 0, none⟩) (i + 1) cd) (.slice (some ⟨gm, 0, none⟩) (i + 1) cm) (vals.take (i + 1)) bl w wr s (Rd.dones cells (rs.take i)) (Rd.marks (rs.take i)) := by
  rw [Rd.dones_take cells rs (by omega), Rd.marks_take rs (by omega)]
  exact h.cut h.valsLen (Rd.marks_len rs) (by omega)
theorem info_strsK : (Tryd.prog.info? 22).map (fun i => (i.zero, i.size, i.bytes)) = some (some (.slice none 0 0), 1, 24) := by kernel_rfl
theorem info_intK : (Tryd.prog.info? 3).map (fun i => (i.zero, i.size, i.bytes)) = some (some (.int .i64 0), 1, 8) := by kernel_rfl
set_option maxRecDepth 100000 in
set_option maxHeartbeats 8000000 in
theorem redoKeeps_core (cells : List ByteArray) (h0 : cellsF cells = 0) (lss : List (List Rd.W)) (sy fa ke : List Int) (hfa : ∀ x ∈ fa, (Lit.int .i64 x).wf = true) (hke : ∀ x ∈ ke, (Lit.int .i64 x).wf = true) (va vl vs vf vk : Value) (w : World) (hg : Handle w)
    (ha : Row w va (cells.map Value.string)) (hl : RowsW w vl lss) (hs : Row w vs (sy.map iv)) (hf : Row w vf (fa.map iv)) (hk : Row w vk (ke.map iv)) :
    Calls Tryd.prog 7 #[va, vl, vs, vf, vk] w fun e w' => e = .returned (.bool true) ∧ Below w.heap.size w w' := by
  have Hg := Lib.hid hg
  have Ha := Lib.hid ha
  have H0 := Lib.hid h0
  have Hfa := Lib.hid hfa
  have Hke := Lib.hid hke
  have hc40 := (cellsF_0 h0).1
  have HC40 := Lib.hid hc40
  have HN := Lib.hid (redNew_any Rd.abK abK_F _ _ (abK_row w))
  have hb0 : Below w.heap.size w (w.alloc (.cells #[.string ⟨#[97]⟩, .string ⟨#[98]⟩] 9)) := (Below.refl _ _).alloc (Nat.le_refl _) _
  have HB0 := Lib.hid hb0
  have hz0 := hb0.size
  obtain ⟨pa, ca, hva, ha1, ha2, _⟩ := ha.shape
  rw [List.length_map] at hva ha1
  unfold maxLen at ha2
  subst hva
  obtain ⟨pl, cl, rfl, hl1, hl2⟩ := hl
  have Hl2 := Lib.hid hl2
  obtain ⟨ps, cs, rfl, hs1, _, hs2⟩ := hs.get
  have Hs2 := Lib.hid hs2
  obtain ⟨pf, cf, rfl, hf1, _, hf2⟩ := hf.get
  have Hf2 := Lib.hid hf2
  obtain ⟨pk, ck, rfl, hk1, _, hk2⟩ := hk.get
  have Hk2 := Lib.hid hk2
  rw [List.length_map] at hs1 hs2 Hs2 hf1 hf2 Hf2 hk1 hk2 Hk2
  simp only [List.length_map]
  obtain ⟨m, hm⟩ : ∃ m, m = cells.length := ⟨_, rfl⟩
  obtain ⟨nl, hnl⟩ : ∃ n, n = lss.length := ⟨_, rfl⟩
  obtain ⟨ns, hns⟩ : ∃ n, n = sy.length := ⟨_, rfl⟩
  obtain ⟨nf, hnf⟩ : ∃ n, n = fa.length := ⟨_, rfl⟩
  obtain ⟨nk, hnk⟩ : ∃ n, n = ke.length := ⟨_, rfl⟩
  rw [← hm] at ha1 ⊢
  rw [← hnl] at hl1 ⊢
  rw [← hns] at hs1 ⊢
  rw [← hnf] at hf1 ⊢
  rw [← hnk] at hk1 ⊢
  have Hm := Lib.hid hm
  have Hnl := Lib.hid hnl
  have Hns := Lib.hid hns
  have Hnf := Lib.hid hnf
  have Hnk := Lib.hid hnk
  rw [← hm] at Ha HC40
  clear hg ha h0 hb0 hl2 hs2 hf2 hk2 hs hf hk hfa hke hm hnl hns hnf hnk hc40
  go_enter Tryd.func7, Tryd.ntmps7
  go_wp2_with fail
  refine HN.out.mono ?_
  rintro e w1 ⟨b0, rfl, hR, hb1⟩
  have HB1 := Lib.hid (HB0.out.trans (hb1.mono hz0))
  have hz1 := HB1.out.size
  have hba : Below w1.heap.size w1 (w1.alloc (.cells #[iv 0, .string ⟨#[120]⟩, iv 1, .string ⟨#[121]⟩] 69)) := (Below.refl _ _).alloc (Nat.le_refl _) _
  have HBa := Lib.hid (HB1.out.trans (hba.mono hz1))
  have hza := HBa.out.size
  have HP := Lib.hid (put_any ((hR.wide (F' := fun k => w.heap.size ≤ k) (fun k _ hk => Nat.le_trans hz0 hk)).below hba) (fun k hk => Nat.le_trans hza hk) (by decide) (by decide) (by decide) (by decide) [Rd.x0, Rd.y1] _ (xy_wr w1))
  rw [Rd.u1_r] at HP
  clear hR hb1 HN HB0 hba
  go_wp2_with fail
  refine HP.out.mono ?_
  rintro e w2 ⟨he, hR2, hk2⟩
  obtain rfl : e = .returned .nilIface := he
  have HB2 := Lib.hid (HBa.out.trans (hk2.toBelow hza (fun _ _ h => h)))
  have hz2 := HB2.out.size
  have HS := Lib.hid (sync_any hR2 (by decide) (by decide) (by decide))
  rw [Rd.u2_r] at HS
  clear hR2 hk2 HP HBa HB1 hz1 hza
  go_wp2_with fail
  refine HS.out.mono ?_
  rintro e w3 ⟨he, hR3, hk3⟩
  obtain rfl : e = .returned .nilIface := he
  have HB3 := Lib.hid (HB2.out.trans (hk3.toBelow hz2 (fun _ _ h => h)))
  have hz3 := HB3.out.size
  have hba : Below w3.heap.size w3 (w3.alloc (.cells #[iv 0, .string ⟨#[122]⟩] 69)) := (Below.refl _ _).alloc (Nat.le_refl _) _
  have HBa := Lib.hid (HB3.out.trans (hba.mono hz3))
  have hza := HBa.out.size
  have HP := Lib.hid (put_any (RedOk.below (s := Rd.u2) hR3 hba) (fun k hk => Nat.le_trans hza hk) (by decide) (by decide) (by decide) (by decide) [Rd.z0] _ (z_wr w3))
  rw [Rd.u3_r] at HP
  clear hR3 hk3 HS HB2 hz2 hba
  go_wp2_with fail
  refine HP.out.mono ?_
  rintro e w4 ⟨he, hR4, hk4⟩
  obtain rfl : e = .returned .nilIface := he
  have HB4 := Lib.hid (HBa.out.trans (hk4.toBelow hza (fun _ _ h => h)))
  have hz4 := HB4.out.size
  have HC := Lib.hid (crash_any (s := Rd.u3) hR4 (fun k hk => Nat.le_trans hz4 hk) (by decide +kernel) (by decide +kernel) (by decide +kernel) 0 (by decide) (by decide) [[Rd.x0, Rd.y1]] [] Rd.u3_k Rd.u3_ok Rd.short_nil)
  clear hR4 hk4 HP HBa HB3 hz3 hza
  unfold CrashPost at HC
  go_wp2_with fail
  refine HC.out.mono ?_
  rintro e w5 ⟨rfl, hR5, hk5⟩
  have HB5 := Lib.hid (HB4.out.trans (hk5.toBelow hz4 (fun _ _ h => h)))
  have hz5 := HB5.out.size
  have HR5 : Hid (RedOk (fun k => w.heap.size ≤ k) w5 b0 Rd.u4) := Lib.hid hR5
  have HA := Lib.hid (all_any HR5.out (by decide))
  clear hR5 hk5 HC HB4 hz4
  go_wp2_with fail
  refine HA.out.mono ?_
  rintro e w6 ⟨v6, rfl, hown6, hb6⟩
  rw [Rd.u4_c] at hown6
  obtain ⟨g6, cap6, rfl, _, hg6, _, _, hc6, _⟩ := owns_pos hown6 (by decide)
  have c60 : w6.cell? ⟨g6, 0, none⟩ = some (.string ⟨#[120]⟩) := hc6 0 (by decide)
  have c61 : w6.cell? ⟨g6, 1, none⟩ = some (.string ⟨#[121]⟩) := hc6 1 (by decide)
  have HB6 := Lib.hid (HB5.out.trans (hb6.mono hz5))
  have hz6 := HB6.out.size
  have HR6 := Lib.hid (HR5.out.below hb6)
  have HBy := Lib.hid (bytes_any HR6.out (by decide +kernel))
  have HSa := Lib.hid (safe_any HR6.out)
  have lxy : Rd.xyK.length = 2 := rfl
  rw [lxy]
  rw [show Rd.u4.bytes.length = 9 by decide +kernel] at HBy
  rw [show Rd.u4.safe = 9 by decide +kernel] at HSa
  clear hown6 hb6 hc6 HA HB5 hz5 HR5 lxy
  go_wp2_with fail
  refine HBy.out.mono ?_
  rintro e w' ⟨rfl, rfl⟩
  go_wp2_with fail
  refine HSa.out.mono ?_
  rintro e w' ⟨rfl, rfl⟩
  clear HBy HSa HR6 c60 c61 hg6
  go_wp2_with fail
  have HA6 := Lib.hid (Ha.out.low (Nat.le_refl _) HB6.out)
  refine (rcells_any cells _ w6 HA6.out).mono ?_
  rintro e w' ⟨rfl, rfl⟩
  rw [H0.out]
  go_wp2_with fail
  refine (redNew_any cells H0.out _ w6 HA6.out).mono ?_
  rintro e w7 ⟨b, rfl, hR7, hb7⟩
  have HB7 := Lib.hid (HB6.out.trans (hb7.mono hz6))
  have hz7 := HB7.out.size
  have HE := Lib.hid (same_any 0 0 w7 (Hg.out.below (Nat.le_refl _) HB7.out))
  rw [beq_t rfl] at HE
  have HR7 := Lib.hid (hR7.wide (F' := fun k => w.heap.size ≤ k) (fun k _ hk => Nat.le_trans hz6 hk))
  clear hR7 hb7 HB6 hz6
  go_wp2_with fail
  refine HE.out.mono ?_
  rintro e w8 ⟨rfl, hb8⟩
  have HB8 := Lib.hid (HB7.out.trans (hb8.mono hz7))
  have HR8 := Lib.hid (HR7.out.below hb8)
  have hz8 := HB8.out.size
  clear hb8 HE HB7 HR7 hz7
  obtain ⟨B, hBe⟩ : ∃ B, B = w.heap.size := ⟨_, rfl⟩
  have HBe := Lib.hid hBe
  have HT0 := Lib.hid (Tri.start hBe (by rw [hBe]; exact HB8.out) (by rw [hBe]; exact HR8.out) Ha.out)
  clear hBe HR8 HA6
  obtain ⟨N, hN⟩ : ∃ N, N = min (nf + 1) 4 := ⟨_, rfl⟩
  have hN4 : N ≤ 4 := by omega
  have HNq : Hid (∀ q, q < N → q ≤ nf ∧ q < 4) := Lib.hid (fun q hq => by omega)
  have HNe : Hid (nf < N ∨ (N ≤ nf ∧ 4 ≤ N)) := Lib.hid (by omega)
  clear hN
  go_wp2_with fail
  go_loopg [20, 21, 22, 23, 24, 25, 26, 27, 28, 29, 30, 31, 32, 33, 34, 35, 36] N (fun gk v20 v21 v22 v23 v24 v25 v26 v27 v28 v29 v30 v31 v32 v33 v34 v35 v36 wr => KRel cells m nf B b w N gk v21 v22 v23 v24 wr)
  case atStart => exact ⟨0, 0, _, [], _, _, _, _, _, _, by omega, by omega, rfl, rfl, rfl, rfl, by omega, Rd.kp_new cells, HT0.out⟩
  case round =>
    obtain ⟨wO, hwO⟩ : ∃ x : World, x = wr := ⟨_, rfl⟩
    obtain ⟨gO, hgO⟩ : ∃ x : Nat, x = gk := ⟨_, rfl⟩
    subst hwO hgO
    obtain ⟨round, a, s, rs, gd, cd, gm, cm, vals, bl, hrd, hrN, rfl, rfl, rfl, rfl, ha8, hkp, htri⟩ := hrel
    have Hrd := Lib.hid hrd
    have HKp := Lib.hid hkp
    have HT := Lib.hid htri
    have hBO : B ≤ wO.heap.size := bel_size htri.bel HBe.out
    clear hrd hkp htri HT0 HB8
    by_cases hlt : round < N
    · have hq := HNq.out round hlt
      have b0 : decide ((round : Int) ≤ (nf : Int)) = true := dec_t (by omega)
      have b4 : decide ((round : Int) < 4) = true := dec_t (by omega)
      have hr4 : round < 4 := hq.2
      have hrf : round ≤ nf := hq.1
      clear hq
      go_upto_if 126 with (fail)
      go_cut [] (fun wq => ∃ wk s', wk = wq ∧ Rd.Kp cells a s' rs ∧ Tri B b (.slice (some ⟨gd, 0, none⟩) (rs.length + 1) cd) (.slice (some ⟨gm, 0, none⟩) (rs.length + 1) cm) vals bl w wk s' (Rd.dones cells rs) (Rd.marks rs))
      case first => as_aux_lemma =>
        by_cases hf : round < nf
        · obtain ⟨gf, of, hpf, hcf, hgf⟩ := Hf2.out round (by rw [← Hnf.out]; exact hf)
          have hfl : round < fa.length := by rw [← Hnf.out]; exact hf
          rw [List.getElem?_map, List.getElem?_eq_getElem hfl] at hcf
          have hwf := Hfa.out fa[round] (List.getElem_mem hfl)
          generalize fa[round] = x at *
          have hxb := bounds_i64 hwf
          have cf0 : wO.cell? ⟨gf, of + round, none⟩ = some (iv x) := (HT.out.bel.cell (p := ⟨gf, of + round, none⟩) (by rw [HBe.out]; exact hgf)).trans hcf
          have HF := Lib.hid (fail_any HT.out.red x)
          unfold FailPost at HF
          have Hpf := Lib.hid hpf
          rw [hpf]
          clear hcf hwf hpf hfl hgf
          go_wp2_with fail
          refine HF.out.mono ?_
          rintro e w2 ⟨rfl, hR2, hk2⟩
          have HT2 := Lib.hid (HT.out.turn hBO hR2 hk2)
          clear hR2 hk2 HF
          go_wp2_with fail
          rw [← Hpf.out]
          go_meet
          exact ⟨_, _, rfl, HKp.out.fail hxb.2, HT2.out⟩
        · go_wp2_with fail
          go_meet
          exact ⟨_, _, rfl, HKp.out, HT.out⟩
      case rest =>
        obtain ⟨wP, s', hwP, hkp, htri⟩ := hcut
        subst hwP
        have HKp := Lib.hid hkp
        have HT := Lib.hid htri
        have hBP : B ≤ wP.heap.size := bel_size htri.bel HBe.out
        clear hkp htri
        go_upto_block 2 with (fail)
        go_cut [20, 21, 22, 23, 25, 26, 27, 28, 29, 30] (fun v20 v21 v22 v23 v25 v26 v27 v28 v29 v30 wq => ∃ wk, wk = wq ∧ ∃ (gk : Nat) (v25 : Value), KIn cells B b (8 * round) w gk v21 v22 v23 v25 wk)
        case first => as_aux_lemma =>
          go_wp2_with fail
          go_loopg [20, 21, 22, 23, 25, 26, 27, 28, 29, 30] 8 (fun gk v20 v21 v22 v23 v25 v26 v27 v28 v29 v30 wr => KIn cells B b (8 * round) w gk v21 v22 v23 v25 wr)
          case atStart => exact ⟨0, a, _, rs, gd, cd, gm, cm, vals, bl, by omega, rfl, rfl, rfl, rfl, by omega, HKp.out, HT.out⟩
          case round =>
            obtain ⟨wI, hwI⟩ : ∃ x : World, x = wr := ⟨_, rfl⟩
            obtain ⟨gI, hgI⟩ : ∃ x : Nat, x = gk := ⟨_, rfl⟩
            subst hwI hgI
            clear HT HKp
            obtain ⟨k, a, s, rs, gd, cd, gm, cm, vals, bl, hk, rfl, rfl, rfl, rfl, ha8, hkp, htri⟩ := hrel
            have Hk := Lib.hid hk
            have HKp := Lib.hid hkp
            have HT := Lib.hid htri
            have hB : B ≤ wI.heap.size := bel_size htri.bel HBe.out
            have hR32 : rs.length ≤ 32 := by have := hkp.num; omega
            have hbl : s.bytes.length ≤ 32000 := by have := hkp.len; omega
            clear hk hkp htri
            by_cases hk8 : k < 8
            · have b8 : decide ((k : Int) < 8) = true := dec_t (by omega)
              by_cases hal : a < nl
              · have bal : decide ((a : Int) < (nl : Int)) = true := dec_t (by omega)
                go_upto_region 27 with (fail)
                go_cut [165] (fun z wq => z = .bool false ∧ ∃ wk s', wk = wq ∧ s'.bytes.length ≤ 32000 ∧ Rd.Kp cells a s' rs ∧ Tri B b (.slice (some ⟨gd, 0, none⟩) (rs.length + 1) cd) (.slice (some ⟨gm, 0, none⟩) (rs.length + 1) cm) vals bl w wk s' (Rd.dones cells rs) (Rd.marks rs))
                case first => as_aux_lemma =>
                  by_cases hsn : a < ns
                  · have bns : decide ((a : Int) < (ns : Int)) = true := dec_t (by omega)
                    obtain ⟨gs, os, hps, hcs, hgs⟩ := Hs2.out a (by rw [← Hns.out]; exact hsn)
                    have hsl : a < sy.length := by rw [← Hns.out]; exact hsn
                    rw [List.getElem?_map, List.getElem?_eq_getElem hsl] at hcs
                    generalize sy[a] = x at *
                    have cs0 : wI.cell? ⟨gs, os + a, none⟩ = some (iv x) := (HT.out.bel.cell (p := ⟨gs, os + a, none⟩) (by rw [HBe.out]; exact hgs)).trans hcs
                    have Hps := Lib.hid hps
                    rw [hps]
                    clear hcs hps hsl hgs
                    by_cases hx : x = 1
                    · have tb : (x == 1) = true := beq_t hx
                      have HS := Lib.hid (sync_any HT.out.red HKp.out.l1 HKp.out.l2 (by omega))
                      unfold RedPost at HS
                      obtain ⟨hkp', hor⟩ := HKp.out.sync
                      obtain ⟨r, hr⟩ : ∃ r, r = Rd.sync s := ⟨_, rfl⟩
                      have hbr : r.2.bytes.length ≤ 32000 := by rw [hr]; unfold Rd.sync; split; exact hbl; split; exact hbl; exact hbl
                      rw [← hr] at HS hkp' hor
                      have HKp' := Lib.hid hkp'
                      clear hkp' hr hx
                      rcases hor with ⟨h0, hsf⟩ | h6
                      · rw [h0, errV_0] at HS
                        have Hsf := Lib.hid hsf
                        clear h0 hsf
                        go_wp2_with fail
                        refine HS.out.mono ?_
                        rintro e w2 ⟨rfl, hR2, hk2⟩
                        have HT2 := Lib.hid (HT.out.turn hB hR2 hk2)
                        have HSa := Lib.hid (safe_any hR2)
                        have HBy := Lib.hid (bytes_any hR2 (by omega))
                        rw [Hsf.out] at HSa
                        clear hR2 hk2 HS
                        go_wp2_with fail
                        refine HSa.out.mono ?_
                        rintro e w' ⟨rfl, rfl⟩
                        go_wp2_with fail
                        refine HBy.out.mono ?_
                        rintro e w' ⟨rfl, rfl⟩
                        go_wp2_with fail
                        rw [← Hps.out]
                        go_meet
                        exact ⟨rfl, _, _, rfl, hbr, HKp'.out, HT2.out⟩
                      · rw [h6, errV_ne (by decide : (6 : Int) ≠ 0)] at HS
                        clear h6
                        go_wp2_with fail
                        refine HS.out.mono ?_
                        rintro e w2 ⟨rfl, hR2, hk2⟩
                        have HT2 := Lib.hid (HT.out.turn hB hR2 hk2)
                        clear hR2 hk2 HS
                        go_wp2_with fail
                        rw [← Hps.out]
                        go_meet
                        exact ⟨rfl, _, _, rfl, hbr, HKp'.out, HT2.out⟩
                    · have tb : (x == 1) = false := beq_f hx
                      clear hx
                      go_wp2_with fail
                      rw [← Hps.out]
                      go_meet
                      exact ⟨rfl, _, _, rfl, hbl, HKp.out, HT.out⟩
                  · have bns : decide ((a : Int) < (ns : Int)) = false := dec_f (by omega)
                    go_wp2_with fail
                    go_meet
                    exact ⟨rfl, _, _, rfl, hbl, HKp.out, HT.out⟩
                case rest =>
                  clear HKp HT hbl hB
                  obtain ⟨rfl, w2, s2, hw2, hbl, hkp, htri⟩ := hcut
                  subst hw2
                  have HKp := Lib.hid hkp
                  have HT := Lib.hid htri
                  have hB : B ≤ w2.heap.size := bel_size htri.bel HBe.out
                  obtain ⟨R, hR⟩ : ∃ R, R = rs.length := ⟨_, rfl⟩
                  rw [← hR] at hR32
                  obtain ⟨u, cu, hu, hsu⟩ := htri.val (i := R) (by omega)
                  have hll : a < lss.length := by rw [← Hnl.out]; exact hal
                  obtain ⟨gl, ol, vj, hpl, hgl, hcl, hwr⟩ := Hl2.out a lss[a] (List.getElem?_eq_getElem hll)
                  generalize lss[a] = ls at *
                  have cl0 : w2.cell? ⟨gl, ol + a, none⟩ = some vj := (htri.bel.cell (p := ⟨gl, ol + a, none⟩) (by rw [HBe.out]; exact hgl)).trans hcl
                  have Hwr : Hid (RowWr w2 vj ls) := Lib.hid (hwr.below (by have h := htri.bel; rw [HBe.out] at h; exact h))
                  have Hgl := Lib.hid hgl
                  have Hcl := Lib.hid hcl
                  have Hwr0 := Lib.hid hwr
                  have Hpl := Lib.hid hpl
                  have Hu := Lib.hid hu
                  have Hsu := Lib.hid hsu
                  have HR := Lib.hid hR
                  have hwR : IntKind.i64.wrap (((R + 1 : Nat) : Int) - 1) = (R : Int) := (IntWalk.i64_in _ (by omega)).trans (by omega)
                  rw [hpl, ← hR]
                  clear hkp htri hu hsu hpl hcl hwr hgl hll hR
                  go_wp2_with fail
                  have HW := Lib.hid (writes_any m ls vj w2 Hwr.out)
                  refine HW.out.mono ?_
                  rintro e w' ⟨rfl, rfl⟩
                  have HBy := Lib.hid (bytes_any HT.out.red (by omega))
                  clear HW
                  go_wp2_with fail
                  refine HBy.out.mono ?_
                  rintro e w' ⟨rfl, rfl⟩
                  have HP := Lib.hid (put_any HT.out.red (HT.out.ff hB) HKp.out.l1 HKp.out.l2 (by omega) (by rw [HKp.out.clen, ← Hm.out]; exact HC40.out) ls vj Hwr.out)
                  unfold RedPost at HP
                  have hkput := HKp.out.put (by rw [← Hm.out]; exact HC40.out) ls
                  rw [← Hm.out] at hkput
                  have Hkput : Hid (((Rd.put s2 ls).1 = 0 ∧ Rd.Put0 cells a s2 rs ls) ∨ ((Rd.put s2 ls).1 ≠ 0 ∧ ((Rd.put s2 ls).1 = 6 ∨ ((Rd.put s2 ls).1 ≠ 6 ∧ (Rd.put s2 ls).1 = Rd.writesF m ls)) ∧ Rd.Kp cells (a + 1) (Rd.put s2 ls).2 rs)) := Lib.hid (by
                    rcases hkput with h | h
                    · exact .inl ⟨h.r, h⟩
                    · exact .inr h)
                  have Hor : Hid (((Rd.put s2 ls).1 == 6) = true ∨ (((Rd.put s2 ls).1 == 6) = false ∧ ((Rd.put s2 ls).1 == Rd.writesF m ls) = true)) := Lib.hid (by
                    rcases hkput with h | ⟨h0, h | ⟨h, h'⟩, _⟩
                    · refine .inr ⟨by rw [h.r]; decide, beq_t ?_⟩
                      rw [h.r, Hm.out, h.f]
                    · exact .inl (beq_t h)
                    · exact .inr ⟨beq_f h, beq_t h'⟩)
                  obtain ⟨r, hr⟩ : ∃ r, r = (Rd.put s2 ls).1 := ⟨_, rfl⟩
                  obtain ⟨f, hfw⟩ : ∃ f, f = Rd.writesF m ls := ⟨_, rfl⟩
                  rw [← hr] at HP Hor Hkput
                  rw [← hfw] at Hor Hkput ⊢
                  have Hrr := Lib.hid hr
                  have Hff := Lib.hid hfw
                  clear hkput HBy hr hfw
                  go_wp2_with fail
                  refine HP.out.mono ?_
                  rintro e w3 ⟨rfl, hR3, hk3⟩
                  have HT3 := Lib.hid (HT.out.turn hB hR3 hk3)
                  have hB3 : B ≤ w3.heap.size := bel_size HT3.out.bel HBe.out
                  have HE := Lib.hid (same_any r 6 w3 (Hg.out.below (by rw [← HBe.out]; exact Nat.le_refl _) HT3.out.bel))
                  clear hR3 hk3 HP
                  go_wp2_with fail
                  refine HE.out.mono ?_
                  rintro e w4 ⟨rfl, hb4⟩
                  have HT4 := Lib.hid (HT3.out.below hB3 hb4)
                  have hB4 : B ≤ w4.heap.size := bel_size HT4.out.bel HBe.out
                  have HE := Lib.hid (same_any r f w4 (Hg.out.below (by rw [← HBe.out]; exact Nat.le_refl _) HT4.out.bel))
                  clear hb4 HT3 hB3
                  go_wp2_with fail
                  refine HE.out.mono ?_
                  rintro e w5 ⟨rfl, hb5⟩
                  have HT5 := Lib.hid (HT4.out.below hB4 hb5)
                  have hB5 : B ≤ w5.heap.size := bel_size HT5.out.bel HBe.out
                  clear hb5 HT4 hB4 HE
                  obtain ⟨q1, hq1⟩ : ∃ q : Bool, q = (r == 6) := ⟨_, rfl⟩
                  obtain ⟨q2, hq2⟩ : ∃ q : Bool, q = (r == f) := ⟨_, rfl⟩
                  rw [← hq1, ← hq2] at Hor
                  rw [← hq1, ← hq2]
                  clear hq1 hq2
                  go_upto_region 35 with (fail)
                  go_cut [197] (fun z wq => z = .bool false ∧ w5 = wq)
                  case first => as_aux_lemma =>
                    rcases Hor.out with h | ⟨h, h'⟩
                    · subst h
                      go_wp2_with fail
                      go_meet
                      exact ⟨rfl, rfl⟩
                    · subst h h'
                      go_wp2_with fail
                      go_meet
                      exact ⟨rfl, rfl⟩
                  case rest =>
                    obtain ⟨rfl, rfl⟩ := hcut
                    clear Hor
                    go_upto_region 37 with (fail)
                    go_cut [199] (fun z wq => z = .bool (r == 0) ∧ w5 = wq)
                    case first => as_aux_lemma =>
                      by_cases h0 : r = 0
                      · subst h0
                        rw [errV_0]
                        go_wp2_with fail
                        go_meet
                        exact ⟨rfl, rfl⟩
                      · have hrz := beq_f h0
                        have Hz := Lib.hid h0
                        rw [errV_ne h0]
                        clear h0
                        go_wp2_with fail
                        rw [← errV_ne Hz.out]
                        go_meet
                        exact ⟨by rw [hrz], rfl⟩
                    case rest =>
                      obtain ⟨rfl, rfl⟩ := hcut
                      obtain ⟨s5, hs5⟩ : ∃ s5, s5 = (Rd.put s2 ls).2 := ⟨_, rfl⟩
                      rw [← hs5] at HT5 Hkput
                      have Hs5 := Lib.hid hs5
                      clear hs5
                      obtain ⟨q0, hq0⟩ : ∃ q : Bool, q = (r == 0) := ⟨_, rfl⟩
                      rw [← hq0]
                      have Hq0 := Lib.hid hq0
                      clear hq0
                      go_upto_if 199 with (fail)
                      go_cut [21, 22] (fun v21 v22 wq => ∃ wk, wk = wq ∧ ∃ (rs' : List (List Rd.W)) (gd cd gm cm : Nat) (vals : List Value) (bl : Nat → Prop), v21 = .slice (some ⟨gd, 0, none⟩) (rs'.length + 1) cd ∧ v22 = .slice (some ⟨gm, 0, none⟩) (rs'.length + 1) cm ∧
                        Rd.Kp cells (a + 1) s5 rs' ∧ Tri B b (.slice (some ⟨gd, 0, none⟩) (rs'.length + 1) cd) (.slice (some ⟨gm, 0, none⟩) (rs'.length + 1) cm) vals bl w wk s5 (Rd.dones cells rs') (Rd.marks rs'))
                      case first => as_aux_lemma =>
                        cases q0 with
                        | false =>
                          have hkp : Rd.Kp cells (a + 1) s5 rs := by
                            rcases Hkput.out with ⟨h, _⟩ | ⟨_, _, h⟩
                            · have := Hq0.out; rw [h] at this; cases this
                            · exact h
                          have HKq := Lib.hid hkp
                          clear hkp
                          go_wp2_with fail
                          go_meet
                          exact ⟨_, rfl, rs, gd, cd, gm, cm, vals, bl, by rw [HR.out], by rw [HR.out], HKq.out, HT5.out⟩
                        | true =>
                          have hput : Rd.Put0 cells a s2 rs ls := by
                            rcases Hkput.out with ⟨_, h⟩ | ⟨h, _⟩
                            · exact h
                            · exact absurd (beq_iff_eq.1 Hq0.out.symm) h
                          have HKq := Lib.hid (show Rd.Kp cells (a + 1) s5 (rs ++ [ls]) by rw [Hs5.out]; exact hput.kp)
                          have hmk : s5.bytes.length = (Rd.log (rs ++ [ls])).length := by rw [Hs5.out]; exact hput.mark
                          have hgw : s2.bytes.length + 2 ≤ s5.bytes.length := by rw [Hs5.out]; exact hput.grow
                          have hok : Rd.Ok (Rd.all cells rs).length ls := by rw [Rd.all_len]; exact Rd.writesF_0 hput.f
                          have Hmk := Lib.hid hmk
                          have Hok := Lib.hid hok
                          have hb5 : s5.bytes.length ≤ 1000000 := by have := HKq.out.len; omega
                          have hbI : decide ((s5.bytes.length : Int) < (s2.bytes.length : Int) + 2) = false := dec_f (by omega)
                          have hbw : IntKind.i64.wrap ((s2.bytes.length : Int) + 2) = (s2.bytes.length : Int) + 2 := IntWalk.i64_in _ (by omega)
                          have HBy := Lib.hid (bytes_any HT5.out.red hb5)
                          obtain ⟨u5, cu5, hu5, hsu5⟩ := HT5.out.val (i := R) (by rw [HR.out]; exact Nat.le_refl _)
                          have hue : u5 = u := Option.some.inj (hu5.symm.trans Hu.out)
                          subst hue
                          rw [HR.out, List.take_length] at hsu5
                          have Hsu5 := Lib.hid hsu5
                          have cl5 : w5.cell? ⟨gl, ol + a, none⟩ = some vj := (HT5.out.bel.cell (p := ⟨gl, ol + a, none⟩) (by rw [HBe.out]; exact Hgl.out)).trans Hcl.out
                          have Hw5 : Hid (RowWr w5 vj ls) := Lib.hid (Hwr0.out.below (by have h := HT5.out.bel; rw [HBe.out] at h; exact h))
                          have HD := Lib.hid (done_any (Rd.all cells rs) (by rw [Rd.all_len, ← Hm.out]; have := HC40.out; omega) ls Hok.out _ vj w5 Hsu5.out Hw5.out)
                          have hvl := HT5.out.valsLen
                          rw [← HR.out] at hvl
                          have Hvl := Lib.hid hvl
                          obtain ⟨i0, hi, hi1, hi2, hi3⟩ := info_parts info_strsK
                          obtain ⟨j0, hj, hj1, hj2, hj3⟩ := info_parts info_intK
                          have Hi := Lib.hid hi
                          have Hj := Lib.hid hj
                          clear hput hmk hok hgw hu5 hsu5 hvl cu cl0 hi hj
                          go_wp2_with fail
                          refine HBy.out.mono ?_
                          rintro e w' ⟨rfl, rfl⟩
                          go_wp2_with fail
                          refine HD.out.mono ?_
                          rintro e w7 ⟨v7, rfl, hO7, hb7⟩
                          obtain ⟨p7, m7, c7, rfl⟩ := hO7.slice
                          have HO7 := Lib.hid hO7
                          have HB7 := Lib.hid hb7
                          have hz7 := hb7.size
                          have hB7 : B ≤ w7.heap.size := Nat.le_trans hB5 hz7
                          have Hdn : Hid ((w7.alloc (.cells #[.slice p7 m7 c7] 22)).ownsRow B 22 1 (.slice (some ⟨gd, 0, none⟩) (R + 1) cd) (R + 1) vals) := Lib.hid (by
                            have h := owns_below (owns_below HT5.out.dn hb7) (((Below.refl w7.heap.size w7).alloc (Nat.le_refl _) (.cells #[.slice p7 m7 c7] 22)))
                            rw [Hvl.out, ← HR.out] at h
                            exact h)
                          have hi := Hi.out
                          clear hO7 hb7 HD HBy
                          go_wp2_with (at_builtin; refine wpList_append_lies _ rfl _ _ 76 rfl B 22 i0 (.slice none 0 0) 1 24 Tryd.underlying76 hi hi1 hi2 hi3 rfl (by decide) _ (R + 1) vals rfl Hdn.out ⟨w7.heap.size, 0, none⟩ 1 1 [.slice p7 m7 c7] rfl rfl ?n1 ?n2 (by decide) ?n3 ?n4 ?n5 _ rfl ?_)
                          case n1 => exact cell_one_new _ _ _
                          case n2 => intro u hu; rw [List.mem_singleton] at hu; subst hu; rfl
                          case n3 => unfold maxLen; omega
                          case n4 => omega
                          case n5 => simp; omega
                          intro g8 c8 w8 hown8 hgr8 hat8 hlt8
                          have HT8 : Hid (Tri B b (.slice (some ⟨g8, 0, none⟩) (R + 1 + 1) c8) (.slice (some ⟨gm, 0, none⟩) (R + 1) cm) (vals ++ [.slice p7 m7 c7]) (fun k => bl k ∨ (Value.slice p7 m7 c7).ownBlock = some k) w w8 s5 (Rd.dones cells rs ++ [Rd.done (Rd.all cells rs) ls]) (Rd.marks rs)) := Lib.hid (by
                            have h5 := HT5.out
                            rw [← HR.out] at h5
                            refine h5.pushD hB5 HB7.out HO7.out (by rw [Hvl.out]; exact hown8) hgr8 ?_
                            rcases hat8 with h | h
                            · exact .inl h.symm
                            · exact .inr (by rw [h]; simp [Value.ownBlock]))
                          rw [← Rd.dones_snoc] at HT8
                          have hB8 : B ≤ w8.heap.size := bel_size HT8.out.bel HBe.out
                          have HBy := Lib.hid (bytes_any HT8.out.red hb5)
                          have Hmr : Hid ((w8.alloc (.cells #[iv s5.bytes.length] 3)).ownsRow B 3 1 (.slice (some ⟨gm, 0, none⟩) (R + 1) cm) (R + 1) ((Rd.marks rs).map iv)) := Lib.hid (by
                            have h := owns_below HT8.out.mr (((Below.refl w8.heap.size w8).alloc (Nat.le_refl _) (.cells #[iv s5.bytes.length] 3)))
                            rw [Rd.marks_len, ← HR.out] at h
                            exact h)
                          have hj := Hj.out
                          clear hown8 hgr8 hat8 hi Hdn
                          go_wp2_with fail
                          refine HBy.out.mono ?_
                          rintro e w' ⟨rfl, rfl⟩
                          go_wp2_with (at_builtin; refine wpList_append_lies _ rfl _ _ 34 rfl B 3 j0 (.int .i64 0) 1 8 Tryd.underlying34 hj hj1 hj2 hj3 rfl (by decide) _ (R + 1) ((Rd.marks rs).map iv) rfl Hmr.out ⟨w8.heap.size, 0, none⟩ 1 1 [iv s5.bytes.length] rfl rfl ?o1 ?o2 (by decide) ?o3 ?o4 ?o5 _ rfl ?_)
                          case o1 => exact cell_one_new _ _ _
                          case o2 => intro u hu; rw [List.mem_singleton] at hu; subst hu; rfl
                          case o3 => unfold maxLen; omega
                          case o4 => omega
                          case o5 => simp; omega
                          intro g9 c9 w9 hown9 hgr9 hat9 hlt9
                          have HT9 : Hid (Tri B b (.slice (some ⟨g8, 0, none⟩) (R + 1 + 1) c8) (.slice (some ⟨g9, 0, none⟩) (R + 1 + 1) c9) (vals ++ [.slice p7 m7 c7]) (fun k => bl k ∨ (Value.slice p7 m7 c7).ownBlock = some k) w w9 s5 (Rd.dones cells (rs ++ [ls])) (Rd.marks rs ++ [(s5.bytes.length : Int)])) := Lib.hid (by
                            refine HT8.out.pushM hB8 (by rw [Rd.marks_len, ← HR.out]; exact hown9) hgr9 ?_
                            rcases hat9 with h | h
                            · exact .inl h.symm
                            · exact .inr (by rw [h]; simp [Value.ownBlock]))
                          rw [Hmk.out, ← Rd.marks_snoc] at HT9
                          clear hown9 hgr9 hat9 hj Hmr
                          go_wp2_with fail
                          go_meet
                          exact ⟨_, rfl, rs ++ [ls], g8, c8, g9, c9, _, _, by rw [List.length_append, List.length_singleton, ← HR.out], by rw [List.length_append, List.length_singleton, ← HR.out], HKq.out, by rw [List.length_append, List.length_singleton, ← HR.out]; exact HT9.out⟩
                      case rest =>
                        obtain ⟨w6, hw6, rs', gd', cd', gm', cm', vals', bl', rfl, rfl, hkp, htri⟩ := hcut
                        subst hw6
                        have HKq := Lib.hid hkp
                        have HTq := Lib.hid htri
                        have hB6 : B ≤ w6.heap.size := bel_size htri.bel HBe.out
                        obtain ⟨R', hR'⟩ : ∃ R, R = rs'.length := ⟨_, rfl⟩
                        have hR32' : R' ≤ 33 := by have := hkp.num; omega
                        obtain ⟨u', cu', hu', hsu'⟩ := htri.val (i := R') (by omega)
                        rw [hR', List.take_length] at hsu'
                        have hwR' : IntKind.i64.wrap (((R' + 1 : Nat) : Int) - 1) = (R' : Int) := (IntWalk.i64_in _ (by omega)).trans (by omega)
                        rw [← hR']
                        have HR' := Lib.hid hR'
                        have Hsu' := Lib.hid hsu'
                        have hz6 : ∀ k, k < B → k < w6.heap.size := fun k hk => Nat.lt_of_lt_of_le hk hB6
                        have hgd' : gd' < w6.heap.size := by
                          have := World.block_lt_of_cell? w6 _ cu'; exact this
                        clear hkp htri hR' hu' hsu' HT5 HT HKp Hkput cu cl0
                        go_upto_region 43 with (fail)
                        go_cut [230] (fun z wq => z = .bool false ∧ ∃ wk, wk = wq ∧ Below w6.heap.size w6 wk)
                        case first => as_aux_lemma =>
                          have h61 : (R' : Int) < (R' : Int) + 1 := by omega
                          have h62 : (0 : Int) ≤ (R' : Int) := by omega
                          have h63 : (R' : Int) < ((R' + 1 : Nat) : Int) := by omega
                          have hwR2 : IntKind.i64.wrap ((R' : Int) + 1 - 1) = (R' : Int) := (IntWalk.i64_in _ (by omega)).trans (by omega)
                          have hwR3 : IntKind.i64.wrap (R' : Int) = (R' : Int) := IntWalk.i64_in _ (by omega)
                          have hcl40 : s5.cells.length ≤ 1000 := by rw [HKq.out.clen, ← Hm.out]; have := HC40.out; omega
                          go_region_held3 (fun w' => w'.cell? ⟨gd', R', none⟩ = some u')
                            (first
                              | exact cu'
                              | exact kA
                              | go_keep)
                            (first
                              | (go_at_call 37; refine (all_any (HTq.out.red.below (bdrew (Below.refl _ _) _)) hcl40).mono ?_; rintro e wA ⟨v9, rfl, hown, hb⟩; rw [HKq.out.cel] at hown; have HBs := Lib.hid ((bdrew (Below.refl w6.heap.size w6) _).trans hb); have rowA : Hid (Strs wA v9 (Rd.all cells rs')) := Lib.hid (row_of_owns hown).1; have rowU : Hid (Strs wA u' (Rd.all cells rs')) := Lib.hid (Hsu'.out.below HBs.out); have kA := (HBs.out.cell (p := ⟨gd', R', none⟩) hgd').trans cu'; clear hown hb)
                              | (go_at_call 24; with_reducible refine (texts_eq (Rd.all cells rs') _ _ _ rowA.out rowU.out).mono ?_; rintro e wT ⟨rfl, nd, rfl⟩))
                          go_wp2_with fail
                          go_meet
                          exact ⟨rfl, _, rfl, bdrew HBs.out nd⟩
                        case rest =>
                          obtain ⟨rfl, wE, hwE, hbE⟩ := hcut
                          subst hwE
                          have HTE := Lib.hid (HTq.out.below hB6 hbE)
                          clear hbE HTq
                          go_wp2_with fail
                          rw [← Hpl.out, HR'.out]
                          go_roundg (gI - 1)
                          case measure => have := Hk.out; omega
                          case rel => exact ⟨k + 1, a + 1, s5, rs', gd', cd', gm', cm', vals', bl', by have := Hk.out; omega, rfl, rfl, by go_num, by go_num, by omega, HKq.out, HTE.out⟩
              · have bal : decide ((a : Int) < (nl : Int)) = false := dec_f (by omega)
                go_wp2_with fail
                go_meet
                exact ⟨_, rfl, 8 - k, _, k, a, s, rs, gd, cd, gm, cm, vals, bl, by omega, rfl, rfl, rfl, rfl, ha8, HKp.out, HT.out⟩
            · have b8 : decide ((k : Int) < 8) = false := dec_f (by omega)
              go_wp2_with fail
              go_meet
              exact ⟨_, rfl, 8 - k, _, k, a, s, rs, gd, cd, gm, cm, vals, bl, by have := Hk.out; omega, rfl, rfl, rfl, rfl, ha8, HKp.out, HT.out⟩
        case rest =>
          clear HT HKp hBP ha8
          obtain ⟨wQ, hwQ, gk2, v25x, k, a, s, rs, gd, cd, gm, cm, vals, bl, hk, rfl, rfl, rfl, hv25, ha8, hkp, htri⟩ := hcut
          subst hwQ
          have ha8' : a ≤ 8 * (round + 1) := by omega
          have hR32 : rs.length ≤ 32 := by have := hkp.num; omega
          have hbl : s.bytes.length ≤ 32000 := by have := hkp.len; omega
          have HKp := Lib.hid hkp
          have HT := Lib.hid htri
          have hB : B ≤ wQ.heap.size := bel_size htri.bel HBe.out
          clear hk hv25 ha8 hkp htri
          go_upto_if 234 with (fail)
          go_cut [31] (fun z wq => ∃ keep : Int, z = iv keep ∧ -9223372036854775808 ≤ keep ∧ keep ≤ 9223372036854775807 ∧ wQ = wq)
          case first => as_aux_lemma =>
            by_cases hkn : round < nk
            · obtain ⟨gk, ok, hpk, hck, hgk⟩ := Hk2.out round (by rw [← Hnk.out]; exact hkn)
              have hkl : round < ke.length := by rw [← Hnk.out]; exact hkn
              rw [List.getElem?_map, List.getElem?_eq_getElem hkl] at hck
              have hwf := Hke.out ke[round] (List.getElem_mem hkl)
              generalize ke[round] = x at *
              have hxb := bounds_i64 hwf
              have ck0 : wQ.cell? ⟨gk, ok + round, none⟩ = some (iv x) := (HT.out.bel.cell (p := ⟨gk, ok + round, none⟩) (by rw [HBe.out]; exact hgk)).trans hck
              have Hpk := Lib.hid hpk
              rw [hpk]
              clear hck hwf hpk hkl hgk
              go_wp2_with fail
              rw [← Hpk.out]
              go_meet
              exact ⟨x, rfl, by omega, by omega, rfl⟩
            · go_wp2_with fail
              go_meet
              exact ⟨0, rfl, by decide, by decide, rfl⟩
          case rest =>
            obtain ⟨keep, rfl, hk0, hk1, hwr⟩ := hcut
            subst hwr
            obtain ⟨i, tail, hi, hkt, hok, hsh, hkp, hh1, hh2⟩ := HKp.out.crash keep
            have HBy := Lib.hid (bytes_any HT.out.red (by omega))
            have HSa := Lib.hid (safe_any HT.out.red)
            have HC := Lib.hid (crash_any HT.out.red (HT.out.ff hB) (by omega) HKp.out.safe (by rw [HKp.out.first, ← Hm.out]; exact HC40.out) keep hk0 hk1 (rs.take i) tail hkt hok hsh)
            unfold CrashPost at HC
            have HKc := Lib.hid hkp
            obtain ⟨hh, hhe⟩ : ∃ hh, hh = Rd.high s keep := ⟨_, rfl⟩
            rw [← hhe] at hh1 hh2
            have Hh1 := Lib.hid hh1
            have Hh2 := Lib.hid hh2
            have hsf := HKp.out.safe
            have hhe' : hh = s.safe + (max 0 (min keep ((s.bytes.length : Int) - s.safe))).toNat := hhe
            clear hkt hok hsh hkp hh1 hh2 hhe
            go_wp2_with fail
            refine HBy.out.mono ?_
            rintro e w' ⟨rfl, rfl⟩
            go_wp2_with fail
            refine HSa.out.mono ?_
            rintro e w' ⟨rfl, rfl⟩
            go_wp2_with fail
            refine HC.out.mono ?_
            rintro e w3 ⟨rfl, hR3, hk3⟩
            have HT3 := Lib.hid (HT.out.turn hB hR3 hk3)
            have hB3 : B ≤ w3.heap.size := bel_size HT3.out.bel HBe.out
            obtain ⟨BL, hBL⟩ : ∃ n, n = s.bytes.length := ⟨_, rfl⟩
            obtain ⟨SF, hSF⟩ : ∃ n, n = s.safe := ⟨_, rfl⟩
            rw [← hBL, ← hSF] at hhe' hsf
            rw [← hBL] at hbl
            have hw1 : IntKind.i64.wrap ((BL : Int) - (SF : Int)) = (BL : Int) - (SF : Int) := IntWalk.i64_in _ (by omega)
            rw [← hBL, ← hSF]
            clear hR3 hk3 HC HBy HSa HKp HT hBL hSF
            obtain ⟨q, hq⟩ : ∃ q : Bool, q = decide (0 < keep ∧ keep < (BL : Int) - (SF : Int)) := ⟨_, rfl⟩
            have Hq := Lib.hid hq
            have Hhe := Lib.hid hhe'
            clear hq hhe'
            go_upto_region 52 with (fail)
            go_cut [255] (fun z wq => z = .bool q ∧ w3 = wq)
            case first => as_aux_lemma =>
              by_cases hp : 0 < keep
              · have dp : decide (0 < keep) = true := dec_t hp
                by_cases hlt2 : keep < (BL : Int) - (SF : Int)
                · have dl : decide (keep < (BL : Int) - (SF : Int)) = true := dec_t hlt2
                  have e : q = true := by rw [Hq.out]; exact dec_t ⟨hp, hlt2⟩
                  subst e
                  go_wp2_with fail
                  go_meet
                  exact ⟨rfl, rfl⟩
                · have dl : decide (keep < (BL : Int) - (SF : Int)) = false := dec_f hlt2
                  have e : q = false := by rw [Hq.out]; exact dec_f (fun h => hlt2 h.2)
                  subst e
                  go_wp2_with fail
                  go_meet
                  exact ⟨rfl, rfl⟩
              · have dp : decide (0 < keep) = false := dec_f hp
                have hp' : keep ≤ 0 := by omega
                have e : q = false := by rw [Hq.out]; exact dec_f (fun h => hp h.1)
                subst e
                go_wp2_with fail
                go_meet
                exact ⟨rfl, rfl⟩
            case rest =>
              obtain ⟨rfl, rfl⟩ := hcut
              go_upto_if 255 with (fail)
              go_cut [34] (fun z wq => z = iv hh ∧ w3 = wq)
              case first => as_aux_lemma =>
                cases q with
                | true =>
                  have hc := of_decide_eq_true Hq.out.symm
                  have hw2 : IntKind.i64.wrap ((SF : Int) + keep) = (hh : Int) := (IntWalk.i64_in _ (by omega)).trans (by have := Hhe.out; omega)
                  go_wp2_with fail
                  go_meet
                  exact ⟨rfl, rfl⟩
                | false =>
                  have hc := of_decide_eq_false Hq.out.symm
                  by_cases hp : 0 < keep
                  · have dp : decide (0 < keep) = true := dec_t hp
                    have e : hh = BL := by have := Hhe.out; omega
                    subst e
                    go_wp2_with fail
                    go_meet
                    exact ⟨rfl, rfl⟩
                  · have dp : decide (0 < keep) = false := dec_f hp
                    have hp' : keep ≤ 0 := by omega
                    have e : hh = SF := by have := Hhe.out; omega
                    subst e
                    go_wp2_with fail
                    go_meet
                    exact ⟨rfl, rfl⟩
              case rest =>
                obtain ⟨rfl, rfl⟩ := hcut
                obtain ⟨R, hR⟩ : ∃ R, R = rs.length := ⟨_, rfl⟩
                have HR := Lib.hid hR
                rw [← hR] at hi hR32
                rw [← hR]
                clear hR Hq Hhe hsf hw1
                go_wp2_with fail
                go_loopg [35, 36] (R + 1) (fun gk v35 v36 wr => ∃ q left : Nat, q + gk = R + 1 ∧ v36 = iv q ∧ v35 = iv left ∧ left ≤ i ∧ (i < q → left = i) ∧ wr = w3)
                case atStart => exact ⟨0, 0, by omega, rfl, rfl, by omega, by omega, rfl⟩
                case round =>
                  obtain ⟨q, left, hq, rfl, rfl, hle, hli, hwr⟩ := hrel
                  subst hwr
                  have Hq := Lib.hid hq
                  clear hq
                  by_cases hqR : q < R + 1
                  · have hmq := HT3.out.mark (i := q) (by rw [← HR.out]; omega)
                    obtain ⟨lq, hlq⟩ : ∃ n, n = (Rd.log (rs.take q)).length := ⟨_, rfl⟩
                    rw [← hlq] at hmq
                    have Hlq := Lib.hid hlq
                    have hqI : ((q : Int)) < (((R + 1 : Nat)) : Int) := by omega
                    have hqI2 : (q : Int) < (R : Int) + 1 := by omega
                    have hqI3 : (0 : Int) ≤ (q : Int) := by omega
                    have Hli := Lib.hid hli
                    clear hlq hli
                    by_cases hcm : lq ≤ hh
                    · have dq : decide ((lq : Int) ≤ (hh : Int)) = true := dec_t (by omega)
                      have dqI : (lq : Int) ≤ (hh : Int) := by omega
                      have hqi : q ≤ i := by
                        apply Nat.le_of_not_lt
                        intro h
                        have := Hh2.out q h (by rw [← HR.out]; omega)
                        rw [← Hlq.out] at this; omega
                      clear hcm
                      go_wp2_with fail
                      go_roundg (gk - 1)
                      case measure => have := Hq.out; omega
                      case rel => exact ⟨q + 1, q, by have := Hq.out; omega, by go_num, rfl, hqi, fun h => by omega, rfl⟩
                    · have dq : decide ((lq : Int) ≤ (hh : Int)) = false := dec_f (by omega)
                      have dqI : (hh : Int) < (lq : Int) := by omega
                      have hqi : q ≠ i := by
                        intro h
                        have := Hh1.out
                        rw [← h, ← Hlq.out] at this; omega
                      clear hcm
                      go_wp2_with fail
                      go_roundg (gk - 1)
                      case measure => have := Hq.out; omega
                      case rel => exact ⟨q + 1, left, by have := Hq.out; omega, by go_num, rfl, hle, fun h => Hli.out (by omega), rfl⟩
                  · have hleft : left = i := hli (by have := Hq.out; omega)
                    subst hleft
                    obtain ⟨u, cu, hu, hsu⟩ := HT3.out.val (i := left) (by rw [← HR.out]; exact hi)
                    have hmi := HT3.out.mark (i := left) (by rw [← HR.out]; exact hi)
                    have hcd : R + 1 ≤ cd := by
                      have hd := HT3.out.dn
                      rw [HT3.out.valsLen] at hd
                      obtain ⟨g, cap, hv, _, _, h, _⟩ := owns_pos hd (by omega)
                      injection hv with e1 e2 e3
                      rw [HR.out]; omega
                    have hcm : R + 1 ≤ cm := by
                      have hd := HT3.out.mr
                      rw [Rd.marks_len] at hd
                      obtain ⟨g, cap, hv, _, _, h, _⟩ := owns_pos hd (by omega)
                      injection hv with e1 e2 e3
                      rw [HR.out]; omega
                    obtain ⟨lm, hlm⟩ : ∃ n, n = (Rd.log (rs.take left)).length := ⟨_, rfl⟩
                    rw [← hlm] at hmi
                    have Hlm := Lib.hid hlm
                    have Hsu := Lib.hid hsu
                    have hgd : gd < wr.heap.size := World.block_lt_of_cell? wr _ cu
                    have hgm : gm < wr.heap.size := World.block_lt_of_cell? wr _ hmi
                    have hlw : IntKind.i64.wrap ((left : Int) + 1) = ((left + 1 : Nat) : Int) := (IntWalk.i64_in _ (by omega)).trans (by omega)
                    have hl1 : ((left + 1 : Nat) : Int) ≤ (cd : Int) := by omega
                    have hl2 : ((left + 1 : Nat) : Int) ≤ (cm : Int) := by omega
                    have hqI : (R : Int) + 1 ≤ (q : Int) := by omega
                    clear hu hsu hlm Hq hle hli
                    go_wp2_with fail
                    have HT4 := Lib.hid (HT3.out.cut_rs HR.out hi)
                    have ha5 : s.cells.length = s.cells.length := rfl
                    go_upto_region 64 with (fail)
                    go_cut [308] (fun z wq => z = .bool false ∧ ∃ wk, wk = wq ∧ Below wr.heap.size wr wk)
                    case first => as_aux_lemma =>
                      have hll : (Rd.log (rs.take left)).length ≤ 1000000 := by have h := HKc.out.len; have h' : (Rd.crash s (rs.take left)).bytes.length = (Rd.log (rs.take left)).length := rfl; rw [h'] at h; omega
                      have hcl40 : (Rd.crash s (rs.take left)).cells.length ≤ 1000 := by rw [HKc.out.clen, ← Hm.out]; have := HC40.out; omega
                      have h62 : (0 : Int) ≤ (left : Int) := by omega
                      have h61 : (left : Int) < (left : Int) + 1 := by omega
                      have h63 : (left : Int) < ((left + 1 : Nat) : Int) := by omega
                      have hby : (Rd.crash s (rs.take left)).bytes.length = lm := Hlm.out.symm
                      have hsa : (Rd.crash s (rs.take left)).safe = lm := Hlm.out.symm
                      have hby2 := Lib.hid hby
                      have hsa2 := Lib.hid hsa
                      clear Hlm hby hsa
                      go_region_held3 (fun w' => w'.cell? ⟨gd, left, none⟩ = some u ∧ w'.cell? ⟨gm, left, none⟩ = some (iv lm))
                        (first
                          | exact ⟨cu, hmi⟩
                          | exact kA
                          | go_keep)
                        (first
                          | (go_at_call 37; refine (all_any (HT3.out.red.below (bdrew (Below.refl _ _) _)) hcl40).mono ?_; rintro e wA ⟨v9, rfl, hown, hb⟩; rw [HKc.out.cel] at hown; have HBs := Lib.hid ((bdrew (Below.refl wr.heap.size wr) _).trans hb); have rowA : Hid (Strs wA v9 (Rd.all cells (rs.take left))) := Lib.hid (row_of_owns hown).1; have rowU : Hid (Strs wA u (Rd.all cells (rs.take left))) := Lib.hid (Hsu.out.below HBs.out); have kA : wA.cell? ⟨gd, left, none⟩ = some u ∧ wA.cell? ⟨gm, left, none⟩ = some (iv lm) := ⟨(HBs.out.cell (p := ⟨gd, left, none⟩) hgd).trans cu, (HBs.out.cell (p := ⟨gm, left, none⟩) hgm).trans hmi⟩; have RA := Lib.hid (HT3.out.red.below HBs.out); clear hown hb)
                          | (go_at_call 24; with_reducible refine (texts_eq (Rd.all cells (rs.take left)) _ _ _ rowA.out rowU.out).mono ?_; rintro e wT ⟨rfl, nd, rfl⟩)
                          | (go_at_call 38; refine (bytes_any (RA.out.below (bdrew (Below.refl _ _) _)) hll).mono ?_; rintro e wH ⟨he, rfl⟩; rw [hby2.out] at he; subst he)
                          | (go_at_call 42; refine (safe_any (RA.out.below (bdrew (Below.refl _ _) _))).mono ?_; rintro e wH ⟨he, rfl⟩; rw [hsa2.out] at he; subst he))
                      go_wp2_with fail
                      go_meet
                      exact ⟨rfl, _, rfl, bdrew HBs.out nd⟩
                    case rest =>
                      obtain ⟨rfl, wE, hwE, hbE⟩ := hcut
                      subst hwE
                      have HTE := Lib.hid (HT4.out.below hB3 hbE)
                      have hlen1 : (rs.take left).length = left := by rw [List.length_take, ← HR.out]; omega
                      have Hlen1 := Lib.hid hlen1
                      clear hbE HT4 hlen1
                      go_wp2_with fail
                      go_roundg (gO - 1)
                      case measure => have := Hrd.out; omega
                      case rel =>
                        exact ⟨round + 1, a, Rd.crash s (rs.take left), rs.take left, gd, cd, gm, cm, vals.take (left + 1), bl, by have := Hrd.out; omega, by omega, by rw [Hlen1.out], by rw [Hlen1.out], rfl, by go_num, ha8', HKc.out, by rw [Hlen1.out]; exact HTE.out⟩
    · have hrN' : round = N := by omega
      have hend : (decide ((round : Int) ≤ (nf : Int)) = false ∧ nf < round) ∨ (decide ((round : Int) ≤ (nf : Int)) = true ∧ decide ((round : Int) < 4) = false) := by
        rcases HNe.out with h | ⟨h, h'⟩
        · exact .inl ⟨dec_f (by omega), by omega⟩
        · exact .inr ⟨dec_t (by omega), dec_f (by omega)⟩
      have HBw : Hid (Below w.heap.size w wO) := Lib.hid (by have h := HT.out.bel; rw [HBe.out] at h; exact h)
      clear hlt hrN'
      rcases hend with ⟨t0, t1⟩ | ⟨t0, t1⟩
      all_goals
        go_wp2_with fail
        all_goals
          go_ret
          exact ⟨rfl, HBw.out⟩
theorem redoKeeps_walk (va vl vs vf vk : Value) (w : World) (hg : Handle w) (ha : ∃ ss, Strs w va ss ∧ ∀ s ∈ ss, s.size ≤ maxLen) (hl : ∃ lss, RowsW w vl lss)
    (hs : ∃ xs : List Int, Row w vs (xs.map iv) ∧ ∀ n ∈ xs, (Lit.int .i64 n).wf = true) (hf : ∃ xs : List Int, Row w vf (xs.map iv) ∧ ∀ n ∈ xs, (Lit.int .i64 n).wf = true) (hk : ∃ xs : List Int, Row w vk (xs.map iv) ∧ ∀ n ∈ xs, (Lit.int .i64 n).wf = true) :
    Calls Tryd.prog 7 #[va, vl, vs, vf, vk] w fun e w' => e = .returned (.bool true) ∧ Below w.heap.size w w' := by
  obtain ⟨cells, hc, _⟩ := ha
  obtain ⟨lss, hl⟩ := hl
  obtain ⟨sy, hs, _⟩ := hs
  obtain ⟨fa, hf, hfa⟩ := hf
  obtain ⟨ke, hk, hke⟩ := hk
  by_cases h0 : cellsF cells = 0
  · exact redoKeeps_core cells h0 lss sy fa ke hfa hke va vl vs vf vk w hg hc hl hs hf hk
  · exact redoKeeps_bad cells h0 va vl vs vf vk w hg hc
end Go.Proofs.YtangcjffiooapaaDoor
