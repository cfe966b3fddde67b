/- The walk of the reference's Ask. -/
import Derived.Test.YtoddoekmgkcomaaDoorLockR
import Derived.Deep.RegionLaw
namespace Go.Proofs.YtoddoekmgkcomaaDoor
open Go.ChangeShapes Go.WideShapes Go.ChangeAt Go.RowKit
set_option linter.unusedVariables false
attribute [local go_sem ↓] Go.wp_at_zero Go.wp_at_succ
/-- an object and a lock that was handed in, while only what is new turns -/
structure AskEnv (T : TypeId) (w : World) (B b : Nat) (vh vw : Value) (s : Lk.St) (l : Lk.L) (W : World) : Prop where
  obj : LkAt T W B b vh vw s
  par : W.heap[w.heap.size]? = some (.cells (lc l).toArray 52 (0, 0))
  bel : Below w.heap.size w W
section
variable {T : TypeId} {w W W' : World} {B b : Nat} {vh vw : Value} {s : Lk.St} {l : Lk.L}
theorem AskEnv.below (h : AskEnv T w B b vh vw s l W) (hb : Below W.heap.size W W') : AskEnv T w B b vh vw s l W' :=
  ⟨h.obj.below hb, (hb.block _ (Array.getElem?_eq_some_iff.1 h.par).1).trans h.par, h.bel.trans (hb.mono h.bel.size)⟩
theorem AskEnv.start (h : LkAt T w B b vh vw s) (l : Lk.L) : AskEnv T w B b vh vw s l (w.alloc (.cells (lc l).toArray 52)) :=
  ⟨h.below ((Below.refl _ _).alloc (Nat.le_refl _) _), heap_alloc_new _ _, (Below.refl _ _).alloc (Nat.le_refl _) _⟩
theorem AskEnv.p0 (h : AskEnv T w B b vh vw s l W) : W.cell? ⟨w.heap.size, 0, none⟩ = some (iv l.who) := by rw [cell_of_row _ _ _ _ _ _ h.par]; rfl
theorem AskEnv.p1 (h : AskEnv T w B b vh vw s l W) : W.cell? ⟨w.heap.size, 1, none⟩ = some (iv l.fr) := by rw [cell_of_row _ _ _ _ _ _ h.par]; rfl
theorem AskEnv.p2 (h : AskEnv T w B b vh vw s l W) : W.cell? ⟨w.heap.size, 2, none⟩ = some (iv l.to) := by rw [cell_of_row _ _ _ _ _ _ h.par]; rfl
theorem AskEnv.p3 (h : AskEnv T w B b vh vw s l W) : W.cell? ⟨w.heap.size, 3, none⟩ = some (.bool l.al) := by rw [cell_of_row _ _ _ _ _ _ h.par]; rfl
theorem AskEnv.lt (h : AskEnv T w B b vh vw s l W) : w.heap.size < W.heap.size := (Array.getElem?_eq_some_iff.1 h.par).1
end
theorem RowL.drewG {w : World} {v : Value} {ls : List Lk.L} (h : RowL w v ls) : RowL w.drew v ls := h.below (Below.refl _ _).drew
theorem rowL_sliceG {w : World} {v : Value} {ls : List Lk.L} (h : RowL w v ls) : ∃ p c, v = .slice p ls.length c := by
  obtain ⟨p, c, hv, _⟩ := h; exact ⟨p, c, hv⟩
def RAskPost (B b : Nat) (vh vw : Value) (r : (Bool × Int) × Lk.St) (w : World) (e : Ending) (w' : World) : Prop :=
  e = .returned (.tuple #[.bool r.1.1, iv r.1.2]) ∧ LkStep 45 w B b vh vw r.2 w'
theorem rbad_why {l : Lk.L} (h : Lk.badL l = true) : l.who < 1 ∨ (1 ≤ l.who ∧ 1000 < l.who) ∨ (1 ≤ l.who ∧ l.who ≤ 1000 ∧ l.fr < 0) ∨ (1 ≤ l.who ∧ l.who ≤ 1000 ∧ 0 ≤ l.fr ∧ l.to ≤ l.fr) ∨ (1 ≤ l.who ∧ l.who ≤ 1000 ∧ 0 ≤ l.fr ∧ l.fr < l.to ∧ 40 < l.to) := by
  simp only [Lk.badL, Bool.or_eq_true, decide_eq_true_eq] at h; omega
theorem rgood_why {l : Lk.L} (h : Lk.badL l = false) : 1 ≤ l.who ∧ l.who ≤ 1000 ∧ 0 ≤ l.fr ∧ l.fr < l.to ∧ l.to ≤ 40 := by
  simp only [Lk.badL, Bool.or_eq_false_iff, decide_eq_false_iff_not] at h; omega
theorem rask_bad {w : World} {B b : Nat} {vh vw : Value} {s : Lk.St} (h : LkAt 45 w B b vh vw s) (l : Lk.L) (hb : Lk.badL l = true) :
    Calls Tryd.prog 22 #[.pointer (some ⟨b, 0, none⟩), lv l] w (RAskPost B b vh vw ((false, 1), s) w) := by
  have H := Lib.hid h
  have hw := rbad_why hb
  obtain ⟨lw, lf, lt, la⟩ := l
  simp only at hw
  clear h hb
  rcases hw with c | ⟨c1, c2⟩ | ⟨c1, c2, c3⟩ | ⟨c1, c2, c3, c4⟩ | ⟨c1, c2, c3, c4, c5⟩
  all_goals
    go_enter Tryd.func22, Tryd.ntmps22
    go_wp2
    go_ret2
    exact ⟨rfl, LkStep.same H.out ((Below.refl _ _).alloc (Nat.le_refl _) _)⟩
set_option maxRecDepth 100000 in
set_option maxHeartbeats 4000000 in
theorem rask_good {w : World} {B b : Nat} {vh vw : Value} {s : Lk.St} (h : LkAt 45 w B b vh vw s) (hm : s.1.length + s.2.length ≤ 30) (l : Lk.L) (hb : Lk.badL l = false) :
    Calls Tryd.prog 22 #[.pointer (some ⟨b, 0, none⟩), lv l] w (RAskPost B b vh vw (Lk.ask s l) w) := by
  obtain ⟨h1, h2, h3, h4, h5⟩ := rgood_why hb
  have HB := Lib.hid hb
  obtain ⟨wA, hwA⟩ : ∃ W : World, W = w.alloc (.cells (lc l).toArray 52) := ⟨_, rfl⟩
  have hE0 := AskEnv.start h l
  rw [← hwA] at hE0
  have E0 := Lib.hid hE0
  obtain ⟨p, c, hv1⟩ := rowL_sliceG h.row1
  obtain ⟨p', c', hv2⟩ := rowL_sliceG h.row2
  have hls : s.1.length ≤ 30 := by omega
  have hls2 : s.2.length ≤ 30 := by omega
  subst hv1 hv2
  have H0 := Lib.hid h
  have Hm := Lib.hid hm
  have HWA := Lib.hid hwA
  clear h hE0 hb hwA
  obtain ⟨z1, hz1⟩ : ∃ z, z = Lk.has s.1 l.who := ⟨_, rfl⟩
  obtain ⟨z2, hz2⟩ : ∃ z, z = Lk.has s.2 l.who := ⟨_, rfl⟩
  have HQ1 := Lib.hid hz1
  have HQ2 := Lib.hid hz2
  clear hz1 hz2
  go_enter Tryd.func22, Tryd.ntmps22
  have p0 := E0.out.p0
  have p1 := E0.out.p1
  have p2 := E0.out.p2
  go_upto_region 3 with (fail)
  rw [show (w.alloc (.cells #[iv l.who, iv l.fr, iv l.to, .bool l.al] 52)) = wA from HWA.out.symm]
  clear p0 p1 p2
  go_cut [6] (fun z wq => z = .bool z1 ∧ Below wA.heap.size wA wq)
  case first => as_aux_lemma =>
    have a0 := E0.out.obj.c0
    have a1 := E0.out.obj.c1
    have p0 := E0.out.p0
    have p1 := E0.out.p1
    have p2 := E0.out.p2
    have p3 := E0.out.p3
    have hsE := E0.out.lt
    have hbE := E0.out.obj.lt
    go_region_held3 (fun w' => w'.cell? ⟨b, 0, none⟩ = some (.slice p s.1.length c) ∧ w'.cell? ⟨w.heap.size, 0, none⟩ = some (iv l.who))
      (first
        | exact ⟨a0, p0⟩
        | go_keep)
      (first
        | (go_at_call 53; refine (whose_any s.1 l.who _ _ (E0.out.obj.row1.drewG)).mono ?_; rintro e w1 ⟨rfl, rfl⟩))
    go_wp2_with fail
    go_meet
    exact ⟨by rw [HQ1.out], (Below.refl _ _).drew⟩
  case rest =>
  obtain ⟨rfl, hbc⟩ := hcut
  have E1 := Lib.hid (E0.out.below hbc)
  clear hbc E0 HWA
  go_upto_region 4 with (fail)
  go_cut [7] (fun z wq => z = .bool z2 ∧ Below wc.heap.size wc wq)
  case first => as_aux_lemma =>
    have a0 := E1.out.obj.c0
    have a1 := E1.out.obj.c1
    have p0 := E1.out.p0
    have p1 := E1.out.p1
    have p2 := E1.out.p2
    have p3 := E1.out.p3
    have hsE := E1.out.lt
    have hbE := E1.out.obj.lt
    go_region_held3 (fun w' => w'.cell? ⟨b, 1, none⟩ = some (.slice p' s.2.length c') ∧ w'.cell? ⟨w.heap.size, 0, none⟩ = some (iv l.who))
      (first
        | exact ⟨a1, p0⟩
        | go_keep)
      (first
        | (go_at_call 53; refine (whose_any s.2 l.who _ _ (E1.out.obj.row2.drewG)).mono ?_; rintro e w1 ⟨rfl, rfl⟩))
    go_wp2_with fail
    go_meet
    exact ⟨by rw [HQ2.out], (Below.refl _ _).drew⟩
  case rest =>
  obtain ⟨rfl, hbc⟩ := hcut
  have E2 := Lib.hid (E1.out.below hbc)
  clear hbc E1
  cases hz : (z1 || z2) with
  | true =>
    have HP : Hid (Lk.ask s l = ((false, 7), s)) := Lib.hid (by rw [Lk.ask, if_neg (by rw [HB.out]; decide), if_pos (by rw [← HQ1.out, ← HQ2.out, hz])])
    have Hz := Lib.hid hz
    clear hz HQ1 HQ2
    cases z1 with
    | true =>
      go_wp2_with fail
      go_ret2
      rw [RAskPost, HP.out]
      exact ⟨rfl, LkStep.same H0.out E2.out.bel⟩
    | false =>
      cases z2 with
      | true =>
        go_wp2_with fail
        go_ret2
        rw [RAskPost, HP.out]
        exact ⟨rfl, LkStep.same H0.out E2.out.bel⟩
      | false => exact absurd Hz.out (by decide)
  | false =>
    simp only [Bool.or_eq_false_iff] at hz
    obtain ⟨rfl, rfl⟩ := hz
    have HQ : Hid ((Lk.has s.1 l.who || Lk.has s.2 l.who) = false) := Lib.hid (by rw [← HQ1.out, ← HQ2.out]; rfl)
    clear HQ1 HQ2
    obtain ⟨m, hmm⟩ : ∃ m : Nat, m = s.1.length + s.2.length := ⟨_, rfl⟩
    have hmI : ((s.1.length : Int) + (s.2.length : Int)) = (m : Int) := by omega
    have HMM := Lib.hid hmm
    have hm30 : m ≤ 30 := by omega
    have a0 := E2.out.obj.c0
    have a1 := E2.out.obj.c1
    clear hmm
    by_cases hfull : 30 ≤ m
    · have HP : Hid (Lk.ask s l = ((false, 4), s)) := Lib.hid (by rw [Lk.ask, if_neg (by rw [HB.out]; decide), if_neg (by rw [HQ.out]; decide), if_pos (by have := HMM.out; omega)])
      have hd : decide (30 ≤ (m : Int)) = true := dec_t (by omega)
      go_wp2_with fail
      go_quiet (fail)
      go_wp2_with fail
      go_ret2
      rw [RAskPost, HP.out]
      exact ⟨rfl, LkStep.same H0.out (bdrew E2.out.bel _)⟩
    · have HF : Hid (¬ 30 ≤ s.1.length + s.2.length) := Lib.hid (by have := HMM.out; omega)
      have hd : decide (30 ≤ (m : Int)) = false := dec_f (by omega)
      clear HMM hfull hm30
      go_wp2_with fail
      go_quiet (fail)
      go_upto_region 9 with (fail)
      clear hmI hd
      have E3 := Lib.hid (E2.out.below (bdrew (Below.refl _ _) nq))
      clear a0 a1 E2
      generalize wc.drewN nq = wd at *
      obtain ⟨f1, hf1⟩ : ∃ z, z = Lk.free s.1 l := ⟨_, rfl⟩
      obtain ⟨f2, hf2⟩ : ∃ z, z = Lk.free s.2 l := ⟨_, rfl⟩
      have HZ1 := Lib.hid hf1
      have HZ2 := Lib.hid hf2
      clear hf1 hf2
      go_cut [8] (fun z wq => z = .bool f1 ∧ Below wd.heap.size wd wq)
      case first => as_aux_lemma =>
        have a0 := E3.out.obj.c0
        have a1 := E3.out.obj.c1
        have p0 := E3.out.p0
        have p1 := E3.out.p1
        have p2 := E3.out.p2
        have p3 := E3.out.p3
        have hsE := E3.out.lt
        have hbE := E3.out.obj.lt
        go_region_held3 (fun w' => w'.cell? ⟨b, 0, none⟩ = some (.slice p s.1.length c) ∧ w'.cell? ⟨w.heap.size, 0, none⟩ = some (iv l.who) ∧ w'.cell? ⟨w.heap.size, 1, none⟩ = some (iv l.fr) ∧ w'.cell? ⟨w.heap.size, 2, none⟩ = some (iv l.to) ∧ w'.cell? ⟨w.heap.size, 3, none⟩ = some (.bool l.al))
          (first
            | exact ⟨a0, p0, p1, p2, p3⟩
            | exact K1
            | go_keep)
          (first
            | (go_at_call 55; refine (clear_any s.1 l _ _ (E3.out.obj.row1.drewG)).mono ?_; rintro e w1 ⟨rfl, hb1⟩; have HB1 := Lib.hid (drewBG hb1); have k0 := fun o => HB1.out.cell (p := ⟨w.heap.size, o, none⟩) hsE; have K1 := And.intro ((HB1.out.cell (p := ⟨b, 0, none⟩) hbE).trans a0) (And.intro ((k0 _).trans p0) (And.intro ((k0 _).trans p1) (And.intro ((k0 _).trans p2) ((k0 _).trans p3)))); clear hb1 k0))
        go_wp2_with fail
        go_meet
        exact ⟨by rw [HZ1.out], HB1.out⟩
      case rest =>
      obtain ⟨rfl, hbc⟩ := hcut
      have E4 := Lib.hid (E3.out.below hbc)
      clear hbc E3
      go_upto_region 10 with (fail)
      go_cut [9] (fun z wq => z = .bool f2 ∧ Below wc.heap.size wc wq)
      case first => as_aux_lemma =>
        have a0 := E4.out.obj.c0
        have a1 := E4.out.obj.c1
        have p0 := E4.out.p0
        have p1 := E4.out.p1
        have p2 := E4.out.p2
        have p3 := E4.out.p3
        have hsE := E4.out.lt
        have hbE := E4.out.obj.lt
        go_region_held3 (fun w' => w'.cell? ⟨b, 1, none⟩ = some (.slice p' s.2.length c') ∧ w'.cell? ⟨w.heap.size, 0, none⟩ = some (iv l.who) ∧ w'.cell? ⟨w.heap.size, 1, none⟩ = some (iv l.fr) ∧ w'.cell? ⟨w.heap.size, 2, none⟩ = some (iv l.to) ∧ w'.cell? ⟨w.heap.size, 3, none⟩ = some (.bool l.al))
          (first
            | exact ⟨a1, p0, p1, p2, p3⟩
            | exact K1
            | go_keep)
          (first
            | (go_at_call 55; refine (clear_any s.2 l _ _ (E4.out.obj.row2.drewG)).mono ?_; rintro e w1 ⟨rfl, hb1⟩; have HB1 := Lib.hid (drewBG hb1); have k0 := fun o => HB1.out.cell (p := ⟨w.heap.size, o, none⟩) hsE; have K1 := And.intro ((HB1.out.cell (p := ⟨b, 1, none⟩) hbE).trans a1) (And.intro ((k0 _).trans p0) (And.intro ((k0 _).trans p1) (And.intro ((k0 _).trans p2) ((k0 _).trans p3)))); clear hb1 k0))
        go_wp2_with fail
        go_meet
        exact ⟨by rw [HZ2.out], HB1.out⟩
      case rest =>
      obtain ⟨rfl, hbc⟩ := hcut
      have E5 := Lib.hid (E4.out.below hbc)
      clear hbc E4
      obtain ⟨wE, hwE⟩ : ∃ x : World, x = wc := ⟨_, rfl⟩
      subst hwE
      go_upto_region 11 with (fail)
      go_cut [80] (fun z wq => z = .bool (f1 && f2) ∧ wE = wq)
      case first => as_aux_lemma =>
        cases f1 <;> cases f2
        all_goals
          go_wp2_with fail
          go_meet
          exact ⟨rfl, rfl⟩
      case rest =>
      obtain ⟨rfl, rfl⟩ := hcut
      cases hf : (f1 && f2) with
      | true =>
        have HPA : Hid (Lk.ask s l = ((true, 0), (s.1 ++ [l], s.2))) := Lib.hid (by rw [Lk.ask, if_neg (by rw [HB.out]; decide), if_neg (by rw [HQ.out]; decide), if_neg HF.out, ← HZ1.out, ← HZ2.out, if_pos hf])
        clear hf HZ1 HZ2
        have a0 := E5.out.obj.c0
        have a1 := E5.out.obj.c1
        have p0 := E5.out.p0
        have p1 := E5.out.p1
        have p2 := E5.out.p2
        have p3 := E5.out.p3
        have hsE := E5.out.lt
        have hbE := E5.out.obj.lt
        have fE := E5.out.obj.f 0
        have hbB : B ≤ wE.heap.size := by have := E5.out.obj.hb; omega
        have hown := Lib.hid E5.out.obj.own1
        have q0 : ∀ o, (wE.alloc o).cell? ⟨b, 0, none⟩ = some (.slice p s.1.length c) := fun o => (((Below.refl wE.heap.size wE).alloc (Nat.le_refl _) o).cell (p := ⟨b, 0, none⟩) hbE).trans a0
        have hbx : Below wE.heap.size wE ((wE.alloc (.cells (lc l).toArray 52)).drew) := ((Below.refl _ _).alloc (Nat.le_refl _) _).drew
        have HBX := Lib.hid (E5.out.bel.trans (hbx.mono E5.out.bel.size))
        have hzx : ((wE.alloc (.cells (lc l).toArray 52)).drew).heap.size ≤ wE.heap.size + 1 := by simp
        have HZX := Lib.hid hzx
        clear hbx hzx
        obtain ⟨i0, hi0, hz0, hz1, hz2⟩ := info_parts info_lock
        go_upto_region 12 with (fail)
        go_region_law
          ((refine step_append_lies _ (by rfl) _ _ _ (by rfl) B 52 i0 _ 4 32 Tryd.underlying39 hi0 hz0 hz1 hz2 rfl (by omega) (.slice p s.1.length c) s.1.length (lcs s.1) (by rfl) ((hown.out.alloc _).drew) ⟨wE.heap.size, 0, none⟩ 1 1 (lc l) (by rfl) (by rfl) (World.news_of_block (cs := (lc l).toArray) (t := 52) (fr := (0, 0)) (heap_alloc_new wE _)) (lc_one l) (by omega) (by unfold maxLen; omega) (by omega) (by simp; omega) (wE.heap.size + 1) (by simp) ?_; intro gg cap w1 hown1 hgrow hat hlt; obtain ⟨N, M⟩ := LkSt.app1 H0.out HBX.out l hown1 hgrow hat HZX.out; have HN := Lib.hid N; have HM := Lib.hid M; have n0 := N.c0; have fn := N.f 0; clear N M hown1 hgrow hat))
        all_goals
          go_wp2_with fail
          go_ret2
          rw [RAskPost, HPA.out]
          exact ⟨rfl, _, _, HN.out.setX _, HM.out.set 0 _⟩
      | false =>
        have HPA : Hid (Lk.ask s l = ((false, 0), (s.1, s.2 ++ [l]))) := Lib.hid (by rw [Lk.ask, if_neg (by rw [HB.out]; decide), if_neg (by rw [HQ.out]; decide), if_neg HF.out, ← HZ1.out, ← HZ2.out, if_neg (by rw [hf]; decide)])
        clear hf HZ1 HZ2
        have a0 := E5.out.obj.c0
        have a1 := E5.out.obj.c1
        have p0 := E5.out.p0
        have p1 := E5.out.p1
        have p2 := E5.out.p2
        have p3 := E5.out.p3
        have hsE := E5.out.lt
        have hbE := E5.out.obj.lt
        have fE := E5.out.obj.f 1
        have hbB : B ≤ wE.heap.size := by have := E5.out.obj.hb; omega
        have hown := Lib.hid E5.out.obj.own2
        have q0 : ∀ o, (wE.alloc o).cell? ⟨b, 1, none⟩ = some (.slice p' s.2.length c') := fun o => (((Below.refl wE.heap.size wE).alloc (Nat.le_refl _) o).cell (p := ⟨b, 1, none⟩) hbE).trans a1
        have hbx : Below wE.heap.size wE ((wE.alloc (.cells (lc l).toArray 52)).drew) := ((Below.refl _ _).alloc (Nat.le_refl _) _).drew
        have HBX := Lib.hid (E5.out.bel.trans (hbx.mono E5.out.bel.size))
        have hzx : ((wE.alloc (.cells (lc l).toArray 52)).drew).heap.size ≤ wE.heap.size + 1 := by simp
        have HZX := Lib.hid hzx
        clear hbx hzx
        obtain ⟨i0, hi0, hz0, hz1, hz2⟩ := info_parts info_lock
        go_upto_region 14 with (fail)
        go_region_law
          ((refine step_append_lies _ (by rfl) _ _ _ (by rfl) B 52 i0 _ 4 32 Tryd.underlying39 hi0 hz0 hz1 hz2 rfl (by omega) (.slice p' s.2.length c') s.2.length (lcs s.2) (by rfl) ((hown.out.alloc _).drew) ⟨wE.heap.size, 0, none⟩ 1 1 (lc l) (by rfl) (by rfl) (World.news_of_block (cs := (lc l).toArray) (t := 52) (fr := (0, 0)) (heap_alloc_new wE _)) (lc_one l) (by omega) (by unfold maxLen; omega) (by omega) (by simp; omega) (wE.heap.size + 1) (by simp) ?_; intro gg cap w1 hown1 hgrow hat hlt; obtain ⟨N, M⟩ := LkSt.app2 H0.out HBX.out l hown1 hgrow hat HZX.out; have HN := Lib.hid N; have HM := Lib.hid M; have n0 := N.c1; have fn := N.f 1; clear N M hown1 hgrow hat))
        all_goals
          go_wp2_with fail
          go_ret2
          rw [RAskPost, HPA.out]
          exact ⟨rfl, _, _, HN.out.setY _, HM.out.set 1 _⟩
theorem rask_any {w : World} {B b : Nat} {vh vw : Value} {s : Lk.St} (h : LkAt 45 w B b vh vw s) (hm : s.1.length + s.2.length ≤ 30) (l : Lk.L) :
    Calls Tryd.prog 22 #[.pointer (some ⟨b, 0, none⟩), lv l] w (RAskPost B b vh vw (Lk.ask s l) w) := by
  cases hb : Lk.badL l with
  | true => rw [show Lk.ask s l = ((false, 1), s) by rw [Lk.ask, if_pos hb]]; exact rask_bad h l hb
  | false => exact rask_good h hm l hb
end Go.Proofs.YtoddoekmgkcomaaDoor
