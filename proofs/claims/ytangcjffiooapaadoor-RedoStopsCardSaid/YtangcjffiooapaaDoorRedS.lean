/- The walk of the law RedoStops: it returns true. -/
import Derived.Test.YtangcjffiooapaaDoorRedD
import Derived.Test.YtangcjffiooapaaDoorRedN
import Derived.Test.YtangcjffiooapaaDoorSame
namespace Go.Proofs.YtangcjffiooapaaDoor
open Go.ChangeShapes Go.WideShapes Go.ChangeAt Go.RowKit
set_option linter.unusedVariables false
theorem one_wr (w : World) (x : Rd.W) : RowWr (w.alloc (.cells #[iv x.pos, .string x.b] 69)) (.slice (some ⟨w.heap.size, 0, none⟩) 1 1) [x] := by
  refine ⟨some ⟨w.heap.size, 0, none⟩, 1, rfl, by simp, fun j l hj => ?_⟩
  have h0 : j = 0 := by have := (List.getElem?_eq_some_iff.1 hj).1; simp at this; omega
  subst h0
  obtain rfl : x = l := by simpa using hj
  exact ⟨_, 0, rfl, by simp, by simp, by simp⟩
theorem ee_row (w : World) : Row (w.alloc (.cells #[.string ⟨#[]⟩, .string ⟨#[]⟩] 9)) (.slice (some ⟨w.heap.size, 0, none⟩) 2 2) (Rd.ee.map Value.string) := by
  refine ⟨some ⟨w.heap.size, 0, none⟩, 2, rfl, Nat.le_refl _, by decide, (fun h => by cases h), fun _ => ⟨w.heap.size, 0, rfl, fun j hj => ?_⟩⟩
  rw [cell_of_row _ _ _ _ _ _ (heap_alloc_new w _), Nat.zero_add]
  have hj2 : j < 2 := hj
  have h2 : j = 0 ∨ j = 1 := by omega
  rcases h2 with rfl | rfl <;> rfl
theorem ee_F : cellsF Rd.ee = 0 := by decide +kernel
theorem St_left {a k : Nat} {s : Rd.R} (h : Rd.St a k s) (ha : a ≤ 20) : -1 ≤ s.left ∧ s.left ≤ 9223372036854775807 := by rw [h.left]; omega
/-- a call that turns the object alone, above the law's own base -/
theorem RedOk.next {B : Nat} {w w1 w2 : World} {b : Nat} {s : Rd.R} (h : RedOk (fun k => B ≤ k) w1 b s) (hb : Below B w w1) (hk : Kept (fun k => B ≤ k) w1 w2) (hB : B ≤ w.heap.size) : Below B w w2 :=
  hb.trans (hk.toBelow (Nat.le_trans hB hb.size) (fun _ _ h => h))
/-- Put of one write that lies in a new block -/
theorem put_one {B : Nat} {w w1 : World} {b : Nat} {s : Rd.R} (h : RedOk (fun k => B ≤ k) w1 b s) (hb : Below B w w1) (hB : B ≤ w.heap.size) (h1 : -1 ≤ s.left ∧ s.left ≤ 9223372036854775807) (hl : s.bytes.length ≤ 1000000) (hc : s.cells.length ≤ 40) (x : Rd.W) :
    Calls Tryd.prog 36 #[.pointer (some ⟨b, 0, none⟩), .slice (some ⟨w1.heap.size, 0, none⟩) 1 1] (w1.alloc (.cells #[iv x.pos, .string x.b] 69)) fun e w' => e = .returned (errV (Rd.put s [x]).1) ∧ RedOk (fun k => B ≤ k) w' b (Rd.put s [x]).2 ∧ Below B w w' := by
  have hz : B ≤ w1.heap.size := Nat.le_trans hB hb.size
  have hn : Below w1.heap.size w1 (w1.alloc (.cells #[iv x.pos, .string x.b] 69)) := (Below.refl _ _).alloc (Nat.le_refl _) _
  have hz2 := hn.size
  refine (put_any (h.below hn) (fun k hk => ?_) h1.1 h1.2 hl hc [x] _ (one_wr w1 x)).mono ?_
  · show B ≤ k; omega
  · rintro e w' ⟨rfl, h2, h3⟩
    exact ⟨rfl, h2, (hb.trans (hn.mono hz)).trans (h3.toBelow (by omega) (fun _ _ h => h))⟩
theorem sync_one {B : Nat} {w w1 : World} {b : Nat} {s : Rd.R} (h : RedOk (fun k => B ≤ k) w1 b s) (hb : Below B w w1) (hB : B ≤ w.heap.size) (h1 : -1 ≤ s.left ∧ s.left ≤ 9223372036854775807) (hl : s.bytes.length ≤ 1000000) :
    Calls Tryd.prog 40 #[.pointer (some ⟨b, 0, none⟩)] w1 fun e w' => e = .returned (errV (Rd.sync s).1) ∧ RedOk (fun k => B ≤ k) w' b (Rd.sync s).2 ∧ Below B w w' :=
  (sync_any h h1.1 h1.2 hl).mono fun e w' ⟨he, h2, h3⟩ => ⟨he, h2, hb.trans (h3.toBelow (Nat.le_trans hB hb.size) (fun _ _ h => h))⟩
def StopRel (a : Nat) (b B : Nat) (w : World) (n gk : Nat) (v i : Value) (wr : World) : Prop :=
  ∃ k : Nat, k + gk = n ∧ v = iv k ∧ i = iv k ∧ ∃ s, Rd.St a k s ∧ RedOk (fun k => B ≤ k) wr b s ∧ Below B w wr
def StopRel2 (a : Nat) (b B : Nat) (w : World) (n gk : Nat) (v : Value) (wr : World) : Prop :=
  ∃ k : Nat, n ≤ k + gk ∧ k ≤ n ∧ v = iv k ∧ ∃ s, Rd.St a k s ∧ RedOk (fun k => B ≤ k) wr b s ∧ Below B w wr
set_option maxRecDepth 100000 in
set_option maxHeartbeats 4000000 in
theorem redoStops_core (a m : Nat) (ha : a ≤ 20) (hm : m ≤ 20) (keep : Int) (wk0 : -9223372036854775808 ≤ keep) (wk1 : keep ≤ 9223372036854775807) (w : World) (hg : Handle w) :
    Calls Tryd.prog 6 #[iv a, iv m, iv keep] w fun e w' => e = .returned (.bool true) ∧ Below w.heap.size w w' := by
  have Hg := Lib.hid hg
  have HN := Lib.hid (redNew_any Rd.ee ee_F _ _ (ee_row w))
  have hb0 : Below w.heap.size w (w.alloc (.cells #[.string ⟨#[]⟩, .string ⟨#[]⟩] 9)) := (Below.refl _ _).alloc (Nat.le_refl _) _
  have HB0 := Lib.hid hb0
  have hzz := hb0.size
  have t1 : decide ((a : Int) < 0) = false := dec_f (by omega)
  have t2 : decide ((20 : Int) < (a : Int)) = false := dec_f (by omega)
  have t3 : decide ((m : Int) < 0) = false := dec_f (by omega)
  have t4 : decide ((20 : Int) < (m : Int)) = false := dec_f (by omega)
  clear hg hb0
  go_enter Tryd.func6, Tryd.ntmps6
  go_wp2_with fail
  refine HN.out.mono ?_
  rintro e w1 ⟨b, rfl, hR, hb1⟩
  have HR := Lib.hid (hR.wide (F' := fun k => w.heap.size ≤ k) (fun k _ hk => Nat.le_trans hzz hk))
  have HB1 := Lib.hid (HB0.out.trans (hb1.mono hzz))
  clear hR hb1 HN HB0
  go_wp2_with fail
  have HF := Lib.hid (fail_any HR.out (a : Int))
  unfold FailPost at HF
  refine HF.out.mono ?_
  rintro e w2 ⟨rfl, hR2, hk2⟩
  have HR2 := Lib.hid hR2
  have HB2 := Lib.hid (HR.out.next HB1.out hk2 (Nat.le_refl _))
  have HS0 := Lib.hid (Rd.st_new a)
  clear hR2 hk2 HF HR HB1
  go_wp2_with fail
  go_loopg [9, 10] m (fun gk v i wr => StopRel a b w.heap.size w m gk v i wr)
  case atStart => exact ⟨0, by omega, rfl, rfl, _, HS0.out, HR2.out, HB2.out⟩
  case round =>
    obtain ⟨k, hk, rfl, rfl, s, hs, hR, hB⟩ := hrel
    have Hk := Lib.hid hk
    have Hs := Lib.hid hs
    have HR := Lib.hid hR
    have HB := Lib.hid hB
    clear hk hs hR hB
    by_cases hlt : k < m
    · rcases Nat.lt_trichotomy k a with h | h | h
      · have u1 : decide ((a : Int) < (k : Int)) = false := dec_f (by omega)
        have u2 : decide ((k : Int) ≤ (a : Int)) = true := dec_t (by omega)
        have u3 : ((k : Int) == (a : Int)) = false := beq_f (by omega)
        have u4 : decide ((k : Int) < (a : Int)) = true := dec_t (by omega)
        have HP1 := Lib.hid (put_one HR.out HB.out (Nat.le_refl _) (St_left Hs.out ha) (by have := Hs.out.len; omega) (by rw [Hs.out.cells]; decide) Rd.bad2)
        have e1 := Hs.out.put_bad
        obtain ⟨s1, e2, hs1⟩ := Hs.out.put_a
        rw [if_neg (show ¬ a < k by omega)] at e1
        rw [if_pos h] at e2
        rw [e1] at HP1
        have E2 := Lib.hid e2
        have Hs1 := Lib.hid hs1
        clear e1 e2 hs1
        go_wp2_with fail
        refine HP1.out.mono ?_
        rintro e w2 ⟨rfl, hR2, hB2⟩
        have HR2 := Lib.hid hR2
        have HB2 := Lib.hid hB2
        have HP2 := Lib.hid (put_one hR2 hB2 (Nat.le_refl _) (St_left Hs.out ha) (by have := Hs.out.len; omega) (by rw [Hs.out.cells]; decide) Rd.a0)
        rw [E2.out] at HP2
        clear hR2 hB2 HP1
        go_wp2_with fail
        refine HP2.out.mono ?_
        rintro e w3 ⟨he, hR3, hB3⟩
        have HR3 := Lib.hid hR3
        have HB3 := Lib.hid hB3
        obtain rfl : e = .returned (.nilIface) := he
        clear hR3 hB3 HP2
        go_wp2_with fail
        have HE1 := Lib.hid (same_any 1 6 w3 (Hg.out.below (Nat.le_refl _) HB3.out))
        refine HE1.out.mono ?_
        rintro e w4 ⟨rfl, hb4⟩
        have HB4 := Lib.hid (HB3.out.trans (hb4.mono HB3.out.size))
        have HR4 := Lib.hid (HR3.out.below hb4)
        clear hb4 HE1
        go_wp2_with fail
        have HE1 := Lib.hid (same_any 1 1 w4 (Hg.out.below (Nat.le_refl _) HB4.out))
        refine HE1.out.mono ?_
        rintro e w5 ⟨rfl, hb5⟩
        have HB5 := Lib.hid (HB4.out.trans (hb5.mono HB4.out.size))
        have HR5 := Lib.hid (HR4.out.below hb5)
        clear hb5 HE1
        go_wp2_with fail
        have HE1 := Lib.hid (same_any 0 6 w5 (Hg.out.below (Nat.le_refl _) HB5.out))
        refine HE1.out.mono ?_
        rintro e w6 ⟨rfl, hb6⟩
        have HB6 := Lib.hid (HB5.out.trans (hb6.mono HB5.out.size))
        have HR6 := Lib.hid (HR5.out.below hb6)
        clear hb6 HE1
        go_wp2_with fail
        go_roundg (gk - 1)
        case measure => have := Hk.out; omega
        case rel => exact ⟨k + 1, by have := Hk.out; omega, by go_num, by go_num, s1, Hs1.out, HR6.out, HB6.out⟩
      · have u1 : decide ((a : Int) < (k : Int)) = false := dec_f (by omega)
        have u2 : decide ((k : Int) ≤ (a : Int)) = true := dec_t (by omega)
        have u3 : ((k : Int) == (a : Int)) = true := beq_t (by omega)
        have u4 : decide ((k : Int) < (a : Int)) = false := dec_f (by omega)
        have HP1 := Lib.hid (put_one HR.out HB.out (Nat.le_refl _) (St_left Hs.out ha) (by have := Hs.out.len; omega) (by rw [Hs.out.cells]; decide) Rd.bad2)
        have e1 := Hs.out.put_bad
        obtain ⟨s1, e2, hs1⟩ := Hs.out.put_a
        rw [if_neg (show ¬ a < k by omega)] at e1
        rw [if_neg (show ¬ k < a by omega)] at e2
        rw [e1] at HP1
        have E2 := Lib.hid e2
        have Hs1 := Lib.hid hs1
        clear e1 e2 hs1
        go_wp2_with fail
        refine HP1.out.mono ?_
        rintro e w2 ⟨rfl, hR2, hB2⟩
        have HR2 := Lib.hid hR2
        have HB2 := Lib.hid hB2
        have HP2 := Lib.hid (put_one hR2 hB2 (Nat.le_refl _) (St_left Hs.out ha) (by have := Hs.out.len; omega) (by rw [Hs.out.cells]; decide) Rd.a0)
        rw [E2.out] at HP2
        clear hR2 hB2 HP1
        go_wp2_with fail
        refine HP2.out.mono ?_
        rintro e w3 ⟨he, hR3, hB3⟩
        have HR3 := Lib.hid hR3
        have HB3 := Lib.hid hB3
        obtain rfl : e = .returned (ev 6) := he
        clear hR3 hB3 HP2
        go_wp2_with fail
        have HE1 := Lib.hid (same_any 1 6 w3 (Hg.out.below (Nat.le_refl _) HB3.out))
        refine HE1.out.mono ?_
        rintro e w4 ⟨rfl, hb4⟩
        have HB4 := Lib.hid (HB3.out.trans (hb4.mono HB3.out.size))
        have HR4 := Lib.hid (HR3.out.below hb4)
        clear hb4 HE1
        go_wp2_with fail
        have HE1 := Lib.hid (same_any 1 1 w4 (Hg.out.below (Nat.le_refl _) HB4.out))
        refine HE1.out.mono ?_
        rintro e w5 ⟨rfl, hb5⟩
        have HB5 := Lib.hid (HB4.out.trans (hb5.mono HB4.out.size))
        have HR5 := Lib.hid (HR4.out.below hb5)
        clear hb5 HE1
        go_wp2_with fail
        have HE1 := Lib.hid (same_any 6 6 w5 (Hg.out.below (Nat.le_refl _) HB5.out))
        refine HE1.out.mono ?_
        rintro e w6 ⟨rfl, hb6⟩
        have HB6 := Lib.hid (HB5.out.trans (hb6.mono HB5.out.size))
        have HR6 := Lib.hid (HR5.out.below hb6)
        clear hb6 HE1
        go_wp2_with fail
        go_roundg (gk - 1)
        case measure => have := Hk.out; omega
        case rel => exact ⟨k + 1, by have := Hk.out; omega, by go_num, by go_num, s1, Hs1.out, HR6.out, HB6.out⟩
      · have u1 : decide ((a : Int) < (k : Int)) = true := dec_t (by omega)
        have u2 : decide ((k : Int) ≤ (a : Int)) = false := dec_f (by omega)
        have u3 : ((k : Int) == (a : Int)) = false := beq_f (by omega)
        have u4 : decide ((k : Int) < (a : Int)) = false := dec_f (by omega)
        have HP1 := Lib.hid (put_one HR.out HB.out (Nat.le_refl _) (St_left Hs.out ha) (by have := Hs.out.len; omega) (by rw [Hs.out.cells]; decide) Rd.bad2)
        have e1 := Hs.out.put_bad
        obtain ⟨s1, e2, hs1⟩ := Hs.out.put_a
        rw [if_pos h] at e1
        rw [if_neg (show ¬ k < a by omega)] at e2
        rw [e1] at HP1
        have E2 := Lib.hid e2
        have Hs1 := Lib.hid hs1
        clear e1 e2 hs1
        go_wp2_with fail
        refine HP1.out.mono ?_
        rintro e w2 ⟨rfl, hR2, hB2⟩
        have HR2 := Lib.hid hR2
        have HB2 := Lib.hid hB2
        have HP2 := Lib.hid (put_one hR2 hB2 (Nat.le_refl _) (St_left Hs.out ha) (by have := Hs.out.len; omega) (by rw [Hs.out.cells]; decide) Rd.a0)
        rw [E2.out] at HP2
        clear hR2 hB2 HP1
        go_wp2_with fail
        refine HP2.out.mono ?_
        rintro e w3 ⟨he, hR3, hB3⟩
        have HR3 := Lib.hid hR3
        have HB3 := Lib.hid hB3
        obtain rfl : e = .returned (ev 6) := he
        clear hR3 hB3 HP2
        go_wp2_with fail
        have HE1 := Lib.hid (same_any 6 6 w3 (Hg.out.below (Nat.le_refl _) HB3.out))
        refine HE1.out.mono ?_
        rintro e w4 ⟨rfl, hb4⟩
        have HB4 := Lib.hid (HB3.out.trans (hb4.mono HB3.out.size))
        have HR4 := Lib.hid (HR3.out.below hb4)
        clear hb4 HE1
        go_wp2_with fail
        have HE1 := Lib.hid (same_any 6 1 w4 (Hg.out.below (Nat.le_refl _) HB4.out))
        refine HE1.out.mono ?_
        rintro e w5 ⟨rfl, hb5⟩
        have HB5 := Lib.hid (HB4.out.trans (hb5.mono HB4.out.size))
        have HR5 := Lib.hid (HR4.out.below hb5)
        clear hb5 HE1
        go_wp2_with fail
        have HE1 := Lib.hid (same_any 6 6 w5 (Hg.out.below (Nat.le_refl _) HB5.out))
        refine HE1.out.mono ?_
        rintro e w6 ⟨rfl, hb6⟩
        have HB6 := Lib.hid (HB5.out.trans (hb6.mono HB5.out.size))
        have HR6 := Lib.hid (HR5.out.below hb6)
        clear hb6 HE1
        go_wp2_with fail
        go_roundg (gk - 1)
        case measure => have := Hk.out; omega
        case rel => exact ⟨k + 1, by have := Hk.out; omega, by go_num, by go_num, s1, Hs1.out, HR6.out, HB6.out⟩
    · have hkm : k = m := by have := Hk.out; omega
      subst hkm
      have hst := Hs.out
      clear Hk hlt
      obtain ⟨n2, hn2⟩ : ∃ n2, n2 = max k (a + 1) := ⟨_, rfl⟩
      have hn21 : n2 ≤ 21 := by omega
      have hka : k ≤ n2 := by omega
      have han : a < n2 := by omega
      have hn2e : ∀ q, q ≤ a → q < n2 := fun q hq => by omega
      have Hne := Lib.hid hn2e
      clear hn2 hst hn2e
      go_wp2_with fail
      go_loopg [9] n2 (fun gk v wr => StopRel2 a b w.heap.size w n2 gk v wr)
      case atStart => exact ⟨k, by omega, hka, rfl, s, Hs.out, HR.out, HB.out⟩
      case round =>
        clear Hs HR HB
        obtain ⟨q, hq, hqn, rfl, s, hs, hR, hB⟩ := hrel
        have Hk := Lib.hid hq
        have Hs := Lib.hid hs
        have HR := Lib.hid hR
        have HB := Lib.hid hB
        clear hq hs hR hB
        by_cases hqa : q ≤ a
        · have hqn2 := Hne.out q hqa
          have HP1 := Lib.hid (sync_one HR.out HB.out (Nat.le_refl _) (St_left Hs.out ha) (by have := Hs.out.len; omega))
          obtain ⟨s1, e2, hs1⟩ := Hs.out.sync
          have Hs1 := Lib.hid hs1
          have E2 := Lib.hid e2
          clear e2 hs1
          by_cases h : q < a
          · have u3 : ((q : Int) == (a : Int)) = false := beq_f (by omega)
            rw [E2.out, if_pos h] at HP1
            go_wp2_with fail
            refine HP1.out.mono ?_
            rintro e w2 ⟨he, hR2, hB2⟩
            obtain rfl : e = .returned .nilIface := he
            have HR2 := Lib.hid hR2
            have HB2 := Lib.hid hB2
            clear hR2 hB2 HP1 h
            go_wp2_with fail
            go_roundg (gk - 1)
            case measure => have := Hk.out; omega
            case rel => exact ⟨q + 1, by have := Hk.out; omega, by omega, by go_num, s1, Hs1.out, HR2.out, HB2.out⟩
          · have u3 : ((q : Int) == (a : Int)) = true := beq_t (by omega)
            rw [E2.out, if_neg h] at HP1
            go_wp2_with fail
            refine HP1.out.mono ?_
            rintro e w2 ⟨he, hR2, hB2⟩
            obtain rfl : e = .returned (ev 6) := he
            have HR2 := Lib.hid hR2
            have HB2 := Lib.hid hB2
            clear hR2 hB2 HP1 h
            go_wp2_with fail
            go_roundg (gk - 1)
            case measure => have := Hk.out; omega
            case rel => exact ⟨q + 1, by have := Hk.out; omega, by omega, by go_num, s1, Hs1.out, HR2.out, HB2.out⟩
        · have haq : a < q := by omega
          have hov := Hs.out.over haq
          have hq21 : q ≤ 21 := by omega
          have HP1 := Lib.hid (sync_one HR.out HB.out (Nat.le_refl _) (St_left Hs.out ha) (by have := Hs.out.len; omega))
          rw [(hov [Rd.b0]).1] at HP1
          have Hov := Lib.hid hov
          clear hov
          go_wp2_with fail
          refine HP1.out.mono ?_
          rintro e w2 ⟨he, hR2, hB2⟩
          obtain rfl : e = .returned (ev 6) := he
          have HR2 : Hid (RedOk (fun k => w.heap.size ≤ k) w2 b s) := Lib.hid hR2
          have HB2 := Lib.hid hB2
          clear hR2 hB2 HP1 HR HB
          have HP2 := Lib.hid (put_one HR2.out HB2.out (Nat.le_refl _) (St_left Hs.out ha) (by have := Hs.out.len; omega) (by rw [Hs.out.cells]; decide) Rd.b0)
          rw [(Hov.out [Rd.b0]).2] at HP2
          go_wp2_with fail
          refine HP2.out.mono ?_
          rintro e w3 ⟨he, hR3, hB3⟩
          obtain rfl : e = .returned (ev 6) := he
          have HR3 : Hid (RedOk (fun k => w.heap.size ≤ k) w3 b s) := Lib.hid hR3
          have HB3 := Lib.hid hB3
          clear hR3 hB3 HP2 HR2 HB2
          have HE1 := Lib.hid (same_eq 6 w3 (Hg.out.below (Nat.le_refl _) HB3.out))
          go_wp2_with fail
          refine HE1.out.mono ?_
          rintro e w4 ⟨rfl, hb4⟩
          have HB4 := Lib.hid (HB3.out.trans (hb4.mono HB3.out.size))
          have HR4 := Lib.hid (HR3.out.below hb4)
          clear hb4 HE1
          have HE1 := Lib.hid (same_eq 6 w4 (Hg.out.below (Nat.le_refl _) HB4.out))
          go_wp2_with fail
          refine HE1.out.mono ?_
          rintro e w5 ⟨rfl, hb5⟩
          have HB5 := Lib.hid (HB4.out.trans (hb5.mono HB4.out.size))
          have HR5 := Lib.hid (HR4.out.below hb5)
          clear hb5 HE1
          obtain ⟨rs, tail, k1, k2, k3, k4, s', k5, k6, k7, k8, k9, k10, k11⟩ := Hs.out.crash keep
          have hz5 := HB5.out.size
          have HC := Lib.hid (crash_any HR5.out (fun k hk => Nat.le_trans hz5 hk) (by have := Hs.out.len; omega) Hs.out.safe (by rw [Hs.out.first]; decide) keep wk0 wk1 rs tail k1 k2 k3)
          unfold CrashPost at HC
          go_wp2_with fail
          refine HC.out.mono ?_
          rintro e w6 ⟨rfl, hR6, hk6⟩
          have HB6 := Lib.hid (HB5.out.trans (hk6.toBelow hz5 (fun _ _ h => h)))
          have HR6 := Lib.hid hR6
          have HP3 := Lib.hid (put_one hR6 HB6.out (Nat.le_refl _) ⟨by show (-1 : Int) ≤ -1; decide, by show (-1 : Int) ≤ 9223372036854775807; decide⟩ (by show (Rd.log rs).length ≤ 1000000; omega) (by show (Rd.all s.first rs).length ≤ 40; rw [Rd.all_len, Hs.out.first]; decide) Rd.c1)
          rw [k5] at HP3
          have K6 := Lib.hid k6
          have K10 := Lib.hid k10
          have K11 := Lib.hid k11
          clear hR6 hk6 HC k1 k2 k3 k5 k6 k10 k11
          go_wp2_with fail
          refine HP3.out.mono ?_
          rintro e w7 ⟨he, hR7, hB7⟩
          obtain rfl : e = .returned .nilIface := he
          have HR7 : Hid (RedOk (fun k => w.heap.size ≤ k) w7 b s') := Lib.hid hR7
          have HB7 := Lib.hid hB7
          have HP4 := Lib.hid (sync_one HR7.out hB7 (Nat.le_refl _) ⟨k7, by omega⟩ (by omega))
          rw [K6.out] at HP4
          clear hR7 hB7 HP3
          go_wp2_with fail
          refine HP4.out.mono ?_
          rintro e w8 ⟨he, hR8, hB8⟩
          obtain rfl : e = .returned .nilIface := he
          have HA := Lib.hid (all_any hR8 (by rw [K10.out]; decide))
          have HB8 := Lib.hid hB8
          clear hR8 hB8 HP4
          go_wp2_with fail
          refine HA.out.mono ?_
          rintro e w9 ⟨v, rfl, hown, hb9⟩
          rw [K10.out] at hown
          obtain ⟨g, cap, hv, hgb, hgl, _, _, hce, _⟩ := owns_pos hown (by decide)
          have c1 : w9.cell? ⟨g, 1, none⟩ = some (.string ⟨#[99]⟩) := by rw [hce 1 (by decide), List.getElem?_map, K11.out]; rfl
          subst hv
          have HB9 := Lib.hid (HB8.out.trans (hb9.mono HB8.out.size))
          clear hown hb9 hce HA
          go_wp2_with fail
          go_ret
          exact ⟨rfl, HB9.out⟩
set_option maxRecDepth 100000 in
set_option maxHeartbeats 1000000 in
theorem redoStops_walk (a m keep : Int) (ha : (Lit.int .i64 a).wf = true) (hm : (Lit.int .i64 m).wf = true) (hk : (Lit.int .i64 keep).wf = true) (w : World) (hg : Handle w) :
    Calls Tryd.prog 6 #[iv a, iv m, iv keep] w fun e w' => e = .returned (.bool true) ∧ Below w.heap.size w w' := by
  have hkb := bounds_i64 hk
  by_cases h : (0 ≤ a ∧ a ≤ 20) ∧ (0 ≤ m ∧ m ≤ 20)
  · obtain ⟨a', rfl⟩ : ∃ q : Nat, a = q := ⟨a.toNat, by omega⟩
    obtain ⟨m', rfl⟩ : ∃ q : Nat, m = q := ⟨m.toNat, by omega⟩
    exact redoStops_core a' m' (by omega) (by omega) keep (by omega) (by omega) w hg
  · have hcond : (decide (a < 0) = true) ∨ (decide (a < 0) = false ∧ decide (20 < a) = true) ∨ (decide (a < 0) = false ∧ decide (20 < a) = false ∧ decide (m < 0) = true) ∨ (decide (a < 0) = false ∧ decide (20 < a) = false ∧ decide (m < 0) = false ∧ decide (20 < m) = true) := by
      by_cases h0 : a < 0
      · exact .inl (dec_t h0)
      · by_cases h1 : 20 < a
        · exact .inr (.inl ⟨dec_f h0, dec_t h1⟩)
        · by_cases h2 : m < 0
          · exact .inr (.inr (.inl ⟨dec_f h0, dec_f h1, dec_t h2⟩))
          · exact .inr (.inr (.inr ⟨dec_f h0, dec_f h1, dec_f h2, dec_t (by omega)⟩))
    have HN := Lib.hid (redNew_any Rd.ee ee_F _ _ (ee_row w))
    have hb0 : Below w.heap.size w (w.alloc (.cells #[.string ⟨#[]⟩, .string ⟨#[]⟩] 9)) := (Below.refl _ _).alloc (Nat.le_refl _) _
    have HB0 := Lib.hid hb0
    have hzz := hb0.size
    clear hg hb0 h ha hm hk hkb
    rcases hcond with q1 | ⟨q1, q2⟩ | ⟨q1, q2, q3⟩ | ⟨q1, q2, q3, q4⟩
    all_goals
      go_enter Tryd.func6, Tryd.ntmps6
      go_wp2_with fail
      refine HN.out.mono ?_
      rintro e w1 ⟨b, rfl, hR, hb1⟩
      have HB1 := Lib.hid (HB0.out.trans (hb1.mono hzz))
      clear hR hb1 HN HB0
      go_wp2_with fail
      go_ret
      exact ⟨rfl, HB1.out⟩
end Go.Proofs.YtangcjffiooapaaDoor
