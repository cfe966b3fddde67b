/- The walks of the reference's Preempt and May. -/
import Derived.Test.YtoddoekmgkcomaaDoorRRes
namespace Go.Proofs.YtoddoekmgkcomaaDoor
open Go.ChangeShapes Go.WideShapes Go.ChangeAt Go.RowKit
set_option linter.unusedVariables false
namespace Res
theorem go_key (s : St) (o : Int) : ∀ (i j : Nat), i ≤ j → (go s o i).1.1.getD j 0 = s.1.getD j 0
  | 0, _, _ => rfl
  | i + 1, j, h => by
    have ih := go_key s o i j (by omega)
    unfold go
    simp only
    split
    · show ((go s o i).1.1.set i 0).getD j 0 = _
      rw [List.getD_eq_getElem?_getD, List.getElem?_set_ne (by omega), ← List.getD_eq_getElem?_getD, ih]
    · exact ih
theorem go_one {s : St} {o : Int} (hz : s.1.getD 0 0 = 0) (ho : 1 ≤ o) : go s o 1 = (s, 0) := by
  unfold go; simp only
  rw [hz, if_neg (by rw [beq_f (by omega)]; decide)]; rfl
end Res
def RPrePost (b : Nat) (r : (Int × Int) × Res.St) (w : World) (e : Ending) (w' : World) : Prop :=
  e = .returned (.tuple #[iv r.1.1, iv r.1.2]) ∧ RResAt w' b r.2 ∧ Kept (· = b) w w'
def RGoRel (b : Nat) (s : Res.St) (x : Int) (w : World) (gk : Nat) (n i : Value) (wr : World) : Prop :=
  ∃ k m : Nat, k + gk = 9 ∧ i = iv ((k : Int) + 1) ∧ m = (Res.go s x (k + 1)).2 ∧ n = iv m ∧ RResAt wr b (Res.go s x (k + 1)).1 ∧ Kept (· = b) w wr ∧ wr.heap[w.heap.size]? = some (.cells #[iv s.2.1, iv s.2.2] 83 (0, 0))
set_option maxRecDepth 100000 in
set_option maxHeartbeats 2000000 in
theorem rpreempt_any {w : World} {b : Nat} {s : Res.St} (hR : RResAt w b s) (hI : Res.Inv s) (h k x : Int) :
    Calls Tryd.prog 44 #[.pointer (some ⟨b, 0, none⟩), iv h, iv k, iv x] w (RPrePost b (Res.preempt s h k x) w) := by
  have H := Lib.hid hR
  have HI := Lib.hid hI
  have hlt := hR.lt
  have ch := hR.h
  have ck := hR.k
  clear hR hI
  cases hk : Res.keyB x with
  | false =>
    have Hk := Lib.hid hk
    clear hk
    cases hh : Res.hostB h
    all_goals
      have Hh := Lib.hid hh
      clear hh
      go_enter Tryd.func44, Tryd.ntmps44
      go_wp2_with fail
      refine (rhost_any _ _).mono ?_
      rintro e w' ⟨rfl, rfl⟩
      rw [Hh.out]
      go_wp2_with fail
      refine (rkey_any _ _).mono ?_
      rintro e w' ⟨rfl, rfl⟩
      rw [Hk.out]
      go_wp2_with fail
      go_ret2
      rw [RPrePost, Res.preempt, if_pos (by simp [Hh.out, Hk.out])]
      exact ⟨rfl, H.out, Kept.refl _ _⟩
  | true =>
    have hx1 := (Res.key_in hk).1
    have Hk := Lib.hid hk
    clear hk
    cases hh : Res.hostB h with
    | false =>
      have Hh := Lib.hid hh
      clear hh
      go_enter Tryd.func44, Tryd.ntmps44
      go_wp2_with fail
      refine (rhost_any _ _).mono ?_
      rintro e w' ⟨rfl, rfl⟩
      rw [Hh.out]
      go_wp2_with fail
      refine (rkey_any _ _).mono ?_
      rintro e w' ⟨rfl, rfl⟩
      rw [Hk.out]
      go_wp2_with fail
      go_ret2
      rw [RPrePost, Res.preempt, if_pos (by simp [Hh.out])]
      exact ⟨rfl, H.out, Kept.refl _ _⟩
    | true =>
      have hi := host_in hh
      have Hh := Lib.hid hh
      clear hh
      obtain ⟨q, rfl⟩ : ∃ q : Nat, h = q := ⟨h.toNat, by omega⟩
      have hq : q < 10 := by omega
      have cj := H.out.key hq
      have hden : Res.denied s q k = (k == 0 || s.1.getD q 0 != k) := den_eq (K := s.1) (H := s.2.1) (D := s.2.2)
      obtain ⟨y, hy⟩ : ∃ y, y = s.1.getD q 0 := ⟨_, rfl⟩
      rw [← hy] at cj hden
      have Hden := Lib.hid hden
      clear hden hy
      have three : k = 0 ∨ (k ≠ 0 ∧ y ≠ k) ∨ (k ≠ 0 ∧ y = k) := by omega
      rcases three with c | ⟨c, d⟩ | ⟨c, d⟩
      · have k1 := beq_t c
        have Hd : Hid (Res.denied s q k = true) := Lib.hid (by rw [Hden.out, k1, Bool.true_or])
        clear c
        go_enter Tryd.func44, Tryd.ntmps44
        go_wp2_with fail
        refine (rhost_any _ _).mono ?_
        rintro e w' ⟨rfl, rfl⟩
        rw [Hh.out]
        go_wp2_with fail
        refine (rkey_any _ _).mono ?_
        rintro e w' ⟨rfl, rfl⟩
        rw [Hk.out]
        go_wp2_with fail
        go_ret2
        rw [RPrePost, Res.preempt, if_neg (by simp [Hh.out, Hk.out]), if_pos Hd.out]
        exact ⟨rfl, H.out, Kept.refl _ _⟩
      · have k1 := beq_f c
        have k2 := bne_t d
        have Hd : Hid (Res.denied s q k = true) := Lib.hid (by rw [Hden.out, k1, k2, Bool.false_or])
        clear c d
        go_enter Tryd.func44, Tryd.ntmps44
        go_wp2_with fail
        refine (rhost_any _ _).mono ?_
        rintro e w' ⟨rfl, rfl⟩
        rw [Hh.out]
        go_wp2_with fail
        refine (rkey_any _ _).mono ?_
        rintro e w' ⟨rfl, rfl⟩
        rw [Hk.out]
        go_wp2_with fail
        go_ret2
        rw [RPrePost, Res.preempt, if_neg (by simp [Hh.out, Hk.out]), if_pos Hd.out]
        exact ⟨rfl, H.out, Kept.refl _ _⟩
      · have k1 := beq_f c
        have k2 := bne_f d
        have Hd : Hid (Res.denied s q k = false) := Lib.hid (by rw [Hden.out, k1, k2, Bool.false_or])
        clear c d
        go_enter Tryd.func44, Tryd.ntmps44
        go_wp2_with fail
        refine (rhost_any _ _).mono ?_
        rintro e w' ⟨rfl, rfl⟩
        rw [Hh.out]
        go_wp2_with fail
        refine (rkey_any _ _).mono ?_
        rintro e w' ⟨rfl, rfl⟩
        rw [Hk.out]
        go_wp2_with fail
        go_loopg [12, 14] 9 (fun gk n i wr => RGoRel b s x w gk n i wr)
        case atStart =>
          refine ⟨0, 0, rfl, rfl, ?_, rfl, ?_, (Kept.self b w).alloc _, heap_alloc_new _ _⟩
          · rw [Res.go_one HI.out.z hx1]
          · rw [Res.go_one HI.out.z hx1]; exact H.out.below ((Below.refl _ _).alloc (Nat.le_refl _) _)
        case round =>
          obtain ⟨i, m, hi', rfl, hm, rfl, hR, hK, hblk⟩ := hrel
          have Hi := Lib.hid hi'
          have Hm := Lib.hid hm
          have HR := Lib.hid hR
          have HK := Lib.hid hK
          have Hblk := Lib.hid hblk
          have hm2 := Res.go_le s x (i + 1)
          rw [← hm] at hm2
          have hi10 : i ≤ 9 := by omega
          clear hi' hm hR hK hblk
          by_cases hlt9 : i < 9
          · have ci := HR.out.key (j := i + 1) (by omega)
            rw [Res.go_key s x (i + 1) (i + 1) (Nat.le_refl _)] at ci
            have hy := fun e => go_yes (s := s) (x := x) (k := i + 1) e
            have hz := fun e => go_no (s := s) (x := x) (k := i + 1) e
            generalize s.1.getD (i + 1) 0 = z at *
            have Hy := Lib.hid hy
            have Hz := Lib.hid hz
            have hii : (((i + 1 : Nat)) : Int) = (i : Int) + 1 := by omega
            have Hii := Lib.hid hii
            clear hy hz hii
            by_cases c : z = x
            · have c1 := beq_t c
              have Hc1 := Lib.hid c
              clear c
              go_wp2_with fail
              rw [← Hii.out]
              refine (rout_any HR.out (i + 1) (by omega)).mono ?_
              rintro e w2 ⟨rfl, h1, h2⟩
              have H1 := Lib.hid h1
              have H2 := Lib.hid h2
              rw [Hii.out]
              clear h1 h2
              go_wp2_with fail
              go_roundg (gk - 1)
              case measure => have := Hi.out; omega
              case rel => exact ⟨i + 1, m + 1, by have := Hi.out; omega, by go_num, by rw [Hy.out Hc1.out, Hm.out], by go_num, by rw [Hy.out Hc1.out]; exact H1.out, HK.out.also H2.out, H2.out.heap Hblk.out (by omega)⟩
            · have c1 := beq_f c
              have Hc1 := Lib.hid c
              clear c
              go_wp2_with fail
              go_roundg (gk - 1)
              case measure => have := Hi.out; omega
              case rel => exact ⟨i + 1, m, by have := Hi.out; omega, by go_num, by rw [Hz.out Hc1.out, Hm.out], rfl, by rw [Hz.out Hc1.out]; exact HR.out, HK.out, Hblk.out⟩
          · obtain rfl : i = 9 := by omega
            have g0 : wr.cell? ⟨w.heap.size, 0, none⟩ = some (iv s.2.1) := by rw [cell_of_row _ _ _ _ _ _ Hblk.out]; rfl
            have g1 : wr.cell? ⟨w.heap.size, 1, none⟩ = some (iv s.2.2) := by rw [cell_of_row _ _ _ _ _ _ Hblk.out]; rfl
            have hR := HR.out
            have eh := hR.h
            have ek := hR.k
            have eq := hR.key hq
            have fr := hR.f
            have hlt2 := hR.lt
            have hP : Res.preempt s q k x = if m == 0 then ((0, 5), (Res.go s x 10).1) else (((m : Int), 0), if !((Res.go s x 10).1.2.1 == s.2.1 && (Res.go s x 10).1.2.2 == s.2.2) && (Res.go s x 10).1.1.getD q 0 != 0 then ((Res.go s x 10).1.1, q, s.2.2) else (Res.go s x 10).1) := by
              rw [Res.preempt, if_neg (by simp [Hh.out, Hk.out]), if_neg (by rw [Hd.out]; decide)]
              simp only [Res.key, Int.toNat_natCast]
              rw [← Hm.out]
              rfl
            have hgo := (HI.out.go hx1 10 (Nat.le_refl _)).2
            have Hset := Lib.hid (hR.setH q s.2.2)
            clear hR
            generalize hG : (Res.go s x 10).1 = G at *
            have HP := Lib.hid hP
            have Hgo := Lib.hid hgo
            clear hP hG hgo
            obtain ⟨GK, GH, GD⟩ := G
            obtain ⟨K, H0, D0⟩ := s
            simp only at eh ek eq g0 g1 ch ck
            by_cases m0 : m = 0
            · subst m0
              go_wp2_with fail
              go_ret2
              rw [RPrePost, HP.out, if_pos (by rfl)]
              exact ⟨rfl, HR.out, HK.out⟩
            · have t0 : ((m : Int) == 0) = false := beq_f (by omega)
              have HM := Lib.hid (show (m == 0) = false from beq_eq_false_iff_ne.2 m0)
              clear m0
              generalize hy : GK.getD q 0 = y2 at *
              have Hy := Lib.hid hy
              clear hy
              rcases Hgo.out with e | ⟨e, f⟩
              · -- nothing has turned
                simp only [Prod.mk.injEq] at e
                obtain ⟨rfl, rfl⟩ := e
                have HQ : Hid (Res.preempt (K, GH, GD) q k x = (((m : Int), 0), (GK, GH, GD))) := Lib.hid (by rw [HP.out, HM.out]; simp)
                by_cases c : GH = 0
                · have c1 := beq_t c
                  have c2 := bne_f c
                  clear c
                  go_wp2_with fail
                  go_ret2
                  rw [RPrePost, HQ.out]
                  exact ⟨rfl, HR.out, HK.out⟩
                · have c1 := beq_f c
                  have c2 := bne_t c
                  clear c
                  go_wp2_with fail
                  go_ret2
                  rw [RPrePost, HQ.out]
                  exact ⟨rfl, HR.out, HK.out⟩
              · simp only [Prod.mk.injEq] at e f
                obtain ⟨rfl, rfl⟩ := e
                have f1 := bne_t f
                have f2 : ((0 : Int) == H0) = false := beq_f (fun e => f e.symm)
                clear f
                by_cases c : y2 = 0
                · have c2 := bne_f c
                  have HQ : Hid (Res.preempt (K, H0, D0) q k x = (((m : Int), 0), (GK, 0, 0))) := Lib.hid (by rw [HP.out, HM.out]; simp only [f2, Hy.out, c2]; rfl)
                  clear c
                  go_wp2_with fail
                  go_ret2
                  rw [RPrePost, HQ.out]
                  exact ⟨rfl, HR.out, HK.out⟩
                · have c2 := bne_t c
                  have HQ : Hid (Res.preempt (K, H0, D0) q k x = (((m : Int), 0), (GK, (q : Int), D0))) := Lib.hid (by rw [HP.out, HM.out]; simp only [f2, Hy.out, c2]; rfl)
                  clear c
                  go_wp2_with fail
                  go_ret2
                  rw [RPrePost, HQ.out]
                  exact ⟨rfl, Hset.out, (HK.out.set1 _ _).set1 _ _⟩
set_option maxRecDepth 100000 in
set_option maxHeartbeats 1000000 in
theorem rmay_any {w : World} {b : Nat} {s : Res.St} (hR : RResAt w b s) (h : Int) (wr : Bool) (hh : Res.hostB h = true) :
    Calls Tryd.prog 46 #[.pointer (some ⟨b, 0, none⟩), iv h, .bool wr] w fun e w' => e = .returned (.bool (Res.may s h wr)) ∧ w = w' := by
  have hi := host_in hh
  obtain ⟨j, rfl⟩ : ∃ j : Nat, h = j := ⟨h.toNat, by omega⟩
  have hj : j < 10 := by omega
  have cj := hR.key hj
  have ch := hR.h
  have ck := hR.k
  have hM : Res.may s j wr = (if s.2.2 == 1 then !wr || s.2.1 == (j : Int) else if s.2.2 == 2 then s.2.1 == (j : Int) else if s.2.2 == 3 then !wr || s.1.getD j 0 != 0 else if s.2.2 == 4 then s.1.getD j 0 != 0 else true) := by
    unfold Res.may Res.key; rw [Int.toNat_natCast]
  clear hh hR
  generalize s.1.getD j 0 = x at *
  generalize s.2.1 = hh0 at *
  generalize s.2.2 = kd at *
  have HM := Lib.hid hM
  clear hM
  by_cases c1 : kd = 1
  · have d1 := beq_t c1
    have Hd := Lib.hid d1
    clear c1
    cases wr
    all_goals
      go_enter Tryd.func46, Tryd.ntmps46
      go_wp2
      go_ret
      exact ⟨by rw [HM.out, if_pos Hd.out]; rfl, rfl⟩
  · have d1 := beq_f c1
    by_cases c2 : kd = 2
    · have d2 := beq_t c2
      have Hd := Lib.hid (And.intro d1 d2)
      clear c1 c2
      go_enter Tryd.func46, Tryd.ntmps46
      go_wp2
      go_ret
      exact ⟨by rw [HM.out, if_neg (by rw [Hd.out.1]; decide), if_pos Hd.out.2]; rfl, rfl⟩
    · have d2 := beq_f c2
      by_cases c3 : kd = 3
      · have d3 := beq_t c3
        have Hd := Lib.hid (And.intro d1 (And.intro d2 d3))
        clear c1 c2 c3
        cases wr
        all_goals
          go_enter Tryd.func46, Tryd.ntmps46
          go_wp2
          go_ret
          exact ⟨by rw [HM.out, if_neg (by rw [Hd.out.1]; decide), if_neg (by rw [Hd.out.2.1]; decide), if_pos Hd.out.2.2]; rfl, rfl⟩
      · have d3 := beq_f c3
        by_cases c4 : kd = 4
        · have d4 := beq_t c4
          have Hd := Lib.hid (And.intro d1 (And.intro d2 (And.intro d3 d4)))
          clear c1 c2 c3 c4
          go_enter Tryd.func46, Tryd.ntmps46
          go_wp2
          go_ret
          exact ⟨by rw [HM.out, if_neg (by rw [Hd.out.1]; decide), if_neg (by rw [Hd.out.2.1]; decide), if_neg (by rw [Hd.out.2.2.1]; decide), if_pos Hd.out.2.2.2]; rfl, rfl⟩
        · have d4 := beq_f c4
          have Hd := Lib.hid (And.intro d1 (And.intro d2 (And.intro d3 d4)))
          clear c1 c2 c3 c4
          go_enter Tryd.func46, Tryd.ntmps46
          go_wp2
          go_ret
          exact ⟨by rw [HM.out, if_neg (by rw [Hd.out.1]; decide), if_neg (by rw [Hd.out.2.1]; decide), if_neg (by rw [Hd.out.2.2.1]; decide), if_neg (by rw [Hd.out.2.2.2]; decide)]; rfl, rfl⟩
end Go.Proofs.YtoddoekmgkcomaaDoor
