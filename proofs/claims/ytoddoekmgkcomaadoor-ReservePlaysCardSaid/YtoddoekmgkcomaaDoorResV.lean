/- The walks of package reserve: Hold, Free, May, Holder, Keys. -/
import Derived.Test.YtoddoekmgkcomaaDoorResW
namespace Go.Proofs.YtoddoekmgkcomaaDoor
open Go.ChangeShapes Go.WideShapes Go.ChangeAt Go.RowKit
set_option linter.unusedVariables false
set_option maxRecDepth 100000 in
set_option maxHeartbeats 1000000 in
theorem hold_any {w : World} {b : Nat} {s : Res.St} (hR : ResAt w b s) (h k x : Int) :
    Calls Tryd.prog 40 #[.pointer (some ⟨b, 0, none⟩), iv h, iv k, iv x] w (ResPost b (Res.hold s h k x) w) := by
  have ch := hR.h
  have ck := hR.k
  have f10 := hR.f 10
  have f11 := hR.f 11
  have H := Lib.hid hR
  have H1 := Lib.hid (hR.setH h x)
  clear hR
  obtain ⟨K, hh0, kd0⟩ := s
  simp only at ch ck
  cases hh : Res.hostB h with
  | false =>
    have Hh := Lib.hid hh
    clear hh
    go_enter Tryd.func40, Tryd.ntmps40
    go_wp2_with fail
    refine (host_any h _).mono ?_
    rintro e w' ⟨rfl, rfl⟩
    rw [Hh.out]
    go_wp2_with fail
    go_ret
    rw [ResPost, Res.hold, if_pos (by simp [Hh.out])]
    exact ⟨rfl, H.out, Kept.refl _ _⟩
  | true =>
    cases hk : Res.kindB x with
    | false =>
      have Hh := Lib.hid hh
      have Hk := Lib.hid hk
      clear hh hk
      go_enter Tryd.func40, Tryd.ntmps40
      go_wp2_with fail
      refine (host_any h _).mono ?_
      rintro e w' ⟨rfl, rfl⟩
      rw [Hh.out]
      go_wp2_with fail
      refine (kind_any x _).mono ?_
      rintro e w' ⟨rfl, rfl⟩
      rw [Hk.out]
      go_wp2_with fail
      go_ret
      rw [ResPost, Res.hold, if_pos (by simp [Hh.out, Hk.out])]
      exact ⟨rfl, H.out, Kept.refl _ _⟩
    | true =>
      have Hh := Lib.hid hh
      have Hk := Lib.hid hk
      clear hh hk
      cases hd : Res.denied (K, hh0, kd0) h k with
      | true =>
        have Hd := Lib.hid hd
        clear hd
        go_enter Tryd.func40, Tryd.ntmps40
        go_wp2_with fail
        refine (host_any h _).mono ?_
        rintro e w' ⟨rfl, rfl⟩
        rw [Hh.out]
        go_wp2_with fail
        refine (kind_any x _).mono ?_
        rintro e w' ⟨rfl, rfl⟩
        rw [Hk.out]
        go_wp2_with fail
        refine (denied_any H.out h k Hh.out).mono ?_
        rintro e w' ⟨rfl, rfl⟩
        rw [Hd.out]
        go_wp2_with fail
        go_ret
        rw [ResPost, Res.hold, if_neg (by simp [Hh.out, Hk.out]), if_pos Hd.out]
        exact ⟨rfl, H.out, Kept.refl _ _⟩
      | false =>
        have Hd := Lib.hid hd
        clear hd
        have hX : ∀ q : Bool, (hh0 != 0 && !(hh0 == h && kd0 == x)) = q → Res.hold (K, hh0, kd0) h k x = if q then (6, K, hh0, kd0) else (0, K, h, x) := by
          intro q hq
          rw [Res.hold, if_neg (by simp [Hh.out, Hk.out]), if_neg (by rw [Hd.out]; decide), ← hq]
        have HX := Lib.hid hX
        clear hX
        have four : hh0 = 0 ∨ (hh0 ≠ 0 ∧ hh0 ≠ h) ∨ (hh0 ≠ 0 ∧ hh0 = h ∧ kd0 ≠ x) ∨ (hh0 ≠ 0 ∧ hh0 = h ∧ kd0 = x) := by omega
        rcases four with c | ⟨c, d⟩ | ⟨c, d, g⟩ | ⟨c, d, g⟩
        · have c1 := beq_t c
          have c2 := bne_f c
          have Hq := Lib.hid (HX.out false (by rw [c2]; rfl))
          clear c
          go_enter Tryd.func40, Tryd.ntmps40
          go_wp2_with fail
          refine (host_any h _).mono ?_
          rintro e w' ⟨rfl, rfl⟩
          rw [Hh.out]
          go_wp2_with fail
          refine (kind_any x _).mono ?_
          rintro e w' ⟨rfl, rfl⟩
          rw [Hk.out]
          go_wp2_with fail
          refine (denied_any H.out h k Hh.out).mono ?_
          rintro e w' ⟨rfl, rfl⟩
          rw [Hd.out]
          go_wp2_with fail
          go_ret
          rw [ResPost, Hq.out]
          exact ⟨rfl, H1.out, ((Kept.self b w).set1 _ _).set1 _ _⟩
        · have c1 := beq_f c
          have c2 := bne_t c
          have d1 := beq_f d
          have Hq := Lib.hid (HX.out true (by rw [c2, d1]; rfl))
          clear c d
          go_enter Tryd.func40, Tryd.ntmps40
          go_wp2_with fail
          refine (host_any h _).mono ?_
          rintro e w' ⟨rfl, rfl⟩
          rw [Hh.out]
          go_wp2_with fail
          refine (kind_any x _).mono ?_
          rintro e w' ⟨rfl, rfl⟩
          rw [Hk.out]
          go_wp2_with fail
          refine (denied_any H.out h k Hh.out).mono ?_
          rintro e w' ⟨rfl, rfl⟩
          rw [Hd.out]
          go_wp2_with fail
          go_ret
          rw [ResPost, Hq.out]
          exact ⟨rfl, H.out, Kept.refl _ _⟩
        · have c1 := beq_f c
          have c2 := bne_t c
          have d1 := beq_t d
          have g1 := beq_f g
          have Hq := Lib.hid (HX.out true (by rw [c2, d1, g1]; rfl))
          clear c d g
          go_enter Tryd.func40, Tryd.ntmps40
          go_wp2_with fail
          refine (host_any h _).mono ?_
          rintro e w' ⟨rfl, rfl⟩
          rw [Hh.out]
          go_wp2_with fail
          refine (kind_any x _).mono ?_
          rintro e w' ⟨rfl, rfl⟩
          rw [Hk.out]
          go_wp2_with fail
          refine (denied_any H.out h k Hh.out).mono ?_
          rintro e w' ⟨rfl, rfl⟩
          rw [Hd.out]
          go_wp2_with fail
          go_ret
          rw [ResPost, Hq.out]
          exact ⟨rfl, H.out, Kept.refl _ _⟩
        · have c1 := beq_f c
          have c2 := bne_t c
          have d1 := beq_t d
          have g1 := beq_t g
          have Hq := Lib.hid (HX.out false (by rw [c2, d1, g1]; rfl))
          clear c d g
          go_enter Tryd.func40, Tryd.ntmps40
          go_wp2_with fail
          refine (host_any h _).mono ?_
          rintro e w' ⟨rfl, rfl⟩
          rw [Hh.out]
          go_wp2_with fail
          refine (kind_any x _).mono ?_
          rintro e w' ⟨rfl, rfl⟩
          rw [Hk.out]
          go_wp2_with fail
          refine (denied_any H.out h k Hh.out).mono ?_
          rintro e w' ⟨rfl, rfl⟩
          rw [Hd.out]
          go_wp2_with fail
          go_ret
          rw [ResPost, Hq.out]
          exact ⟨rfl, H1.out, ((Kept.self b w).set1 _ _).set1 _ _⟩
set_option maxRecDepth 100000 in
set_option maxHeartbeats 1000000 in
theorem rfree_any {w : World} {b : Nat} {s : Res.St} (hR : ResAt w b s) (h k x : Int) :
    Calls Tryd.prog 42 #[.pointer (some ⟨b, 0, none⟩), iv h, iv k, iv x] w (ResPost b (Res.free s h k x) w) := by
  have ch := hR.h
  have ck := hR.k
  have f10 := hR.f 10
  have f11 := hR.f 11
  have H := Lib.hid hR
  have H1 := Lib.hid (hR.setH 0 0)
  clear hR
  obtain ⟨K, hh0, kd0⟩ := s
  simp only at ch ck
  cases hh : Res.hostB h with
  | false =>
    have Hh := Lib.hid hh
    clear hh
    go_enter Tryd.func42, Tryd.ntmps42
    go_wp2_with fail
    refine (host_any h _).mono ?_
    rintro e w' ⟨rfl, rfl⟩
    rw [Hh.out]
    go_wp2_with fail
    go_ret
    rw [ResPost, Res.free, if_pos (by simp [Hh.out])]
    exact ⟨rfl, H.out, Kept.refl _ _⟩
  | true =>
    cases hk : Res.kindB x with
    | false =>
      have Hh := Lib.hid hh
      have Hk := Lib.hid hk
      clear hh hk
      go_enter Tryd.func42, Tryd.ntmps42
      go_wp2_with fail
      refine (host_any h _).mono ?_
      rintro e w' ⟨rfl, rfl⟩
      rw [Hh.out]
      go_wp2_with fail
      refine (kind_any x _).mono ?_
      rintro e w' ⟨rfl, rfl⟩
      rw [Hk.out]
      go_wp2_with fail
      go_ret
      rw [ResPost, Res.free, if_pos (by simp [Hh.out, Hk.out])]
      exact ⟨rfl, H.out, Kept.refl _ _⟩
    | true =>
      have Hh := Lib.hid hh
      have Hk := Lib.hid hk
      clear hh hk
      cases hd : Res.denied (K, hh0, kd0) h k with
      | true =>
        have Hd := Lib.hid hd
        clear hd
        go_enter Tryd.func42, Tryd.ntmps42
        go_wp2_with fail
        refine (host_any h _).mono ?_
        rintro e w' ⟨rfl, rfl⟩
        rw [Hh.out]
        go_wp2_with fail
        refine (kind_any x _).mono ?_
        rintro e w' ⟨rfl, rfl⟩
        rw [Hk.out]
        go_wp2_with fail
        refine (denied_any H.out h k Hh.out).mono ?_
        rintro e w' ⟨rfl, rfl⟩
        rw [Hd.out]
        go_wp2_with fail
        go_ret
        rw [ResPost, Res.free, if_neg (by simp [Hh.out, Hk.out]), if_pos Hd.out]
        exact ⟨rfl, H.out, Kept.refl _ _⟩
      | false =>
        have Hd := Lib.hid hd
        clear hd
        by_cases c : hh0 = h
        · by_cases d : kd0 = x
          · have c2 := bne_f c
            have d2 := bne_f d
            have HQ := Lib.hid (show Res.free (K, hh0, kd0) h k x = (0, K, 0, 0) by
              rw [Res.free, if_neg (by simp [Hh.out, Hk.out]), if_neg (by rw [Hd.out]; decide), if_neg (by simp only [c2]; decide), if_neg (by simp only [d2]; decide)])
            clear c d
            go_enter Tryd.func42, Tryd.ntmps42
            go_wp2_with fail
            refine (host_any h _).mono ?_
            rintro e w' ⟨rfl, rfl⟩
            rw [Hh.out]
            go_wp2_with fail
            refine (kind_any x _).mono ?_
            rintro e w' ⟨rfl, rfl⟩
            rw [Hk.out]
            go_wp2_with fail
            refine (denied_any H.out h k Hh.out).mono ?_
            rintro e w' ⟨rfl, rfl⟩
            rw [Hd.out]
            go_wp2_with fail
            go_ret
            rw [ResPost, HQ.out]
            exact ⟨rfl, H1.out, ((Kept.self b w).set1 _ _).set1 _ _⟩
          · have c2 := bne_f c
            have d2 := bne_t d
            have HQ := Lib.hid (show Res.free (K, hh0, kd0) h k x = (3, K, hh0, kd0) by
              rw [Res.free, if_neg (by simp [Hh.out, Hk.out]), if_neg (by rw [Hd.out]; decide), if_neg (by simp only [c2]; decide), if_pos d2])
            clear c d
            go_enter Tryd.func42, Tryd.ntmps42
            go_wp2_with fail
            refine (host_any h _).mono ?_
            rintro e w' ⟨rfl, rfl⟩
            rw [Hh.out]
            go_wp2_with fail
            refine (kind_any x _).mono ?_
            rintro e w' ⟨rfl, rfl⟩
            rw [Hk.out]
            go_wp2_with fail
            refine (denied_any H.out h k Hh.out).mono ?_
            rintro e w' ⟨rfl, rfl⟩
            rw [Hd.out]
            go_wp2_with fail
            go_ret
            rw [ResPost, HQ.out]
            exact ⟨rfl, H.out, Kept.refl _ _⟩
        · have c2 := bne_t c
          have HQ := Lib.hid (show Res.free (K, hh0, kd0) h k x = (5, K, hh0, kd0) by
            rw [Res.free, if_neg (by simp [Hh.out, Hk.out]), if_neg (by rw [Hd.out]; decide), if_pos c2])
          clear c
          go_enter Tryd.func42, Tryd.ntmps42
          go_wp2_with fail
          refine (host_any h _).mono ?_
          rintro e w' ⟨rfl, rfl⟩
          rw [Hh.out]
          go_wp2_with fail
          refine (kind_any x _).mono ?_
          rintro e w' ⟨rfl, rfl⟩
          rw [Hk.out]
          go_wp2_with fail
          refine (denied_any H.out h k Hh.out).mono ?_
          rintro e w' ⟨rfl, rfl⟩
          rw [Hd.out]
          go_wp2_with fail
          go_ret
          rw [ResPost, HQ.out]
          exact ⟨rfl, H.out, Kept.refl _ _⟩
theorem holder_any {w : World} {b : Nat} {s : Res.St} (hR : ResAt w b s) :
    Calls Tryd.prog 49 #[.pointer (some ⟨b, 0, none⟩)] w fun e w' => e = .returned (.agg #[iv s.2.1, iv s.2.2]) ∧ Below w.heap.size w w' := by
  have ch := hR.h
  have ck := hR.k
  have hlt := hR.lt
  clear hR
  go_enter Tryd.func49, Tryd.ntmps49
  go_wp2
  exact bodyPost_ret (v := .agg #[iv s.2.1, iv s.2.2]) (by simp [results, Tryd.results49, go_sem]) rfl ⟨rfl, (Below.refl _ _).alloc (Nat.le_refl _) _⟩

def MayPost (v : Bool) (f : Int) (w : World) (e : Ending) (w' : World) : Prop := e = .returned (.tuple #[.bool v, errV f]) ∧ ∃ n, w.drewN n = w'
theorem may_no {w : World} {b : Nat} {s : Res.St} (hR : ResAt w b s) (h : Int) (wr : Bool) (hh : Res.hostB h = false) :
    Calls Tryd.prog 47 #[.pointer (some ⟨b, 0, none⟩), iv h, .bool wr] w (MayPost false 1 w) := by
  have Hh := Lib.hid hh
  clear hh
  go_enter Tryd.func47, Tryd.ntmps47
  go_wp2_with fail
  refine (host_any h _).mono ?_
  rintro e w' ⟨rfl, rfl⟩
  rw [Hh.out]
  go_wp2_with fail
  go_ret2
  exact ⟨rfl, 0, rfl⟩
set_option maxRecDepth 100000 in
set_option maxHeartbeats 1000000 in
theorem may_yes {w : World} {b : Nat} {s : Res.St} (hR : ResAt w b s) (h : Int) (wr : Bool) (hh : Res.hostB h = true) :
    Calls Tryd.prog 47 #[.pointer (some ⟨b, 0, none⟩), iv h, .bool wr] w (MayPost (Res.may s h wr) 0 w) := by
  have hi := host_in hh
  have Hh := Lib.hid hh
  obtain ⟨j, rfl⟩ : ∃ j : Nat, h = j := ⟨h.toNat, by omega⟩
  have hj : j < 10 := by omega
  have cj := hR.key hj
  have ch := hR.h
  have ck := hR.k
  have hM : Res.may s j wr = (if s.2.2 == 1 then !wr || s.2.1 == (j : Int) else if s.2.2 == 2 then s.2.1 == (j : Int) else if s.2.2 == 3 then !wr || s.1.getD j 0 != 0 else if s.2.2 == 4 then s.1.getD j 0 != 0 else true) := by
    unfold Res.may Res.key; rw [Int.toNat_natCast]
  clear hh hR
  generalize s.1.getD j 0 = x at *
  generalize s.2.1 = hh0 at *
  generalize s.2.2 = kd at *
  have HM := Lib.hid hM
  clear hM
  obtain ⟨h, hhj⟩ : ∃ h : Int, h = j := ⟨_, rfl⟩
  by_cases c1 : kd = 1
  · have d1 := beq_t c1
    have Hd := Lib.hid d1
    clear c1 hhj
    cases wr
    all_goals
      go_enter Tryd.func47, Tryd.ntmps47
      go_wp2_with fail
      refine (host_any _ _).mono ?_
      rintro e w' ⟨rfl, rfl⟩
      rw [Hh.out]
      go_wp2_with fail
      go_quiet (fail)
      go_wp2_with fail
      go_ret2
      exact ⟨by rw [HM.out, if_pos Hd.out]; rfl, _, rfl⟩
  · have d1 := beq_f c1
    by_cases c2 : kd = 2
    · have d2 := beq_t c2
      have Hd := Lib.hid (And.intro d1 d2)
      clear c1 c2 hhj
      go_enter Tryd.func47, Tryd.ntmps47
      go_wp2_with fail
      refine (host_any _ _).mono ?_
      rintro e w' ⟨rfl, rfl⟩
      rw [Hh.out]
      go_wp2_with fail
      go_quiet (fail)
      go_wp2_with fail
      go_ret2
      exact ⟨by rw [HM.out, if_neg (by rw [Hd.out.1]; decide), if_pos Hd.out.2]; rfl, _, rfl⟩
    · have d2 := beq_f c2
      by_cases c3 : kd = 3
      · have d3 := beq_t c3
        have Hd := Lib.hid (And.intro d1 (And.intro d2 d3))
        clear c1 c2 c3 hhj
        cases wr
        all_goals
          go_enter Tryd.func47, Tryd.ntmps47
          go_wp2_with fail
          refine (host_any _ _).mono ?_
          rintro e w' ⟨rfl, rfl⟩
          rw [Hh.out]
          go_wp2_with fail
          go_quiet (fail)
          go_wp2_with fail
          go_ret2
          exact ⟨by rw [HM.out, if_neg (by rw [Hd.out.1]; decide), if_neg (by rw [Hd.out.2.1]; decide), if_pos Hd.out.2.2]; rfl, _, rfl⟩
      · have d3 := beq_f c3
        by_cases c4 : kd = 4
        · have d4 := beq_t c4
          have Hd := Lib.hid (And.intro d1 (And.intro d2 (And.intro d3 d4)))
          clear c1 c2 c3 c4 hhj
          go_enter Tryd.func47, Tryd.ntmps47
          go_wp2_with fail
          refine (host_any _ _).mono ?_
          rintro e w' ⟨rfl, rfl⟩
          rw [Hh.out]
          go_wp2_with fail
          go_quiet (fail)
          go_wp2_with fail
          go_ret2
          exact ⟨by rw [HM.out, if_neg (by rw [Hd.out.1]; decide), if_neg (by rw [Hd.out.2.1]; decide), if_neg (by rw [Hd.out.2.2.1]; decide), if_pos Hd.out.2.2.2]; rfl, _, rfl⟩
        · have d4 := beq_f c4
          have Hd := Lib.hid (And.intro d1 (And.intro d2 (And.intro d3 d4)))
          clear c1 c2 c3 c4 hhj
          go_enter Tryd.func47, Tryd.ntmps47
          go_wp2_with fail
          refine (host_any _ _).mono ?_
          rintro e w' ⟨rfl, rfl⟩
          rw [Hh.out]
          go_wp2_with fail
          go_quiet (fail)
          go_wp2_with fail
          go_ret2
          exact ⟨by rw [HM.out, if_neg (by rw [Hd.out.1]; decide), if_neg (by rw [Hd.out.2.1]; decide), if_neg (by rw [Hd.out.2.2.1]; decide), if_neg (by rw [Hd.out.2.2.2]; decide)]; rfl, _, rfl⟩
end Go.Proofs.YtoddoekmgkcomaaDoor
