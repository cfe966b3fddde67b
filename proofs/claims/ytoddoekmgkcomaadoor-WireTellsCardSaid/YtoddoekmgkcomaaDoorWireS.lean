/- What Unpack and Mend give, as functions; the walks of the reference's Unpack and of wire.Mend at whatever bytes. -/
import Derived.Test.YtoddoekmgkcomaaDoorWireR
import Derived.Deep.DeepCutAuto
import Derived.Deep.CutBlock
namespace Go.Proofs.YtoddoekmgkcomaaDoor
open Go.ChangeShapes Go.WideShapes Go.ChangeAt Go.RowKit
set_option linter.unusedVariables false
open Classical in
noncomputable def uE (b : ByteArray) : Int := if OkB b then 0 else 2
open Classical in
noncomputable def uR (b : ByteArray) : Nat := if OkB b then byteAt b 0 else 0
open Classical in
noncomputable def uL (b : ByteArray) : List ByteArray := if OkB b then partsB b else []
open Classical in
noncomputable def uB (b : ByteArray) : Bool := if OkB b then true else false
theorem u_yes {b : ByteArray} (h : OkB b) : uE b = 0 ∧ uR b = byteAt b 0 ∧ uL b = partsB b ∧ uB b = true := ⟨if_pos h, if_pos h, if_pos h, if_pos h⟩
theorem u_no {b : ByteArray} (h : ¬ OkB b) : uE b = 2 ∧ uR b = 0 ∧ uL b = [] ∧ uB b = false := ⟨if_neg h, if_neg h, if_neg h, if_neg h⟩
theorem strs_nil (w : World) : Strs w (.slice none 0 0) [] := ⟨none, 0, rfl, Nat.le_refl _, Nat.zero_le _, fun _ => rfl, fun h => by simp at h⟩
theorem unpack_tot (b : ByteArray) (hsz : b.size ≤ 9223372036854775807) (w : World) : Calls Tryd.prog 13 #[.string b] w
    fun e w' => ∃ v, e = .returned (.tuple #[iv (uR b : Nat), v, errV (uE b)]) ∧ Strs w' v (uL b) ∧ Below w.heap.size w w' :=
  (unpack_any b hsz w).mono fun e w' hh => by
    rcases hh with ⟨h, v, he, hs, hb⟩ | ⟨h, he, hb⟩
    · obtain ⟨e1, e2, e3, _⟩ := u_yes h
      exact ⟨v, by rw [he, e1, e2]; rfl, by rw [e3]; exact hs, hb⟩
    · obtain ⟨e1, e2, e3, _⟩ := u_no h
      exact ⟨_, by rw [he, e1, e2]; rfl, by rw [e3]; exact strs_nil _, hb⟩
def RUnpPost (b : ByteArray) (w : World) (e : Ending) (w' : World) : Prop :=
  ∃ v, e = .returned (.tuple #[iv (uR b : Nat), v, .bool (uB b)]) ∧ Strs w' v (uL b) ∧ Below w.heap.size w w'
theorem RUnpPost.none {b : ByteArray} {w w' : World} (h : ¬ OkB b) (hb : Below w.heap.size w w') : RUnpPost b w (.returned (.tuple #[iv 0, .slice none 0 0, .bool false])) w' := by
  obtain ⟨_, e2, e3, e4⟩ := u_no h
  exact ⟨_, by rw [e2, e4]; rfl, by rw [e3]; exact strs_nil _, hb⟩
theorem RUnpPost.some {b : ByteArray} {w w' : World} {v : Value} (h : OkB b) (hs : Strs w' v (partsB b)) (hb : Below w.heap.size w w') : RUnpPost b w (.returned (.tuple #[iv (byteAt b 0 : Nat), v, .bool true])) w' := by
  obtain ⟨_, e2, e3, e4⟩ := u_yes h
  exact ⟨_, by rw [e2, e4], by rw [e3]; exact hs, hb⟩
theorem okB_size0 {b : ByteArray} (h : OkB b) (h0 : byteAt b 1 = 0) : byteAt b 2 = 0 := by
  have h1 := pack_back (row := byteAt b 0) (ss := partsB b) h.fault
  rw [h.same] at h1
  rw [h1.2.2.1]
  have : partsB b = [] := by unfold partsB; rw [h0]; rfl
  rw [this]; rfl
set_option maxRecDepth 100000 in
set_option maxHeartbeats 4000000 in
theorem runpack_any (b : ByteArray) (hsz : b.size ≤ 9223372036854775807) (w : World) :
    Calls Tryd.prog 12 #[.string b] w (RUnpPost b w) := by
  by_cases h5 : b.size < 5
  · have hno : Hid (¬ OkB b) := Lib.hid (fun h => by have := h.five; omega)
    go_enter Tryd.func12, Tryd.ntmps12
    go_wp2
    go_ret3
    exact RUnpPost.none hno.out (Below.refl _ _)
  · have g0 := fun w => idx_str (b := b) (i := 0) 0 rfl (by omega) w
    have g1 := fun w => idx_str (b := b) (i := 1) 1 rfl (by omega) w
    have g2 := fun w => idx_str (b := b) (i := 2) 2 rfl (by omega) w
    have hx : byteAt b 1 = (b.data.toList.getD 1 0).toNat := rfl
    have hy : byteAt b 2 = (b.data.toList.getD 2 0).toNat := rfl
    have hr : byteAt b 0 = (b.data.toList.getD 0 0).toNat := rfl
    have b0 := (b.data.toList.getD 0 0).toNat_lt
    have b1 := (b.data.toList.getD 1 0).toNat_lt
    have b2 := (b.data.toList.getD 2 0).toNat_lt
    generalize b.data.toList.getD 0 0 = c0 at *
    generalize b.data.toList.getD 1 0 = c1 at *
    generalize b.data.toList.getD 2 0 = c2 at *
    generalize hX : c1.toNat = x at *
    generalize hY : c2.toNat = y at *
    generalize hR : c0.toNat = r at *
    have HX := Lib.hid hx
    have HY := Lib.hid hy
    have HR := Lib.hid hr
    have hxy : x * y ≤ 65025 := Nat.le_trans (Nat.mul_le_mul (show x ≤ 255 by omega) (show y ≤ 255 by omega)) (by omega)
    obtain ⟨p, hp⟩ : ∃ p : Nat, p = x * y := ⟨_, rfl⟩
    have hpI : (x : Int) * (y : Int) = (p : Int) := by rw [hp]; exact (Int.natCast_mul x y).symm
    have Hp := Lib.hid hp
    have hp2 : p ≤ 65025 := by omega
    clear hx hy hr hp hxy
    by_cases hs : b.size = 5 + p
    · have t1 : ((b.size : Int) != 5 + (p : Int)) = false := bne_f (by omega)
      have Hs := Lib.hid hs
      clear hs
      by_cases hz : x = 0 ∧ y ≠ 0
      · have hno : Hid (¬ OkB b) := Lib.hid (fun h => hz.2 (by rw [← HY.out]; exact okB_size0 h (by rw [HX.out]; exact hz.1)))
        have t2 : ((x : Int) == 0) = true := beq_t (by omega)
        have t3 : ((y : Int) != 0) = true := bne_t (by omega)
        clear hz
        go_enter Tryd.func12, Tryd.ntmps12
        go_wp2_with fail
        go_ret3
        exact RUnpPost.none hno.out (Below.refl _ _)
      · go_enter Tryd.func12, Tryd.ntmps12
        go_upto_region 5 with (fail)
        go_cut [34] (fun z wq => z = .bool false ∧ w = wq)
        case first => as_aux_lemma =>
          by_cases hx0 : x = 0
          · have t2 : ((x : Int) == 0) = true := beq_t (by omega)
            have t3 : ((y : Int) != 0) = false := bne_f (by omega)
            clear hz hx0
            go_wp2_with fail
            go_meet
            exact ⟨rfl, rfl⟩
          · have t2 : ((x : Int) == 0) = false := beq_f (by omega)
            clear hz hx0
            go_wp2_with fail
            go_meet
            exact ⟨rfl, rfl⟩
        case rest =>
        obtain ⟨rfl, rfl⟩ := hcut
        clear hz t1
        go_wp2_with fail
        go_loopg [7, 8] x (fun gk v i wr => UnpRel b x y w gk v i wr)
        case atStart => exact ⟨0, by omega, rfl, World.ownsRow_nil _ _ _ _, Below.refl _ _⟩
        case round =>
          obtain ⟨k, hk, rfl, hown, hb⟩ := hrel
          have hbz := hb.size
          have Hk := Lib.hid hk
          have Hown := Lib.hid hown
          have Hb := Lib.hid hb
          clear hk hown hb
          by_cases hlt : k < x
          · obtain ⟨q, hq⟩ : ∃ q : Nat, q = k * y := ⟨_, rfl⟩
            have hqI : (k : Int) * (y : Int) = (q : Int) := by rw [hq]; exact (Int.natCast_mul k y).symm
            have hqI2 : ((k : Int) + 1) * (y : Int) = (q : Int) + (y : Int) := by rw [Int.add_mul, hqI, Int.one_mul]
            have hqy : q + y ≤ p := by
              rw [Hp.out, hq, ← Nat.succ_mul]
              exact Nat.mul_le_mul_right _ hlt
            have hqb : 3 + q + y ≤ b.size := by have := Hs.out; omega
            have Hq := Lib.hid hq
            clear hq
            go_wp2_with (at_builtin; refine app1 w _ _ 9 22 rfl _ _ rfl w.heap.size Tryd.underlying22 info_string rfl _ _ _ rfl _ rfl rfl Hown.out rfl ?c1 ?c2 hbz Hb.out ?_)
            try case c1 => omega
            try case c2 => omega
            intro v' w1 hown1 hb1 _ _
            have Hown1 := Lib.hid hown1
            have Hb1 := Lib.hid hb1
            clear hown1 hb1
            go_wp2_with fail
            go_roundg (gk - 1)
            case measure => have := Hk.out; omega
            case rel => exact ⟨k + 1, by have := Hk.out; omega, by go_num, by rw [pieces_succ, List.map_append, ← Hq.out, Nat.add_assoc]; exact Hown1.out, Hb1.out⟩
          · have hkx : k = x := by have := Hk.out; omega
            have hst : Strs wr u7 (partsB b) := by
              have h := (row_of_owns Hown.out).1
              rw [hkx] at h
              unfold Strs partsB
              rw [HX.out, HY.out]
              exact h
            have Hst := Lib.hid hst
            have HF0 := Lib.hid (rfl : rowF r (partsB b) = rowF r (partsB b))
            clear hst hkx
            go_wp2_with fail
            refine (rrow_any r (partsB b) _ _ Hst.out).mono ?_
            rintro e w2 ⟨rfl, nd, rfl⟩
            have Hst2 := Lib.hid (Hst.out.below (bdrew (Below.refl _ _) nd))
            have Hb2 := Lib.hid (bdrew Hb.out nd)
            by_cases hF : rowF r (partsB b) = 0
            · have t2 : (rowF r (partsB b) != 0) = false := bne_f hF
              have HF := Lib.hid hF
              clear hF
              go_wp2_with fail
              refine (rpack_yes r (partsB b) _ _ Hst2.out HF.out).mono ?_
              rintro e w3 ⟨rfl, hb⟩
              have Hst3 := Lib.hid (Hst2.out.below hb)
              have Hb3 := Lib.hid (Hb2.out.trans (hb.mono Hb2.out.size))
              clear hb
              have hse := str_beq (packB r (partsB b)) b
              by_cases he : packB r (partsB b) = b
              · have hok : Hid (OkB b) := Lib.hid ⟨by omega, by have := Hs.out; rw [HX.out, HY.out, ← Hp.out]; exact this, by rw [HR.out]; exact HF.out, by rw [HR.out]; exact he⟩
                have t3 : ((packB r (partsB b)).toList == b.toList) = true := by rw [hse]; exact dec_t he
                generalize packB r (partsB b) = G at *
                clear hse he
                go_wp2_with fail
                go_ret3
                have hfin := RUnpPost.some hok.out Hst3.out Hb3.out
                rw [HR.out] at hfin
                exact hfin
              · have hno : Hid (¬ OkB b) := Lib.hid (fun h => he (by have := h.same; rw [HR.out] at this; exact this))
                have t3 : ((packB r (partsB b)).toList == b.toList) = false := by rw [hse]; exact dec_f he
                generalize packB r (partsB b) = G at *
                clear hse he
                go_wp2_with fail
                go_ret3
                exact RUnpPost.none hno.out Hb3.out
            · have t2 : (rowF r (partsB b) != 0) = true := bne_t hF
              have hno : Hid (¬ OkB b) := Lib.hid (fun h => hF (by have := h.fault; rw [HR.out] at this; exact this))
              clear hF
              go_wp2_with fail
              go_ret3
              exact RUnpPost.none hno.out Hb2.out
    · have t1 : ((b.size : Int) != 5 + (p : Int)) = true := bne_t (by omega)
      have hno : Hid (¬ OkB b) := Lib.hid (fun h => by have := h.size; rw [HX.out, HY.out, ← Hp.out] at this; omega)
      clear hs
      go_enter Tryd.func12, Tryd.ntmps12
      go_wp2_with fail
      go_ret3
      exact RUnpPost.none hno.out (Below.refl _ _)
end Go.Proofs.YtoddoekmgkcomaaDoor
