/- The walk of code.Decode, of whatever numbers and parts. -/
import Derived.Test.YtcldioneiededaaCodG
namespace Go.Proofs.Ytcldioneiededaa
open Go.ChangeShapes Go.WideShapes Go.ChangeAt Go.RowKit
set_option linter.unusedVariables false
def dtF (k m : Int) (ps : List ByteArray) (ls : List Bool) : Int := if codF k m ≠ 0 then codF k m else if (ps.length : Int) ≠ k + m ∨ (ls.length : Int) ≠ k + m then 3 else decF k.toNat (k + m).toNat ps ls
def dtR (k m : Int) (ps : List ByteArray) (ls : List Bool) : List ByteArray := if dtF k m ps ls = 0 then decR k.toNat (k + m).toNat ps ls else []
def DtPost (k m : Int) (ps : List ByteArray) (ls : List Bool) (w : World) (e : Ending) (w' : World) : Prop :=
  ∃ v, e = .returned (.tuple #[v, errV (dtF k m ps ls)]) ∧ OwnR w' w.heap.size 9 v ((dtR k m ps ls).map Value.string) ∧ Below w.heap.size w w'
set_option maxRecDepth 100000 in
set_option maxHeartbeats 1000000 in
theorem decode_tot (k m : Int) (ps : List ByteArray) (ls : List Bool) (vp vl : Value) (w : World) (hvp : Strs w vp ps) (hvl : Row w vl (ls.map Value.bool)) :
    Calls Try.prog 20 #[iv k, iv m, vp, vl] w (DtPost k m ps ls w) := by
  by_cases hok : codF k m = 0 ∧ (ps.length : Int) = k + m ∧ (ls.length : Int) = k + m
  · obtain ⟨h0, h1, h2⟩ := hok
    have hk := codF_0 h0
    obtain ⟨kn, rfl⟩ : ∃ n : Nat, k = n := ⟨k.toNat, by omega⟩
    obtain ⟨mn, rfl⟩ : ∃ n : Nat, m = n := ⟨m.toNat, by omega⟩
    refine (decode_any kn mn (by omega) (by omega) ps ls (by omega) (by omega) vp vl w hvp hvl).mono ?_
    rintro e w' ⟨v, he, hO, hB⟩
    have hF : dtF (kn : Int) (mn : Int) ps ls = decF kn (kn + mn) ps ls := by
      unfold dtF
      rw [if_neg (by simp [h0]), if_neg (by rintro (h | h) <;> contradiction)]
      rfl
    have hR : dtR (kn : Int) (mn : Int) ps ls = if decF kn (kn + mn) ps ls = 0 then decR kn (kn + mn) ps ls else [] := by unfold dtR; rw [hF]; rfl
    exact ⟨v, by rw [hF]; exact he, by rw [hR]; exact hO, hB⟩
  · obtain ⟨F, hF⟩ : ∃ F, F = dtF k m ps ls := ⟨_, rfl⟩
    have hFe : F = if codF k m ≠ 0 then codF k m else 3 := by
      rw [hF]; unfold dtF
      by_cases h0 : codF k m = 0
      · have hor : (ps.length : Int) ≠ k + m ∨ (ls.length : Int) ≠ k + m := by
          by_cases h1 : (ps.length : Int) = k + m
          · exact .inr (fun h2 => hok ⟨h0, h1, h2⟩)
          · exact .inl h1
        rw [if_neg (show ¬ codF k m ≠ 0 by simp [h0]), if_pos hor, if_neg (show ¬ codF k m ≠ 0 by simp [h0])]
      · rw [if_pos h0, if_pos h0]
    have hF0 : F ≠ 0 := by
      rw [hFe]
      by_cases h0 : codF k m = 0
      · rw [if_neg (by simp [h0])]; decide
      · rw [if_pos h0]; exact h0
    have HR : Hid (dtR k m ps ls = []) := Lib.hid (by unfold dtR; rw [if_neg (by rw [← hF]; exact hF0)])
    unfold DtPost
    rw [← hF, errV_ne hF0]
    obtain ⟨pp, cp, rfl, hp1, hp2, _⟩ := hvp.shape
    obtain ⟨pl, cl, rfl, hl1, hl2, _⟩ := hvl.shape
    rw [List.length_map] at hp1 hl1 ⊢
    rw [List.length_map]
    obtain ⟨np, hnp⟩ : ∃ n, n = ps.length := ⟨_, rfl⟩
    obtain ⟨nl, hnl⟩ : ∃ n, n = ls.length := ⟨_, rfl⟩
    rw [← hnp, ← hnl] at hok ⊢
    have HC := Lib.hid (ccheck_any k m w)
    obtain ⟨C, hC⟩ : ∃ C, C = codF k m := ⟨_, rfl⟩
    rw [← hC] at HC hok hFe
    rw [← hnp] at hp1
    rw [← hnl] at hl1
    unfold maxLen at hp2 hl2
    by_cases h0 : C = 0
    · have hk := codF_0 (hC.symm.trans h0)
      have hw : IntKind.i64.wrap (k + m) = k + m := IntWalk.i64_in _ (by omega)
      subst h0
      rw [errV_0] at HC
      rw [if_neg (by simp)] at hFe
      subst hFe
      by_cases h1 : (np : Int) = k + m
      · have h2 : (nl : Int) ≠ k + m := fun h => hok ⟨rfl, h1, h⟩
        have t1 : ((np : Int) != (k + m)) = false := bne_f h1
        have t2 : ((nl : Int) != (k + m)) = true := bne_t h2
        have t3 : ((nl : Int) == (k + m)) = false := beq_f h2
        have t4 : ((np : Int) == (k + m)) = true := beq_t h1
        clear hF hF0 hC hk hok h1 h2 hnp hnl hvp hvl
        go_enter Try.func20, Try.ntmps20
        go_wp2_with fail
        refine HC.out.mono ?_
        rintro e w' ⟨rfl, rfl⟩
        go_wp2_with fail
        go_ret2
        exact ⟨_, rfl, by rw [HR.out]; exact OwnR.nil _ _ _, Below.refl _ _⟩
      · have t1 : ((np : Int) != (k + m)) = true := bne_t h1
        have t4 : ((np : Int) == (k + m)) = false := beq_f h1
        clear hF hF0 hC hk hok h1 hnp hnl hvp hvl
        go_enter Try.func20, Try.ntmps20
        go_wp2_with fail
        refine HC.out.mono ?_
        rintro e w' ⟨rfl, rfl⟩
        go_wp2_with fail
        go_ret2
        exact ⟨_, rfl, by rw [HR.out]; exact OwnR.nil _ _ _, Below.refl _ _⟩
    · rw [if_pos h0] at hFe
      rw [errV_ne h0] at HC
      subst hFe
      clear hF hF0 hC hok h0 hnp hnl hvp hvl
      go_enter Try.func20, Try.ntmps20
      go_wp2_with fail
      refine HC.out.mono ?_
      rintro e w' ⟨rfl, rfl⟩
      go_wp2_with fail
      go_ret2
      exact ⟨_, rfl, by rw [HR.out]; exact OwnR.nil _ _ _, Below.refl _ _⟩
end Go.Proofs.Ytcldioneiededaa
