/- Add, Mul, Eval, DivMod at whatever lengths: result and error as functions. -/
import Derived.Test.YtbikmodfmckaeaaDoorPolB
namespace Go.Proofs.YtbikmodfmckaeaaDoor
open Go.ChangeShapes Go.WideShapes Go.ChangeAt Go.RowKit
set_option linter.unusedVariables false
namespace Pl
def dvF (a b : List UInt8) : Int := if 40 < a.length ∨ 40 < b.length then 4 else if (trim b).length = 0 then 5 else 0
def mulR (a b : List UInt8) : List UInt8 := if 40 < a.length ∨ 40 < b.length then [] else trim (conv a b)
def addR (a b : List UInt8) : List UInt8 := if 40 < a.length ∨ 40 < b.length then [] else trim (plus a b)
def quoR (a b : List UInt8) : List UInt8 := if dvF a b = 0 then quo a b else []
def rstR (a b : List UInt8) : List UInt8 := if dvF a b = 0 then rst a b else []
def evF (l : List UInt8) : Int := if 40 < l.length then 4 else 0
def evR (l : List UInt8) (x : UInt8) : UInt8 := if 40 < l.length then 0 else ev l x
theorem full_no {a b : List UInt8} (h : fullF a b = 0) : a.length ≤ 40 ∧ b.length ≤ 40 := by
  unfold fullF at h
  split at h
  · cases h
  · omega
theorem dv_no {a b : List UInt8} (h : dvF a b = 0) : a.length ≤ 40 ∧ b.length ≤ 40 ∧ (trim b).length ≠ 0 := by
  unfold dvF at h
  split at h
  · cases h
  · split at h
    · cases h
    · exact ⟨by omega, by omega, by assumption⟩
end Pl
theorem mul_tot (a b : List UInt8) (va vb : Value) (w : World) (hva : RowB w va a) (hvb : RowB w vb b) :
    Calls Tryd.prog 18 #[va, vb] w fun e w' => ∃ v, e = .returned (.tuple #[v, errV (Pl.fullF a b)]) ∧ OwnB w' w.heap.size v (Pl.mulR a b) ∧ Below w.heap.size w w' := by
  unfold Pl.fullF Pl.mulR
  by_cases h : 40 < a.length ∨ 40 < b.length
  · rw [if_pos h, if_pos h]
    exact (pmul_full a b h va vb w hva hvb).mono (fun e w' ⟨h1, h2⟩ => ⟨_, h1, OwnR.nil _ _ _, h2⟩)
  · rw [if_neg h, if_neg h]
    exact pmul_any a b (by omega) (by omega) va vb w hva hvb
theorem add_tot (a b : List UInt8) (va vb : Value) (w : World) (hva : RowB w va a) (hvb : RowB w vb b) :
    Calls Tryd.prog 17 #[va, vb] w fun e w' => ∃ v, e = .returned (.tuple #[v, errV (Pl.fullF a b)]) ∧ OwnB w' w.heap.size v (Pl.addR a b) ∧ Below w.heap.size w w' := by
  unfold Pl.fullF Pl.addR
  by_cases h : 40 < a.length ∨ 40 < b.length
  · rw [if_pos h, if_pos h]
    exact (padd_full a b h va vb w hva hvb).mono (fun e w' ⟨h1, h2⟩ => ⟨_, h1, OwnR.nil _ _ _, h2⟩)
  · rw [if_neg h, if_neg h]
    exact padd_any a b (by omega) (by omega) va vb w hva hvb
theorem eval_tot (l : List UInt8) (x : UInt8) (v : Value) (w : World) (hv : RowB w v l) :
    Calls Tryd.prog 13 #[v, bv x] w fun e w' => e = .returned (.tuple #[bv (Pl.evR l x), errV (Pl.evF l)]) ∧ Below w.heap.size w w' := by
  unfold Pl.evR Pl.evF
  by_cases h : 40 < l.length
  · rw [if_pos h, if_pos h]; exact eval_full l h x v w hv
  · rw [if_neg h, if_neg h]; exact eval_any l (by omega) x v w hv
theorem div_tot (a b : List UInt8) (va vb : Value) (w : World) (hva : RowB w va a) (hvb : RowB w vb b) :
    Calls Tryd.prog 20 #[va, vb] w fun e w' => ∃ v1 v2, e = .returned (.tuple #[v1, v2, errV (Pl.dvF a b)]) ∧ OwnB w' w.heap.size v1 (Pl.quoR a b) ∧ OwnB w' w.heap.size v2 (Pl.rstR a b) ∧ Below w.heap.size w w' := by
  unfold Pl.quoR Pl.rstR
  by_cases h : 40 < a.length ∨ 40 < b.length
  · have e : Pl.dvF a b = 4 := by unfold Pl.dvF; rw [if_pos h]
    rw [e]
    exact (pdiv_full a b h va vb w hva hvb).mono (fun e w' ⟨h1, h2⟩ => ⟨_, _, h1, OwnR.nil _ _ _, OwnR.nil _ _ _, h2⟩)
  · by_cases h0 : (Pl.trim b).length = 0
    · have e : Pl.dvF a b = 5 := by unfold Pl.dvF; rw [if_neg h, if_pos h0]
      rw [e]
      exact (div_none a b h0 (by omega) (by omega) va vb w hva hvb).mono (fun e w' ⟨h1, h2⟩ => ⟨_, _, h1, OwnR.nil _ _ _, OwnR.nil _ _ _, h2⟩)
    · have e : Pl.dvF a b = 0 := by unfold Pl.dvF; rw [if_neg h, if_neg h0]
      rw [e]
      exact divmod_any a b _ rfl h0 (by omega) (by omega) va vb w hva hvb
end Go.Proofs.YtbikmodfmckaeaaDoor
