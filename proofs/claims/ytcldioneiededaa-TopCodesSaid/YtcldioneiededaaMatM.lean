/- The walks of matrix.Check, Inverse, Rank, at whatever matrix. · The walks of matrix.Row, Mul, paritysame.Rows. -/
import Derived.Test.YtcldioneiededaaMatT
import Derived.Deep.QuietTactic
import Derived.BigQuiet
namespace Go.Proofs.Ytcldioneiededaa
open Go.ChangeShapes Go.WideShapes Go.ChangeAt Go.RowKit
set_option linter.unusedVariables false
def len0 (M : List (List UInt8)) : Nat := (M.headD []).length
/-- the fault of a matrix -/
def chkF (M : List (List UInt8)) : Int := if 12 < M.length ∨ M.any (fun l => decide (12 < l.length)) = true then 4 else if M.any (fun l => l.length != len0 M) = true then 3 else 0
theorem chkF_0 {M : List (List UInt8)} (h : chkF M = 0) : M.length ≤ 12 ∧ len0 M ≤ 12 ∧ ∀ (i : Nat) l, M[i]? = some l → l.length = len0 M := by
  unfold chkF at h
  by_cases h1 : 12 < M.length ∨ M.any (fun l => decide (12 < l.length)) = true
  · rw [if_pos h1] at h; cases h
  · rw [if_neg h1] at h
    by_cases h2 : M.any (fun l => l.length != len0 M) = true
    · rw [if_pos h2] at h; cases h
    · have h3 : ∀ l ∈ M, l.length ≤ 12 := fun l hl => by
        refine Nat.le_of_not_lt (fun hc => h1 (.inr ?_))
        rw [List.any_eq_true]; exact ⟨l, hl, dec_t hc⟩
      refine ⟨by omega, ?_, fun i l hl => ?_⟩
      · unfold len0
        cases M with
        | nil => simp
        | cons a t => exact h3 a (List.mem_cons_self ..)
      · refine Classical.byContradiction (fun hc => h2 ?_)
        rw [List.any_eq_true]; exact ⟨l, List.mem_of_getElem? hl, bne_iff_ne.2 hc⟩
/-- a matrix's entries -/
def en (M : List (List UInt8)) : Mx.Mt := fun i j => Gv.at' (M.getD i []) j
theorem lt_en {M : List (List UInt8)} {L : Nat} (h : ∀ (i : Nat) l, M[i]? = some l → l.length = L) : M = lt M.length L (en M) := by
  apply List.ext_getElem?
  intro i
  by_cases hi : i < M.length
  · rw [lt_get L _ hi, List.getElem?_eq_getElem hi]
    congr 1
    have hl := h i _ (List.getElem?_eq_getElem hi)
    have e : en M i = fun j => Gv.at' M[i] j := by
      funext j
      unfold en
      rw [List.getD_eq_getElem?_getD, List.getElem?_eq_getElem hi]; rfl
    rw [e, ← hl]
    exact (Gv.tab_self M[i]).symm
  · rw [List.getElem?_eq_none (by omega), List.getElem?_eq_none (by rw [lt_len]; omega)]
def slen : Value → Nat
  | .slice _ n _ => n
  | _ => 0
theorem any_lens (p : Nat → Bool) : ∀ {M : List (List UInt8)} {vs : List Value}, vs.length = M.length → (∀ (i : Nat) l, M[i]? = some l → ∃ u, vs[i]? = some u ∧ slen u = l.length) → vs.any (fun u => p (slen u)) = M.any (fun l => p l.length)
  | [], [], _, _ => rfl
  | [], _ :: _, h, _ => by simp at h
  | _ :: _, [], h, _ => by simp at h
  | l :: M, u :: vs, h, hx => by
    obtain ⟨u', hu, hl⟩ := hx 0 l rfl
    obtain rfl : u = u' := Option.some.inj hu
    rw [List.any_cons, List.any_cons, hl, any_lens p (by simpa using h) (fun i l hl => hx (i + 1) l hl)]
/-- the fault of an inverse -/
def invF (M : List (List UInt8)) : Int := if chkF M ≠ 0 then chkF M else if M.length = 0 ∨ len0 M ≠ M.length then 3 else if Mx.rk M.length M.length (en M) < M.length then 5 else 0
def invR (M : List (List UInt8)) : List (List UInt8) := if invF M = 0 then lt M.length M.length (Mx.iv' M.length (en M)) else []
def InvPost (M : List (List UInt8)) (w : World) (e : Ending) (w' : World) : Prop :=
  ∃ v, e = .returned (.tuple #[v, errV (invF M)]) ∧ RowsM w' v (invR M) ∧ Below w.heap.size w w'
theorem RowsM.nil (w : World) : RowsM w (.slice none 0 0) [] := ⟨[], ⟨none, 0, rfl, Nat.le_refl _, Nat.zero_le _, fun _ => rfl, fun h => by simp at h⟩, rfl, fun i l hl => by simp at hl⟩
theorem RowsM.shape {w : World} {v : Value} {M : List (List UInt8)} (h : RowsM w v M) : ∃ p c, v = .slice p M.length c ∧ M.length ≤ c ∧ c ≤ maxLen ∧ (0 < M.length → ∃ g o p0 c0, p = some ⟨g, o, none⟩ ∧ g < w.heap.size ∧ w.cell? ⟨g, o, none⟩ = some (.slice p0 (len0 M) c0)) := by
  obtain ⟨vs, hr, hlen, hrow⟩ := h
  obtain ⟨p, c, h1, h2, h3, h4⟩ := hr.shape
  rw [hlen] at h1 h2 h4
  refine ⟨p, c, h1, h2, h3, fun h0 => ?_⟩
  obtain ⟨g, o, hp, hc⟩ := h4 h0
  have hM0 : M[0]? = some (M.headD []) := by
    cases M with
    | nil => exact absurd h0 (by simp)
    | cons a t => rfl
  obtain ⟨u0, hu0, hrb⟩ := hrow 0 _ hM0
  obtain ⟨p0, c0, hv0, _⟩ := RowB.shape hrb
  have h5 := hc 0 h0
  rw [hu0, hv0, Nat.add_zero] at h5
  exact ⟨g, o, p0, c0, hp, World.block_lt_of_cell? w _ h5, h5⟩
theorem reduce_zero (p : Option Addr) (n c : Nat) (w : World) :
    Calls Try.prog 57 #[.slice p n c, iv 0] w fun e w' => e = .returned (iv 0) ∧ w = w' := by
  go_enter Try.func57, Try.ntmps57
  go_wp2_with fail
  go_loopg [5, 11] 0 (fun gk v5 v11 wr => v5 = iv 0 ∧ v11 = iv 0 ∧ wr = w)
  case atStart => exact ⟨rfl, rfl, rfl⟩
  case round =>
    obtain ⟨rfl, rfl, hw⟩ := hrel
    subst hw
    go_wp2_with fail
    go_ret
    exact ⟨rfl, rfl⟩
def rkR (M : List (List UInt8)) : Int := if chkF M = 0 ∧ M.length ≠ 0 then (Mx.rk M.length (len0 M) (en M) : Int) else 0
end Go.Proofs.Ytcldioneiededaa
namespace Go.Proofs.Ytcldioneiededaa
open Go.ChangeShapes Go.WideShapes Go.ChangeAt Go.RowKit
set_option linter.unusedVariables false
namespace Mx
open Gv
def rsum (r : List UInt8) (b : Mt) (i : Nat) : Nat → UInt8 := fun j => xsum i (fun q => Gf.mul (at' r q) (b q j))
def rin (r : List UInt8) (b : Mt) (i q : Nat) : Nat → UInt8 := fun j => rsum r b i j ^^^ (if j < q then Gf.mul (at' r i) (b i j) else 0)
theorem rin_zero (r : List UInt8) (b : Mt) (i : Nat) : rin r b i 0 = rsum r b i := by funext j; unfold rin; rw [if_neg (by omega), Gf.add_zero]
theorem rin_at (r : List UInt8) (b : Mt) (i q : Nat) : rin r b i q q = rsum r b i q := by unfold rin; rw [if_neg (by omega), Gf.add_zero]
theorem rin_full (r : List UInt8) (b : Mt) (i L : Nat) : tab L (rin r b i L) = tab L (rsum r b (i + 1)) := tab_ext (fun j hj => by unfold rin; rw [if_pos hj]; rfl)
theorem rin_set {L : Nat} (r : List UInt8) (b : Mt) (i q : Nat) : (tab L (rin r b i q)).set q (rin r b i q q ^^^ Gf.mul (at' r i) (b i q)) = tab L (rin r b i (q + 1)) := by
  rw [tab_set]
  refine tab_ext (fun j _ => ?_)
  by_cases e : j = q
  · subst e; rw [if_pos rfl, rin_at]; unfold rin; rw [if_pos (by omega)]
  · rw [if_neg e]; unfold rin
    by_cases c : j < q
    · rw [if_pos c, if_pos (by omega)]
    · rw [if_neg c, if_neg (by omega)]
end Mx
def RwRel (r : List UInt8) (b : Mx.Mt) (w : World) (k L gk : Nat) (i : Value) (wr : World) : Prop :=
  ∃ q : Nat, q + gk = k ∧ i = iv q ∧ OwnB wr w.heap.size (.slice (some ⟨w.heap.size, 0, none⟩) L L) (Gv.tab L (Mx.rsum r b q)) ∧ Below w.heap.size w wr
def RwIn (r : List UInt8) (b : Mx.Mt) (w : World) (i L gk : Nat) (idx : Value) (wr : World) : Prop :=
  ∃ q : Nat, q + gk = L ∧ idx = iv q ∧ OwnB wr w.heap.size (.slice (some ⟨w.heap.size, 0, none⟩) L L) (Gv.tab L (Mx.rin r b i q)) ∧ Below w.heap.size w wr
def RwPost (l : List UInt8) (w : World) (e : Ending) (w' : World) : Prop := ∃ v, e = .returned v ∧ OwnB w' w.heap.size v l ∧ Below w.heap.size w w'
/-- two matrices: are they the same? -/
def RsRel (A B : List (List UInt8)) (va vb : Value) (w : World) (n gk : Nat) (i : Value) (wr : World) : Prop :=
  ∃ q : Nat, q + gk = n ∧ i = iv q ∧ A.take q = B.take q ∧ RowsM wr va A ∧ RowsM wr vb B ∧ Below w.heap.size w wr
set_option maxRecDepth 100000 in
theorem conv_rowB (w : World) (v : Value) (l : List UInt8) (h : RowB w v l) : (convert 74 9 v).run Try.prog w = .ok (.string ⟨l.toArray⟩) w := by
  obtain ⟨p, cap, rfl, h1, h2, h0, h3⟩ := h
  rw [List.length_map] at *
  cases p with
  | none =>
    obtain rfl : cap = 0 := h0 rfl
    obtain rfl : l = [] := List.eq_nil_of_length_eq_zero (by omega)
    exact conv_nilB w
  | some a =>
    by_cases hl : 0 < l.length
    · obtain ⟨g, off, hp, hc⟩ := h3 hl
      injection hp with hp
      subst hp
      exact run_convert_bytes_back (P := Try.prog) w 74 9 5 ⟨g, off, none⟩ cap l Try.underlying74 Try.underlying5 Try.underlying9 (fun j hj => by
        rw [Addr.add_lit, hc j hj, List.getElem?_map, List.getElem?_eq_getElem hj]; rfl)
    · obtain rfl : l = [] := List.eq_nil_of_length_eq_zero (by omega)
      exact run_convert_bytes_back (P := Try.prog) w 74 9 5 a cap [] Try.underlying74 Try.underlying5 Try.underlying9 (fun j hj => by simp at hj)
theorem RowsM.at {w : World} {v : Value} {M : List (List UInt8)} (h : RowsM w v M) {i : Nat} {l : List UInt8} (hl : M[i]? = some l) :
    ∃ g o c p2 c2, v = .slice (some ⟨g, o, none⟩) M.length c ∧ g < w.heap.size ∧ w.cell? ⟨g, o + i, none⟩ = some (.slice p2 l.length c2) ∧ RowB w (.slice p2 l.length c2) l := by
  obtain ⟨vs, hr, hlen, hrow⟩ := h
  have hi := (List.getElem?_eq_some_iff.1 hl).1
  obtain ⟨g, o, c, hv, h1, h2, h3⟩ := hr.pos (by omega)
  obtain ⟨u, hu, hb⟩ := hrow i l hl
  obtain ⟨p2, c2, rfl, _⟩ := RowB.shape hb
  have h4 := h3 i (by omega)
  rw [hu] at h4
  exact ⟨g, o, c, p2, c2, by rw [hv, hlen], World.block_lt_of_cell? w _ h4, h4, hb⟩
theorem RowsM.drewN {w : World} {v : Value} {M : List (List UInt8)} (h : RowsM w v M) (d : Nat) : RowsM (w.drewN d) v M := h.below (bdrew (Below.refl _ _) d)
def SameM (q : Bool) (w : World) (e : Ending) (w' : World) : Prop := e = .returned (.bool q) ∧ Below w.heap.size w w'
/-- a product's row -/
def rowR (r : List UInt8) (B : List (List UInt8)) : List UInt8 := if B.length = 0 then [] else Gv.tab (len0 B) (Mx.rsum r (en B) B.length)
def mmF (A B : List (List UInt8)) : Int := if chkF A ≠ 0 then chkF A else if chkF B ≠ 0 then chkF B else if A.length ≠ 0 ∧ len0 A ≠ B.length then 3 else 0
def mmR (A B : List (List UInt8)) : List (List UInt8) := if mmF A B = 0 then A.map (fun r => rowR r B) else []
def MmA (A B : List (List UInt8)) (w1 : World) (gk : Nat) (idx : Value) (wr : World) : Prop :=
  ∃ k : Nat, k + gk = 2 ∧ idx = iv k ∧ (0 < k → chkF A = 0) ∧ (1 < k → chkF B = 0) ∧ Below w1.heap.size w1 wr
def MmB (A B : List (List UInt8)) (w : World) (n gk : Nat) (v9 idx : Value) (wr : World) : Prop :=
  ∃ (k : Nat) (vs : List Value), k + gk = n ∧ idx = iv k ∧ wr.ownsRow w.heap.size 74 1 v9 k vs ∧
    (∀ (i : Nat) u r, vs[i]? = some u → A[i]? = some r → OwnB wr w.heap.size u (rowR r B) ∧ ∀ g, u.ownBlock = some g → v9.ownBlock ≠ some g) ∧ Below w.heap.size w wr
def MmPost (A B : List (List UInt8)) (w : World) (e : Ending) (w' : World) : Prop :=
  ∃ v, e = .returned (.tuple #[v, errV (mmF A B)]) ∧ RowsM w' v (mmR A B) ∧ Below w.heap.size w w'
theorem OwnB.one {w : World} {base : Nat} {v : Value} {l : List UInt8} (h : OwnB w base v l) : v.oneCell' = true := by
  obtain ⟨p, c, rfl, _⟩ := RowB.shape (OwnB.row h); rfl
end Go.Proofs.Ytcldioneiededaa
