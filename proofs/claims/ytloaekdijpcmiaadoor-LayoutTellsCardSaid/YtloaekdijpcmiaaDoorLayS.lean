/- What the law LayoutTells leans on. -/
import Derived.Test.YtloaekdijpcmiaaDoorFieldT
import Derived.Test.YtloaekdijpcmiaaDoorLayR
import Derived.Test.YtloaekdijpcmiaaDoorInts
import Derived.Deep.RegionWith
namespace Go.Proofs.YtloaekdijpcmiaaDoor
open Go.ChangeShapes Go.WideShapes Go.ChangeAt Go.RowKit
set_option linter.unusedVariables false

def spX (n : Nat) (b : Int) (f : Bool) : Int := if f then 0 else Lay.disk n (b / ((n : Int) - 2)) (b % ((n : Int) - 2))
def spY (n : Nat) (b : Int) (f : Bool) : Int := if f then 0 else b / ((n : Int) - 2)
def fE (f : Bool) : Int := if f then 1 else 0
theorem spot_in {b : Int} {n : Nat} (h : false = (decide (b < 0) || decide (20 * ((n : Int) - 2) ≤ b))) : 0 ≤ b ∧ b < 20 * ((n : Int) - 2) := by
  simp only [Bool.false_eq, Bool.or_eq_false_iff, decide_eq_false_iff_not] at h
  omega
theorem data_tot (n : Nat) (h1 : 3 ≤ n) (h2 : n ≤ 10) (b : Int) (h5 : b ≤ 9223372036854775807) (h6 : -9223372036854775808 ≤ b) (f : Bool) (hf : f = (decide (b < 0) || decide (20 * ((n : Int) - 2) ≤ b))) (w : World) :
    Calls Tryd.prog 19 #[iv n, iv b] w fun e w' => e = .returned (.tuple #[.agg #[iv (spX n b f), iv (spY n b f)], errV (fE f)]) ∧ Below w.heap.size w w' := by
  cases f with
  | true =>
    simp only [Bool.true_eq, Bool.or_eq_true, decide_eq_true_eq] at hf
    refine data_no2 n b (by omega) (by omega) h5 h6 ?_ w
    by_cases h : b < 0
    · exact .inl h
    · exact .inr ⟨by omega, (Int.le_ediv_iff_mul_le (by omega)).2 (by omega)⟩
  | false =>
    have h := spot_in hf
    exact data_yes n b (by omega) (by omega) h.1 (Int.ediv_lt_of_lt_mul (by omega) h.2) h5 w
theorem if_step {k kd : Nat} (h : ¬ k = kd) : (if kd < k then (kd : Int) else 0) = if kd < k + 1 then (kd : Int) else 0 := by
  by_cases h' : kd < k
  · rw [if_pos h', if_pos (by omega)]
  · rw [if_neg h', if_neg (by omega)]
def gBad (n : Nat) (d r : Int) : Bool := decide (d < 0) || decide ((n : Int) ≤ d) || decide (r < 0) || decide (20 ≤ r)
def roV (n : Nat) (d r : Int) (g : Bool) : Int := if g then 0 else Lay.role n d r
theorem role_in {d r : Int} {n : Nat} (h : false = gBad n d r) : 0 ≤ d ∧ d < n ∧ 0 ≤ r ∧ r < 20 := by
  simp only [gBad, Bool.false_eq, Bool.or_eq_false_iff, decide_eq_false_iff_not] at h
  omega
theorem disk_ex {n dd : Nat} (h1 : 3 ≤ n) (hd : dd < n) (rr : Nat) : ∃ kd : Nat, kd < n ∧ Lay.disk n rr kd = dd := by
  have e := Int.emod_nonneg ((dd : Int) - (Lay.pOf n rr + 2)) (show (n : Int) ≠ 0 by omega)
  have e2 := Int.emod_lt_of_pos ((dd : Int) - (Lay.pOf n rr + 2)) (show 0 < (n : Int) by omega)
  refine ⟨(((dd : Int) - (Lay.pOf n rr + 2)) % n).toNat, by omega, ?_⟩
  unfold Lay.disk
  rw [Int.toNat_of_nonneg e, Int.add_emod_emod]
  rw [show Lay.pOf n rr + 2 + ((dd : Int) - (Lay.pOf n rr + 2)) = dd by omega]
  exact Int.emod_eq_of_lt (by omega) (by omega)
def blE (g : Bool) (R : Int) : Int := if g then 1 else if R < 0 then 5 else 0
def blA (n : Nat) (r : Int) (g : Bool) (R : Int) : Int := if g then 0 else if R < 0 then 0 else r * ((n : Int) - 2) + R
theorem bad_or {d r : Int} {n : Nat} (h : true = gBad n d r) : d < 0 ∨ (0 ≤ d ∧ (n : Int) ≤ d) ∨ (0 ≤ d ∧ d < n ∧ r < 0) ∨ (0 ≤ d ∧ d < n ∧ 0 ≤ r ∧ 20 ≤ r) := by
  simp only [gBad, Bool.true_eq, Bool.or_eq_true, decide_eq_true_eq] at h
  omega
theorem role_tot (n : Nat) (h1 : 3 ≤ n) (h2 : n ≤ 10) (d r : Int) (g : Bool) (hg : g = gBad n d r) (w : World) :
    Calls Tryd.prog 21 #[iv n, .agg #[iv d, iv r]] w fun e w' => e = .returned (.tuple #[iv (roV n d r g), errV (fE g)]) ∧ Below w.heap.size w w' := by
  cases g with
  | true => exact role_no2 n d r (by omega) (by omega) (bad_or hg) w
  | false =>
    have h := role_in hg
    exact role_yes n d r (by omega) (by omega) h.1 h.2.1 h.2.2.1 h.2.2.2 w
theorem block_tot (n : Nat) (h1 : 3 ≤ n) (h2 : n ≤ 10) (d r : Int) (g : Bool) (hg : g = gBad n d r) (w : World) :
    Calls Tryd.prog 22 #[iv n, .agg #[iv d, iv r]] w fun e w' => e = .returned (.tuple #[iv (blA n r g (roV n d r g)), errV (blE g (roV n d r g))]) ∧ Below w.heap.size w w' := by
  cases g with
  | true => exact block_no2 n d r (by omega) (by omega) (bad_or hg) w
  | false =>
    have h := role_in hg
    have e : roV n d r false = Lay.role n d r := rfl
    rw [e]
    by_cases hR : Lay.role n d r < 0
    · refine (block_no3 n d r (by omega) (by omega) h.1 h.2.1 h.2.2.1 h.2.2.2 hR w).mono ?_
      rintro e w' ⟨rfl, hb⟩
      exact ⟨by simp [blA, blE, hR, errV], hb⟩
    · refine (block_yes n d r (by omega) (by omega) h.1 h.2.1 h.2.2.1 h.2.2.2 (by omega) w).mono ?_
      rintro e w' ⟨rfl, hb⟩
      exact ⟨by simp [blA, blE, hR, errV], hb⟩
def orL (n : Nat) (row : Int) (p : Bool) : List Int := if p then [] else (List.range n).map fun i : Nat => Lay.disk n row i
theorem orL_eq (n : Nat) (row : Int) : Lay.orderL n row n = (orL n row false).map iv := by
  unfold Lay.orderL orL; rw [if_neg (by decide), List.map_map]; rfl
theorem row_nil (w : World) : Row w (.slice none 0 0) [] := ⟨none, 0, rfl, Nat.le_refl _, Nat.zero_le _, fun _ => rfl, fun h => by simp at h⟩
theorem row_in {row : Int} (h : false = (decide (row < 0) || decide (20 ≤ row))) : 0 ≤ row ∧ row < 20 := by
  simp only [Bool.false_eq, Bool.or_eq_false_iff, decide_eq_false_iff_not] at h
  omega
def OrdTot (n : Nat) (row : Int) (p : Bool) (w : World) (e : Ending) (w' : World) : Prop :=
  ∃ v, e = .returned (.tuple #[v, errV (fE p)]) ∧ Row w' v ((orL n row p).map iv) ∧ Below w.heap.size w w'
theorem order_tot (n : Nat) (h1 : 3 ≤ n) (h2 : n ≤ 10) (row : Int) (p : Bool) (hp : p = (decide (row < 0) || decide (20 ≤ row))) (w : World) :
    Calls Tryd.prog 23 #[iv n, iv row] w (OrdTot n row p w) := by
  cases p with
  | true =>
    simp only [Bool.true_eq, Bool.or_eq_true, decide_eq_true_eq] at hp
    refine (order_no2 n row (by omega) (by omega) (by omega) w).mono ?_
    rintro e w' ⟨rfl, rfl⟩
    exact ⟨_, rfl, row_nil _, Below.refl _ _⟩
  | false =>
    have h := row_in hp
    refine (order_yes n row (by omega) (by omega) h.1 h.2 w).mono ?_
    rintro e w' ⟨v, rfl, hown, hb⟩
    rw [Int.toNat_natCast] at hown
    have hrow := (row_of_owns hown).1
    rw [orL_eq] at hrow
    exact ⟨v, rfl, hrow, hb⟩
def RoleRel (kd n : Nat) (w : World) (gk : Nat) (ro i : Value) (wr : World) : Prop :=
  ∃ (k nd : Nat) (R : Int), k + gk = n ∧ R = (if kd < k then (kd : Int) else 0) ∧ ro = iv R ∧ i = iv k ∧ wr = w.drewN nd
theorem keep {B : Nat} {w w' : World} (hb : Below B w w') {b o : Nat} {v : Value} (h : w.cell? ⟨b, o, none⟩ = some v) (hlt : b < B) : w'.cell? ⟨b, o, none⟩ = some v := (hb.cell (p := ⟨b, o, none⟩) hlt).trans h
def RLayAt (n q k B : Nat) (w : World) (e : Ending) (w2 : World) : Prop :=
  ∃ g cap, e = .returned (.slice (some ⟨g, 0, none⟩) n cap) ∧ n ≤ cap ∧ cap ≤ 9223372036854775807 ∧ w2.cell? ⟨g, k, none⟩ = some (iv (Lay.disk n q k)) ∧
    w2.cell? ⟨B, 0, none⟩ = w.cell? ⟨B, 0, none⟩ ∧ w2.cell? ⟨B, 1, none⟩ = w.cell? ⟨B, 1, none⟩ ∧ w2.frozen? ⟨B, 0, none⟩ = w.frozen? ⟨B, 0, none⟩ ∧ w2.frozen? ⟨B, 1, none⟩ = w.frozen? ⟨B, 1, none⟩ ∧ Below w.heap.size w w2
theorem rlayout_at (n q k B : Nat) (h1 : 3 ≤ n) (h2 : n ≤ 10) (h3 : 0 ≤ (q : Int)) (h4 : (q : Int) ≤ 4611686018427387904) (hk : k < n) (w : World) (hB : B < w.heap.size) :
    Calls Tryd.prog 20 #[iv n, iv q] w (RLayAt n q k B w) := by
  refine (rlayout_any n q h1 h2 h3 h4 w).mono ?_
  rintro e w2 ⟨v, rfl, hown, hb2⟩
  rw [Int.toNat_natCast] at hown
  obtain ⟨g, cap, rfl, hg1, hg2, hcap1, hcap2, hcell, hfz⟩ := owns_pos hown (by omega)
  obtain ⟨hc2, hf2⟩ := bcell hb2
  unfold maxLen at hcap2
  exact ⟨g, cap, rfl, hcap1, by omega, (hcell k hk).trans (Lay.orderL_get hk), hc2 B 0 hB, hc2 B 1 hB, hf2 B 0 hB, hf2 B 1 hB, hb2⟩

end Go.Proofs.YtloaekdijpcmiaaDoor
