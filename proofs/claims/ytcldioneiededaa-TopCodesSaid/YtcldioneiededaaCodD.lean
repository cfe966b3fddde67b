/- The walk of code.Decode; code.Encode at whatever numbers. -/
import Derived.Test.YtcldioneiededaaCodF
namespace Go.Proofs.Ytcldioneiededaa
open Go.ChangeShapes Go.WideShapes Go.ChangeAt Go.RowKit
set_option linter.unusedVariables false
/-- the fault of what is to be encoded -/
def encF (k m : Int) (ls : List ByteArray) : Int := if codF k m ≠ 0 then codF k m else if (ls.length : Int) ≠ k then 3 else blkF ls
def encV (k m : Int) (ls : List ByteArray) : List ByteArray := if encF k m ls = 0 then encR k.toNat m.toNat ls else []
def CencPost (k m : Int) (ls : List ByteArray) (w : World) (e : Ending) (w' : World) : Prop :=
  ∃ v, e = .returned (.tuple #[v, errV (encF k m ls)]) ∧ OwnR w' w.heap.size 9 v ((encV k m ls).map Value.string) ∧ Below w.heap.size w w'
set_option maxRecDepth 100000 in
set_option maxHeartbeats 1000000 in
theorem encode_tot (k m : Int) (ls : List ByteArray) (v : Value) (w : World) (hv : Strs w v ls) :
    Calls Try.prog 17 #[iv k, iv m, v] w (CencPost k m ls w) := by
  have HV := Lib.hid hv
  obtain ⟨p, cap, rfl, hl9, _⟩ := hv.get
  unfold CencPost
  obtain ⟨F, hF⟩ : ∃ F, F = encF k m ls := ⟨_, rfl⟩
  obtain ⟨V, hV⟩ : ∃ V, V = encV k m ls := ⟨_, rfl⟩
  rw [← hF, ← hV]
  have hVn : F ≠ 0 → V = [] := fun h => by rw [hV]; unfold encV; rw [if_neg (by rw [← hF]; exact h)]
  have HC := Lib.hid (ccheck_any k m w)
  obtain ⟨C, hC⟩ : ∃ C, C = codF k m := ⟨_, rfl⟩
  rw [← hC] at HC
  by_cases hC0 : C = 0
  · have hk := codF_0 (hC.symm.trans hC0)
    obtain ⟨kn, rfl⟩ : ∃ n : Nat, k = n := ⟨k.toNat, by omega⟩
    obtain ⟨mn, rfl⟩ : ∃ n : Nat, m = n := ⟨m.toNat, by omega⟩
    subst hC0
    rw [errV_0] at HC
    by_cases hlk : (ls.length : Int) = (kn : Int)
    · have hlk' : ls.length = kn := by omega
      have hFe : F = blkF ls := by rw [hF]; unfold encF; rw [← hC, if_neg (by simp), if_neg (by simp [hlk])]
      have HBk := Lib.hid (blocks_any ls _ w HV.out)
      rw [hlk'] at HBk HV ⊢
      have t1 : ((kn : Int) != (kn : Int)) = false := bne_f rfl
      by_cases hF0 : F = 0
      · have hb := blkF_zero (hFe.symm.trans hF0)
        have hVe : V = encR kn mn ls := by rw [hV]; unfold encV; rw [← hF, if_pos hF0]; rfl
        have HEn := Lib.hid (cencode_any kn mn (by omega) (by omega) ls hlk' hb.1 hb.2 _ w HV.out)
        unfold EnPost at HEn
        rw [← hVe] at HEn
        rw [← hFe, hF0, errV_0] at HBk
        rw [hF0, errV_0]
        clear hF hV hVn hC hk hlk hlk' hFe hF0 hb hVe hv HV hl9
        go_enter Try.func17, Try.ntmps17
        go_wp2_with fail
        refine HC.out.mono ?_
        rintro e w' ⟨rfl, rfl⟩
        go_wp2_with fail
        refine HBk.out.mono ?_
        rintro e w' ⟨rfl, rfl⟩
        go_wp2_with fail
        refine HEn.out.mono ?_
        rintro e w' ⟨v', rfl, hO, hB⟩
        have HO := Lib.hid hO
        have HB := Lib.hid hB
        clear hO hB
        go_wp2_with fail
        go_ret2
        exact ⟨_, rfl, HO.out, HB.out⟩
      · have HVn := Lib.hid (hVn hF0)
        rw [← hFe, errV_ne hF0] at HBk
        rw [errV_ne hF0]
        clear hF hV hVn hC hk hlk hlk' hFe hF0 hv HV hl9
        go_enter Try.func17, Try.ntmps17
        go_wp2_with fail
        refine HC.out.mono ?_
        rintro e w' ⟨rfl, rfl⟩
        go_wp2_with fail
        refine HBk.out.mono ?_
        rintro e w' ⟨rfl, rfl⟩
        go_wp2_with fail
        go_ret2
        exact ⟨_, rfl, by rw [HVn.out]; exact OwnR.nil _ _ _, Below.refl _ _⟩
    · have hFe : F = 3 := by rw [hF]; unfold encF; rw [← hC, if_neg (by simp), if_pos hlk]
      have HVn := Lib.hid (hVn (by rw [hFe]; decide))
      have t1 : ((ls.length : Int) != (kn : Int)) = true := bne_t hlk
      have t2 : ((ls.length : Int) == (kn : Int)) = false := beq_f hlk
      obtain ⟨n9, hn9⟩ : ∃ n, n = ls.length := ⟨_, rfl⟩
      rw [← hn9] at t1 t2 ⊢
      rw [hFe]
      clear hF hV hVn hC hk hlk hFe hv HV hl9 hn9
      go_enter Try.func17, Try.ntmps17
      go_wp2_with fail
      refine HC.out.mono ?_
      rintro e w' ⟨rfl, rfl⟩
      go_wp2_with fail
      go_ret2
      exact ⟨_, rfl, by rw [HVn.out]; exact OwnR.nil _ _ _, Below.refl _ _⟩
  · have hFe : F = C := by rw [hF]; unfold encF; rw [← hC, if_pos hC0]
    have HVn := Lib.hid (hVn (by rw [hFe]; exact hC0))
    rw [errV_ne hC0] at HC
    rw [hFe, errV_ne hC0]
    obtain ⟨n9, hn9⟩ : ∃ n, n = ls.length := ⟨_, rfl⟩
    rw [← hn9]
    clear hF hV hVn hC hFe hv HV hl9 hn9 hC0
    go_enter Try.func17, Try.ntmps17
    go_wp2_with fail
    refine HC.out.mono ?_
    rintro e w' ⟨rfl, rfl⟩
    go_wp2_with fail
    go_ret2
    exact ⟨_, rfl, by rw [HVn.out]; exact OwnR.nil _ _ _, Below.refl _ _⟩
/- what is left of so many parts -/
def los (ls : List Bool) (i : Nat) : Bool := ls.getD i false
def hx (ls : List Bool) (n : Nat) : List Nat := (List.range n).filter (fun i => !(los ls i))
theorem hx_yes {ls : List Bool} {n : Nat} (h : los ls n = false) : hx ls (n + 1) = hx ls n ++ [n] := by unfold hx; rw [List.range_succ, List.filter_append]; simp [h]
theorem hx_no {ls : List Bool} {n : Nat} (h : los ls n = true) : hx ls (n + 1) = hx ls n := by unfold hx; rw [List.range_succ, List.filter_append]; simp [h]
theorem hx_le (ls : List Bool) (n : Nat) : (hx ls n).length ≤ n := by
  unfold hx
  have := List.length_filter_le (fun i => !(los ls i)) (List.range n)
  rw [List.length_range] at this; exact this
def hvS (ps : List ByteArray) (ls : List Bool) (n : Nat) : List ByteArray := (hx ls n).map (fun i => ps.getD i ⟨#[]⟩)
def byM (k : Nat) (ls : List Bool) (n : Nat) : List (List UInt8) := (hx ls n).map (fun i => Gv.tab k (cG k i))
def dN (k : Nat) (ls : List Bool) (n : Nat) : Mx.Mt := fun i => cG k ((hx ls n).getD i 0)
theorem byM_take {k n : Nat} (ls : List Bool) (h : k ≤ (hx ls n).length) : (byM k ls n).take k = lt k k (dN k ls n) := by
  apply List.ext_getElem?
  intro i
  rw [List.getElem?_take]
  by_cases hi : i < k
  · rw [if_pos hi, lt_get k _ hi]
    unfold byM dN
    rw [List.getElem?_map, List.getElem?_eq_getElem (by omega), List.getD_eq_getElem?_getD, List.getElem?_eq_getElem (by omega)]
    rfl
  · rw [if_neg hi, List.getElem?_eq_none (by rw [lt_len]; omega)]
def decR (k n : Nat) (ps : List ByteArray) (ls : List Bool) : List ByteArray := (List.range k).map (fun i => Gv.sumS ((hvS ps ls n).take k) (Mx.iv' k (dN k ls n) i))
/-- the fault of what is to be decoded, of a code that is right -/
def decF (k n : Nat) (ps : List ByteArray) (ls : List Bool) : Int :=
  if (hx ls n).length < k then 8 else if blkF (hvS ps ls n) ≠ 0 then blkF (hvS ps ls n) else if Mx.rk k k (dN k ls n) < k then 8 else 0
def DecPost (k n : Nat) (ps : List ByteArray) (ls : List Bool) (w : World) (e : Ending) (w' : World) : Prop :=
  ∃ v, e = .returned (.tuple #[v, errV (decF k n ps ls)]) ∧ OwnR w' w.heap.size 9 v ((if decF k n ps ls = 0 then decR k n ps ls else []).map Value.string) ∧ Below w.heap.size w w'
def DcRel (k n : Nat) (ps : List ByteArray) (ls : List Bool) (w1 : World) (gk : Nat) (v11 v12 idx : Value) (wr : World) : Prop :=
  ∃ (i : Nat) (vs : List Value), i + gk = n ∧ idx = iv i ∧ wr.ownsRow w1.heap.size 9 1 v11 (hx ls i).length ((hvS ps ls i).map Value.string) ∧ wr.ownsRow w1.heap.size 74 1 v12 (hx ls i).length vs ∧
    (∀ (j : Nat) u l, vs[j]? = some u → (byM k ls i)[j]? = some l → RowB w1 u l) ∧ (∀ g, v11.ownBlock = some g → v12.ownBlock ≠ some g) ∧ Below w1.heap.size w1 wr
end Go.Proofs.Ytcldioneiededaa
