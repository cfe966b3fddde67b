/- The walks of code.Check, rows, encode, Encode. -/
import Derived.Test.YtcldioneiededaaConW
import Derived.Test.YtcldioneiededaaBlk
import Derived.Test.YtcldioneiededaaMatQ
namespace Go.Proofs.Ytcldioneiededaa
open Go.ChangeShapes Go.WideShapes Go.ChangeAt Go.RowKit
set_option linter.unusedVariables false
/-- the fault of a code -/
def codF (k m : Int) : Int := if k < 1 ∨ m < 0 ∨ 12 < k ∨ 12 - k < m then 1 else 0
theorem codF_0 {k m : Int} (h : codF k m = 0) : 1 ≤ k ∧ 0 ≤ m ∧ k + m ≤ 12 := by
  unfold codF at h
  by_cases c : k < 1 ∨ m < 0 ∨ 12 < k ∨ 12 - k < m
  · rw [if_pos c] at h; cases h
  · omega
set_option maxRecDepth 100000 in
theorem ccheck_any (k m : Int) (w : World) :
    Calls Try.prog 39 #[iv k, iv m] w fun e w' => e = .returned (errV (codF k m)) ∧ w = w' := by
  obtain ⟨F, hF⟩ : ∃ F, F = codF k m := ⟨_, rfl⟩
  rw [← hF]
  unfold codF at hF
  by_cases h1 : k < 1
  · rw [if_pos (.inl h1)] at hF
    subst hF
    have d1 : decide (k < 1) = true := dec_t h1
    go_enter Try.func39, Try.ntmps39
    go_wp2_with fail
    go_ret
    exact ⟨rfl, rfl⟩
  · by_cases h2 : m < 0
    · rw [if_pos (.inr (.inl h2))] at hF
      subst hF
      have d1 : decide (k < 1) = false := dec_f h1
      have d2 : decide (m < 0) = true := dec_t h2
      go_enter Try.func39, Try.ntmps39
      go_wp2_with fail
      go_ret
      exact ⟨rfl, rfl⟩
    · by_cases h3 : 12 < k
      · rw [if_pos (.inr (.inr (.inl h3)))] at hF
        subst hF
        have d1 : decide (k < 1) = false := dec_f h1
        have d2 : decide (m < 0) = false := dec_f h2
        have d3 : decide (12 < k) = true := dec_t h3
        go_enter Try.func39, Try.ntmps39
        go_wp2_with fail
        go_ret
        exact ⟨rfl, rfl⟩
      · have hw : IntKind.i64.wrap (12 - k) = 12 - k := IntWalk.i64_in _ (by omega)
        by_cases h4 : 12 - k < m
        · rw [if_pos (.inr (.inr (.inr h4)))] at hF
          subst hF
          go_enter Try.func39, Try.ntmps39
          go_wp2_with fail
          go_ret
          exact ⟨rfl, rfl⟩
        · rw [if_neg (by omega)] at hF
          subst hF
          go_enter Try.func39, Try.ntmps39
          go_wp2_with fail
          go_ret
          exact ⟨rfl, rfl⟩
/-- a small number as a byte -/
def by8 (i : Nat) : UInt8 := UInt8.ofNat i
theorem by8_nat {i : Nat} (h : i < 256) : (by8 i).toNat = i := by unfold by8; rw [UInt8.toNat_ofNat', Nat.mod_eq_of_lt (by omega)]
theorem bv_by8 {i : Nat} (h : i < 256) : Value.int .u8 (i : Int) = bv (by8 i) := by show _ = Value.int .u8 ((by8 i).toNat : Int); rw [by8_nat h]
def blv (a n : Nat) : List Value := (List.range n).map fun q => bv (by8 (a + q))
theorem blv_zero (a : Nat) : blv a 0 = [] := rfl
theorem blv_succ (a n : Nat) : blv a n ++ [bv (by8 (a + n))] = blv a (n + 1) := by unfold blv; rw [List.range_succ, List.map_append]; rfl
theorem blv_tab (a n : Nat) : blv a n = (Gv.tab n (fun q => by8 (a + q))).map bv := by unfold blv Gv.tab; rw [List.map_map]; rfl
/-- by which data each part is -/
def cG (k : Nat) : Mx.Mt := fun i j => if i < k then Mx.un i j else Gf.inv (by8 i ^^^ by8 j)
theorem cG_split (k m : Nat) : lt k k Mx.un ++ cau (Gv.tab m (fun q => by8 (k + q))) (Gv.tab k (fun q => by8 (0 + q))) = lt (k + m) k (cG k) := by
  apply List.ext_getElem?
  intro i
  by_cases h : i < k
  · rw [List.getElem?_append_left (by rw [lt_len]; exact h), lt_get k _ h, lt_get k _ (by omega)]
    congr 1
    exact Gv.tab_ext (fun j _ => by unfold cG; rw [if_pos h])
  · rw [List.getElem?_append_right (by rw [lt_len]; omega), lt_len]
    unfold cau
    rw [List.getElem?_map, Gv.tab_get?]
    by_cases h2 : i < k + m
    · rw [if_pos (by omega), lt_get k _ h2]
      rw [show k + (i - k) = i by omega]
      show some _ = _
      congr 1
      unfold Gv.tab
      show List.map _ (List.map _ _) = _
      rw [List.map_map]
      refine List.map_congr_left (fun j _ => ?_)
      unfold cG
      rw [if_neg h]
      simp
    · rw [if_neg (by omega), List.getElem?_eq_none (by rw [lt_len]; omega)]; rfl
def RoRel (a n : Nat) (w : World) (gk : Nat) (v idx : Value) (wr : World) : Prop :=
  ∃ i : Nat, i + gk = n ∧ idx = iv i ∧ wr.ownsRow w.heap.size 5 1 v i (blv a i) ∧ Below w.heap.size w wr
theorem row_lt2 (w : World) (u v : Value) (E : TypeId) : (w.alloc (.cells #[u, v] E)).cell? ⟨w.heap.size, 0, none⟩ = some u ∧ (w.alloc (.cells #[u, v] E)).cell? ⟨w.heap.size, 1, none⟩ = some v := by
  constructor <;> (rw [cell_of_row _ _ _ _ _ _ (heap_alloc_new w _)]; rfl)
theorem RowsM.row {w : World} {v : Value} {M : List (List UInt8)} (h : RowsM w v M) : ∃ vs, Row w v vs ∧ vs.length = M.length ∧ (∀ u ∈ vs, u.oneCell' = true) ∧ ∀ (i : Nat) l, M[i]? = some l → ∃ u, vs[i]? = some u ∧ RowB w u l := by
  obtain ⟨vs, h1, h2, h3⟩ := h
  refine ⟨vs, h1, h2, fun u hu => ?_, h3⟩
  obtain ⟨i, hi, rfl⟩ := List.mem_iff_getElem.1 hu
  obtain ⟨u', hu', hrb⟩ := h3 i _ (List.getElem?_eq_getElem (by omega))
  rw [List.getElem?_eq_getElem hi] at hu'
  obtain ⟨p, c, hv, _⟩ := RowB.shape hrb
  rw [Option.some.inj hu', hv]; rfl
set_option maxRecDepth 100000 in
set_option maxHeartbeats 2000000 in
theorem rows_any (k m : Nat) (h1 : 1 ≤ k) (h2 : k + m ≤ 12) (w : World) :
    Calls Try.prog 44 #[iv k, iv m] w (CaPost (lt (k + m) k (cG k)) w) := by
  go_enter Try.func44, Try.ntmps44
  go_wp2_with fail
  go_loopg [6, 7, 10] k (fun gk v6 v7 v10 wr => RoRel 0 k w gk v6 v10 wr)
  case atStart => exact ⟨0, by omega, rfl, World.ownsRow_nil _ _ _ _, Below.refl _ _⟩
  case round =>
    obtain ⟨i, hi, rfl, hO, hB⟩ := hrel
    have Hi := Lib.hid hi
    have HO := Lib.hid hO
    have HB := Lib.hid hB
    have hz := hB.size
    clear hi hO hB
    by_cases hik : i < k
    · have hi9 : i + 1 ≤ 1000000 := by omega
      go_wp2_with (at_builtin; refine app1 w wr _ 5 74 rfl _ _ rfl w.heap.size Try.underlying74 info_byteV rfl _ i _ rfl _ rfl rfl HO.out rfl hi9 (by decide) hz HB.out ?_)
      intro v8 w8 hown8 hb8 _ _
      rw [bv_by8 (by omega), show by8 i = by8 (0 + i) by rw [Nat.zero_add], blv_succ] at hown8
      have HO8 := Lib.hid hown8
      have HB8 := Lib.hid hb8
      clear hown8 hb8 HO HB
      go_wp2_with fail
      go_roundg (gk - 1)
      case measure => have := Hi.out; omega
      case rel => exact ⟨i + 1, by have := Hi.out; omega, by go_num, HO8.out, HB8.out⟩
    · have hik' : i = k := by have := Hi.out; omega
      subst hik'
      have HY : Hid (OwnB wr w.heap.size u6 (Gv.tab i (fun q => by8 (0 + q)))) := Lib.hid (by
        have h := OwnR.of_owns HO.out
        rw [blv_tab] at h; exact h)
      obtain ⟨w1, hw1⟩ : ∃ x : World, x = wr := ⟨_, rfl⟩
      subst hw1
      clear HO hik
      go_wp2_with fail
      go_loopg [5, 8, 20] m (fun gk v5 v8 v20 wr => RoRel i m w1 gk v5 v20 wr)
      case atStart => exact ⟨0, by omega, rfl, World.ownsRow_nil _ _ _ _, Below.refl _ _⟩
      case round =>
        obtain ⟨j, hj, rfl, hO, hB⟩ := hrel
        have Hj := Lib.hid hj
        have HO := Lib.hid hO
        have HBx := Lib.hid hB
        have hz2 := hB.size
        clear hj hO hB
        by_cases hjm : j < m
        · have hj9 : j + 1 ≤ 1000000 := by omega
          go_wp2_with (at_builtin; refine app1 w1 wr _ 5 74 rfl _ _ rfl w1.heap.size Try.underlying74 info_byteV rfl _ j _ rfl _ rfl rfl HO.out rfl hj9 (by decide) hz2 HBx.out ?_)
          intro v8 w8 hown8 hb8 _ _
          rw [show ((i : Int) + (j : Int)) = ((i + j : Nat) : Int) by omega, bv_by8 (by omega), blv_succ] at hown8
          have HO8 := Lib.hid hown8
          have HB8 := Lib.hid hb8
          clear hown8 hb8 HO HBx
          go_wp2_with fail
          go_roundg (gk - 1)
          case measure => have := Hj.out; omega
          case rel => exact ⟨j + 1, by have := Hj.out; omega, by go_num, HO8.out, HB8.out⟩
        · have hjm' : j = m := by have := Hj.out; omega
          subst hjm'
          have HX : Hid (OwnB wr w1.heap.size u5 (Gv.tab j (fun q => by8 (i + q)))) := Lib.hid (by
            have h := OwnR.of_owns HO.out
            rw [blv_tab] at h; exact h)
          have HY2 := Lib.hid (OwnR.below HY.out HBx.out)
          have HB2 := Lib.hid (HB.out.trans (HBx.out.mono hz))
          have hzz := HB2.out.size
          have hUn := unit_any i h1 (by omega) wr
          unfold UnPost at hUn
          have HUn := Lib.hid hUn
          clear HO HBx HB HY hUn hjm
          go_wp2_with fail
          refine HUn.out.mono ?_
          rintro e w2 ⟨bs, rfl, hU, hb2⟩
          have HU := Lib.hid hU.rowsM
          have HX2 := Lib.hid (OwnB.row (OwnR.below HX.out hb2))
          have HY3 := Lib.hid (OwnB.row (OwnR.below HY2.out hb2))
          have HB3 := Lib.hid (HB2.out.trans (hb2.mono hzz))
          have hzw := HB3.out.size
          have HCa := Lib.hid (cauchy_of _ _ (by rw [Gv.tab_len]; omega) (by rw [Gv.tab_len]; omega) _ _ w2 HX2.out HY3.out)
          unfold CaPost at HCa
          clear hU hb2 HUn HX HY2 HB2 HX2 HY3
          go_wp2_with fail
          refine HCa.out.mono ?_
          rintro e w3 ⟨v3, rfl, hM3, hb3⟩
          have hU3 := HU.out.below hb3
          have hB4 := HB3.out.trans (hb3.mono hzw)
          obtain ⟨vs2, r1, r2, r3, r4⟩ := hM3.row
          obtain ⟨vs1, q1, q2, q3, q4⟩ := hU3.row
          obtain ⟨p3, c3, hv3, _⟩ := r1.shape
          obtain ⟨n3, hn3⟩ : ∃ n, n = vs2.length := ⟨_, rfl⟩
          rw [← hn3] at hv3
          subst hv3
          have hal : Below w3.heap.size w3 (w3.alloc (.cells #[.slice (some ⟨wr.heap.size, 0, none⟩) i i, .slice p3 n3 c3] 85)) := (Below.refl _ _).alloc (Nat.le_refl _) _
          obtain ⟨k0, k1⟩ := row_lt2 w3 (.slice (some ⟨wr.heap.size, 0, none⟩) i i) (.slice p3 n3 c3) 85
          rw [lt_len] at q2
          have hcl : (cau (Gv.tab j fun q => by8 (i + q)) (Gv.tab i fun q => by8 (0 + q))).length = j := by unfold cau; rw [List.length_map, Gv.tab_len]
          rw [hcl] at r2
          have HCo := Lib.hid (concat_rows _ _ vs1 vs2 w3.heap.size _ (by simp) k0 k1 (q1.below hal) (r1.below hal) (by omega) (by omega) q3 r3)
          unfold ConPostrows at HCo
          have hres : ∀ W v, Below (w3.alloc (.cells #[.slice (some ⟨wr.heap.size, 0, none⟩) i i, .slice p3 n3 c3] 85)).heap.size (w3.alloc (.cells #[.slice (some ⟨wr.heap.size, 0, none⟩) i i, .slice p3 n3 c3] 85)) W → Row W v (vs1 ++ vs2) → RowsM W v (lt (i + j) i (cG i)) := fun W v hb hr => by
            have hbb := hal.trans (hb.mono hal.size)
            rw [← cG_split]
            refine ⟨_, hr, by rw [List.length_append, List.length_append, lt_len, hcl, q2, r2], fun a l hl => ?_⟩
            by_cases ha : a < i
            · rw [List.getElem?_append_left (by rw [lt_len]; exact ha)] at hl
              obtain ⟨u, hu, hb⟩ := q4 a l hl
              exact ⟨u, by rw [List.getElem?_append_left (by omega)]; exact hu, RowB.below hb hbb⟩
            · rw [List.getElem?_append_right (by rw [lt_len]; omega), lt_len] at hl
              obtain ⟨u, hu, hb⟩ := r4 (a - i) l hl
              exact ⟨u, by rw [List.getElem?_append_right (by omega), q2]; exact hu, RowB.below hb hbb⟩
          have Hres := Lib.hid hres
          have HB5 := Lib.hid (hB4.trans (hal.mono hB4.size))
          clear hM3 hb3 hU3 hB4 r1 r2 r3 r4 q1 q2 q3 q4 hal k0 k1 hcl hres hn3 HCa HU HB3
          go_wp2_with fail
          refine HCo.out.mono ?_
          rintro e w4 ⟨v4, rfl, hO4, hb4⟩
          have HR := Lib.hid (Hres.out w4 v4 hb4 (OwnR.row (OwnR.of_owns hO4)))
          have HB6 := Lib.hid (HB5.out.trans (hb4.mono HB5.out.size))
          clear hO4 hb4 HCo Hres
          go_wp2_with fail
          go_ret
          exact ⟨_, rfl, HR.out, HB6.out⟩
end Go.Proofs.Ytcldioneiededaa
