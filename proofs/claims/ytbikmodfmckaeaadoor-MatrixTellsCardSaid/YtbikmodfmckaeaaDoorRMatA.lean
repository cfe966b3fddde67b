/- The walk of the references' Matrix: the fault of a matrix. -/
import Derived.Test.YtbikmodfmckaeaaDoorMatM
import Derived.Test.YtbikmodfmckaeaaDoorRPolX
namespace Go.Proofs.YtbikmodfmckaeaaDoor
open Go.ChangeShapes Go.WideShapes Go.ChangeAt Go.RowKit
set_option linter.unusedVariables false
theorem chkF_four {M : List (List UInt8)} (h : 12 < M.length) : chkF M = 4 := by unfold chkF; rw [if_pos (.inl h)]
theorem chkF_wide {M : List (List UInt8)} {i : Nat} {l : List UInt8} (h : M[i]? = some l) (hl : 12 < l.length) : chkF M = 4 := by
  unfold chkF
  rw [if_pos (.inr (List.any_eq_true.2 ⟨l, List.mem_of_getElem? h, decide_eq_true hl⟩))]
theorem chkF_ok {M : List (List UInt8)} (h : ¬ 12 < M.length) (hw : ∀ (i : Nat) l, M[i]? = some l → l.length ≤ 12) : chkF M = if M.any (fun l => l.length != len0 M) = true then 3 else 0 := by
  unfold chkF
  rw [if_neg]
  rintro (h1 | h1)
  · exact h h1
  · obtain ⟨l, hl, hd⟩ := List.any_eq_true.1 h1
    obtain ⟨i, hi, rfl⟩ := List.mem_iff_getElem.1 hl
    have := hw i _ (List.getElem?_eq_getElem hi)
    have h2 := of_decide_eq_true hd
    omega
theorem len0_at {M : List (List UInt8)} {l : List UInt8} (h : M[0]? = some l) : len0 M = l.length := by
  cases M with
  | nil => cases h
  | cons a t => cases h; rfl
def RMaRel (M : List (List UInt8)) (w : World) (gk : Nat) (i : Value) (wr : World) : Prop :=
  ∃ k nd : Nat, k + gk = M.length ∧ i = iv k ∧ wr = w.drewN nd ∧ ∀ (j : Nat) l, j < k → M[j]? = some l → l.length ≤ 12
def RMbRel (M : List (List UInt8)) (w : World) (gk : Nat) (i : Value) (wr : World) : Prop :=
  ∃ k nd : Nat, k + gk = M.length ∧ i = iv k ∧ wr = w.drewN nd ∧ ∀ (j : Nat) l, j < k → M[j]? = some l → l.length = len0 M
set_option maxRecDepth 100000 in
set_option maxHeartbeats 1000000 in
theorem rmatrix_any (M : List (List UInt8)) (v : Value) (w : World) (hv : RowsM w v M) :
    Calls Tryd.prog 23 #[v] w fun e w' => e = .returned (iv (chkF M)) ∧ ∃ k, w' = w.drewN k := by
  have HV := Lib.hid hv
  obtain ⟨p, cap, rfl, hl1, hl2, _⟩ := hv.shape
  unfold maxLen at hl2
  generalize hn : M.length = n at *
  have Hn := Lib.hid hn
  clear hv hn
  by_cases h12 : 12 < n
  · have t1 : decide (12 < (n : Int)) = true := dec_t (by omega)
    have HF := Lib.hid (chkF_four (by rw [Hn.out]; exact h12))
    go_enter Tryd.func23, Tryd.ntmps23
    go_wp2_with fail
    go_ret
    exact ⟨by rw [HF.out]; rfl, 0, rfl⟩
  · have t1 : decide (12 < (n : Int)) = false := dec_f (by omega)
    go_enter Tryd.func23, Tryd.ntmps23
    go_wp2_with fail
    go_loopg [3] n (fun gk i wr => RMaRel M w gk i wr)
    case atStart => exact ⟨0, 0, by rw [Hn.out]; omega, rfl, rfl, fun j _ hj => by omega⟩
    case round =>
      obtain ⟨k, nd, hk, rfl, hwr, hall⟩ := hrel
      rw [Hn.out] at hk
      have Hk := Lib.hid hk
      have Hall := Lib.hid hall
      have Hwr := Lib.hid hwr
      clear hk hall
      by_cases hlt : k < n
      · obtain ⟨l, hl⟩ : ∃ l, M[k]? = some l := ⟨M[k]'(by rw [Hn.out]; exact hlt), List.getElem?_eq_getElem _⟩
        obtain ⟨g, o, c, p2, c2, hv, hg, hcl, hrb⟩ := HV.out.at hl
        injection hv with e1 e2 e3
        have d1 : wr.cell? ⟨g, o + k, none⟩ = some (.slice p2 l.length c2) := by rw [hwr]; simpa using hcl
        obtain ⟨_, _, hz, hz1, hz2⟩ := RowB.shape hrb
        injection hz with _ hz3 hz4
        subst hz4
        unfold maxLen at hz2
        obtain ⟨m, hm⟩ : ∃ m, m = l.length := ⟨_, rfl⟩
        rw [← hm] at d1 hz1
        have Hl := Lib.hid hl
        have Hm := Lib.hid hm
        have He1 := Lib.hid e1
        rw [e1]
        clear hwr hcl hrb hl e1 e2 e3 hm
        by_cases h12m : 12 < m
        · have t2 : decide (12 < (m : Int)) = true := dec_t (by omega)
          have HF := Lib.hid (chkF_wide Hl.out (by rw [← Hm.out]; exact h12m))
          go_wp2_with fail
          go_ret
          exact ⟨by rw [HF.out]; rfl, nd, Hwr.out⟩
        · have t2 : decide (12 < (m : Int)) = false := dec_f (by omega)
          go_wp2_with fail
          rw [← He1.out]
          go_roundg (gk - 1)
          case measure => have := Hk.out; omega
          case rel =>
            refine ⟨k + 1, nd, by rw [Hn.out]; have := Hk.out; omega, by go_num, Hwr.out, fun j l' hj h => ?_⟩
            by_cases e : j = k
            · subst e
              rw [Hl.out] at h
              obtain rfl := Option.some.inj h
              rw [← Hm.out]; omega
            · exact Hall.out j l' (by omega) h
      · obtain rfl : k = n := by have := Hk.out; omega
        have hF := chkF_ok (M := M) (by rw [Hn.out]; omega) (fun i l hi => Hall.out i l (by rw [← Hn.out]; exact (List.getElem?_eq_some_iff.1 hi).1) hi)
        have HF := Lib.hid hF
        clear hlt hF Hall Hk hwr
        go_wp2_with fail
        go_loopg [4] k (fun gk i wr => RMbRel M w gk i wr)
        case atStart => exact ⟨0, nd, by rw [Hn.out]; omega, rfl, Hwr.out, fun j _ hj => by omega⟩
        case round =>
          clear Hwr nd
          obtain ⟨q, nd, hk, rfl, hwr, hall⟩ := hrel
          rw [Hn.out] at hk
          have Hk := Lib.hid hk
          have Hall := Lib.hid hall
          have Hwr := Lib.hid hwr
          clear hk hall
          by_cases hlt : q < k
          · obtain ⟨l, hl⟩ : ∃ l, M[q]? = some l := ⟨M[q]'(by rw [Hn.out]; exact hlt), List.getElem?_eq_getElem _⟩
            obtain ⟨l0, hl0⟩ : ∃ l, M[0]? = some l := ⟨M[0]'(by rw [Hn.out]; omega), List.getElem?_eq_getElem _⟩
            obtain ⟨g, o, c, p2, c2, hv, hg, hcl, hrb⟩ := HV.out.at hl
            obtain ⟨g', o', c', p3, c3, hv', hg', hcl', hrb'⟩ := HV.out.at hl0
            rw [hv'] at hv
            injection hv with e1 e2 e3
            injection e1 with e1
            injection e1 with e4 e5
            subst e4 e5 e3
            injection hv' with e1 e2 e3
            have d1 : wr.cell? ⟨g', o' + q, none⟩ = some (.slice p2 l.length c2) := by rw [hwr]; simpa using hcl
            have d0 : wr.cell? ⟨g', o', none⟩ = some (.slice p3 l0.length c3) := by rw [hwr]; simpa using hcl'
            obtain ⟨m, hm⟩ : ∃ m, m = l.length := ⟨_, rfl⟩
            obtain ⟨m0, hm0⟩ : ∃ m, m = l0.length := ⟨_, rfl⟩
            rw [← hm] at d1
            rw [← hm0] at d0
            have Hl := Lib.hid hl
            have Hm := Lib.hid hm
            have H0 : Hid (len0 M = m0) := Lib.hid (by rw [hm0]; exact len0_at hl0)
            have hn0 : 0 < k := by omega
            have hn0I : (0 : Int) < (k : Int) := by omega
            have hqI : (q : Int) < (k : Int) := by omega
            have He1 := Lib.hid e1
            rw [e1]
            clear hwr hcl hrb hcl' hrb' hl hl0 e1 e2 e3 hm hm0 h12 t1
            by_cases he : m = m0
            · have t2 : ((m : Int) != (m0 : Int)) = false := bne_f (by omega)
              have He := Lib.hid he
              clear he
              go_wp2_with fail
              go_quiet (fail)
              go_wp2_with fail
              rw [← He1.out]
              go_roundg (gk - 1)
              case measure => have := Hk.out; omega
              case rel =>
                refine ⟨q + 1, nd + nq, by rw [Hn.out]; have := Hk.out; omega, by go_num, by rw [Hwr.out, World.drewN_drewN], fun j l' hj h => ?_⟩
                by_cases e : j = q
                · subst e
                  rw [Hl.out] at h
                  obtain rfl := Option.some.inj h
                  rw [← Hm.out, He.out, H0.out]
                · exact Hall.out j l' (by omega) h
            · have t2 : ((m : Int) != (m0 : Int)) = true := bne_t (by omega)
              have HB : Hid (chkF M = 3) := Lib.hid (by
                rw [HF.out, if_pos]
                exact List.any_eq_true.2 ⟨l, List.mem_of_getElem? Hl.out, bne_iff_ne.2 (by rw [← Hm.out, H0.out]; exact he)⟩)
              clear he
              go_wp2_with fail
              go_quiet (fail)
              go_wp2_with fail
              go_ret
              exact ⟨by rw [HB.out]; rfl, nd + nq, by rw [Hwr.out, World.drewN_drewN]⟩
          · obtain rfl : q = k := by have := Hk.out; omega
            have HB : Hid (chkF M = 0) := Lib.hid (by
              rw [HF.out, if_neg]
              intro h
              obtain ⟨l, hl, hd⟩ := List.any_eq_true.1 h
              obtain ⟨i, hi, rfl⟩ := List.mem_iff_getElem.1 hl
              exact (bne_iff_ne.1 hd) (Hall.out i _ (by rw [← Hn.out]; exact hi) (List.getElem?_eq_getElem hi)))
            clear hwr
            go_wp2_with fail
            go_ret
            exact ⟨by rw [HB.out]; rfl, nd, Hwr.out⟩
end Go.Proofs.YtbikmodfmckaeaaDoor
