/- The walks of matrix.Check, Inverse, Rank, at whatever matrix. -/
import Derived.Test.YtbikmodfmckaeaaDoorMatT
namespace Go.Proofs.YtbikmodfmckaeaaDoor
open Go.ChangeShapes Go.WideShapes Go.ChangeAt Go.RowKit
set_option linter.unusedVariables false
def len0 (M : List (List UInt8)) : Nat := (M.headD []).length
/-- the fault of a matrix -/
def chkF (M : List (List UInt8)) : Int := if 12 < M.length ∨ M.any (fun l => decide (12 < l.length)) = true then 4 else if M.any (fun l => l.length != len0 M) = true then 3 else 0
theorem chkF_0 {M : List (List UInt8)} (h : chkF M = 0) : M.length ≤ 12 ∧ len0 M ≤ 12 ∧ ∀ (i : Nat) l, M[i]? = some l → l.length = len0 M := by
  unfold chkF at h
  by_cases h1 : 12 < M.length ∨ M.any (fun l => decide (12 < l.length)) = true
  · rw [if_pos h1] at h; cases h
  · rw [if_neg h1] at h
    by_cases h2 : M.any (fun l => l.length != len0 M) = true
    · rw [if_pos h2] at h; cases h
    · have h3 : ∀ l ∈ M, l.length ≤ 12 := fun l hl => by
        refine Nat.le_of_not_lt (fun hc => h1 (.inr ?_))
        rw [List.any_eq_true]; exact ⟨l, hl, dec_t hc⟩
      refine ⟨by omega, ?_, fun i l hl => ?_⟩
      · unfold len0
        cases M with
        | nil => simp
        | cons a t => exact h3 a (List.mem_cons_self ..)
      · refine Classical.byContradiction (fun hc => h2 ?_)
        rw [List.any_eq_true]; exact ⟨l, List.mem_of_getElem? hl, bne_iff_ne.2 hc⟩
/-- a matrix's entries -/
def en (M : List (List UInt8)) : Mx.Mt := fun i j => Gv.at' (M.getD i []) j
theorem lt_en {M : List (List UInt8)} {L : Nat} (h : ∀ (i : Nat) l, M[i]? = some l → l.length = L) : M = lt M.length L (en M) := by
  apply List.ext_getElem?
  intro i
  by_cases hi : i < M.length
  · rw [lt_get L _ hi, List.getElem?_eq_getElem hi]
    congr 1
    have hl := h i _ (List.getElem?_eq_getElem hi)
    have e : en M i = fun j => Gv.at' M[i] j := by
      funext j
      unfold en
      rw [List.getD_eq_getElem?_getD, List.getElem?_eq_getElem hi]; rfl
    rw [e, ← hl]
    exact (Gv.tab_self M[i]).symm
  · rw [List.getElem?_eq_none (by omega), List.getElem?_eq_none (by rw [lt_len]; omega)]
def slen : Value → Nat
  | .slice _ n _ => n
  | _ => 0
theorem any_lens (p : Nat → Bool) : ∀ {M : List (List UInt8)} {vs : List Value}, vs.length = M.length → (∀ (i : Nat) l, M[i]? = some l → ∃ u, vs[i]? = some u ∧ slen u = l.length) → vs.any (fun u => p (slen u)) = M.any (fun l => p l.length)
  | [], [], _, _ => rfl
  | [], _ :: _, h, _ => by simp at h
  | _ :: _, [], h, _ => by simp at h
  | l :: M, u :: vs, h, hx => by
    obtain ⟨u', hu, hl⟩ := hx 0 l rfl
    obtain rfl : u = u' := Option.some.inj hu
    rw [List.any_cons, List.any_cons, hl, any_lens p (by simpa using h) (fun i l hl => hx (i + 1) l hl)]
theorem check1P (u : Value) (hu : ∃ p n c, u = .slice p n c ∧ n ≤ 9223372036854775807) (w : World) :
    Calls Tryd.prog 67 (#[u] ++ #[]) w fun e w' => e = .returned (.bool (decide (12 < slen u))) ∧ w = w' := by
  obtain ⟨p, n, c, rfl, hn⟩ := hu
  show Calls Tryd.prog _ #[.slice p n c] w fun e w' => e = .returned (.bool (decide (12 < n))) ∧ w = w'
  by_cases h : 12 < n
  · have hd : decide (12 < n) = true := dec_t h
    rw [hd]
    have h2 : decide ((12 : Int) < (n : Int)) = true := dec_t (by omega)
    clear hd
    go_enter Tryd.func67, Tryd.ntmps67
    go_wp2
    go_ret
    exact ⟨rfl, rfl⟩
  · have hd : decide (12 < n) = false := dec_f h
    rw [hd]
    have h2 : decide ((12 : Int) < (n : Int)) = false := dec_f (by omega)
    clear hd
    go_enter Tryd.func67, Tryd.ntmps67
    go_wp2
    go_ret
    exact ⟨rfl, rfl⟩
theorem check2P (u : Value) (hu : ∃ p n c, u = .slice p n c ∧ n ≤ 9223372036854775807) (b g o N c n0 c0 : Nat) (p0 : Option Addr) (w : World) (hN : 0 < N) (hN9 : N ≤ 9223372036854775807) (hb : w.cell? ⟨b, 0, none⟩ = some (.slice (some ⟨g, o, none⟩) N c)) (h0 : w.cell? ⟨g, o, none⟩ = some (.slice p0 n0 c0)) :
    Calls Tryd.prog 68 (#[u] ++ #[.pointer (some ⟨b, 0, none⟩)]) w fun e w' => e = .returned (.bool (slen u != n0)) ∧ w = w' := by
  obtain ⟨p, n, c', rfl, hn⟩ := hu
  show Calls Tryd.prog _ #[.slice p n c', .pointer (some ⟨b, 0, none⟩)] w fun e w' => e = .returned (.bool (n != n0)) ∧ w = w'
  by_cases h : n = n0
  · rw [show (n != n0) = false by rw [h]; exact bne_self_eq_false _]
    subst h
    have t1 : ((n : Int) != (n : Int)) = false := bne_f rfl
    go_enter Tryd.func68, Tryd.ntmps68
    go_wp2
    go_ret
    exact ⟨rfl, rfl⟩
  · rw [show (n != n0) = true from bne_iff_ne.2 h]
    have t1 : ((n : Int) != (n0 : Int)) = true := bne_t (by omega)
    have t2 : ((n : Int) == (n0 : Int)) = false := beq_f (by omega)
    clear h
    go_enter Tryd.func68, Tryd.ntmps68
    go_wp2
    go_ret
    exact ⟨rfl, rfl⟩
set_option maxRecDepth 100000 in
set_option maxHeartbeats 2000000 in
theorem check_any (M : List (List UInt8)) (v : Value) (w : World) (hv : RowsM w v M) :
    Calls Tryd.prog 24 #[v] w fun e w' => e = .returned (errV (chkF M)) ∧ Below w.heap.size w w' := by
  obtain ⟨vs, hr, hlen, hrow⟩ := hv
  obtain ⟨p, cap, rfl, hnc, hcm, hc⟩ := hr.shape
  have hus : ∀ x ∈ vs, ∃ p n c, x = .slice p n c ∧ n ≤ 9223372036854775807 := fun x hx => by
    obtain ⟨i, hi, rfl⟩ := List.mem_iff_getElem.1 hx
    obtain ⟨u', hu', hrb⟩ := hrow i _ (List.getElem?_eq_getElem (by omega))
    rw [List.getElem?_eq_getElem hi] at hu'
    obtain ⟨p, c, hv, h1, h2⟩ := RowB.shape hrb
    unfold maxLen at h2
    exact ⟨p, _, c, by rw [Option.some.inj hu', hv], by omega⟩
  have hsl : ∀ (i : Nat) l, M[i]? = some l → ∃ u, vs[i]? = some u ∧ slen u = l.length := fun i l hl => by
    obtain ⟨u, hu, hrb⟩ := hrow i l hl
    obtain ⟨p, c, hv, _⟩ := RowB.shape hrb
    exact ⟨u, hu, by rw [hv]; rfl⟩
  have ha1 := any_lens (fun n => decide (12 < n)) hlen hsl
  have ha2 := any_lens (fun n => n != len0 M) hlen hsl
  have hbw : Below w.heap.size w (w.alloc (.cells #[.slice p vs.length cap] 44)) := (Below.refl _ _).alloc (Nat.le_refl _) _
  have hr1 := hr.below hbw
  have eg1 := enters_of Tryd.func67 (by kernel_rfl) rfl
  have eg2 := enters_of Tryd.func68 (by kernel_rfl) rfl
  have hI1 := containsFunc_rows (fun u : Value => u) vs (fun u => decide (12 < slen u)) _ #[] eg1 _ _ (by rw [List.map_id']; exact hr1) (fun x hx => check1P x (hus x hx) _)
  rw [ha1] at hI1
  have hI2 : Calls Tryd.prog 66 #[.slice p vs.length cap, .func (.func 68) #[] #[.pointer (some ⟨w.heap.size, 0, none⟩)]] (w.alloc (.cells #[.slice p vs.length cap] 44)) fun e w' => e = .returned (.bool (M.any (fun l => l.length != len0 M))) ∧ (w.alloc (.cells #[.slice p vs.length cap] 44)) = w' := by
    rw [← ha2]
    refine containsFunc_rows (fun u : Value => u) vs (fun u => slen u != len0 M) _ #[.pointer (some ⟨w.heap.size, 0, none⟩)] eg2 _ _ (by rw [List.map_id']; exact hr1) (fun x hx => ?_)
    have h0 : 0 < vs.length := List.length_pos_of_mem hx
    obtain ⟨g, o, c', hv', h1, h2, h3⟩ := hr.pos h0
    injection hv' with e1 e2 e3
    subst e1 e3
    have hM0 : M[0]? = some (M.headD []) := by
      cases M with
      | nil => rw [hlen] at h0; exact absurd h0 (by simp)
      | cons a t => rfl
    obtain ⟨u0, hu0, hrb⟩ := hrow 0 _ hM0
    obtain ⟨p0, c0, hv0, _⟩ := RowB.shape hrb
    have h4 := h3 0 h0
    rw [hu0, hv0, Nat.add_zero] at h4
    unfold maxLen at h2
    exact check2P x (hus x hx) w.heap.size g o vs.length cap (M.headD []).length c0 p0 _ h0 (by omega) (by rw [cell_of_row _ _ _ _ _ _ (heap_alloc_new w _)]; rfl) ((hbw.cell (p := ⟨g, o, none⟩) (World.block_lt_of_cell? w _ h4)).trans h4)
  have HI1 := Lib.hid hI1
  have HI2 := Lib.hid hI2
  have HB := Lib.hid hbw
  have hm9 : vs.length ≤ 9223372036854775807 := by unfold maxLen at hcm; omega
  obtain ⟨F, hF⟩ : ∃ F, F = chkF M := ⟨_, rfl⟩
  rw [← hF]
  have hFe : F = if 12 < vs.length ∨ M.any (fun l => decide (12 < l.length)) = true then 4 else if M.any (fun l => l.length != len0 M) = true then 3 else 0 := by rw [hF, hlen]; rfl
  have HF := Lib.hid hFe
  generalize M.any (fun l => decide (12 < l.length)) = a1 at *
  generalize M.any (fun l => l.length != len0 M) = a2 at *
  generalize vs.length = n at *
  clear hr hlen hrow hus hsl ha1 ha2 hr1 eg1 eg2 hI1 hI2 hbw hF hFe hc
  by_cases h12 : 12 < n
  · have hF4 : F = 4 := by rw [HF.out, if_pos (.inl h12)]
    have t1 : (12 : Int) < (n : Int) := by omega
    subst hF4
    clear HF h12
    go_enter Tryd.func24, Tryd.ntmps24
    go_wp2_with fail
    go_ret
    exact ⟨rfl, HB.out⟩
  · have t1 : ¬ (12 : Int) < (n : Int) := by omega
    cases a1 with
    | true =>
      have hF4 : F = 4 := by rw [HF.out, if_pos (.inr rfl)]
      subst hF4
      clear HF h12
      go_enter Tryd.func24, Tryd.ntmps24
      go_wp2_with fail
      refine HI1.out.mono ?_
      rintro e w' ⟨rfl, rfl⟩
      go_wp2_with fail
      go_ret
      exact ⟨rfl, HB.out⟩
    | false =>
      have hF4 : F = if a2 = true then 3 else 0 := by rw [HF.out, if_neg (by simp; omega)]
      clear HF h12
      cases a2 with
      | true =>
        obtain rfl : F = 3 := hF4
        go_enter Tryd.func24, Tryd.ntmps24
        go_wp2_with fail
        refine HI1.out.mono ?_
        rintro e w' ⟨rfl, rfl⟩
        go_wp2_with fail
        refine HI2.out.mono ?_
        rintro e w' ⟨rfl, rfl⟩
        go_wp2_with fail
        go_ret
        exact ⟨rfl, HB.out⟩
      | false =>
        obtain rfl : F = 0 := hF4
        go_enter Tryd.func24, Tryd.ntmps24
        go_wp2_with fail
        refine HI1.out.mono ?_
        rintro e w' ⟨rfl, rfl⟩
        go_wp2_with fail
        refine HI2.out.mono ?_
        rintro e w' ⟨rfl, rfl⟩
        go_wp2_with fail
        go_ret
        exact ⟨rfl, HB.out⟩
/-- the fault of an inverse -/
def invF (M : List (List UInt8)) : Int := if chkF M ≠ 0 then chkF M else if M.length = 0 ∨ len0 M ≠ M.length then 3 else if Mx.rk M.length M.length (en M) < M.length then 5 else 0
def invR (M : List (List UInt8)) : List (List UInt8) := if invF M = 0 then lt M.length M.length (Mx.iv' M.length (en M)) else []
def InvPost (M : List (List UInt8)) (w : World) (e : Ending) (w' : World) : Prop :=
  ∃ v, e = .returned (.tuple #[v, errV (invF M)]) ∧ RowsM w' v (invR M) ∧ Below w.heap.size w w'
theorem RowsM.nil (w : World) : RowsM w (.slice none 0 0) [] := ⟨[], ⟨none, 0, rfl, Nat.le_refl _, Nat.zero_le _, fun _ => rfl, fun h => by simp at h⟩, rfl, fun i l hl => by simp at hl⟩
theorem RowsM.shape {w : World} {v : Value} {M : List (List UInt8)} (h : RowsM w v M) : ∃ p c, v = .slice p M.length c ∧ M.length ≤ c ∧ c ≤ maxLen ∧ (0 < M.length → ∃ g o p0 c0, p = some ⟨g, o, none⟩ ∧ g < w.heap.size ∧ w.cell? ⟨g, o, none⟩ = some (.slice p0 (len0 M) c0)) := by
  obtain ⟨vs, hr, hlen, hrow⟩ := h
  obtain ⟨p, c, h1, h2, h3, h4⟩ := hr.shape
  rw [hlen] at h1 h2 h4
  refine ⟨p, c, h1, h2, h3, fun h0 => ?_⟩
  obtain ⟨g, o, hp, hc⟩ := h4 h0
  have hM0 : M[0]? = some (M.headD []) := by
    cases M with
    | nil => exact absurd h0 (by simp)
    | cons a t => rfl
  obtain ⟨u0, hu0, hrb⟩ := hrow 0 _ hM0
  obtain ⟨p0, c0, hv0, _⟩ := RowB.shape hrb
  have h5 := hc 0 h0
  rw [hu0, hv0, Nat.add_zero] at h5
  exact ⟨g, o, p0, c0, hp, World.block_lt_of_cell? w _ h5, h5⟩
set_option maxRecDepth 100000 in
set_option maxHeartbeats 400000 in
theorem inverse_tot (M : List (List UInt8)) (v : Value) (w : World) (hv : RowsM w v M) :
    Calls Tryd.prog 29 #[v] w (InvPost M w) := by
  have HC := Lib.hid (check_any M v w hv)
  have HV := Lib.hid hv
  obtain ⟨p, c, rfl, h1, h2, h3⟩ := hv.shape
  unfold InvPost
  obtain ⟨F, hF⟩ : ∃ F, F = invF M := ⟨_, rfl⟩
  obtain ⟨R, hR⟩ : ∃ R, R = invR M := ⟨_, rfl⟩
  obtain ⟨C, hC⟩ : ∃ C, C = chkF M := ⟨_, rfl⟩
  rw [← hF, ← hR]
  rw [← hC] at HC
  have hRn : F ≠ 0 → R = [] := fun h => by rw [hR]; unfold invR; rw [if_neg (by rw [← hF]; exact h)]
  by_cases hc0 : C = 0
  · subst hc0
    rw [errV_0] at HC
    have hk := chkF_0 hC.symm
    obtain ⟨n, hn⟩ : ∃ n, n = M.length := ⟨_, rfl⟩
    rw [← hn] at h1 h3 HV HC ⊢
    have hn12 : n ≤ 12 := by rw [hn]; exact hk.1
    have hFe : F = if n = 0 ∨ len0 M ≠ n then 3 else if Mx.rk n n (en M) < n then 5 else 0 := by rw [hF]; unfold invF; rw [← hC, if_neg (by simp), ← hn]
    by_cases h0 : n = 0
    · have hF3 : F = 3 := by rw [hFe, if_pos (.inl h0)]
      have hRe := hRn (by rw [hF3]; decide)
      have HRe := Lib.hid hRe
      have t1 : ((n : Int) == 0) = true := beq_t (by omega)
      clear hF hFe hR hC hk hn hRn h3 hRe HV
      subst hF3
      subst h0
      go_enter Tryd.func29, Tryd.ntmps29
      go_wp2_with fail
      refine HC.out.mono ?_
      rintro e w1 ⟨rfl, hb⟩
      have HB := Lib.hid hb
      clear hb HC
      go_wp2_with fail
      go_ret2
      exact ⟨_, rfl, by rw [HRe.out]; exact RowsM.nil _, HB.out⟩
    · have hn0 : 0 < n := Nat.pos_of_ne_zero h0
      have t1 : ((n : Int) == 0) = false := beq_f (fun e => h0 (Int.natCast_eq_zero.1 e))
      obtain ⟨g, o, p0, c0, rfl, hg, hcell⟩ := h3 hn0
      obtain ⟨L, hL⟩ : ∃ L, L = len0 M := ⟨_, rfl⟩
      rw [← hL] at hcell hFe
      by_cases hLn : L = n
      · have hM : M = lt n n (en M) := by
          have h := lt_en (M := M) (L := n) (fun i l hl => by rw [hk.2.2 i l hl, ← hL, hLn])
          rw [← hn] at h; exact h
        have hT := fun W (h : Below w.heap.size w W) => turned_any (en M) n hn0 (Nat.le_trans hn12 (by decide)) (.slice (some ⟨g, o, none⟩) n c) W (by rw [← hM]; exact HV.out.below h)
        have HT := Lib.hid hT
        have HL := Lib.hid hL
        subst hLn
        have t2 : ((L : Int) != (L : Int)) = false := bne_f rfl
        have hRR : F = 0 → R = lt L L (Mx.iv' L (en M)) := fun h => by rw [hR]; unfold invR; rw [← hF, if_pos h, ← hn]
        have hF2 : F = if Mx.rk L L (en M) < L then 5 else 0 := by rw [hFe, if_neg (by omega)]
        have HRR := Lib.hid hRR
        have HRn := Lib.hid hRn
        have HF2 := Lib.hid hF2
        clear hF hFe hR hC hk hn hRn hM hT hL hRR hF2 HV h3
        go_enter Tryd.func29, Tryd.ntmps29
        go_wp2_with fail
        refine HC.out.mono ?_
        rintro e w1 ⟨rfl, hb⟩
        have HB := Lib.hid hb
        have hz := hb.size
        have d0 := (hb.cell (p := ⟨g, o, none⟩) hg).trans hcell
        have hT1 := HT.out w1 hb
        have HT1 := Lib.hid hT1
        clear hb HC hcell HT hT1
        go_wp2_with fail
        refine HT1.out.mono ?_
        rintro e w2 ⟨hb2, hor⟩
        have HB2 := Lib.hid (HB.out.trans (hb2.mono hz))
        rcases hor with ⟨hr, g2, c2, bs, rfl, hMF⟩ | ⟨hr, rfl⟩
        · have hF0 : F = 0 := by rw [HF2.out, if_neg (by omega)]
          have HR : Hid (RowsM w2 (.slice (some ⟨g2, 0, none⟩) L c2) R) := Lib.hid (by rw [HRR.out hF0]; exact hMF.rowsM)
          clear hb2 hMF hr HF2
          subst hF0
          go_wp2_with fail
          go_ret2
          exact ⟨_, rfl, HR.out, HB2.out⟩
        · have hF5 : F = 5 := by rw [HF2.out, if_pos hr]
          have HR : Hid (RowsM w2 (.slice none 0 0) R) := Lib.hid (by rw [HRn.out (by rw [hF5]; decide)]; exact RowsM.nil _)
          clear hb2 hr HF2
          subst hF5
          go_wp2_with fail
          go_ret2
          exact ⟨_, rfl, HR.out, HB2.out⟩
      · have hF3 : F = 3 := by rw [hFe, if_pos (.inr hLn)]
        have t2 : ((n : Int) != (L : Int)) = true := bne_t (by omega)
        have t3 : ((n : Int) == (L : Int)) = false := beq_f (by omega)
        have hRe := hRn (by rw [hF3]; decide)
        have HRe := Lib.hid hRe
        have HL := Lib.hid hL
        clear hF hFe hR hC hk hn hRn hRe HV h3 hL hLn h0 hv
        subst hF3
        go_enter Tryd.func29, Tryd.ntmps29
        go_wp2_with fail
        refine HC.out.mono ?_
        rintro e w1 ⟨rfl, hb⟩
        have HB := Lib.hid hb
        have d0 := (hb.cell (p := ⟨g, o, none⟩) hg).trans hcell
        clear hb HC hcell
        go_wp2_with fail
        go_ret2
        exact ⟨_, rfl, by rw [HRe.out]; exact RowsM.nil _, HB.out⟩
  · have hFC : F = C := by rw [hF]; unfold invF; rw [← hC, if_pos hc0]
    have HRe := Lib.hid (hRn (by rw [hFC]; exact hc0))
    subst hFC
    rw [errV_ne hc0] at HC ⊢
    clear hF hR hC hRn h3 hc0 HV
    generalize M.length = n at *
    go_enter Tryd.func29, Tryd.ntmps29
    go_wp2_with fail
    refine HC.out.mono ?_
    rintro e w1 ⟨rfl, hb⟩
    have HB := Lib.hid hb
    clear hb HC
    go_wp2_with fail
    go_ret2
    exact ⟨_, rfl, by rw [HRe.out]; exact RowsM.nil _, HB.out⟩
theorem reduce_zero (p : Option Addr) (n c : Nat) (w : World) :
    Calls Tryd.prog 72 #[.slice p n c, iv 0] w fun e w' => e = .returned (iv 0) ∧ w = w' := by
  go_enter Tryd.func72, Tryd.ntmps72
  go_wp2_with fail
  go_loopg [5, 11] 0 (fun gk v5 v11 wr => v5 = iv 0 ∧ v11 = iv 0 ∧ wr = w)
  case atStart => exact ⟨rfl, rfl, rfl⟩
  case round =>
    obtain ⟨rfl, rfl, hw⟩ := hrel
    subst hw
    go_wp2_with fail
    go_ret
    exact ⟨rfl, rfl⟩
def rkR (M : List (List UInt8)) : Int := if chkF M = 0 ∧ M.length ≠ 0 then (Mx.rk M.length (len0 M) (en M) : Int) else 0
set_option maxRecDepth 100000 in
set_option maxHeartbeats 400000 in
theorem rank_tot (M : List (List UInt8)) (v : Value) (w : World) (hv : RowsM w v M) :
    Calls Tryd.prog 31 #[v] w fun e w' => e = .returned (.tuple #[iv (rkR M), errV (chkF M)]) ∧ Below w.heap.size w w' := by
  have HC := Lib.hid (check_any M v w hv)
  have HV := Lib.hid hv
  obtain ⟨p, c, rfl, h1, h2, h3⟩ := hv.shape
  obtain ⟨R, hR⟩ : ∃ R, R = rkR M := ⟨_, rfl⟩
  obtain ⟨C, hC⟩ : ∃ C, C = chkF M := ⟨_, rfl⟩
  rw [← hR, ← hC]
  rw [← hC] at HC
  by_cases hc0 : C = 0
  · subst hc0
    rw [errV_0] at HC ⊢
    have hk := chkF_0 hC.symm
    obtain ⟨n, hn⟩ : ∃ n, n = M.length := ⟨_, rfl⟩
    rw [← hn] at h1 h3 HV HC ⊢
    have hn12 : n ≤ 12 := by rw [hn]; exact hk.1
    by_cases h0 : n = 0
    · have hR0 : R = 0 := by rw [hR]; unfold rkR; rw [if_neg (by rw [← hn]; simp [h0])]
      have t1 : ((n : Int) == 0) = true := beq_t (by omega)
      clear hR hC hk hn h3 HV
      subst hR0
      subst h0
      go_enter Tryd.func31, Tryd.ntmps31
      go_wp2_with fail
      refine HC.out.mono ?_
      rintro e w1 ⟨rfl, hb⟩
      have HB := Lib.hid hb
      clear hb HC
      go_wp2_with fail
      go_ret2
      exact ⟨rfl, HB.out⟩
    · have hn0 : 0 < n := Nat.pos_of_ne_zero h0
      have t1 : ((n : Int) == 0) = false := beq_f (fun e => h0 (Int.natCast_eq_zero.1 e))
      obtain ⟨g, o, p0, c0, rfl, hg, hcell⟩ := h3 hn0
      obtain ⟨L, hL⟩ : ∃ L, L = len0 M := ⟨_, rfl⟩
      rw [← hL] at hcell
      have hL12 : L ≤ 12 := by rw [hL]; exact hk.2.1
      have hRe : R = (Mx.rk n L (en M) : Int) := by rw [hR]; unfold rkR; rw [if_pos ⟨hC.symm, by omega⟩, ← hn, ← hL]
      have hM : M = lt n L (en M) := by
        have h := lt_en (M := M) (L := L) (fun i l hl => by rw [hk.2.2 i l hl, ← hL])
        rw [← hn] at h; exact h
      have HO := Lib.hid (fun W (h : Below w.heap.size w W) => own_k (en M) n L (by omega) (by omega) (by omega) (.slice (some ⟨g, o, none⟩) n c) W (by rw [← hM]; exact HV.out.below h))
      unfold OwKPost at HO
      have HRe := Lib.hid hRe
      clear hR hC hk hn h3 HV hL hRe hM
      go_enter Tryd.func31, Tryd.ntmps31
      go_wp2_with fail
      refine HC.out.mono ?_
      rintro e w1 ⟨rfl, hb⟩
      have HB := Lib.hid hb
      have hz := hb.size
      have d0 := (hb.cell (p := ⟨g, o, none⟩) hg).trans hcell
      have HO1 := Lib.hid (HO.out w1 hb)
      clear hb HC hcell HO
      go_wp2_with fail
      refine HO1.out.mono ?_
      rintro e w2 ⟨g2, c2, vals, rfl, hK, _, hb2⟩
      have HB2 := Lib.hid (HB.out.trans (hb2.mono hz))
      have hz2 := hb2.size
      have d1 := (hb2.cell (p := ⟨g, o, none⟩) (by show g < _; omega)).trans d0
      by_cases hL0 : L = 0
      · subst hL0
        have hR0 : R = 0 := by
          rw [HRe.out]
          have := (Mx.el_inv n (en M) 0).le
          have h : Mx.rk n 0 (en M) ≤ 0 := this
          omega
        clear hb2 hK HO1 d0
        subst hR0
        go_wp2_with fail
        refine (reduce_zero _ _ _ _).mono ?_
        rintro e w3 ⟨rfl, rfl⟩
        go_wp2_with fail
        go_ret2
        exact ⟨rfl, HB2.out⟩
      · obtain ⟨bs, hF, _⟩ := hK.full (L := L) (by omega) (fun i _ => rfl)
        have hRd := Lib.hid (reduce_any (en M) w1.heap.size g2 0 c2 n L L (by omega) (Nat.le_refl _) (by omega) (by omega) bs w2 hz2 hF)
        unfold RdPost at hRd
        have hRk : Hid (((Mx.el n (en M) L).2 : Int) = R) := Lib.hid (by rw [HRe.out]; rfl)
        rw [hRk.out] at hRd
        clear hb2 hK HO1 d0 hF
        go_wp2_with fail
        refine hRd.out.mono ?_
        rintro e w3 ⟨rfl, _, _, hb3⟩
        have HB3 := Lib.hid (HB2.out.trans (hb3.mono hz))
        clear hb3 hRd
        go_wp2_with fail
        go_ret2
        exact ⟨rfl, HB3.out⟩
  · have hR0 : R = 0 := by rw [hR]; unfold rkR; rw [if_neg (fun h => hc0 (hC.trans h.1))]
    subst hR0
    rw [errV_ne hc0] at HC ⊢
    clear hR hC h3 hc0 HV
    generalize M.length = n at *
    go_enter Tryd.func31, Tryd.ntmps31
    go_wp2_with fail
    refine HC.out.mono ?_
    rintro e w1 ⟨rfl, hb⟩
    have HB := Lib.hid hb
    clear hb HC
    go_wp2_with fail
    go_ret2
    exact ⟨rfl, HB.out⟩
end Go.Proofs.YtbikmodfmckaeaaDoor
