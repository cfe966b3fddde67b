/- The walk of the law PolyRoots: it returns true. -/
import Derived.Test.YtbikmodfmckaeaaPolD
import Derived.Test.YtbikmodfmckaeaaOpenR
namespace Go.Proofs.Ytbikmodfmckaeaa
open Go.ChangeShapes Go.WideShapes Go.ChangeAt Go.RowKit
set_option linter.unusedVariables false
/-- numbers that fit, as bytes -/
theorem bytes_of : ∀ (xs : List Int), (∀ n ∈ xs, (Lit.int .u8 n).wf = true) → ∃ l : List UInt8, xs.map (Value.int .u8) = l.map bv
  | [], _ => ⟨[], rfl⟩
  | x :: xs, h => by
    obtain ⟨a, rfl⟩ := byte_of (h x (List.mem_cons_self ..))
    obtain ⟨l, hl⟩ := bytes_of xs (fun n hn => h n (List.mem_cons_of_mem _ hn))
    exact ⟨a :: l, by rw [List.map_cons, List.map_cons, hl]⟩
theorem roots_len (l : List UInt8) (n : Nat) : (Pl.roots l n).length = n + 1 := (Pl.roots_monic l n).1
def PrRel (l : List UInt8) (x : UInt8) (w : World) (N : Nat) (gk : Nat) (v5 v6 v7 : Value) (wr : World) : Prop :=
  ∃ k : Nat, k + gk = N ∧ v7 = iv k ∧ v6 = .bool (Pl.isB l x k) ∧ RowB wr v5 (Pl.roots l k) ∧ Below w.heap.size w wr
theorem alloc_rowP (w : World) (vs : List Value) (E : TypeId) (hl : vs.length ≤ maxLen) : Row (w.alloc (.cells vs.toArray E)) (.slice (some ⟨w.heap.size, 0, none⟩) vs.length vs.length) vs := by
  refine ⟨some ⟨w.heap.size, 0, none⟩, vs.length, rfl, Nat.le_refl _, hl, (fun h => by cases h), fun _ => ⟨w.heap.size, 0, rfl, fun j hj => ?_⟩⟩
  rw [cell_of_row _ _ _ _ _ _ (heap_alloc_new w _), Nat.zero_add]
  simp
theorem two_row (w : World) (a b : UInt8) : RowB (w.alloc (.cells #[bv a, bv b] 5)) (.slice (some ⟨w.heap.size, 0, none⟩) 2 2) [a, b] :=
  alloc_rowP w [bv a, bv b] _ (by simp [maxLen])
theorem one_row (w : World) (a : UInt8) : RowB (w.alloc (.cells #[bv a] 5)) (.slice (some ⟨w.heap.size, 0, none⟩) 1 1) [a] :=
  alloc_rowP w [bv a] _ (by simp [maxLen])
set_option maxRecDepth 100000 in
set_option maxHeartbeats 2000000 in
theorem polyRoots_walk (v : Value) (xi : Int) (hxi : (Lit.int .u8 xi).wf = true) (w : World) (hf : ∃ xs : List Int, Row w v (xs.map (Value.int .u8)) ∧ ∀ n ∈ xs, (Lit.int .u8 n).wf = true) :
    Calls Try.prog 3 #[v, .int .u8 xi] w fun e w' => e = .returned (.bool true) ∧ Below w.heap.size w w' := by
  obtain ⟨xs, hrow, hwf⟩ := hf
  obtain ⟨l, hl⟩ := bytes_of xs hwf
  rw [hl] at hrow
  have HL : Hid (RowB w v l) := Lib.hid hrow
  obtain ⟨x, rfl⟩ := byte_of hxi
  obtain ⟨p, c, rfl, h1, h2⟩ := HL.out.shape
  obtain ⟨n, hn⟩ : ∃ n, n = l.length := ⟨_, rfl⟩
  rw [← hn] at HL h1 ⊢
  have Hn := Lib.hid hn
  obtain ⟨N, hN⟩ : ∃ N, N = min n 20 := ⟨_, rfl⟩
  have HN := Lib.hid hN
  have hN20 : N ≤ 20 := by omega
  unfold maxLen at h2
  have HR0 := Lib.hid (one_row w 1)
  have HB0 : Hid (Below w.heap.size w (w.alloc (.cells #[bv 1] 5))) := Lib.hid ((Below.refl _ _).alloc (Nat.le_refl _) _)
  clear hrow hwf hl hxi hn hN xs
  go_enter Try.func3, Try.ntmps3
  go_wp2_with fail
  go_loopg [5, 6, 7, 8, 9] N (fun gk v5 v6 v7 v8 v9 wr => PrRel l x w N gk v5 v6 v7 wr)
  case atStart => exact ⟨0, by omega, rfl, rfl, HR0.out, HB0.out⟩
  case round =>
    clear HR0 HB0
    obtain ⟨k, hk, rfl, rfl, hR, hB⟩ := hrel
    have Hk := Lib.hid hk
    have HB := Lib.hid hB
    have hz := hB.size
    obtain ⟨pp, cc, rfl, _, hcc⟩ := hR.shape
    rw [roots_len] at hR ⊢
    have HR := Lib.hid hR
    obtain ⟨b, hb⟩ : ∃ b, b = Pl.isB l x k := ⟨_, rfl⟩
    rw [← hb]
    have Hb := Lib.hid hb
    have hkN : k ≤ N := by omega
    clear hk hR hB hb
    by_cases hkk : k < N
    · have hkn : k < n := by have := HN.out; omega
      have t1 : (k : Int) < (n : Int) := by omega
      have t2 : (k : Int) < 20 := by omega
      obtain ⟨g, o, cc', hv2, hg, _, _, hc⟩ := HL.out.cellAt (j := k) (by rw [← Hn.out]; exact hkn)
      injection hv2 with e1 e2 e3
      have He1 := Lib.hid e1
      have d0 : wr.cell? ⟨g, o + k, none⟩ = some (bv (Pl.cf l k)) := (HB.out.cell (p := ⟨g, o + k, none⟩) hg).trans hc
      obtain ⟨y, hy⟩ : ∃ y, y = Pl.cf l k := ⟨_, rfl⟩
      rw [← hy] at d0
      have hb1 : Below wr.heap.size wr (wr.alloc (.cells #[bv y, bv 1] 5)) := (Below.refl _ _).alloc (Nat.le_refl _) _
      have HM := Lib.hid (pmul_any (Pl.roots l k) [y, 1] (by rw [roots_len]; omega) (by simp) _ _ _ (RowB.below HR.out hb1) (two_row wr y 1))
      unfold MulPost at HM
      rw [hy, Pl.roots_trim, ← hy] at HM
      have HB1 := Lib.hid (HB.out.trans (hb1.mono hz))
      have hz1 := HB1.out.size
      have hIs : Pl.isB l x (k + 1) = (b || (y == x)) := by rw [Hb.out, hy]; rfl
      have HIs := Lib.hid hIs
      have HRn : Hid (∀ W v, OwnB W (wr.alloc (.cells #[bv y, bv 1] 5)).heap.size v (Pl.roots l (k + 1)) → ∃ p c, v = .slice p (k + 1 + 1) c ∧ RowB W v (Pl.roots l (k + 1))) := Lib.hid (fun W v h => by
        obtain ⟨p, c, hv, _, _⟩ := RowB.shape (OwnB.row h)
        rw [roots_len] at hv
        exact ⟨p, c, hv, OwnB.row h⟩)
      rw [e1]
      clear e1 e2 e3 hc hy hb1 HR hIs
      go_wp2_with fail
      refine HM.out.mono ?_
      rintro e w2 ⟨v2, rfl, hO2, hb2⟩
      have HB2 := Lib.hid (HB1.out.trans (hb2.mono hz1))
      obtain ⟨p2, c2, rfl, hr2⟩ := HRn.out _ _ hO2
      have HR2 := Lib.hid hr2
      have d1 : w2.cell? ⟨g, o + k, none⟩ = some (bv y) := (hb2.cell (p := ⟨g, o + k, none⟩) (by show g < _; have := World.block_lt_of_cell? wr _ d0; simp; omega)).trans (((Below.refl wr.heap.size wr).alloc (Nat.le_refl _) _).cell (p := ⟨g, o + k, none⟩) (World.block_lt_of_cell? wr _ d0) |>.trans d0)
      clear hO2 hb2 HM HRn d0 HB1 hr2
      cases b with
      | true =>
        go_wp2_with fail
        rw [← He1.out]
        go_roundg (gk - 1)
        case measure => have := Hk.out; omega
        case rel => exact ⟨k + 1, by have := Hk.out; omega, by go_num, by rw [HIs.out]; rfl, HR2.out, HB2.out⟩
      | false =>
        by_cases hyx : y = x
        · subst hyx
          go_wp2_with fail
          rw [← He1.out]
          go_roundg (gk - 1)
          case measure => have := Hk.out; omega
          case rel => exact ⟨k + 1, by have := Hk.out; omega, by go_num, by rw [HIs.out]; simp, HR2.out, HB2.out⟩
        · have tne : ((y.toNat : Int) == (x.toNat : Int)) = false := beq_f (fun h => hyx (UInt8.toNat_inj.1 (by omega)))
          have hyx' : (y == x) = false := beq_false_of_ne hyx
          rw [hyx'] at HIs
          clear hyx hyx'
          go_wp2_with fail
          rw [← He1.out]
          go_roundg (gk - 1)
          case measure => have := Hk.out; omega
          case rel => exact ⟨k + 1, by have := Hk.out; omega, by go_num, by rw [HIs.out]; rfl, HR2.out, HB2.out⟩
    · have hkN' : k = N := by omega
      have HE := Lib.hid (eval_any (Pl.roots l k) (by rw [roots_len]; omega) x _ _ HR.out)
      have hb1 : ∀ W : World, Below W.heap.size W (W.alloc (.cells #[bv x, bv 1] 5)) := fun W => (Below.refl _ _).alloc (Nat.le_refl _) _
      have Hb1 := Lib.hid hb1
      have hz0 := Pl.roots_zero l x k
      rw [← Hb.out] at hz0
      have hrr := Pl.rest_root (a := Pl.roots l k) x (by rw [roots_len]; omega) k (by rw [roots_len]; omega)
      have HD : Hid (∀ W : World, RowB W (.slice pp (k + 1) cc) (Pl.roots l k) → Calls Try.prog 11 #[.slice pp (k + 1) cc, .slice (some ⟨W.heap.size, 0, none⟩) 2 2] (W.alloc (.cells #[bv x, bv 1] 5)) (fun e w' => ∃ v1 p2 n2 c2, e = .returned (.tuple #[v1, .slice p2 n2 c2, .nilIface]) ∧ ((n2 : Int) == 0) = b ∧ Below W.heap.size W w')) := Lib.hid (fun W hW => by
        refine (divmod_any (Pl.roots l k) [x, 1] [x, 1] (Pl.trim_full (n := 1) rfl (by show (1 : UInt8) ≠ 0; decide)).symm (by simp) (by rw [roots_len]; omega) (by simp) _ _ _ (RowB.below hW (hb1 W)) (two_row W x 1)).mono ?_
        rintro e w' ⟨v1, v2, rfl, _, hO, hbw⟩
        obtain ⟨p2, c2, rfl, _, _⟩ := RowB.shape (OwnB.row hO)
        refine ⟨_, _, _, _, rfl, ?_, (hb1 W).trans (hbw.mono (hb1 W).size)⟩
        have hk2 : (Pl.roots l k).length + 1 - ([x, 1] : List UInt8).length = k := by rw [roots_len]; simp
        rw [hk2]
        cases b with
        | true => exact beq_t (by have := hrr.2 (hz0.2 rfl); omega)
        | false => exact beq_f (by
            intro h
            have h0 := hz0.1 (hrr.1 (by omega))
            cases h0))
      obtain ⟨y, hy⟩ : ∃ y, y = Pl.ev (Pl.roots l k) x := ⟨_, rfl⟩
      rw [← hy] at HE hz0
      have ty : ((y.toNat : Int) == 0) = b := by
        cases b with
        | true => rw [hz0.2 rfl]; rfl
        | false => exact bv_ne (fun h => by have := hz0.1 h; cases this)
      have hne : (((k + 1 : Nat) : Int) == 0) = false := beq_f (by omega)
      have hne2 : (((k : Nat) : Int) + 1 == 0) = false := beq_f (by omega)
      by_cases hkn : k < n
      · have h20 : k = 20 := by have := HN.out; omega
        have t1 : (k : Int) < (n : Int) := by omega
        have t2 : ¬ (k : Int) < 20 := by omega
        clear hrr hz0 hy hkN' h20 hkk hb1
        go_wp2_with fail
        refine HE.out.mono ?_
        rintro e w2 ⟨rfl, hb2⟩
        have HB2 := Lib.hid (HB.out.trans (hb2.mono hz))
        have hz2 := HB2.out.size
        have HD2 := Lib.hid (HD.out w2 (RowB.below HR.out hb2))
        clear hb2 HE HD
        go_wp2_with fail
        refine HD2.out.mono ?_
        rintro e w3 ⟨v1, p2, n2, c2, rfl, hn2, hb3⟩
        have HB3 := Lib.hid (HB2.out.trans (hb3.mono hz2))
        clear hb3 HD2
        go_wp2_with fail
        go_ret
        exact ⟨rfl, HB3.out⟩
      · have t1 : ¬ (k : Int) < (n : Int) := by omega
        clear hrr hz0 hy hkN' hkk hb1
        go_wp2_with fail
        refine HE.out.mono ?_
        rintro e w2 ⟨rfl, hb2⟩
        have HB2 := Lib.hid (HB.out.trans (hb2.mono hz))
        have hz2 := HB2.out.size
        have HD2 := Lib.hid (HD.out w2 (RowB.below HR.out hb2))
        clear hb2 HE HD
        go_wp2_with fail
        refine HD2.out.mono ?_
        rintro e w3 ⟨v1, p2, n2, c2, rfl, hn2, hb3⟩
        have HB3 := Lib.hid (HB2.out.trans (hb3.mono hz2))
        clear hb3 HD2
        go_wp2_with fail
        go_ret
        exact ⟨rfl, HB3.out⟩
end Go.Proofs.Ytbikmodfmckaeaa
