/- The walk of the law MatrixTurns: it returns true. -/
import Derived.Test.YtbikmodfmckaeaaDoorTurP
import Derived.Test.YtbikmodfmckaeaaDoorSame
import Derived.Deep.DeepCutAuto
import Derived.Deep.CutBlock
namespace Go.Proofs.YtbikmodfmckaeaaDoor
open Go.ChangeShapes Go.WideShapes Go.ChangeAt Go.RowKit
set_option linter.unusedVariables false
theorem bytes_ofT : ∀ (xs : List Int), (∀ n ∈ xs, (Lit.int .u8 n).wf = true) → ∃ l : List UInt8, xs.map (Value.int .u8) = l.map bv
  | [], _ => ⟨[], rfl⟩
  | x :: xs, h => by
    obtain ⟨a, rfl⟩ := byte_of (h x (List.mem_cons_self ..))
    obtain ⟨l, hl⟩ := bytes_ofT xs (fun n hn => h n (List.mem_cons_of_mem _ hn))
    exact ⟨a :: l, by rw [List.map_cons, List.map_cons, hl]⟩
def tFact : List (List UInt8) := [[0, 1], [1, 0]]
theorem tFact_inv : invF tFact = 0 := by decide +kernel
theorem tFact_res : invR tFact = tFact := by decide +kernel
theorem pair_rowT (w : World) (a b : UInt8) : RowB (w.alloc (.cells #[bv a, bv b] 5)) (.slice (some ⟨w.heap.size, 0, none⟩) 2 2) [a, b] := by
  refine ⟨some ⟨w.heap.size, 0, none⟩, 2, rfl, by simp, by decide, (fun h => by cases h), fun _ => ⟨w.heap.size, 0, rfl, fun j hj => ?_⟩⟩
  rw [cell_of_row _ _ _ _ _ _ (heap_alloc_new w _), Nat.zero_add]
  simp
theorem pair_rowsT (w : World) (u v : Value) (a b : List UInt8) (ha : RowB w u a) (hb : RowB w v b) : RowsM (w.alloc (.cells #[u, v] 22)) (.slice (some ⟨w.heap.size, 0, none⟩) 2 2) [a, b] := by
  have hbl : Below w.heap.size w (w.alloc (.cells #[u, v] 22)) := (Below.refl _ _).alloc (Nat.le_refl _) _
  refine ⟨[u, v], ⟨some ⟨w.heap.size, 0, none⟩, 2, rfl, by simp, by decide, (fun h => by cases h), fun _ => ⟨w.heap.size, 0, rfl, fun j hj => ?_⟩⟩, rfl, fun i l hl => ?_⟩
  · rw [cell_of_row _ _ _ _ _ _ (heap_alloc_new w _), Nat.zero_add]
    simp
  · match i, hl with
    | 0, hl => obtain rfl := Option.some.inj hl; exact ⟨u, rfl, RowB.below ha hbl⟩
    | 1, hl => obtain rfl := Option.some.inj hl; exact ⟨v, rfl, RowB.below hb hbl⟩
    | i + 2, hl => simp at hl
set_option maxRecDepth 100000 in
set_option maxHeartbeats 4000000 in
theorem matrixTurns_walk (va vb vx vy : Value) (w : World) (hg : Handle w) (fa : ∃ A, RowsM w va A) (fb : ∃ B, RowsM w vb B) (fx : ∃ xs : List Int, Row w vx (xs.map (Value.int .u8)) ∧ ∀ n ∈ xs, (Lit.int .u8 n).wf = true)
    (fy : ∃ xs : List Int, Row w vy (xs.map (Value.int .u8)) ∧ ∀ n ∈ xs, (Lit.int .u8 n).wf = true) :
    Calls Tryd.prog 5 #[va, vb, vx, vy] w fun e w' => e = .returned (.bool true) ∧ Below w.heap.size w w' := by
  obtain ⟨a, ha⟩ := fa
  obtain ⟨b, hb⟩ := fb
  obtain ⟨xi, hxr, hxw⟩ := fx
  obtain ⟨yi, hyr, hyw⟩ := fy
  obtain ⟨x, hx⟩ := bytes_ofT xi hxw
  obtain ⟨y, hy⟩ := bytes_ofT yi hyw
  rw [hx] at hxr
  rw [hy] at hyr
  have HA := Lib.hid ha
  have HB := Lib.hid hb
  have HX : Hid (RowB w vx x) := Lib.hid hxr
  have HY : Hid (RowB w vy y) := Lib.hid hyr
  have Hg := Lib.hid hg
  obtain ⟨pa, ca, rfl, _, hca, _⟩ := ha.shape
  obtain ⟨pb, cb, rfl, _, hcb, _⟩ := hb.shape
  obtain ⟨px, cx, rfl, _, hcx⟩ := HX.out.shape
  obtain ⟨py, cy, rfl, _, hcy⟩ := HY.out.shape
  obtain ⟨la, hla⟩ : ∃ l, l = a.length := ⟨_, rfl⟩
  obtain ⟨lb, hlb⟩ : ∃ l, l = b.length := ⟨_, rfl⟩
  obtain ⟨lx, hlx⟩ : ∃ l, l = x.length := ⟨_, rfl⟩
  obtain ⟨ly, hly⟩ : ∃ l, l = y.length := ⟨_, rfl⟩
  rw [← hla] at HA ⊢
  rw [← hlb] at HB ⊢
  rw [← hlx] at HX ⊢
  rw [← hly] at HY ⊢
  have Hla := Lib.hid hla
  have Hlx := Lib.hid hlx
  have Hly := Lib.hid hly
  clear ha hb hxr hyr hxw hyw hx hy hg hla hlb hlx hly
  have hb1 : Below w.heap.size w (w.alloc (.cells #[bv 0, bv 1] 5)) := (Below.refl _ _).alloc (Nat.le_refl _) _
  have hb2 : Below (w.alloc (.cells #[bv 0, bv 1] 5)).heap.size (w.alloc (.cells #[bv 0, bv 1] 5)) ((w.alloc (.cells #[bv 0, bv 1] 5)).alloc (.cells #[bv 1, bv 0] 5)) := (Below.refl _ _).alloc (Nat.le_refl _) _
  have hr1 := RowB.below (pair_rowT w 0 1) hb2
  have hr2 := pair_rowT (w.alloc (.cells #[bv 0, bv 1] 5)) 1 0
  have hrs := pair_rowsT _ _ _ _ _ hr1 hr2
  rw [World.size_alloc, World.size_alloc] at hrs
  have HI0 := Lib.hid (inverse_tot tFact _ _ hrs)
  unfold InvPost at HI0
  rw [tFact_inv, tFact_res, errV_0, World.size_alloc, World.size_alloc] at HI0
  have HB3 : Hid (Below w.heap.size w (((w.alloc (.cells #[bv 0, bv 1] 5)).alloc (.cells #[bv 1, bv 0] 5)).alloc (.cells #[.slice (some ⟨w.heap.size, 0, none⟩) 2 2, .slice (some ⟨w.heap.size + 1, 0, none⟩) 2 2] 22))) := Lib.hid ((hb1.alloc (by simp) _).alloc (by simp; omega) _)
  clear hb1 hb2 hr1 hr2 hrs
  go_enter Tryd.func5, Tryd.ntmps5
  go_wp2_with fail
  refine HI0.out.mono ?_
  rintro e w1 ⟨v1, rfl, hM1, hb⟩
  have HB1 := Lib.hid (HB3.out.trans (hb.mono (by simp; omega)))
  have hz1 := HB1.out.size
  obtain ⟨g, o, c, p2, c2, hv, hgs, hcl, hrb⟩ := hM1.at (i := 0) (l := [0, 1]) rfl
  have hv1 : v1 = .slice (some ⟨g, o, none⟩) 2 c := hv
  subst hv1
  have d0 : w1.cell? ⟨g, o, none⟩ = some (.slice p2 2 c2) := hcl
  obtain ⟨g3, o3, c3, hv3, _, _, _, hc0⟩ := hrb.cellAt (j := 0) (by simp)
  obtain ⟨g4, o4, c4, hv4, _, _, _, hc1⟩ := hrb.cellAt (j := 1) (by simp)
  injection hv3 with e1 _ e2
  rw [e1] at hv4 d0
  injection hv4 with e3 _ _
  injection e3 with e3
  injection e3 with e3 e4
  subst e3 e4 e2
  have d1 : w1.cell? ⟨g3, o3, none⟩ = some (bv 0) := hc0
  have d2 : w1.cell? ⟨g3, o3 + 1, none⟩ = some (bv 1) := hc1
  have HI := Lib.hid (inverse_tot a _ w1 (HA.out.below HB1.out))
  unfold InvPost at HI
  obtain ⟨F, hF⟩ : ∃ F, F = invF a := ⟨_, rfl⟩
  rw [← hF] at HI
  have HF := Lib.hid hF
  obtain ⟨ve, hve⟩ : ∃ ve, ve = errV F := ⟨_, rfl⟩
  rw [← hve] at HI
  have Hve := Lib.hid hve
  clear hF hve hb hM1 hv hcl hrb hc0 hc1 HI0 HB3 e1
  go_wp2_with fail
  refine HI.out.mono ?_
  rintro e w2 ⟨v2, rfl, hm2, hb2⟩
  have HM2 := Lib.hid hm2
  have HB2 := Lib.hid (HB1.out.trans (hb2.mono hz1))
  have hz2 := HB2.out.size
  have HRk := Lib.hid (rank_tot a _ w2 (HA.out.below HB2.out))
  obtain ⟨C, hC⟩ : ∃ C, C = chkF a := ⟨_, rfl⟩
  obtain ⟨R, hR⟩ : ∃ R, R = rkR a := ⟨_, rfl⟩
  obtain ⟨vc, hvc⟩ : ∃ vc, vc = errV C := ⟨_, rfl⟩
  rw [← hC, ← hR, ← hvc] at HRk
  have HC := Lib.hid hC
  have HR := Lib.hid hR
  have Hvc := Lib.hid hvc
  clear hC hR hvc hm2 hb2 HI d0 d1 d2 HB1
  go_wp2_with fail
  refine HRk.out.mono ?_
  rintro e w3 ⟨rfl, hb3⟩
  have HM3 := Lib.hid (HM2.out.below hb3)
  have HB3 := Lib.hid (HB2.out.trans (hb3.mono hz2))
  have hz3 := HB3.out.size
  have HSa := Lib.hid (same_any F 5 w3 (Hg.out.below (Nat.le_refl _) HB3.out))
  rw [← Hve.out] at HSa
  obtain ⟨b5, hb5⟩ : ∃ b, b = (F == 5) := ⟨_, rfl⟩
  rw [← hb5] at HSa
  have Hb5 := Lib.hid hb5
  clear hb3 hb5 HRk HM2 HB2
  go_wp2_with fail
  refine HSa.out.mono ?_
  rintro e w4 ⟨rfl, hb4⟩
  have HM4 := Lib.hid (HM3.out.below hb4)
  have HB4 := Lib.hid (HB3.out.trans (hb4.mono hz3))
  have hz4 := HB4.out.size
  obtain ⟨pm, cm, hpm, _⟩ := HM4.out.shape
  obtain ⟨lm, hlm⟩ : ∃ l, l = (invR a).length := ⟨_, rfl⟩
  rw [← hlm] at hpm
  subst hpm
  clear hb4 HSa HM3 HB3 hlm
  obtain ⟨b81, hb81⟩ : ∃ b, b = (F == 0 || b5) := ⟨_, rfl⟩
  have Hb81 := Lib.hid hb81
  clear hb81
  go_upto_region 7 with (fail)
  go_cut [81] (fun z wq => z = .bool b81 ∧ w4 = wq)
  case first => as_aux_lemma =>
    by_cases hf : F = 0
    · have h1 : b81 = true := by rw [Hb81.out, hf]; rfl
      have h2 : ve = .nilIface := by rw [Hve.out, hf]; rfl
      clear Hve
      subst h1 h2
      go_wp2_with fail
      go_meet
      exact ⟨rfl, rfl⟩
    · have h2 : ve = ev F := by rw [Hve.out, errV_ne hf]
      have h1 : b81 = b5 := by rw [Hb81.out, beq_false_of_ne hf]; rfl
      clear Hve
      subst h1 h2
      go_wp2_with fail
      go_meet
      exact ⟨rfl, rfl⟩
  case rest =>
    obtain ⟨rfl, rfl⟩ := hcut
    go_upto_if 81 with (fail)
    go_cut [] (fun wq => w4 = wq)
    case first => as_aux_lemma =>
      by_cases hf : F = 0
      · have h1 : b81 = true := by rw [Hb81.out, hf]; rfl
        have h2 : ve = .nilIface := by rw [Hve.out, hf]; rfl
        have hi := invF_0 (HF.out.symm.trans hf)
        have hc : vc = .nilIface := by rw [Hvc.out, HC.out, hi.1]; rfl
        have hr : R = (la : Int) := by rw [HR.out, invF_rk (HF.out.symm.trans hf), Hla.out]
        clear Hve Hvc HR hi
        subst h1 h2 hc hr
        have t1 : ((la : Int) == (la : Int)) = true := beq_t rfl
        go_wp2_with fail
        go_meet
        exact rfl
      · have h2 : ve = ev F := by rw [Hve.out, errV_ne hf]
        by_cases h5 : F = 5
        · have h1 : b81 = true := by rw [Hb81.out, Hb5.out, h5]; rfl
          have hi := invF_5 (HF.out.symm.trans h5)
          have hc : vc = .nilIface := by rw [Hvc.out, HC.out, hi.1]; rfl
          have t1 : (R == (la : Int)) = false := beq_f (by rw [HR.out, Hla.out]; exact hi.2)
          clear Hve Hvc HR hi
          subst h1 h2 hc
          go_wp2_with fail
          go_meet
          exact rfl
        · have h1 : b81 = false := by rw [Hb81.out, Hb5.out, beq_false_of_ne hf, beq_false_of_ne h5]; rfl
          clear Hve Hvc HR
          subst h1 h2
          go_wp2_with fail
          go_meet
          exact rfl
    case rest =>
      subst hcut
      obtain ⟨b94, hb94⟩ : ∃ b, b = (F == 0) := ⟨_, rfl⟩
      have Hb94 := Lib.hid hb94
      clear hb94 Hb81 Hb5
      go_upto_region 10 with (fail)
      go_cut [94] (fun z wq => z = .bool b94 ∧ w4 = wq)
      case first => as_aux_lemma =>
        by_cases hf : F = 0
        · have h1 : b94 = true := by rw [Hb94.out, hf]; rfl
          have h2 : ve = .nilIface := by rw [Hve.out, hf]; rfl
          clear Hve
          subst h1 h2
          go_wp2_with fail
          go_meet
          exact ⟨rfl, rfl⟩
        · have h2 : ve = ev F := by rw [Hve.out, errV_ne hf]
          have h1 : b94 = false := by rw [Hb94.out, beq_false_of_ne hf]
          clear Hve
          subst h1 h2
          go_wp2_with fail
          go_meet
          exact ⟨rfl, rfl⟩
      case rest =>
        obtain ⟨rfl, rfl⟩ := hcut
        clear Hve
        go_upto_if 94 with (fail)
        go_cut [] (fun wq => ∃ wk, wk = wq ∧ Below w.heap.size w wk)
        case first => as_aux_lemma =>
          cases b94 with
          | false =>
            go_wp2_with fail
            go_meet
            exact ⟨_, rfl, HB4.out⟩
          | true =>
            have hf : invF a = 0 := by rw [← HF.out]; exact eq_of_beq Hb94.out.symm
            have hi := invF_0 hf
            have htm := turn_mul hf
            rw [← Hla.out] at hi htm
            have HTm := Lib.hid htm
            have hla0 : 0 < la := hi.2.1
            have hla12 : la ≤ 12 := hi.2.2.1
            have HMu := Lib.hid (mmul_tot a (invR a) _ _ w4 (HA.out.below HB4.out) HM4.out)
            unfold MmPost at HMu
            rw [htm.1, htm.2.2.1, errV_0] at HMu
            clear hf hi htm
            go_wp2_with fail
            refine HMu.out.mono ?_
            rintro e w5 ⟨v5, rfl, hu, hb5⟩
            have HU := Lib.hid hu
            have HB5 := Lib.hid (HB4.out.trans (hb5.mono hz4))
            have hz5 := HB5.out.size
            have HMv := Lib.hid (mmul_tot (invR a) a _ _ w5 (HM4.out.below hb5) (HA.out.below HB5.out))
            unfold MmPost at HMv
            rw [HTm.out.2.1, HTm.out.2.2.2, errV_0] at HMv
            obtain ⟨p5, c5, hp5, _⟩ := hu.shape
            rw [lt_len] at hp5
            subst hp5
            clear hu hb5 HMu
            go_wp2_with fail
            refine HMv.out.mono ?_
            rintro e w6 ⟨v6, rfl, hv, hb6⟩
            have HU6 := Lib.hid (HU.out.below hb6)
            have HV6 := Lib.hid hv
            have HB6 := Lib.hid (HB5.out.trans (hb6.mono hz5))
            have hz6 := HB6.out.size
            obtain ⟨p6, c6, hp6, _⟩ := hv.shape
            rw [lt_len] at hp6
            subst hp6
            have hid := identity_tot (la : Int) w6
            rw [if_neg (by omega), if_neg (by omega), errV_0, Int.toNat_natCast] at hid
            have HId := Lib.hid hid
            clear hv hb6 HMv HU hid
            go_wp2_with fail
            refine HId.out.mono ?_
            rintro e w7 ⟨v7, rfl, hw7, hb7⟩
            have HU7 := Lib.hid (HU6.out.below hb7)
            have HV7 := Lib.hid (HV6.out.below hb7)
            have HW7 := Lib.hid hw7
            have HB7 := Lib.hid (HB6.out.trans (hb7.mono hz6))
            have hz7 := HB7.out.size
            obtain ⟨p7, c7, hp7, _⟩ := hw7.shape
            rw [lt_len] at hp7
            subst hp7
            have HS := Lib.hid (same_rows _ _ _ _ w7 HU7.out HW7.out)
            rw [beq_self_eq_true] at HS
            unfold SameM at HS
            clear hw7 hb7 HId HU6 HV6
            go_wp2_with fail
            refine HS.out.mono ?_
            rintro e w8 ⟨rfl, hb8⟩
            have HB8 := Lib.hid (HB7.out.trans (hb8.mono hz7))
            have hz8 := HB8.out.size
            have HS2 := Lib.hid (same_rows _ _ _ _ w8 (HV7.out.below hb8) (HW7.out.below hb8))
            rw [beq_self_eq_true] at HS2
            unfold SameM at HS2
            clear hb8 HS HU7 HV7 HW7
            go_wp2_with fail
            refine HS2.out.mono ?_
            rintro e w9 ⟨rfl, hb9⟩
            have HB9 := Lib.hid (HB8.out.trans (hb9.mono hz8))
            clear hb9 HS2
            go_wp2_with fail
            go_meet
            exact ⟨_, rfl, HB9.out⟩
        case rest =>
          obtain ⟨wP, hwP, hBP⟩ := hcut
          subst hwP
          have HBP := Lib.hid hBP
          have hzP := hBP.size
          clear hBP HB4 HM4 Hb94 hz4 HF
          clear F
          have HMu := Lib.hid (mmul_tot a b _ _ wP (HA.out.below HBP.out) (HB.out.below HBP.out))
          unfold MmPost at HMu
          obtain ⟨G, hG⟩ : ∃ G, G = mmF a b := ⟨_, rfl⟩
          rw [← hG] at HMu
          have HG := Lib.hid hG
          obtain ⟨ve, hve⟩ : ∃ ve, ve = errV G := ⟨_, rfl⟩
          rw [← hve] at HMu
          have Hve := Lib.hid hve
          obtain ⟨b142, hb142⟩ : ∃ b, b = (G == 0) := ⟨_, rfl⟩
          have Hb142 := Lib.hid hb142
          clear hG hve hb142
          go_wp2_with fail
          refine HMu.out.mono ?_
          rintro e w5 ⟨v5, rfl, hp, hb5⟩
          have HP := Lib.hid hp
          have HB5 := Lib.hid (HBP.out.trans (hb5.mono hzP))
          have hz5 := HB5.out.size
          obtain ⟨p5, c5, hp5, _⟩ := hp.shape
          obtain ⟨l5, hl5⟩ : ∃ l, l = (mmR a b).length := ⟨_, rfl⟩
          rw [← hl5] at hp5
          subst hp5
          clear hp hb5 HMu HBP hl5
          go_upto_region 17 with (fail)
          go_cut [142] (fun z wq => z = .bool b142 ∧ w5 = wq)
          case first => as_aux_lemma =>
            by_cases hf : G = 0
            · have h1 : b142 = true := by rw [Hb142.out, hf]; rfl
              have h2 : ve = .nilIface := by rw [Hve.out, hf]; rfl
              clear Hve
              subst h1 h2
              go_wp2_with fail
              go_meet
              exact ⟨rfl, rfl⟩
            · have h2 : ve = ev G := by rw [Hve.out, errV_ne hf]
              have h1 : b142 = false := by rw [Hb142.out, beq_false_of_ne hf]
              clear Hve
              subst h1 h2
              go_wp2_with fail
              go_meet
              exact ⟨rfl, rfl⟩
          case rest =>
            obtain ⟨rfl, rfl⟩ := hcut
            clear Hve
            go_upto_if 142 with (fail)
            go_cut [] (fun wq => ∃ wk, wk = wq ∧ Below w.heap.size w wk)
            case first => as_aux_lemma =>
              cases b142 with
              | false =>
                go_wp2_with fail
                go_meet
                exact ⟨_, rfl, HB5.out⟩
              | true =>
                have hf : mmF a b = 0 := by rw [← HG.out]; exact eq_of_beq Hb142.out.symm
                obtain ⟨k1, k2, k3, k4, k5⟩ := turn_rank hf
                have hc : vc = .nilIface := by rw [Hvc.out, HC.out, k2]; rfl
                have HR1 := Lib.hid (rank_tot (mmR a b) _ w5 HP.out)
                have HR2 := Lib.hid (fun W h => rank_tot b _ W (HB.out.below h))
                rw [k1, errV_0] at HR1
                rw [k3, errV_0] at HR2
                rw [← HR.out] at k4
                obtain ⟨r1, hr1⟩ : ∃ r, r = rkR (mmR a b) := ⟨_, rfl⟩
                obtain ⟨r2, hr2⟩ : ∃ r, r = rkR b := ⟨_, rfl⟩
                rw [← hr1] at HR1 k4 k5
                rw [← hr2] at HR2 k5
                have t1 : ¬ R < r1 := by omega
                have t2 : ¬ r2 < r1 := by omega
                clear Hvc hf k1 k2 k3 k4 k5 hr1 hr2
                subst hc
                go_wp2_with fail
                refine HR1.out.mono ?_
                rintro e w6 ⟨rfl, hb6⟩
                have HB6 := Lib.hid (HB5.out.trans (hb6.mono hz5))
                have hz6 := HB6.out.size
                have HR2' := Lib.hid (HR2.out w6 HB6.out)
                clear hb6 HR1 HR2
                go_wp2_with fail
                refine HR2'.out.mono ?_
                rintro e w7 ⟨rfl, hb7⟩
                have HB7 := Lib.hid (HB6.out.trans (hb7.mono hz6))
                clear hb7 HR2'
                go_wp2_with fail
                go_meet
                exact ⟨_, rfl, HB7.out⟩
            case rest =>
              obtain ⟨wQ, hwQ, hBQ⟩ := hcut
              subst hwQ
              have HBQ := Lib.hid hBQ
              have hzQ := hBQ.size
              clear hBQ HB5 HP Hb142 hz5 HG
              clear G
              have HCa := Lib.hid (cauchy_tot x y _ _ wQ (RowB.below HX.out HBQ.out) (RowB.below HY.out HBQ.out))
              unfold CcPost at HCa
              obtain ⟨K, hK⟩ : ∃ K, K = cauF x y := ⟨_, rfl⟩
              rw [← hK] at HCa
              have HK := Lib.hid hK
              clear hK
              by_cases hK0 : K = 0
              · subst hK0
                rw [errV_0] at HCa
                go_wp2_with fail
                refine HCa.out.mono ?_
                rintro e w6 ⟨v6, rfl, hc6, hb6⟩
                have HC6 := Lib.hid hc6
                have HB6 := Lib.hid (HBQ.out.trans (hb6.mono hzQ))
                have hz6 := HB6.out.size
                clear hc6 hb6 HCa HBQ
                by_cases hxy : lx = ly
                · subst hxy
                  have t1 : ((lx : Int) != (lx : Int)) = false := bne_f rfl
                  have t2 : ((lx : Int) == (lx : Int)) = true := beq_t rfl
                  by_cases hl0 : lx = 0
                  · have t3 : ((lx : Int) == 0) = true := beq_t (by omega)
                    clear hl0
                    go_wp2_with fail
                    go_ret
                    exact ⟨rfl, HB6.out⟩
                  · have t3 : ((lx : Int) == 0) = false := beq_f (by omega)
                    have hin := turn_cau HK.out.symm (by rw [← Hlx.out, ← Hly.out]) (by rw [← Hlx.out]; exact hl0)
                    have HIn := Lib.hid (inverse_tot (cauR x y) _ w6 HC6.out)
                    unfold InvPost at HIn
                    rw [hin, errV_0] at HIn
                    clear hl0 hin
                    go_wp2_with fail
                    refine HIn.out.mono ?_
                    rintro e w7 ⟨v7, rfl, _, hb7⟩
                    have HB7 := Lib.hid (HB6.out.trans (hb7.mono hz6))
                    clear hb7 HIn
                    go_wp2_with fail
                    go_ret
                    exact ⟨rfl, HB7.out⟩
                · have t1 : ((lx : Int) != (ly : Int)) = true := bne_t (by omega)
                  have t2 : ((lx : Int) == (ly : Int)) = false := beq_f (by omega)
                  clear hxy
                  go_wp2_with fail
                  go_ret
                  exact ⟨rfl, HB6.out⟩
              · rw [errV_ne hK0] at HCa
                clear hK0 HK
                go_wp2_with fail
                refine HCa.out.mono ?_
                rintro e w6 ⟨v6, rfl, _, hb6⟩
                have HB6 := Lib.hid (HBQ.out.trans (hb6.mono hzQ))
                clear hb6 HCa
                go_wp2_with fail
                go_ret
                exact ⟨rfl, HB6.out⟩
end Go.Proofs.YtbikmodfmckaeaaDoor
