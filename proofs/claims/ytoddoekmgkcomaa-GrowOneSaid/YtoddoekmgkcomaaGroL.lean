/- The walk of the law GrowOne: it returns true. -/
import Derived.Test.YtoddoekmgkcomaaGroD
import Derived.Laws.IdiomStrings
namespace Go.Proofs.Ytoddoekmgkcomaa
open Go.ChangeShapes Go.WideShapes Go.ChangeAt Go.RowKit
set_option linter.unusedVariables false
def st1 (i : Nat) : ByteArray := ⟨#[UInt8.ofNat i]⟩
def sts (n : Nat) : List ByteArray := (List.range n).map st1
theorem sts_len (n : Nat) : (sts n).length = n := by unfold sts; simp
theorem sts_get {n i : Nat} (h : i < n) : (sts n).getD i Gr.e0 = st1 i := by
  unfold sts; rw [List.getD_eq_getElem?_getD, List.getElem?_map, List.getElem?_range h]; rfl
theorem sts_succ (n : Nat) : (sts (n + 1)).map Value.string = (sts n).map Value.string ++ [.string (st1 n)] := by unfold sts; rw [List.range_succ]; simp
theorem sts_ok {n : Nat} (h : n ≤ 40) : cellsF (sts n) = 0 := by
  unfold cellsF
  rw [if_neg (by rw [sts_len]; omega), if_neg]
  intro h2
  rw [List.any_eq_true] at h2
  obtain ⟨x, hx, hp⟩ := h2
  unfold sts at hx
  obtain ⟨i, _, rfl⟩ := List.mem_map.1 hx
  have : (st1 i).size = 1 := rfl
  rw [this] at hp; simp at hp
theorem conv_st1 (x : UInt8) (s : ByteArray) (hs : s = ⟨#[x]⟩) (w : World) : (convert 31 9 (.slice (some ⟨w.heap.size, 0, none⟩) 1 1)).run Try.prog (w.alloc (.cells #[.int .u8 (x.toNat : Int)] 5)) = .ok (.string s) (w.alloc (.cells #[.int .u8 (x.toNat : Int)] 5)) := by
  subst hs
  exact run_convert_bytes_back (P := Try.prog) _ 31 9 5 ⟨w.heap.size, 0, none⟩ 1 [x] Try.underlying31 Try.underlying5 Try.underlying9 (fun j hj => by
    have hj1 : j < 1 := hj
    obtain rfl : j = 0 := by omega
    rw [Addr.add_lit, cell_of_row _ _ _ _ _ _ (heap_alloc_new _ _)]; rfl)
def GL1 (n : Nat) (w : World) (gk : Nat) (v3 v4 : Value) (wr : World) : Prop :=
  ∃ k : Nat, k + gk = n ∧ v4 = iv k ∧ wr.ownsRow w.heap.size 9 1 v3 k ((sts k).map Value.string) ∧ Below w.heap.size w wr
def GL2 (n b : Nat) (w1 : World) (gk : Nat) (v7 : Value) (wr : World) : Prop :=
  ∃ k : Nat, k + gk = n ∧ v7 = iv k ∧ GroOk (fun k => w1.heap.size ≤ k) wr b 1 k (sts n) ∧ Below w1.heap.size w1 wr
def GL3 (n : Nat) (w3 : World) (gk : Nat) (v11 : Value) (wr : World) : Prop :=
  ∃ k nd : Nat, k + gk = n ∧ v11 = iv k ∧ wr = w3.drewN nd
set_option maxRecDepth 100000 in
set_option maxHeartbeats 4000000 in
theorem growOne_walk (ni : Int) (hni : (Lit.int .i64 ni).wf = true) (w : World) :
    Calls Try.prog 7 #[iv ni] w fun e w' => e = .returned (.bool true) ∧ Below w.heap.size w w' := by
  have hb := bounds_i64 hni
  by_cases h1 : ni < 0
  · go_enter Try.func7, Try.ntmps7
    go_wp2_with fail
    go_ret
    exact ⟨rfl, Below.refl _ _⟩
  · by_cases h2 : 40 < ni
    · go_enter Try.func7, Try.ntmps7
      go_wp2_with fail
      go_ret
      exact ⟨rfl, Below.refl _ _⟩
    · obtain ⟨n, rfl⟩ : ∃ n : Nat, ni = n := ⟨ni.toNat, by omega⟩
      have hn : n ≤ 40 := by omega
      clear hni hb
      go_enter Try.func7, Try.ntmps7
      go_wp2_with fail
      go_loopg [3, 4] n (fun gk v3 v4 wr => GL1 n w gk v3 v4 wr)
      case atStart => exact ⟨0, by omega, rfl, World.ownsRow_nil _ _ _ _, Below.refl _ _⟩
      case round =>
        obtain ⟨k, hk, rfl, hO, hB⟩ := hrel
        have Hk := Lib.hid hk
        have HO := Lib.hid hO
        have HB := Lib.hid hB
        have hz := hB.size
        clear hk hO hB
        by_cases hkn : k < n
        · obtain ⟨x, hx⟩ : ∃ x, x = UInt8.ofNat k := ⟨_, rfl⟩
          obtain ⟨s, hs⟩ : ∃ s, s = st1 k := ⟨_, rfl⟩
          have hw : (k : Int) % 256 = (x.toNat : Int) := by
            rw [hx, UInt8.toNat_ofNat']; omega
          have hw2 : IntKind.u8.wrap (k : Int) = (x.toNat : Int) := by
            rw [hx, UInt8.toNat_ofNat']; simp [IntKind.wrap, IntKind.bits, IntKind.signed]
          have hk9 : k + 1 ≤ 1000000 := by omega
          have hb1 : Below wr.heap.size wr (wr.alloc (.cells #[.int .u8 (x.toNat : Int)] 5)) := (Below.refl _ _).alloc (Nat.le_refl _) _
          have HO1 := Lib.hid (owns_below HO.out hb1)
          have HB1 := Lib.hid (HB.out.trans (hb1.mono hz))
          have hz1 := HB1.out.size
          have hcv := conv_st1 x s (by rw [hs, hx]; rfl) wr
          have hsu := sts_succ k
          rw [← hs] at hsu
          have Hsu := Lib.hid hsu
          clear hb1 hsu HO HB hx hs
          go_wp2_with (at_builtin; refine app1 w (wr.alloc (.cells #[.int .u8 (x.toNat : Int)] 5)) (.string s) 9 22 rfl _ _ rfl w.heap.size Try.underlying22 info_strG rfl _ k _ rfl _ rfl (by simp) HO1.out rfl hk9 (by decide) hz1 HB1.out ?_)
          intro v9 w9 hown9 hb9 hgr9 hat9
          rw [← Hsu.out] at hown9
          have HO9 := Lib.hid hown9
          have HB9 := Lib.hid hb9
          clear hown9 hb9 hgr9 hat9 HO1 HB1 hcv hw hw2
          go_wp2_with fail
          go_roundg (gk - 1)
          case measure => have := Hk.out; omega
          case rel => exact ⟨k + 1, by have := Hk.out; omega, by go_num, HO9.out, HB9.out⟩
        · obtain rfl : k = n := by have := Hk.out; omega
          clear Hk
          have hSt : Strs wr u3 (sts k) := OwnR.row (OwnR.of_owns HO.out)
          have HSt := Lib.hid hSt
          have HN := Lib.hid (gnew_any (sts k) 1 (by omega) (by omega) (sts_ok hn) u3 wr hSt)
          obtain ⟨ps, cs, rfl, _, _⟩ := Strs.get hSt
          rw [sts_len] at HSt HN ⊢
          clear hSt HO
          go_wp2_with fail
          refine HN.out.mono ?_
          rintro e w2 ⟨b, rfl, hG, hb2⟩
          have HG := Lib.hid hG
          have HB2 := Lib.hid hb2
          clear hG hb2 HN
          go_wp2_with fail
          go_loopg [7, 8, 9] k (fun gk v7 v8 v9 wq => GL2 k b wr gk v7 wq)
          case atStart => exact ⟨0, by omega, rfl, HG.out, HB2.out⟩
          case round =>
            clear HG HB2
            obtain ⟨j, hj, rfl, hG, hB3⟩ := hrel
            have Hj := Lib.hid hj
            have HG := Lib.hid hG
            have HB3 := Lib.hid hB3
            have hz3 := hB3.size
            clear hj hG hB3
            by_cases hjk : j < k
            · have HS := Lib.hid (gstep_any HG.out (fun q hq => Nat.le_trans hz3 hq) (by rw [sts_len]; exact hjk) (by rw [sts_len]; omega) (by omega) (by omega))
              go_wp2_with fail
              refine HS.out.mono ?_
              rintro e w4 ⟨rfl, hG4, hK4⟩
              have HG4 := Lib.hid hG4
              have HB4 := Lib.hid (HB3.out.trans (hK4.toBelow hz3 (fun k _ hk => hk)))
              clear hG4 hK4 HS HG HB3
              go_wp2_with fail
              go_roundg (gk - 1)
              case measure => have := Hj.out; omega
              case rel => exact ⟨j + 1, by have := Hj.out; omega, by go_num, HG4.out, HB4.out⟩
            · obtain rfl : j = k := by have := Hj.out; omega
              obtain ⟨g, c, vs, hA, hI⟩ := HG.out
              rw [sts_len] at hA
              have HD := Lib.hid (gdisks_any hA (by omega) (fun i _ => by have := build_bound 1 j (sts j) j i; omega))
              clear hA hI HG Hj
              go_wp2_with fail
              refine HD.out.mono ?_
              rintro e w5 ⟨v5, rfl, hM, hb5⟩
              have hB5 := HB3.out.trans (hb5.mono hz3)
              have HB5 := Lib.hid (HB.out.trans (hB5.mono hz))
              have HS5 := Lib.hid (HSt.out.below hB5)
              obtain ⟨p5, c5, rfl, _, hc9, hrow⟩ := hM.get
              have HRw := Lib.hid hrow
              obtain ⟨gd, od, x0, rfl, q0, hgd, hs0⟩ := hrow 0 (by omega)
              obtain ⟨_, _, x1, e1, q1, _, hs1⟩ := hrow 1 (by omega)
              injection e1 with e1
              injection e1 with k1 k2
              subst k1 k2
              obtain ⟨p0, c0, rfl, _, _⟩ := Strs.get hs0
              obtain ⟨p1, c1, rfl, _, _⟩ := Strs.get hs1
              have hl0 : (Gr.build (Gr.spot 1 j) (sts j) j 0).length = (j + 1) / 2 := by rw [Gr.build_len, Gr.last_done, Gr.last_all 2 (by omega) 0 (by omega)]
              have hl1 : (Gr.build (Gr.spot 1 j) (sts j) j 1).length = j / 2 := by rw [Gr.build_len, Gr.last_done, Gr.last_all 2 (by omega) 1 (by omega)]; rfl
              rw [hl0, Nat.add_zero] at q0
              rw [hl1] at q1
              obtain ⟨L0, hL0⟩ : ∃ L, L = (j + 1) / 2 := ⟨_, rfl⟩
              obtain ⟨L1, hL1⟩ : ∃ L, L = j / 2 := ⟨_, rfl⟩
              have i0 : ((j : Int) + 1) / 2 = (L0 : Int) := by omega
              have i1 : (j : Int) / 2 = (L1 : Int) := by omega
              rw [← hL0] at q0
              rw [← hL1] at q1
              have t1 : ¬ (j : Int) < 0 := by omega
              clear hM hb5 hB5 hrow hs0 hs1 hl0 hl1 hL0 hL1 HD HB HB3 HSt
              go_wp2_with fail
              clear i0 i1 q0 q1
              go_loopg [11] j (fun gk v11 wq => GL3 j w5 gk v11 wq)
              case atStart => exact ⟨0, 0, by omega, rfl, rfl⟩
              case round =>
                obtain ⟨i, nd, hi, rfl, hwq⟩ := hrel
                have Hi := Lib.hid hi
                have Hwq := Lib.hid hwq
                clear hi
                by_cases hij : i < j
                · obtain ⟨r, hr⟩ : ∃ r, r = i % 2 := ⟨_, rfl⟩
                  obtain ⟨q, hq⟩ : ∃ q, q = i / 2 := ⟨_, rfl⟩
                  obtain ⟨s, hs⟩ : ∃ s, s = st1 i := ⟨_, rfl⟩
                  obtain ⟨g9, o9, u9', e9, c9, hg9, hs9⟩ := HRw.out r (by omega)
                  injection e9 with e9
                  injection e9 with k1 k2
                  subst k1 k2
                  have hsp : Gr.spot 1 j i = (r, q) := by rw [Gr.spot_done i hij, hr, hq]
                  have hql : q < (Gr.build (Gr.spot 1 j) (sts j) j r).length := by
                    rw [Gr.build_len]
                    have := Gr.le_last (Gr.spot 1 j) r i j hij (by rw [hsp])
                    rw [hsp] at this; exact this
                  have hit : (Gr.build (Gr.spot 1 j) (sts j) j r).getD q Gr.e0 = s := by
                    have := Gr.build_hit (Gr.spot_inj (done := j) (n := 1) (by omega)) (sts j) i j hij
                    rw [hsp, sts_get hij] at this; rw [hs]; exact this
                  obtain ⟨pu, cu, rfl, _, hcu⟩ := Strs.get hs9
                  obtain ⟨gs, os, rfl, hcs, hgs⟩ := hcu q s (by rw [List.getElem?_eq_getElem hql]; rw [List.getD_eq_getElem?_getD, List.getElem?_eq_getElem hql] at hit; exact congrArg some hit)
                  obtain ⟨pl, cl, hvl, _, hcl⟩ := Strs.get HS5.out
                  rw [sts_len] at hvl
                  injection hvl with z1 z2 z3
                  subst z1 z3
                  obtain ⟨gl, ol, rfl, hcll, hgl⟩ := hcl i s (by unfold sts; rw [List.getElem?_map, List.getElem?_range hij, hs]; rfl)
                  have d0 : wr.cell? ⟨gd, od + r, none⟩ = some (.slice (some ⟨gs, os, none⟩) (Gr.build (Gr.spot 1 j) (sts j) j r).length cu) := by rw [hwq]; simpa using c9
                  have d1 : wr.cell? ⟨gs, os + q, none⟩ = some (.string s) := by rw [hwq]; simpa using hcs
                  have d2 : wr.cell? ⟨gl, ol + i, none⟩ = some (.string s) := by rw [hwq]; simpa using hcll
                  obtain ⟨L, hL⟩ : ∃ L, L = (Gr.build (Gr.spot 1 j) (sts j) j r).length := ⟨_, rfl⟩
                  rw [← hL] at d0 hql
                  have m1 : (i : Int) % 2 = (r : Int) := by omega
                  have m2 : (i : Int).tmod 2 = (r : Int) := by rw [Int.tmod_eq_emod_of_nonneg (by omega)]; exact m1
                  have m3 : (i : Int) / 2 = (q : Int) := by omega
                  have m4 : (i : Int).tdiv 2 = (q : Int) := by rw [Int.tdiv_eq_ediv_of_nonneg (by omega)]; exact m3
                  have m5 : IntKind.i64.wrap (q : Int) = (q : Int) := IntWalk.i64_in _ (by omega)
                  have m6 : (r : Int) < 2 := by omega
                  have m7 : (q : Int) < (L : Int) := by omega
                  have m8 : (i : Int) < (j : Int) := by omega
                  have n1 : (0 : Int) ≤ (r : Int) := by omega
                  have n2 : (0 : Int) ≤ (q : Int) := by omega
                  have n3 : (0 : Int) ≤ (i : Int) := by omega
                  clear hr hq hs c9 hg9 hs9 hsp hql hit hcu hcs hgs hcl hcll hgl hL hwq
                  go_wp2_with fail
                  go_quiet (fail)
                  go_wp2_with fail
                  go_roundg (gk - 1)
                  case measure => have := Hi.out; omega
                  case rel => exact ⟨i + 1, nd + nq, by have := Hi.out; omega, by go_num, by rw [Hwq.out, World.drewN_drewN]⟩
                · obtain rfl : i = j := by have := Hi.out; omega
                  go_wp2_with fail
                  go_ret
                  exact ⟨rfl, bdrew HB5.out nd⟩
end Go.Proofs.Ytoddoekmgkcomaa
