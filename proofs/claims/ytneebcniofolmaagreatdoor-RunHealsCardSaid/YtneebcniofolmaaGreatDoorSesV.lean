/- The walk of the law RunHeals. -/
import Derived.Test.YtneebcniofolmaaGreatDoorSesR
import Derived.Test.YtneebcniofolmaaGreatDoorSesH
import Derived.Test.YtneebcniofolmaaGreatDoorSlI
import Derived.Test.YtneebcniofolmaaGreatDoorRunN
import Derived.Test.YtneebcniofolmaaGreatDoorRunS
import Derived.Test.YtneebcniofolmaaGreatDoorSesN
namespace Go.Proofs.YtneebcniofolmaaGreatDoor
open Go.ChangeShapes Go.WideShapes Go.ChangeAt Go.RowKit
set_option linter.unusedVariables false
set_option maxHeartbeats 4000000
set_option maxRecDepth 100000
theorem pdisks0 (w : World) : Calls Tryz.prog 50 #[iv 0] w fun e w' => e = .returned (.bool false) ∧ w = w' := by
  go_enter Tryz.func50, Tryz.ntmps50
  go_wp2_with fail
  go_ret
  exact ⟨rfl, rfl⟩
theorem pcheck0 (w : World) : Calls Tryz.prog 32 #[iv 0, .slice none 0 0] w fun e w' => e = .returned (ev 1) ∧ Below w.heap.size w w' := by
  go_enter Tryz.func32, Tryz.ntmps32
  go_wp2_with fail
  refine (pdisks0 _).mono ?_
  rintro e w' ⟨rfl, rfl⟩
  go_wp2_with fail
  go_ret
  exact ⟨rfl, (Below.refl _ _).alloc (Nat.le_refl _) _⟩
theorem ploads0 (w : World) : Calls Tryz.prog 10 #[iv 0, .slice none 0 0] w fun e w' => e = .returned (.tuple #[.slice none 0 0, ev 1]) ∧ Below w.heap.size w w' := by
  go_enter Tryz.func10, Tryz.ntmps10
  go_wp2_with fail
  refine (pcheck0 _).mono ?_
  rintro e w' ⟨rfl, hb⟩
  have Hb := Lib.hid hb
  clear hb
  go_wp2_with fail
  go_ret2
  exact ⟨rfl, Hb.out⟩
/-- one round of building anew, twice -/
def rebT (u v : UInt8) : List UInt8 := [114, 101, 98, 117, 105, 108, 100, 32, u, 10, 114, 101, 98, 117, 105, 108, 100, 32, v, 10]
def rebN (u v : UInt8) : Nat → List UInt8
  | 0 => []
  | k + 1 => rebN u v k ++ rebT u v
theorem rebN_len (u v : UInt8) : ∀ k, (rebN u v k).length = 20 * k
  | 0 => rfl
  | k + 1 => by
    show (rebN u v k ++ rebT u v).length = _
    rw [List.length_append, rebN_len u v k]
    show 20 * k + 20 = 20 * (k + 1)
    omega
theorem heals_no {dq h dx dy : List UInt8} (h1 : (10 : UInt8) ∉ dq) (h2 : (10 : UInt8) ∉ h) (h3 : (10 : UInt8) ∉ dx) (h4 : (10 : UInt8) ∉ dy) : ∀ l ∈ Ru.heals dq h dx dy, (10 : UInt8) ∉ l := by
  have ht : ∀ k : Ru.Wd, (10 : UInt8) ∉ k.txt := by intro k; cases k <;> decide
  have one : ∀ (k : Ru.Wd) (d : List UInt8), (10 : UInt8) ∉ d → (10 : UInt8) ∉ k.txt ++ 32 :: d := fun k d hd => by
    simp only [List.mem_append, List.mem_cons, not_or]
    exact ⟨ht k, by decide, hd⟩
  intro l hl
  unfold Ru.heals Ru.two at hl
  simp only [List.mem_cons, List.mem_append, List.not_mem_nil, or_false] at hl
  have h51 : (10 : UInt8) ∉ ([51] : List UInt8) := by decide
  have hw : (10 : UInt8) ∉ dq ++ 32 :: h := by
    simp only [List.mem_append, List.mem_cons, not_or]
    exact ⟨h1, by decide, h2⟩
  rcases hl with rfl | rfl | rfl | rfl | rfl | rfl | (rfl | rfl) | (rfl | rfl) | (rfl | rfl) | (rfl | rfl) | rfl | rfl | rfl
  · exact one _ _ hw
  all_goals first
    | exact one _ _ h1
    | exact one _ _ h3
    | exact one _ _ h4
    | exact one _ _ h51
    | exact ht _
theorem runHeals_good (w : World) (hE : Env w) (q x y : Nat) (c d : UInt8) (hq : q < 12) (hx : x < 5) (hy : y < 5) (hxy : x ≠ y) (dq : List UInt8) (hdq : dq = Lib.decDigits q) (hdl : dq.length ≤ 2) :
    Calls Tryz.prog 5 #[iv q, .string ⟨#[c, d]⟩, iv x, iv y] w fun e w' => e = .returned (.bool true) ∧ Below w.heap.size w w' := by
  have q0 : ¬ (q : Int) < 0 := by omega
  have q1 : ¬ (11 : Int) < (q : Int) := by omega
  have q1n : ¬ 11 < q := by omega
  have x0 : ¬ (x : Int) < 0 := by omega
  have y0 : ¬ (y : Int) < 0 := by omega
  have x1 : ¬ (4 : Int) < (x : Int) := by omega
  have x1n : ¬ 4 < x := by omega
  have y1 : ¬ (4 : Int) < (y : Int) := by omega
  have y1n : ¬ 4 < y := by omega
  have xy : ¬ (x : Int) = (y : Int) := by omega
  have xyn : ¬ x = y := hxy
  have xyb : ((x : Int) == (y : Int)) = false := by rw [beq_eq_false_iff_ne]; omega
  have xyc : (x == y) = false := by simpa using hxy
  have hz2 : ByteArray.size ⟨#[c, d]⟩ = 2 := rfl
  have HD1 : Hid (∀ W, Calls Tryz.prog 12 #[iv q] W fun e w' => e = .returned (.string ⟨dq.toArray⟩) ∧ Below W.heap.size W w') := Lib.hid (by rw [hdq]; exact digits_any (n := q) (by omega))
  obtain ⟨u, hu⟩ : ∃ u, u = Ru.dc x := ⟨_, rfl⟩
  obtain ⟨v, hv⟩ : ∃ v, v = Ru.dc y := ⟨_, rfl⟩
  have hxd : Lib.decDigits x = [u] := by rw [Ru.dec_s (by omega), hu]
  have hyd : Lib.decDigits y = [v] := by rw [Ru.dec_s (by omega), hv]
  have HD2 : Hid (∀ W, Calls Tryz.prog 12 #[iv x] W fun e w' => e = .returned (.string ⟨#[u]⟩) ∧ Below W.heap.size W w') := Lib.hid (fun W => by have h := digits_any (n := x) (by omega) W; rw [hxd] at h; exact h)
  have HD3 : Hid (∀ W, Calls Tryz.prog 12 #[iv y] W fun e w' => e = .returned (.string ⟨#[v]⟩) ∧ Below W.heap.size W w') := Lib.hid (fun W => by have h := digits_any (n := y) (by omega) W; rw [hyd] at h; exact h)
  obtain ⟨h1, hh1⟩ : ∃ z, z = Ru.hx (c.toNat / 16) := ⟨_, rfl⟩
  obtain ⟨h2, hh2⟩ : ∃ z, z = Ru.hx (c.toNat % 16) := ⟨_, rfl⟩
  obtain ⟨h3, hh3⟩ : ∃ z, z = Ru.hx (d.toNat / 16) := ⟨_, rfl⟩
  obtain ⟨h4, hh4⟩ : ∃ z, z = Ru.hx (d.toNat % 16) := ⟨_, rfl⟩
  have hhx : Ru.hex [c, d] = [h1, h2, h3, h4] := by rw [hh1, hh2, hh3, hh4]; rfl
  have HH : Hid (∀ W, Calls Tryz.prog 13 #[.string ⟨#[c, d]⟩] W fun e w' => e = .returned (.string ⟨#[h1, h2, h3, h4]⟩) ∧ ∃ n, W.drewN n = w') := Lib.hid (fun W => by
    have h := rhex_any ⟨#[c, d]⟩ (by show (2 : Nat) ≤ 100000; omega) W
    rw [show (ByteArray.mk #[c, d]).data.toList = [c, d] from rfl, hhx] at h
    exact h)
  have hans := Ru.heals_ans (c := c) (d := d) hq hx hy hxy
  have hdn : (10 : UInt8) ∉ dq := by rw [hdq]; exact Ru.dec_no q
  have hun : (10 : UInt8) ∉ [u] := by rw [← hxd]; exact Ru.dec_no x
  have hvn : (10 : UInt8) ∉ [v] := by rw [← hyd]; exact Ru.dec_no y
  have hhn : (10 : UInt8) ∉ [h1, h2, h3, h4] := by rw [← hhx]; exact Ru.hex_no [c, d]
  rw [← hdq, hxd, hyd, hhx] at hans
  have Hans := Lib.hid hans
  have HE := Lib.hid hE
  clear hdq hu hv hxd hyd hh1 hh2 hh3 hh4 hhx hans hE
  go_enter Tryz.func5, Tryz.ntmps5
  go_upto_region 1 with (fail)
  go_cut [49] (fun z wq => z = .bool false ∧ w = wq)
  case first =>
    go_wp2_with fail
    go_meet
    exact ⟨rfl, rfl⟩
  case rest =>
  obtain ⟨rfl, rfl⟩ := hcut
  go_wp2_with fail
  refine (HD1.out _).mono ?_
  rintro e w1 ⟨rfl, hb1⟩
  have Hb1 := Lib.hid hb1
  clear hb1
  go_wp2_with fail
  refine (HH.out _).mono ?_
  rintro e w2 ⟨rfl, n2, hw2⟩
  have Hb2 : Hid (Below w.heap.size w w2) := Lib.hid (by rw [← hw2]; exact bdrew Hb1.out _)
  clear hw2
  go_wp2_with fail
  refine (HD2.out _).mono ?_
  rintro e w3 ⟨rfl, hb3⟩
  have Hb3 := Lib.hid (Hb2.out.trans (hb3.mono Hb2.out.size))
  clear hb3
  go_wp2_with fail
  refine (HD3.out _).mono ?_
  rintro e w4 ⟨rfl, hb4⟩
  have Hb4 := Lib.hid (Hb3.out.trans (hb4.mono Hb3.out.size))
  clear hb4
  go_wp2_with fail
  obtain ⟨S0, hS0⟩ : ∃ S0 : List UInt8, S0 = [119, 114, 105, 116, 101, 32] ++ dq ++ [32] ++ [h1, h2, h3, h4] ++ [10, 102, 97, 105, 108, 32] ++ [u] ++ [10, 102, 97, 105, 108, 32] ++ [v] ++ [10, 114, 101, 97, 100, 32] ++ dq ++ [10, 114, 101, 112, 108, 97, 99, 101, 32] ++ [u] ++ [10, 114, 101, 112, 108, 97, 99, 101, 32] ++ [v] ++ [10] := ⟨_, rfl⟩
  have e0 : ByteArray.mk #[119, 114, 105, 116, 101, 32] ++ ByteArray.mk dq.toArray ++ ByteArray.mk #[32] ++ ByteArray.mk #[h1, h2, h3, h4] ++ ByteArray.mk #[10, 102, 97, 105, 108, 32] ++ ByteArray.mk #[u] ++ ByteArray.mk #[10, 102, 97, 105, 108, 32] ++ ByteArray.mk #[v] ++ ByteArray.mk #[10, 114, 101, 97, 100, 32] ++ ByteArray.mk dq.toArray ++ ByteArray.mk #[10, 114, 101, 112, 108, 97, 99, 101, 32] ++ ByteArray.mk #[u] ++ ByteArray.mk #[10, 114, 101, 112, 108, 97, 99, 101, 32] ++ ByteArray.mk #[v] ++ ByteArray.mk #[10] = ByteArray.mk S0.toArray := by
    rw [hS0]; apply ByteArray.ext; simp
  rw [e0]
  have hS0l : S0.length ≤ 100 := by rw [hS0]; simp; omega
  have HS0 := Lib.hid hS0
  have HE4 := Lib.hid (HE.out.new Hb4.out)
  clear e0 hS0
  go_loopg [15, 16] 4 (fun gk v15 v16 wr => ∃ j : Nat, j + gk = 4 ∧ v16 = iv j ∧ v15 = .string ⟨(S0 ++ rebN u v j).toArray⟩ ∧ wr = w4)
  case atStart => exact ⟨0, rfl, rfl, by simp [rebN], rfl⟩
  case round =>
    obtain ⟨j, hj, rfl, rfl, rfl⟩ := hrel
    have Hj := Lib.hid hj
    have hSl : (S0 ++ rebN u v j).length ≤ 200 := by rw [List.length_append, rebN_len]; omega
    have HSj : Hid ((S0 ++ rebN u v j) ++ rebT u v = S0 ++ rebN u v (j + 1)) := Lib.hid (by rw [List.append_assoc]; rfl)
    have hjc : j = 4 ∨ j < 4 := by omega
    rcases hjc with hj4 | hj4
    · have HT : Hid (S0 ++ rebN u v j ++ [114, 101, 97, 100, 32] ++ dq ++ [10, 108, 111, 115, 116, 32, 51, 10, 115, 99, 114, 117, 98, 10] = Ru.joined (Ru.heals dq [h1, h2, h3, h4] [u] [v])) := Lib.hid (by
        rw [hj4, HS0.out]
        simp [Ru.joined, Ru.heals, Ru.two, Ru.Wd.txt, rebN, rebT])
      have hjI : ¬ (j : Int) < 4 := by omega
      obtain ⟨S, hS⟩ : ∃ S, S = S0 ++ rebN u v j := ⟨_, rfl⟩
      rw [← hS] at hSl HT
      rw [← hS]
      have hTl : (Ru.joined (Ru.heals dq [h1, h2, h3, h4] [u] [v])).length ≤ 3000 := by rw [← HT.out]; simp; omega
      have HR := run_any (Ru.joined (Ru.heals dq [h1, h2, h3, h4] [u] [v])) hTl _ HE4.out
      rw [Ru.lines_joined _ (heals_no hdn hhn hun hvn), Ru.runs_ans, Hans.out] at HR
      have HRun : Hid (Calls Tryz.prog 6 #[.string (ByteArray.mk S.toArray ++ ByteArray.mk #[114, 101, 97, 100, 32] ++ ByteArray.mk dq.toArray ++ ByteArray.mk #[10, 108, 111, 115, 116, 32, 51, 10, 115, 99, 114, 117, 98, 10])] wr fun e w' => e = .returned (strB (Ru.joined [Ru.ok, Ru.ok, Ru.ok, [h1, h2, h3, h4], Ru.ok, Ru.ok, [51], [51], [50], [50], [49], [49], [48], [48], [h1, h2, h3, h4], [48], [45]])) ∧ Below wr.heap.size wr w') := Lib.hid (by
        have eT : ByteArray.mk S.toArray ++ ByteArray.mk #[114, 101, 97, 100, 32] ++ ByteArray.mk dq.toArray ++ ByteArray.mk #[10, 108, 111, 115, 116, 32, 51, 10, 115, 99, 114, 117, 98, 10] = ByteArray.mk (Ru.joined (Ru.heals dq [h1, h2, h3, h4] [u] [v])).toArray := by
          rw [← HT.out]; apply ByteArray.ext; simp
        rw [eT]; exact HR)
      have hcut : Ru.cut 10 (Ru.joined [Ru.ok, Ru.ok, Ru.ok, [h1, h2, h3, h4], Ru.ok, Ru.ok, [51], [51], [50], [50], [49], [49], [48], [48], [h1, h2, h3, h4], [48], [45]]) = [Ru.ok, Ru.ok, Ru.ok, [h1, h2, h3, h4], Ru.ok, Ru.ok, [51], [51], [50], [50], [49], [49], [48], [48], [h1, h2, h3, h4], [48], [45], []] := by
        rw [← Hans.out, Ru.cut_joined _ (Ru.ans_no _ _), Hans.out]; rfl
      have HCut := Lib.hid (fun W => rcut_any (Ru.joined [Ru.ok, Ru.ok, Ru.ok, [h1, h2, h3, h4], Ru.ok, Ru.ok, [51], [51], [50], [50], [49], [49], [48], [48], [h1, h2, h3, h4], [48], [45]]) 10 (by show (45 : Nat) ≤ 100000; omega) W)
      unfold CutPost at HCut
      rw [hcut] at HCut
      clear hS HR hcut hj4
      generalize Ru.joined [Ru.ok, Ru.ok, Ru.ok, [h1, h2, h3, h4], Ru.ok, Ru.ok, [51], [51], [50], [50], [49], [49], [48], [48], [h1, h2, h3, h4], [48], [45]] = out at *
      unfold strB at HRun
      go_wp2_with fail
      refine HRun.out.mono ?_
      rintro e w5 ⟨rfl, hb5⟩
      have Hb5 := Lib.hid (Hb4.out.trans (hb5.mono Hb4.out.size))
      clear hb5
      go_wp2_with fail
      refine (HCut.out _).mono ?_
      rintro e w6 ⟨vv, rfl, hO, hb6⟩
      obtain ⟨g, cap, rfl, hgb, hgz, hgc, hg2⟩ := Txts.of_owns hO rfl (by show 0 < 18; omega)
      have Hb6 := Lib.hid (Hb5.out.trans (hb6.mono Hb5.out.size))
      have k3 := hg2 3 _ rfl
      have k13 := hg2 13 _ rfl
      have k14 := hg2 14 _ rfl
      have k15 := hg2 15 _ rfl
      have k16 := hg2 16 _ rfl
      have hn18 : ([Ru.ok, Ru.ok, Ru.ok, [h1, h2, h3, h4], Ru.ok, Ru.ok, [51], [51], [50], [50], [49], [49], [48], [48], [h1, h2, h3, h4], [48], [45], []] : List (List UInt8)).length = 18 := rfl
      rw [hn18] at hgc ⊢
      clear hO hb6 hg2 hgb
      go_wp2_with fail
      go_ret
      exact ⟨rfl, Hb6.out⟩
    · have hjI : (j : Int) < 4 := by omega
      obtain ⟨S, hS⟩ : ∃ S, S = S0 ++ rebN u v j := ⟨_, rfl⟩
      rw [← hS] at hSl HSj
      rw [← hS]
      have eS : ByteArray.mk S.toArray ++ ByteArray.mk #[114, 101, 98, 117, 105, 108, 100, 32] ++ ByteArray.mk #[u] ++ ByteArray.mk #[10, 114, 101, 98, 117, 105, 108, 100, 32] ++ ByteArray.mk #[v] ++ ByteArray.mk #[10] = ByteArray.mk (S ++ rebT u v).toArray := by
        apply ByteArray.ext; simp [rebT]
      have hw1 : IntKind.i64.wrap ((j : Int) + 1) = (j : Int) + 1 := IntWalk.i64_in _ (by omega)
      have HeS := Lib.hid eS
      clear hS eS
      go_wp2_with fail
      rw [HeS.out, HSj.out]
      go_roundg (gk - 1)
      case measure => have := Hj.out; omega
      case rel => exact ⟨j + 1, by have := Hj.out; omega, by go_num, rfl, rfl⟩
theorem runHeals_bad (block i k : Int) (b : ByteArray) (hbad : ¬ (0 ≤ block ∧ block ≤ 11 ∧ b.size = 2 ∧ 0 ≤ i ∧ i ≤ 4 ∧ 0 ≤ k ∧ k ≤ 4 ∧ i ≠ k)) (w : World) (hE : Env w) :
    Calls Tryz.prog 5 #[iv block, .string b, iv i, iv k] w fun e w' => e = .returned (.bool true) ∧ Below w.heap.size w w' := by
  have HE := Lib.hid hE
  have HL := Lib.hid (ploads0 w)
  have Hbad := Lib.hid hbad
  clear hE hbad
  go_enter Tryz.func5, Tryz.ntmps5
  go_upto_region 1 with (fail)
  go_cut [49] (fun z wq => z = .bool true ∧ w = wq)
  case first =>
    by_cases t1 : block < 0
    · go_wp2_with fail
      go_meet
      exact ⟨rfl, rfl⟩
    by_cases t2 : 11 < block
    · go_wp2_with fail
      go_meet
      exact ⟨rfl, rfl⟩
    by_cases t3 : b.size = 2
    · have t3' : (b.size : Int) = 2 := by omega
      by_cases t4 : i < 0
      · go_wp2_with fail
        go_meet
        exact ⟨rfl, rfl⟩
      by_cases t5 : 4 < i
      · go_wp2_with fail
        go_meet
        exact ⟨rfl, rfl⟩
      by_cases t6 : k < 0
      · go_wp2_with fail
        go_meet
        exact ⟨rfl, rfl⟩
      by_cases t7 : 4 < k
      · go_wp2_with fail
        go_meet
        exact ⟨rfl, rfl⟩
      have t8 : i = k := by
        by_cases e : i = k
        · exact e
        · exact absurd ⟨by omega, by omega, t3, by omega, by omega, by omega, by omega, e⟩ Hbad.out
      subst t8
      go_wp2_with fail
      go_meet
      exact ⟨rfl, rfl⟩
    · have t3' : ¬ (b.size : Int) = 2 := by omega
      go_wp2_with fail
      go_meet
      exact ⟨rfl, rfl⟩
  case rest =>
    obtain ⟨rfl, rfl⟩ := hcut
    go_wp2_with fail
    refine HL.out.mono ?_
    rintro e w1 ⟨rfl, hb1⟩
    have HS := Lib.hid (same_eq 1 w1 ((HE.out.new hb1).hd))
    have Hb1 := Lib.hid hb1
    have e1 : errV 1 = ev 1 := rfl
    rw [e1] at HS
    clear hb1 e1
    go_wp2_with fail
    refine HS.out.mono ?_
    rintro e w2 ⟨rfl, hb2⟩
    have Hb2 := Lib.hid hb2
    clear hb2
    go_wp2_with fail
    go_ret
    exact ⟨rfl, Hb1.out.trans (Hb2.out.mono Hb1.out.size)⟩
theorem runHeals_walk (block : Int) (b : ByteArray) (i k : Int) (hbl : (Lit.int .i64 block).wf = true) (hb : b.size ≤ maxLen) (hi : (Lit.int .i64 i).wf = true) (hk : (Lit.int .i64 k).wf = true) (w : World) (hE : Env w) :
    Calls Tryz.prog 5 #[iv block, .string b, iv i, iv k] w fun e w' => e = .returned (.bool true) ∧ Below w.heap.size w w' := by
  by_cases hg : 0 ≤ block ∧ block ≤ 11 ∧ b.size = 2 ∧ 0 ≤ i ∧ i ≤ 4 ∧ 0 ≤ k ∧ k ≤ 4 ∧ i ≠ k
  · obtain ⟨h1, h2, h3, h4, h5, h6, h7, h8⟩ := hg
    obtain ⟨q, rfl⟩ : ∃ q : Nat, block = q := ⟨block.toNat, by omega⟩
    obtain ⟨x, rfl⟩ : ∃ x : Nat, i = x := ⟨i.toNat, by omega⟩
    obtain ⟨y, rfl⟩ : ∃ y : Nat, k = y := ⟨k.toNat, by omega⟩
    obtain ⟨c, d, rfl⟩ : ∃ c d, b = ⟨#[c, d]⟩ := by
      obtain ⟨⟨l⟩⟩ := b
      match l, h3 with
      | [c, d], _ => exact ⟨c, d, rfl⟩
    exact runHeals_good w hE q x y c d (by omega) (by omega) (by omega) (by omega) (Lib.decDigits q) rfl (dec_len q (by omega))
  · exact runHeals_bad block i k b hg w hE
end Go.Proofs.YtneebcniofolmaaGreatDoor
