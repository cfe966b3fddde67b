/- The walk of the law LocksShare: it returns true. -/
import Derived.Test.YtoddoekmgkcomaaLockH
namespace Go.Proofs.Ytoddoekmgkcomaa
open Go.ChangeShapes Go.WideShapes Go.ChangeAt Go.RowKit
set_option linter.unusedVariables false
namespace Lk
instance : DecidableEq L := fun a b => decidable_of_iff (a.who = b.who ∧ a.fr = b.fr ∧ a.to = b.to ∧ a.al = b.al) ⟨fun h => by cases a; cases b; simp at h; simp [h], fun h => by rw [h]; exact ⟨rfl, rfl, rfl, rfl⟩⟩
/-- locks i + 1 to n, with others -/
def group (i n : Nat) : List L := (List.range (n - i)).map fun j : Nat => ⟨(i : Int) + (j : Int) + 1, 0, 40, false⟩
def l99 : L := ⟨99, 3, 4, true⟩
def l100 : L := ⟨100, 0, 40, false⟩
theorem share_ask : ∀ i, i < 28 → ask (group 0 i, []) ⟨(i : Int) + 1, 0, 40, false⟩ = ((true, 0), (group 0 (i + 1), [])) := by decide +kernel
theorem share_99' : ∀ n, n < 28 → ask (group 0 (n + 1), []) l99 = ((false, 0), (group 0 (n + 1), [l99])) := by decide +kernel
theorem share_100' : ∀ n, n < 28 → ask (group 0 (n + 1), [l99]) l100 = ((false, 0), (group 0 (n + 1), [l99, l100])) := by decide +kernel
theorem share_free0 : ∀ n, n < 28 → ((List.range n).all fun i => decide (freeL (group i (n + 1), [l99, l100]) ((i : Int) + 1) = (([], 0), (group (i + 1) (n + 1), [l99, l100])))) = true := by decide +kernel
theorem share_free' (n : Nat) (h : n < 28) (i : Nat) (hi : i < n) : freeL (group i (n + 1), [l99, l100]) ((i : Int) + 1) = (([], 0), (group (i + 1) (n + 1), [l99, l100])) := by
  have := List.all_eq_true.1 (share_free0 n h) i (List.mem_range.2 hi)
  exact of_decide_eq_true this
theorem share_last' : ∀ i, i < 28 → freeL (group i (i + 1), [l99, l100]) ((i : Int) + 1) = (([99], 0), ([l99], [l100])) := by decide +kernel
theorem share_99 (n : Nat) (h : n < 29) (h0 : 0 < n) : ask (group 0 n, []) l99 = ((false, 0), (group 0 n, [l99])) := by
  obtain ⟨m, rfl⟩ : ∃ m, n = m + 1 := ⟨n - 1, by omega⟩
  exact share_99' m (by omega)
theorem share_100 (n : Nat) (h : n < 29) (h0 : 0 < n) : ask (group 0 n, [l99]) l100 = ((false, 0), (group 0 n, [l99, l100])) := by
  obtain ⟨m, rfl⟩ : ∃ m, n = m + 1 := ⟨n - 1, by omega⟩
  exact share_100' m (by omega)
theorem share_free (n : Nat) (h : n < 29) (i : Nat) (hi : i < 28) (h0 : i + 1 < n) : freeL (group i n, [l99, l100]) ((i : Int) + 1) = (([], 0), (group (i + 1) n, [l99, l100])) := by
  obtain ⟨m, rfl⟩ : ∃ m, n = m + 1 := ⟨n - 1, by omega⟩
  exact share_free' m (by omega) i (by omega)
theorem share_last (n : Nat) (h : n < 29) (i : Nat) (hi : i < 28) (h0 : i + 1 = n) : freeL (group i n, [l99, l100]) ((i : Int) + 1) = (([99], 0), ([l99], [l100])) := by
  subst h0; exact share_last' i hi
theorem share_end : freeL ([l99], [l100]) 99 = (([100], 0), ([l100], [])) := by decide +kernel
theorem group_len (i n : Nat) : (group i n).length = n - i := by simp [group]
end Lk
def Share1 (w : World) (n : Nat) (gk : Nat) (i : Value) (wr : World) : Prop :=
  ∃ j : Nat, j + gk = n ∧ i = iv ((j : Int) + 1) ∧ LkObj 74 wr w.heap.size w.heap.size (Lk.group 0 j, []) ∧ Below w.heap.size w wr
def Share2 (w : World) (n : Nat) (gk : Nat) (i : Value) (wr : World) : Prop :=
  ∃ (j : Nat) (s : Lk.St), j + gk = n ∧ i = iv ((j : Int) + 1) ∧ (j < n → s = (Lk.group j n, [Lk.l99, Lk.l100])) ∧ (j = n → s = ([Lk.l99], [Lk.l100])) ∧ LkObj 74 wr w.heap.size w.heap.size s ∧ Below w.heap.size w wr
set_option maxRecDepth 100000 in
set_option maxHeartbeats 2000000 in
theorem locksShare_core (n : Nat) (h1 : 1 ≤ n) (h2 : n ≤ 28) (w : World) : Calls Try.prog 5 #[iv n] w fun e w' => e = .returned (.bool true) ∧ Below w.heap.size w w' := by
  go_enter Try.func5, Try.ntmps5
  go_wp2_with fail
  refine (lockNew_any _).mono ?_
  rintro e w0 ⟨rfl, h, hb⟩
  have H0 := Lib.hid h
  have Hb0 := Lib.hid hb
  clear h hb
  go_wp2_with fail
  go_loopg [4] n (fun gk i wr => Share1 w n gk i wr)
  case atStart => exact ⟨0, by omega, rfl, ⟨_, _, H0.out⟩, Hb0.out⟩
  case round =>
    obtain ⟨j, hj, rfl, ho, hb⟩ := hrel
    have Ho := Lib.hid ho
    have Hb := Lib.hid hb
    have Hj := Lib.hid hj
    have hjn : j ≤ n := by omega
    have hlen := Lk.group_len 0 j
    rw [Nat.sub_zero] at hlen
    have HL := Lib.hid hlen
    clear hj ho hb hlen
    by_cases hlt : j < n
    · have HA := Lib.hid (Lk.share_ask j (by omega))
      go_wp2_with fail
      refine (ask_ok Ho.out (by rw [HL.out]; simp; omega) ⟨(j : Int) + 1, 0, 40, false⟩ true HA.out).mono ?_
      rintro e w1 ⟨rfl, h, hb⟩
      have H1 := Lib.hid h
      have Hb1 := Lib.hid (Hb.out.trans hb)
      clear h hb
      go_wp2_with fail
      go_roundg (gk - 1)
      case measure => have := Hj.out; omega
      case rel => exact ⟨j + 1, by have := Hj.out; omega, by go_num, H1.out, Hb1.out⟩
    · obtain rfl : j = n := by omega
      have HA := Lib.hid (Lk.share_99 j (by omega) (by omega))
      have HB := Lib.hid (Lk.share_100 j (by omega) (by omega))
      have HH := H0
      clear hjn hlt H0 Hb0 HH
      go_wp2_with fail
      refine (ask_ok Ho.out (by rw [HL.out]; simp; omega) Lk.l99 false HA.out).mono ?_
      rintro e w1 ⟨rfl, h, hb⟩
      have H1 := Lib.hid h
      have Hb1 := Lib.hid (Hb.out.trans hb)
      clear h hb
      go_wp2_with fail
      refine (ask_ok H1.out (by rw [HL.out]; simp; omega) Lk.l100 false HB.out).mono ?_
      rintro e w2 ⟨rfl, h, hb⟩
      have H2 := Lib.hid h
      have Hb2 := Lib.hid (Hb1.out.trans hb)
      clear h hb
      go_wp2_with fail
      go_loopg [11] j (fun gk i wr => Share2 w j gk i wr)
      case atStart => exact ⟨0, _, by omega, rfl, fun _ => rfl, fun e => by omega, H2.out, Hb2.out⟩
      case round =>
        obtain ⟨i, s, hi, rfl, hs1, hs2, ho, hb⟩ := hrel
        have Hi := Lib.hid hi
        have Hb := Lib.hid hb
        have hin : i ≤ j := by omega
        by_cases hlt : i < j
        · obtain rfl := hs1 hlt
          have Ho := Lib.hid ho
          have hl2 := Lk.group_len i j
          have HL2 := Lib.hid hl2
          clear hi hs1 hs2 ho hb hl2
          by_cases hlast : i + 1 < j
          · have HF := Lib.hid (Lk.share_free j (by omega) i (by omega) hlast)
            have t1 : ((i : Int) + 1 == (j : Int)) = false := beq_f (by omega)
            go_wp2_with fail
            refine (free_is Ho.out (by rw [HL2.out]; simp; omega) ((i : Int) + 1) [] 0 HF.out).mono ?_
            rintro e w3 ⟨v, rfl, hown, h, hb⟩
            obtain ⟨p9, n9, c9, rfl⟩ := owns_slice hown
            have hn9 : n9 = 0 := by
              rcases hown.2 with ⟨e, _⟩ | ⟨g, cap, cur, e, _⟩
              · injection e
              · injection e
            subst hn9
            rw [errV_0]
            have H3 := Lib.hid h
            have Hb3 := Lib.hid (Hb.out.trans hb)
            clear h hb hown
            go_wp2_with fail
            go_roundg (gk - 1)
            case measure => have := Hi.out; omega
            case rel => exact ⟨i + 1, _, by have := Hi.out; omega, by go_num, fun _ => rfl, fun e => by omega, H3.out, Hb3.out⟩
          · have hlast' : i + 1 = j := by omega
            have HF := Lib.hid (Lk.share_last j (by omega) i (by omega) hlast')
            have t1 : ((i : Int) + 1 == (j : Int)) = true := beq_t (by omega)
            have HLast := Lib.hid hlast'
            clear hlast'
            go_wp2_with fail
            refine (free_is Ho.out (by rw [HL2.out]; simp; omega) ((i : Int) + 1) [99] 0 HF.out).mono ?_
            rintro e w3 ⟨v, rfl, hown, h, hb⟩
            obtain ⟨g9, c9, rfl, _⟩ := hown.form (by decide)
            rw [errV_0]
            have H3 := Lib.hid h
            have Hb3 := Lib.hid (Hb.out.trans hb)
            clear h hb hown
            go_wp2_with fail
            go_roundg (gk - 1)
            case measure => have := Hi.out; omega
            case rel => exact ⟨i + 1, _, by have := Hi.out; omega, by go_num, fun e => by have := HLast.out; omega, fun _ => rfl, H3.out, Hb3.out⟩
        · obtain rfl : i = j := by omega
          obtain rfl := hs2 rfl
          have Ho := Lib.hid ho
          have HF := Lib.hid Lk.share_end
          clear hi hs1 hs2 ho hb hin hlt
          go_wp2_with fail
          refine (free_is Ho.out (by decide) 99 [100] 0 HF.out).mono ?_
          rintro e w3 ⟨v, rfl, hown, h, hb⟩
          obtain ⟨g9, c9, rfl, _⟩ := hown.form (by decide)
          have hc : w3.cell? ⟨g9, 0, none⟩ = some (iv 100) := hown.cellAt 0 (by decide)
          rw [errV_0]
          have Hb3 := Lib.hid (Hb.out.trans hb)
          clear h hb hown
          go_wp2_with fail
          go_ret
          exact ⟨rfl, Hb3.out⟩
theorem locksShare_walk (n : Int) (hn : (Lit.int .i64 n).wf = true) (w : World) : Calls Try.prog 5 #[iv n] w fun e w' => e = .returned (.bool true) ∧ Below w.heap.size w w' := by
  by_cases c1 : n < 1
  · go_enter Try.func5, Try.ntmps5
    go_wp2_with fail
    go_ret
    exact ⟨rfl, Below.refl _ _⟩
  · by_cases c2 : 28 < n
    · go_enter Try.func5, Try.ntmps5
      go_wp2_with fail
      go_ret
      exact ⟨rfl, Below.refl _ _⟩
    · obtain ⟨m, rfl⟩ : ∃ m : Nat, n = m := ⟨n.toNat, by omega⟩
      exact locksShare_core m (by omega) (by omega) w
end Go.Proofs.Ytoddoekmgkcomaa
