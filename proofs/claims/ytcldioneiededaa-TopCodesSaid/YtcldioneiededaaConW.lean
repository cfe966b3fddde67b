/- The library's slices.Grow at nil and slices.Concat of two lists of rows. -/
import Derived.Test.YtcldioneiededaaCauW
import Derived.Lib.AppendZerosOnto
import Derived.Laws.AppendOwnNone
namespace Go.Proofs.Ytcldioneiededaa
open Go.ChangeShapes Go.WideShapes Go.ChangeAt Go.RowKit
set_option linter.unusedVariables false
def conS (n1 n2 k : Nat) : Nat := if k = 0 then 0 else if k = 1 then n1 else n1 + n2
def ConA (n1 n2 gk : Nat) (w : World) (v3 idx : Value) (wr : World) : Prop := ∃ k : Nat, k + gk = 2 ∧ idx = iv k ∧ v3 = iv (conS n1 n2 k) ∧ w = wr
def conL (xs1 xs2 : List Value) (k : Nat) : List Value := if k = 0 then [] else if k = 1 then xs1 else xs1 ++ xs2
set_option maxRecDepth 100000 in
theorem grow_rows (n : Nat) (h9 : n ≤ 100000) (w : World) :
    Calls Try.prog 64 #[.slice none 0 0, iv n] w fun e w' => ∃ v, e = .returned v ∧ w'.ownsRow w.heap.size 74 1 v 0 [] ∧ Below w.heap.size w w' := by
  by_cases h00 : n = 0
  · subst h00
    go_enter Try.func64, Try.ntmps64
    go_wp2_with fail
    go_ret
    exact ⟨_, rfl, World.ownsRow_nil _ _ _ _, Below.refl _ _⟩
  have h0 : 0 < n := by omega
  clear h00
  obtain ⟨i0, hi, hz0, hz1, hz2⟩ := info_parts info_rowC
  have hrz : ∀ ty, (Builtin.append_ #[85, 3] ty #[.slice none 0 0, .int .i64 (n : Int)]).run Try.prog w =
      .ok (.slice (some ⟨w.heap.size, 0, none⟩) n (grownCap w n 0 74)) (w.drew.alloc (.cells (#[] ++ Builtin.zeroCells (.slice none 0 0 : Value).cells n ++ Builtin.zeroCells (.slice none 0 0 : Value).cells (grownCap w n 0 74 - n)) 74)) := fun ty => by
    have h := Lib.run_append_grow_zeros (P := Try.prog) w 85 3 ty 74 i0 (.slice none 0 0) .i64 .i64 Try.underlying85 Try.underlying3 hi hz0 none 0 0 [] (run_firstCells_none (P := Try.prog) (w := w.drew) i0.size 0 0 0) n h0 (by omega) (by omega) (by omega) (by rw [hz2]; omega)
      (by rw [Nat.zero_add]; exact growslice_fits h0 (by rw [hz2]; omega))
    simp only [Nat.zero_add] at h
    exact h
  have hge := grownCap_ge w n 0 74
  have hle := grownCap_le_maxLen w n 0 74 (by unfold maxLen; omega)
  obtain ⟨G, hG⟩ : ∃ G, G = grownCap w n 0 74 := ⟨_, rfl⟩
  rw [← hG] at hrz hge hle
  obtain ⟨cs, hcs⟩ : ∃ cs, cs = #[] ++ Builtin.zeroCells (.slice none 0 0 : Value).cells n ++ Builtin.zeroCells (.slice none 0 0 : Value).cells (G - n) := ⟨_, rfl⟩
  have hsz : cs.size = G := by
    rw [hcs, Array.size_append, Array.size_append]
    simp [Builtin.zeroCells, Value.cells]
    omega
  rw [← hcs] at hrz
  have HO : Hid ((w.drew.alloc (.cells cs 74)).ownsRow w.heap.size 74 1 (.slice (some ⟨w.heap.size, 0, none⟩) 0 G) 0 []) := Lib.hid ⟨rfl, .inr ⟨w.heap.size, G, cs, rfl, Nat.le_refl _, heap_alloc_new w.drew _, Nat.zero_le _, hle, by rw [hsz, Nat.mul_one], by simp⟩⟩
  have HB : Hid (Below w.heap.size w (w.drew.alloc (.cells cs 74))) := Lib.hid (((Below.refl _ _).drew).alloc (Nat.le_refl _) _)
  unfold maxLen at hle
  have t1 : ¬ ((n : Int) < 0) := by omega
  have t2 : (0 : Int) < (n : Int) := by omega
  clear hG hcs hsz hz0 hz1 hz2 hi
  go_enter Try.func64, Try.ntmps64
  go_wp2_with (at_builtin; refine Lib.wpList_append_run _ rfl _ _ _ _ rfl _ _ rfl rfl _ _ (hrz _) ?_)
  clear hrz
  go_wp2_with fail
  go_ret
  exact ⟨_, rfl, HO.out, HB.out⟩
def ConBrows (xs1 xs2 : List Value) (gk : Nat) (w : World) (v6 idx : Value) (wr : World) : Prop :=
  ∃ k : Nat, k + gk = 2 ∧ idx = iv k ∧ wr.ownsRow w.heap.size 74 1 v6 (conS xs1.length xs2.length k) (conL xs1 xs2 k) ∧ Below w.heap.size w wr
def ConPostrows (xs : List Value) (w : World) (e : Ending) (w' : World) : Prop := ∃ v, e = .returned v ∧ w'.ownsRow w.heap.size 74 1 v xs.length xs ∧ Below w.heap.size w w'
set_option maxRecDepth 100000 in
set_option maxHeartbeats 2000000 in
theorem concat_rows (u1 u2 : Value) (xs1 xs2 : List Value) (g0 : Nat) (w : World) (hg0 : g0 < w.heap.size) (c0 : w.cell? ⟨g0, 0, none⟩ = some u1) (c1 : w.cell? ⟨g0, 1, none⟩ = some u2) (h1 : Row w u1 xs1) (h2 : Row w u2 xs2)
    (hl1 : xs1.length ≤ 1000) (hl2 : xs2.length ≤ 1000) (ho1 : ∀ u ∈ xs1, u.oneCell' = true) (ho2 : ∀ u ∈ xs2, u.oneCell' = true) :
    Calls Try.prog 53 #[.slice (some ⟨g0, 0, none⟩) 2 2] w (ConPostrows (xs1 ++ xs2) w) := by
  obtain ⟨i0, hi, hz0, hz1, hz2⟩ := info_parts info_rowC
  have HInf := Lib.hid hi
  have Hc0 := Lib.hid c0
  have Hc1 := Lib.hid c1
  have H1 := Lib.hid h1
  have H2 := Lib.hid h2
  have Ho1 := Lib.hid ho1
  have Ho2 := Lib.hid ho2
  have hstep : ∀ k, k < 2 → ∃ (p : Option Addr) (n c : Nat) (ys : List Value), w.cell? ⟨g0, k, none⟩ = some (.slice p n c) ∧ Row w (.slice p n c) ys ∧ n = ys.length ∧ (∀ u ∈ ys, u.oneCell' = true) ∧ n ≤ 1000 ∧ conS xs1.length xs2.length k + n = conS xs1.length xs2.length (k + 1) ∧ conL xs1 xs2 k ++ ys = conL xs1 xs2 (k + 1) := fun k hk => by
    have h01 : k = 0 ∨ k = 1 := by omega
    rcases h01 with rfl | rfl
    · obtain ⟨p, c, hv, _⟩ := H1.out.shape
      refine ⟨p, _, c, xs1, by rw [← hv]; exact Hc0.out, by rw [← hv]; exact H1.out, rfl, Ho1.out, hl1, ?_, ?_⟩
      · show 0 + xs1.length = xs1.length; omega
      · rfl
    · obtain ⟨p, c, hv, _⟩ := H2.out.shape
      refine ⟨p, _, c, xs2, by rw [← hv]; exact Hc1.out, by rw [← hv]; exact H2.out, rfl, Ho2.out, hl2, rfl, rfl⟩
  have Hstep := Lib.hid hstep
  have hs9 : ∀ k, conS xs1.length xs2.length k ≤ 2000 := fun k => by
    unfold conS
    by_cases e1 : k = 0
    · rw [if_pos e1]; omega
    · rw [if_neg e1]
      by_cases e2 : k = 1
      · rw [if_pos e2]; omega
      · rw [if_neg e2]; omega
  have Hs9 := Lib.hid hs9
  have hs2 : conS xs1.length xs2.length 2 = xs1.length + xs2.length := rfl
  have Hs2 := Lib.hid hs2
  clear hi c0 c1 h1 h2 ho1 ho2 hstep hs9 hs2
  go_enter Try.func53, Try.ntmps53
  go_wp2_with fail
  go_loopg [3, 5, 11] 2 (fun gk v3 v5 v11 wr => ConA xs1.length xs2.length gk w v3 v11 wr)
  case atStart => exact ⟨0, by omega, rfl, rfl, rfl⟩
  case round =>
    obtain ⟨k, hk, rfl, rfl, hw⟩ := hrel
    subst hw
    have Hk := Lib.hid hk
    clear hk
    by_cases hk2 : k < 2
    · obtain ⟨p, n, c, ys, d0, _, _, _, hn9, hsum, _⟩ := Hstep.out k hk2
      have hs := Hs9.out k
      obtain ⟨s, hse⟩ : ∃ s, s = conS xs1.length xs2.length k := ⟨_, rfl⟩
      rw [← hse] at hs hsum ⊢
      have Hsum := Lib.hid hsum
      have t1 : ¬ ((s : Int) + (n : Int) < 0) := by omega
      have t2 : (k : Int) < 2 := by omega
      clear hse hsum
      go_wp2_with fail
      go_roundg (gk - 1)
      case measure => have := Hk.out; omega
      case rel => exact ⟨k + 1, by have := Hk.out; omega, by go_num, by rw [← Hsum.out]; go_num, rfl⟩
    · have hk2' : k = 2 := by have := Hk.out; omega
      subst hk2'
      have hN : conS xs1.length xs2.length 2 ≤ 2000 := Hs9.out 2
      obtain ⟨N, hNe⟩ : ∃ N, N = conS xs1.length xs2.length 2 := ⟨_, rfl⟩
      rw [← hNe] at hN ⊢
      have HG := Lib.hid (grow_rows N (by omega) w)
      have HNe := Lib.hid hNe
      clear hNe hk2
      go_wp2_with fail
      refine HG.out.mono ?_
      rintro e w2 ⟨v2, rfl, hO2, hb2⟩
      have HO2 := Lib.hid hO2
      have HB2 := Lib.hid hb2
      clear hO2 hb2 HG
      go_wp2_with fail
      go_loopg [6, 8, 27] 2 (fun gk v6 v8 v27 wq => ConBrows xs1 xs2 gk w v6 v27 wq)
      case atStart => exact ⟨0, by omega, rfl, HO2.out, HB2.out⟩
      case round =>
        clear HO2 HB2
        obtain ⟨k, hk, rfl, hO, hB⟩ := hrel
        have Hk := Lib.hid hk
        have HO := Lib.hid hO
        have HB := Lib.hid hB
        clear hk hO hB
        by_cases hk2 : k < 2
        · obtain ⟨p, n, c, ys, d0, hr, hny, hone, hn9, hsum, hL⟩ := Hstep.out k hk2
          have hs := Hs9.out k
          have d1 := (HB.out.cell (p := ⟨g0, k, none⟩) hg0).trans d0
          obtain ⟨s, hse⟩ : ∃ s, s = conS xs1.length xs2.length k := ⟨_, rfl⟩
          rw [← hse] at hs hsum HO
          have Hsum := Lib.hid hsum
          have HL := Lib.hid hL
          have Hone := Lib.hid hone
          have t2 : (k : Int) < 2 := by omega
          obtain ⟨p', c', hv, hnc, hcm, h0n, hrc⟩ := hr
          injection hv with e1 e2 e3
          subst e1 e3
          have Hny := Lib.hid hny
          have Hrc := Lib.hid hrc
          have hi := HInf.out
          have hz := HB.out.size
          clear hse hsum hL hone hny e2 hrc d0
          cases p with
          | none =>
            obtain rfl : c = 0 := h0n rfl
            obtain rfl : n = 0 := by have := Hny.out; omega
            have hys : ys = [] := List.eq_nil_of_length_eq_zero Hny.out.symm
            have hO' : wr.ownsRow w.heap.size 74 1 u6 (conS xs1.length xs2.length (k + 1)) (conL xs1 xs2 (k + 1)) := by
              rw [← HL.out, ← Hsum.out, hys, List.append_nil]; exact HO.out
            have HO' := Lib.hid hO'
            clear hO' hys
            go_wp2_with (at_builtin; refine wpList_append_own_none rfl _ _ 85 rfl w.heap.size 74 i0 1 Try.underlying85 hi _ s _ rfl HO.out rfl ?_)
            clear HO
            go_wp2_with fail
            go_roundg (gk - 1)
            case measure => have := Hk.out; omega
            case rel => exact ⟨k + 1, by have := Hk.out; omega, by go_num, HO'.out, HB.out⟩
          | some ad =>
            go_wp2_with (at_builtin; refine wpList_append_own _ rfl _ _ 85 rfl w.heap.size 74 i0 (.slice none 0 0) 1 24 Try.underlying85 hi hz0 hz1 hz2 rfl (by decide) _ s _ rfl HO.out ad n c ys rfl ?qc1 ?qc2 ?qc3 ?qc4 ?qc5 ?qc6 ?_)
            case qc1 => rw [Nat.mul_one]; exact Hny.out.symm
            case qc2 =>
              intro j u hj
              have hj1 := (List.getElem?_eq_some_iff.1 hj).1
              obtain ⟨g, off, hp, hcc⟩ := Hrc.out (by omega)
              injection hp with hp
              rw [hp, Addr.add_lit]
              have h := hcc j hj1
              rw [hj] at h
              exact (HB.out.cell (p := ⟨g, off + j, none⟩) (World.block_lt_of_cell? w _ h)).trans h
            case qc3 => exact Hone.out
            case qc4 => unfold maxLen; omega
            case qc5 => omega
            case qc6 => exact hz
            intro v8 w8 hown8 hgr8 _
            rw [HL.out, Hsum.out] at hown8
            have HO8 := Lib.hid hown8
            have HB8 : Hid (Below w.heap.size w w8) := Lib.hid (HB.out.trans ((Kept.grown hgr8).toBelow hz (fun b _ e => (OwnR.lt (OwnR.of_owns HO.out) e.symm).1)))
            clear hown8 hgr8 HO HB d1
            go_wp2_with fail
            go_roundg (gk - 1)
            case measure => have := Hk.out; omega
            case rel => exact ⟨k + 1, by have := Hk.out; omega, by go_num, HO8.out, HB8.out⟩
        · have hk2' : k = 2 := by have := Hk.out; omega
          subst hk2'
          rw [← HNe.out] at HO
          have hO' : wr.ownsRow w.heap.size 74 1 u6 (xs1 ++ xs2).length (xs1 ++ xs2) := by
            have h := HO.out
            rw [HNe.out, Hs2.out] at h
            rw [List.length_append]; exact h
          have HO' := Lib.hid hO'
          clear hO' HO hk2
          go_wp2_with fail
          go_ret
          exact ⟨_, rfl, HO'.out, HB.out⟩
end Go.Proofs.Ytcldioneiededaa
