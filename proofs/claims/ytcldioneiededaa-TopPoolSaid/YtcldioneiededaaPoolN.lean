/- The walks of pool.New, Fresh, Fill, Slots, States. -/
import Derived.Test.YtcldioneiededaaPoolW
namespace Go.Proofs.Ytcldioneiededaa
open Go.ChangeShapes Go.WideShapes Go.ChangeAt Go.RowKit
set_option linter.unusedVariables false

theorem own_neP {a b : Value} (h : ∀ g, a.ownBlock = some g → b.ownBlock ≠ some g) : b.ownBlock = none ∨ b.ownBlock ≠ a.ownBlock := by
  cases hb : b.ownBlock with
  | none => exact .inl rfl
  | some g => exact .inr (fun e => h g e.symm hb)
theorem pnew_no (a b : Int) (h : a < 1 ∨ 1 ≤ a ∧ 10 < a ∨ 1 ≤ a ∧ a ≤ 10 ∧ b < 0 ∨ 1 ≤ a ∧ a ≤ 10 ∧ 0 ≤ b ∧ 10 < b) (w : World) :
    Calls Try.prog 7 #[iv a, iv b] w fun e w' => e = .returned (.tuple #[.pointer none, ev 1]) ∧ w = w' := by
  rcases h with h | ⟨h1, h2⟩ | ⟨h1, h2, h3⟩ | ⟨h1, h2, h3, h4⟩
  all_goals
    go_enter Try.func7, Try.ntmps7
    go_wp2
    go_ret2
    exact ⟨rfl, rfl⟩

def PoNewPost (m k : Nat) (w : World) (e : Ending) (w' : World) : Prop :=
  ∃ gs cs gl cl, e = .returned (.tuple #[.pointer (some ⟨w.heap.size, 0, none⟩), .nilIface]) ∧ PoolAt w' w.heap.size w.heap.size gs cs gl cl (Pool.newS m (m + k)) (Pool.newL m (m + k)) ∧ Below w.heap.size w w'
def PoNewRel (m N : Nat) (w : World) (i : Value) (wr : World) : Prop :=
  ∃ k : Nat, k ≤ N ∧ i = iv k ∧ ∃ vs vl, wr.heap[w.heap.size]? = some (.cells #[vs, vl] 65 (0, 0)) ∧ wr.ownsRow (w.heap.size + 1) 3 1 vs k ((Pool.newS m k).map iv) ∧
    wr.ownsRow (w.heap.size + 1) 3 1 vl (min k m) ((Pool.newL m k).map iv) ∧ (∀ g, vs.ownBlock = some g → vl.ownBlock ≠ some g) ∧ Below w.heap.size w wr

set_option maxRecDepth 100000 in
set_option maxHeartbeats 2000000 in
theorem pnew_yes (m k : Nat) (h1 : 1 ≤ m) (h2 : m ≤ 10) (h3 : k ≤ 10) (w : World) :
    Calls Try.prog 7 #[iv m, iv k] w (PoNewPost m k w) := by
  obtain ⟨N, hN⟩ : ∃ N, N = m + k := ⟨_, rfl⟩
  have HN := Lib.hid hN
  have hN20 : N ≤ 20 := by omega
  have hNI : (m : Int) + k = (N : Int) := by omega
  have HNI := Lib.hid hNI
  clear hN hNI
  go_enter Try.func7, Try.ntmps7
  go_wp2_with fail
  rw [HNI.out]
  go_loopw [29] (fun i wr => PoNewRel m N w i wr) (fun i _ => N - (intOf i).toNat)
  case atStart =>
    have h := heap_alloc_new w (.cells #[.slice none 0 0, .slice none 0 0] 65)
    exact ⟨0, by omega, rfl, _, _, h, World.ownsRow_nil _ _ _ _, by rw [Nat.zero_min]; exact World.ownsRow_nil _ _ _ _, fun g hg => by simp [Value.ownBlock] at hg, (Below.refl _ _).alloc (Nat.le_refl _) _⟩
  case round =>
    obtain ⟨i, hi, rfl, vs, vl, hblk, hs, hl, hne, hb⟩ := hrel
    have c0 : wr.cell? ⟨w.heap.size, 0, none⟩ = some vs := by rw [cell_of_row _ _ _ _ _ _ hblk]; rfl
    have c1 : wr.cell? ⟨w.heap.size, 1, none⟩ = some vl := by rw [cell_of_row _ _ _ _ _ _ hblk]; rfl
    have hz := (Array.getElem?_eq_some_iff.1 hblk).1
    by_cases hlt : i < N
    · by_cases hm : i < m
      · have Hblk := Lib.hid hblk
        have Hne := Lib.hid hne
        rw [Nat.min_eq_left (by omega)] at hl
        clear hblk hne
        go_wp2_with (at_builtin; refine app1 wr _ _ 3 22 rfl _ _ rfl (w.heap.size + 1) Try.underlying22 info_int rfl _ _ _ rfl _ rfl rfl hl rfl ?c1 ?c2 (by omega) (Below.refl _ _) ?_)
        case c1 => omega
        case c2 => omega
        intro vl' w1 hl1 hb1 hg1 hblk1
        obtain ⟨gl', cl', hvl, _, hgz, hlc, hcm, _, _⟩ := owns_pos hl1 (by omega)
        rw [hvl]
        rw [hvl] at hl1 hblk1
        have hlb := hl.lt
        have hsb := hs.lt
        have e1 : w1.heap[w.heap.size]? = some (.cells #[vs, vl] 65 (0, 0)) := by
          rw [hg1.block _ hz (fun e => by have := (hlb _ e.symm).1; omega)]; exact Hblk.out
        have d0 : w1.cell? ⟨w.heap.size, 0, none⟩ = some vs := by rw [cell_of_row _ _ _ _ _ _ e1]; rfl
        have d1 : w1.cell? ⟨w.heap.size, 1, none⟩ = some vl := by rw [cell_of_row _ _ _ _ _ _ e1]; rfl
        have d2 : ∀ o, w1.frozen? ⟨w.heap.size, o, none⟩ = false := fun o => frozen_of_row _ _ _ _ _ e1
        have hs1 := hs.kept hg1 (by
          cases hv : vs.ownBlock with
          | none => exact .inl rfl
          | some g => exact .inr (fun e => Hne.out g hv e.symm))
        have hne1 : ∀ g, vs.ownBlock = some g → (Value.slice (some ⟨gl', 0, none⟩) (i + 1) cl').ownBlock ≠ some g := by
          intro g hg e
          simp only [Value.ownBlock, Option.some.injEq] at e
          subst e
          rcases hblk1 with h | h
          · exact Hne.out _ hg h.symm
          · have := (hsb _ hg).2
            simp only [Value.ownBlock, Option.some.injEq] at h
            omega
        have e2 : (w1.setCell ⟨w.heap.size, 1, none⟩ (.slice (some ⟨gl', 0, none⟩) (i + 1) cl')).heap[w.heap.size]? = some (.cells #[vs, .slice (some ⟨gl', 0, none⟩) (i + 1) cl'] 65 (0, 0)) := by
          rw [heap_setCell_same _ _ _ _ _ _ e1]; rfl
        have hs2 := ownsRow_setCell_below (a := ⟨w.heap.size, 1, none⟩) hs1 (Nat.lt_succ_self _) (.slice (some ⟨gl', 0, none⟩) (i + 1) cl')
        have hl2 := ownsRow_setCell_below (a := ⟨w.heap.size, 1, none⟩) hl1 (Nat.lt_succ_self _) (.slice (some ⟨gl', 0, none⟩) (i + 1) cl')
        have hb2 : Below w.heap.size w (w1.setCell ⟨w.heap.size, 1, none⟩ (.slice (some ⟨gl', 0, none⟩) (i + 1) cl')) := (hb.trans (hb1.mono (by omega))).setCell (Nat.le_refl _) _
        have hz2 : w.heap.size < (w1.setCell ⟨w.heap.size, 1, none⟩ (.slice (some ⟨gl', 0, none⟩) (i + 1) cl')).heap.size := (Array.getElem?_eq_some_iff.1 e2).1
        have E2 := Lib.hid e2
        clear e2 e1 hl1 hs1 hs hl hb1 hg1 hvl c0 c1 hblk1 Hblk Hne hlb hsb hb
        go_wp2_with (at_builtin; go_loud (refine app1 _ _ _ 3 22 rfl _ _ rfl (w.heap.size + 1) Try.underlying22 info_int rfl _ _ _ rfl _ rfl (by first | rfl | simp) hs2 rfl ?s1 ?s2 (by omega) (Below.refl _ _) ?_))
        case s1 => omega
        case s2 => omega
        intro vs' w3 hs3 hb3 hg3 hblk3
        obtain ⟨gs', cs', hvs, _, hgz3, hlc3, hcm3, _, _⟩ := owns_pos hs3 (by omega)
        rw [hvs]
        rw [hvs] at hs3 hblk3
        have hsb := hs2.lt
        have hlb := hl2.lt
        have e3 : w3.heap[w.heap.size]? = some (.cells #[vs, .slice (some ⟨gl', 0, none⟩) (i + 1) cl'] 65 (0, 0)) := by
          rw [hg3.block _ hz2 (fun e => by have := (hsb _ e.symm).1; omega)]; exact E2.out
        have d0' : w3.cell? ⟨w.heap.size, 0, none⟩ = some vs := by rw [cell_of_row _ _ _ _ _ _ e3]; rfl
        have d2' : ∀ o, w3.frozen? ⟨w.heap.size, o, none⟩ = false := fun o => frozen_of_row _ _ _ _ _ e3
        have hl3 := hl2.kept hg3 (own_neP hne1)
        have hne3 : (Value.slice (some ⟨gl', 0, none⟩) (i + 1) cl').ownBlock ≠ some gs' := by
          rcases hblk3 with h | h
          · intro e; exact hne1 _ h.symm e
          · intro e
            have h' := (hlb _ e).2
            try simp [World.setCell] at h'
            have h2 := Option.some.inj h
            simp only at h2
            omega
        have e4 : (w3.setCell ⟨w.heap.size, 0, none⟩ (.slice (some ⟨gs', 0, none⟩) (i + 1) cs')).heap[w.heap.size]? = some (.cells #[.slice (some ⟨gs', 0, none⟩) (i + 1) cs', .slice (some ⟨gl', 0, none⟩) (i + 1) cl'] 65 (0, 0)) := by
          rw [heap_setCell_same _ _ _ _ _ _ e3]; rfl
        have hs4 := Lib.hid (ownsRow_setCell_below (a := ⟨w.heap.size, 0, none⟩) hs3 (Nat.lt_succ_self _) (.slice (some ⟨gs', 0, none⟩) (i + 1) cs'))
        have hl4 := Lib.hid (ownsRow_setCell_below (a := ⟨w.heap.size, 0, none⟩) hl3 (Nat.lt_succ_self _) (.slice (some ⟨gs', 0, none⟩) (i + 1) cs'))
        have hb4 := Lib.hid ((hb2.trans (hb3.mono (by omega))).setCell (p := ⟨w.heap.size, 0, none⟩) (Nat.le_refl _) (.slice (some ⟨gs', 0, none⟩) (i + 1) cs'))
        have E4 := Lib.hid e4
        have Hne3 := Lib.hid hne3
        clear e4 e3 hs3 hl3 hb3 hg3 hvs hblk3 hsb hlb hne1 hs2 hl2 hb2 hne3
        go_wp2_with fail
        go_roundw
        case rel =>
          refine ⟨i + 1, by omega, by go_num, _, _, E4.out, ?_, ?_, fun g hg => ?_, hb4.out⟩
          · rw [Pool.newS_succ, List.map_append, if_pos hm]; exact hs4.out
          · rw [Pool.newL_yes hm, List.map_append, Nat.min_eq_left (by omega)]; exact hl4.out
          · simp only [Value.ownBlock, Option.some.injEq] at hg; subst hg; exact Hne3.out
        case measure => simp [intOf]; omega

      · have E2 := Lib.hid hblk
        have hs2 := hs
        have hl2 := hl
        have hb2 := hb
        have hz2 := hz
        have hne1 : ∀ g, vs.ownBlock = some g → vl.ownBlock ≠ some g := hne
        clear hblk hs hl hb hne
        go_wp2_with (at_builtin; refine app1 _ _ _ 3 22 rfl _ _ rfl (w.heap.size + 1) Try.underlying22 info_int rfl _ _ _ rfl _ rfl (by first | rfl | simp) hs2 rfl ?t1 ?t2 (by omega) (Below.refl _ _) ?_)
        case t1 => omega
        case t2 => omega
        intro vs' w3 hs3 hb3 hg3 hblk3
        obtain ⟨gs', cs', hvs, _, hgz3, hlc3, hcm3, _, _⟩ := owns_pos hs3 (by omega)
        rw [hvs]
        rw [hvs] at hs3 hblk3
        have hsb := hs2.lt
        have hlb := hl2.lt
        have e3 : w3.heap[w.heap.size]? = some (.cells #[vs, vl] 65 (0, 0)) := by
          rw [hg3.block _ hz2 (fun e => by have := (hsb _ e.symm).1; omega)]; exact E2.out
        have d0' : w3.cell? ⟨w.heap.size, 0, none⟩ = some vs := by rw [cell_of_row _ _ _ _ _ _ e3]; rfl
        have d2' : ∀ o, w3.frozen? ⟨w.heap.size, o, none⟩ = false := fun o => frozen_of_row _ _ _ _ _ e3
        have hl3 := hl2.kept hg3 (own_neP hne1)
        have hne3 : (vl).ownBlock ≠ some gs' := by
          rcases hblk3 with h | h
          · intro e; exact hne1 _ h.symm e
          · intro e
            have h' := (hlb _ e).2
            try simp [World.setCell] at h'
            have h2 := Option.some.inj h
            simp only at h2
            omega
        have e4 : (w3.setCell ⟨w.heap.size, 0, none⟩ (.slice (some ⟨gs', 0, none⟩) (i + 1) cs')).heap[w.heap.size]? = some (.cells #[.slice (some ⟨gs', 0, none⟩) (i + 1) cs', vl] 65 (0, 0)) := by
          rw [heap_setCell_same _ _ _ _ _ _ e3]; rfl
        have hs4 := Lib.hid (ownsRow_setCell_below (a := ⟨w.heap.size, 0, none⟩) hs3 (Nat.lt_succ_self _) (.slice (some ⟨gs', 0, none⟩) (i + 1) cs'))
        have hl4 := Lib.hid (ownsRow_setCell_below (a := ⟨w.heap.size, 0, none⟩) hl3 (Nat.lt_succ_self _) (.slice (some ⟨gs', 0, none⟩) (i + 1) cs'))
        have hb4 := Lib.hid ((hb2.trans (hb3.mono (by omega))).setCell (p := ⟨w.heap.size, 0, none⟩) (Nat.le_refl _) (.slice (some ⟨gs', 0, none⟩) (i + 1) cs'))
        have E4 := Lib.hid e4
        have Hne3 := Lib.hid hne3
        clear e4 e3 hs3 hl3 hb3 hg3 hvs hblk3 hsb hlb hne1 hs2 hl2 hb2 hne3
        go_wp2_with fail
        go_roundw
        case rel =>
          refine ⟨i + 1, by omega, by go_num, _, _, E4.out, ?_, ?_, fun g hg => ?_, hb4.out⟩
          · rw [Pool.newS_succ, List.map_append, if_neg hm]; exact hs4.out
          · rw [Pool.newL_no hm, Nat.min_eq_right (by omega)]; rw [Nat.min_eq_right (by omega)] at hl4; exact hl4.out
          · simp only [Value.ownBlock, Option.some.injEq] at hg; subst hg; exact Hne3.out
        case measure => simp [intOf]; omega

    · obtain rfl : i = N := by omega
      have hN : i = m + k := HN.out
      subst hN
      rw [Nat.min_eq_right (by omega)] at hl
      obtain ⟨gs, cs, hvs, a1, a2, _, _, _, _⟩ := owns_pos hs (by omega)
      obtain ⟨gl, cl, hvl, b1, b2, _, _, _, _⟩ := owns_pos hl (by omega)
      have P : PoNewPost m k w (.returned (.tuple #[.pointer (some ⟨w.heap.size, 0, none⟩), .nilIface])) wr := by
        refine ⟨gs, cs, gl, cl, rfl, ?_, hb⟩
        rw [hvs] at hblk hs
        rw [hvl] at hblk hl
        have hd : gs ≠ gl := by
          intro e
          apply hne gs
          · rw [hvs]; rfl
          · rw [hvl, e]; rfl
        refine ⟨Nat.le_refl _, by omega, by omega, by omega, by omega, hd, ?_, ?_, ?_⟩
        · rw [Pool.newS_len, Pool.newL_len, Nat.min_eq_right (by omega)]; exact hblk
        · rw [Pool.newS_len]
          have := hs
          exact ⟨this.1, by
            rcases this.2 with h | ⟨g, cap, cur, h1, h2, h3⟩
            · exact .inl h
            · exact .inr ⟨g, cap, cur, h1, by omega, h3⟩⟩
        · rw [Pool.newL_len, Nat.min_eq_right (by omega)]
          have := hl
          exact ⟨this.1, by
            rcases this.2 with h | ⟨g, cap, cur, h1, h2, h3⟩
            · exact .inl h
            · exact .inr ⟨g, cap, cur, h1, by omega, h3⟩⟩
      have HP := Lib.hid P
      clear P hvs hvl hs hl hblk hne hb c0 c1
      go_wp2_with fail
      go_ret2
      exact HP.out
end Go.Proofs.Ytcldioneiededaa
