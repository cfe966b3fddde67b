/- The library's DeleteFunc at lists of ints. -/
import Derived.Test.YtangcjffiooapaaFuncs
namespace Go.Proofs.Ytangcjffiooapaa
open Go.ChangeShapes Go.WideShapes Go.ChangeAt Go.RowKit
set_option linter.unusedVariables false
def DelFPost (base : Nat) (xs : List Int) (p : Int → Bool) (v : Value) (w : World) (e : Ending) (w' : World) : Prop :=
  ∃ v', e = .returned v' ∧ OwnR w' base 3 v' ((xs.filter (fun x => !p x)).map iv) ∧ Kept (fun k => some k = v.ownBlock) w w' ∧ v'.ownBlock = v.ownBlock
def DelFRel (xs : List Int) (p : Int → Bool) (w : World) (g o sz : Nat) (gk : Nat) (i j : Value) (wr : World) : Prop :=
  ∃ (jj ii : Nat) (cur : Array Value), jj + gk = xs.length ∧ i = iv ii ∧ j = iv jj ∧ ii = ((xs.take jj).filter (fun x => !p x)).length ∧ ii < jj ∧ wr.heap[g]? = some (.cells cur 3 (0, 0)) ∧ cur.size = sz ∧
    (∀ t, t < ii → cur[o + t]? = (((xs.take jj).filter (fun x => !p x)).map iv)[t]?) ∧ (∀ t, jj ≤ t → t < xs.length → cur[o + t]? = (xs.map iv)[t]?) ∧ Kept (· = g) w wr
theorem filter_none {xs : List Int} {p : Int → Bool} (h : xs.any p = false) : xs.filter (fun x => !p x) = xs := by
  rw [List.filter_eq_self]
  intro x hx
  rw [List.any_eq_false] at h
  have := h x hx
  simpa using this
set_option maxRecDepth 100000 in
set_option maxHeartbeats 2000000 in
theorem deleteFunc_any (xs : List Int) (p : Int → Bool) (fn : Nat) (lb : Array Value) (eg : ∀ args w, (callFunc fn args).run Try.prog w = .ok (.enter fn args) w) (v : Value) (w : World) (base : Nat) (S : World → Prop) (hS : S w)
    (hst : ∀ W, Kept (fun k => some k = v.ownBlock) w W → S W) (h : OwnR w base 3 v (xs.map iv)) (hp : PredQ iv fn lb p S) :
    Calls Try.prog 59 #[v, .func (.func fn) #[] lb] w (DelFPost base xs p v w) := by
  have HI := Lib.hid (indexFunc_int xs p fn lb eg v w S hS h.row hp)
  have HP := Lib.hid hp
  have Hst := Lib.hid hst
  by_cases hno : firstQ xs p < 0
  · have hneg : firstQ xs p = -1 := by
      unfold firstQ at hno ⊢
      split at hno
      · omega
      · rename_i h'; rw [if_neg h']
    have HN := Lib.hid hneg
    have HF := Lib.hid (filter_none (firstQ_no hno))
    have H := Lib.hid h
    obtain ⟨pv, mv, cv, rfl⟩ := h.slice
    clear h hp hst hS hno hneg
    go_enter Try.func59, Try.ntmps59
    go_wp2_with fail
    refine HI.out.mono ?_
    rintro e w' ⟨rfl, rfl⟩
    rw [HN.out]
    go_wp2_with fail
    go_ret
    exact ⟨_, rfl, by rw [HF.out]; exact H.out, Kept.refl _ _, rfl⟩
  · obtain ⟨k0, hk0⟩ : ∃ k0 : Nat, firstQ xs p = k0 := ⟨(firstQ xs p).toNat, by omega⟩
    obtain ⟨hk1, hk2, lk, hk3, hk4⟩ := firstQ_at hk0
    rcases h with ⟨rfl, hx⟩ | ⟨g, o, cap, cur, rfl, hb, hg, hnc, hcm, hoc, hcur⟩
    · simp at hx; subst hx; simp at hk1
    · rw [List.length_map] at hnc hcur hst Hst HI ⊢
      unfold maxLen at hcm
      have hf0 : (xs.take (k0 + 1)).filter (fun x => !p x) = xs.take k0 := by
        rw [List.take_add_one, hk3, List.filter_append]
        have h1 : (xs.take k0).filter (fun x => !p x) = xs.take k0 := by
          rw [List.filter_eq_self]
          intro x hx
          obtain ⟨q, hq, e⟩ := List.getElem_of_mem hx
          rw [List.getElem_take] at e
          rw [List.length_take] at hq
          have := hk2 q x (by omega) (by rw [List.getElem?_eq_getElem (by omega), e])
          simp [this]
        rw [h1]; simp [hk4]
      have hst0 : DelFRel xs p w g o cur.size (xs.length - (k0 + 1)) (iv k0) (iv ((k0 + 1 : Nat) : Int)) w := by
        refine ⟨k0 + 1, k0, cur, by omega, rfl, rfl, by rw [hf0, List.length_take]; omega, by omega, hg, rfl, fun t ht => ?_, fun t _ ht => hcur t ht, Kept.refl _ _⟩
        rw [hf0, hcur t (by omega), List.getElem?_map, List.getElem?_map, List.getElem?_take, if_pos ht]
      have Hst0 := Lib.hid hst0
      have HK0 := Lib.hid hk0
      have hn : xs.length ≤ 9223372036854775807 := by omega
      obtain ⟨n, hnn⟩ : ∃ n, n = xs.length := ⟨_, rfl⟩
      rw [← hnn] at HI hnc hn hk1 ⊢
      have HNn := Lib.hid hnn
      have hcz : o + n ≤ cur.size := by omega
      clear hp hst hS hno hk0 hk2 hk3 hk4 hg hcur hf0 hst0 hnn
      go_enter Try.func59, Try.ntmps59
      go_wp2_with fail
      refine HI.out.mono ?_
      rintro e w' ⟨rfl, rfl⟩
      rw [HK0.out]
      have hnn1 : ((k0 : Int) == -1) = false := beq_f (by omega)
      go_wp2_with fail
      rw [show Value.int .i64 ((k0 : Int) + 1) = iv ((k0 + 1 : Nat) : Int) from by go_num]
      go_loopg [5, 6] (n - (k0 + 1)) (fun gk i j wr => DelFRel xs p w g o cur.size gk i j wr)
      case atStart => rw [HNn.out]; exact Hst0.out
      case round =>
        obtain ⟨jj, ii, cu, hj, rfl, rfl, hii, hij, hblk, hsz, hlo, hhi, hK⟩ := hrel
        rw [← HNn.out] at hj hhi
        have Hj := Lib.hid hj
        have Hii := Lib.hid hii
        have Hblk := Lib.hid hblk
        have Hlo := Lib.hid hlo
        have Hhi := Lib.hid hhi
        have HK := Lib.hid hK
        have hjn : jj ≤ n := by omega
        have hsz2 : o + n ≤ cu.size := by omega
        have Hsz := Lib.hid hsz
        clear hj hii hlo hhi hsz Hst0
        by_cases hlt : jj < n
        · obtain ⟨x, hx⟩ : ∃ x, xs[jj]? = some x := ⟨xs[jj]'(by rw [← HNn.out]; exact hlt), List.getElem?_eq_getElem _⟩
          have cj : wr.cell? ⟨g, o + jj, none⟩ = some (iv x) := by
            rw [cell_of_row _ _ _ _ _ _ hblk, Hhi.out jj (Nat.le_refl _) hlt, List.getElem?_map, hx]; rfl
          have ci : wr.cell? ⟨g, o + ii, none⟩ = some cu[o + ii] := by
            rw [cell_of_row _ _ _ _ _ _ hblk, Array.getElem?_eq_getElem (by omega)]
          have cf : ∀ q, wr.frozen? ⟨g, q, none⟩ = false := fun q => frozen_of_row _ _ _ _ _ hblk
          have hcall := HP.out wr (Hst.out wr (hK.mono (fun k _ e => by rw [e]; rfl))) x
          have htk : xs.take (jj + 1) = xs.take jj ++ [x] := by rw [List.take_add_one, hx]; rfl
          have Htk := Lib.hid htk
          have hii1 : ii ≤ 1000000000000000000 ∨ True := .inr trivial
          clear hblk hx htk hK hii1
          go_wp2_with fail
          cases hq : p x with
          | true =>
            rw [hq] at hcall
            have Hq := Lib.hid hq
            clear hq
            refine hcall.mono ?_
            rintro e w' ⟨rfl, rfl⟩
            clear hcall
            have hfl : (xs.take (jj + 1)).filter (fun x => !p x) = (xs.take jj).filter (fun x => !p x) := by rw [Htk.out, List.filter_append]; simp [Hq.out]
            have Hfl := Lib.hid hfl
            clear hfl
            go_wp2_with fail
            go_roundg (gk - 1)
            case measure => have := Hj.out; omega
            case rel => exact ⟨jj + 1, ii, cu, by rw [← HNn.out]; have := Hj.out; omega, rfl, by go_num, by rw [Hfl.out]; exact Hii.out, by omega, Hblk.out, Hsz.out, by rw [Hfl.out]; exact Hlo.out, fun t h1 h2 => Hhi.out t (by omega) (by rw [HNn.out]; exact h2), HK.out⟩
          | false =>
            rw [hq] at hcall
            have Hq := Lib.hid hq
            clear hq
            refine hcall.mono ?_
            rintro e w' ⟨rfl, rfl⟩
            clear hcall
            have hfl : (xs.take (jj + 1)).filter (fun x => !p x) = (xs.take jj).filter (fun x => !p x) ++ [x] := by rw [Htk.out, List.filter_append]; simp [Hq.out]
            have Hfl := Lib.hid hfl
            clear hfl
            go_wp2_with fail
            go_roundg (gk - 1)
            case measure => have := Hj.out; omega
            case rel =>
              refine ⟨jj + 1, ii + 1, cu.setIfInBounds (o + ii) (iv x), by rw [← HNn.out]; have := Hj.out; omega, by go_num, by go_num, by rw [Hfl.out, List.length_append, ← Hii.out]; rfl, by omega, heap_setCell_same _ _ _ _ _ _ Hblk.out, by rw [Array.size_setIfInBounds]; exact Hsz.out, fun t ht => ?_, fun t h1 h2 => ?_, HK.out.set1 _ _⟩
              · rw [Hfl.out, List.map_append]
                by_cases e : t = ii
                · subst e
                  rw [Array.getElem?_setIfInBounds_self_of_lt (by omega), List.getElem?_append_right (by rw [List.length_map, ← Hii.out]; exact Nat.le_refl _), List.length_map, ← Hii.out, Nat.sub_self]; rfl
                · rw [Array.getElem?_setIfInBounds_ne (by omega), Hlo.out t (by omega), List.getElem?_append_left (by rw [List.length_map, ← Hii.out]; omega)]
              · rw [Array.getElem?_setIfInBounds_ne (by omega)]
                exact Hhi.out t (by omega) (by rw [HNn.out]; exact h2)
        · have hjn2 : jj = n := by omega
          subst hjn2
          have hcl : ∀ ty, (Builtin.clear_ #[30] ty #[.slice (some ⟨g, o + ii, none⟩) (jj - ii) (cap - ii)]).run Try.prog wr = .ok (.tuple #[]) (wr.setCells g (o + ii) (List.replicate (jj - ii) (.int .i64 0))) := fun ty =>
            Lib.run_clear_slice wr 30 3 ty (.int .i64 0) Try.underlying30 (fun _ => by kernel_rfl) rfl rfl g (o + ii) (jj - ii) (cap - ii) (by omega) (fun t ht => by rw [cell_of_row _ _ _ _ _ _ hblk, Array.getElem?_eq_getElem (by omega)]; rfl) (fun t _ => frozen_of_row _ _ _ _ _ hblk)
          obtain ⟨cur2, k1, k2, k3⟩ := setCells_at g 3 (List.replicate (jj - ii) (.int .i64 0)) (o + ii) wr cu hblk
          have K1 := Lib.hid k1
          have K2 := Lib.hid k2
          have K3 := Lib.hid k3
          have hci : ¬ cap = ii := by omega
          clear hblk k1 k2 k3 hK
          go_wp2_with fail
          go_ret
          have hfx : (xs.take jj).filter (fun x => !p x) = xs.filter (fun x => !p x) := by rw [HNn.out, List.take_length]
          refine ⟨_, rfl, .inr ⟨g, o, cap, cur2, ?_, hb, K1.out, ?_, by unfold maxLen; omega, by have := K2.out; have := Hsz.out; omega, fun t ht => ?_⟩, ?_, rfl⟩
          · show (Value.slice (some ⟨g, o, none⟩) ii cap) = .slice (some ⟨g, o, none⟩) _ cap
            rw [List.length_map, ← hfx, ← Hii.out]
          · rw [List.length_map, ← hfx, ← Hii.out]; omega
          · rw [List.length_map, ← hfx, ← Hii.out] at ht
            rw [K3.out (o + t) (by omega), if_neg (by omega), Hlo.out t ht, hfx]
          · exact (HK.out.also (kept_setCells wr g _ _)).mono (fun k _ e => by rw [e]; rfl)
end Go.Proofs.Ytangcjffiooapaa
