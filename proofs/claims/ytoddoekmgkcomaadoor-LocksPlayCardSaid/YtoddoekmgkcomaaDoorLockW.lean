/- Locks in memory; the walks of odds, find, free and of the library's functions that take a function. -/
import Derived.Test.YtoddoekmgkcomaaDoorLockP
import Derived.Test.YtoddoekmgkcomaaDoorErr
import Derived.Deep.LoopGhost
import Derived.Deep.DeepCutAuto
import Derived.Shelf.Abstract
namespace Go.Proofs.YtoddoekmgkcomaaDoor
open Go.ChangeShapes Go.WideShapes Go.ChangeAt Go.RowKit
set_option linter.unusedVariables false
/-- a lock's cells -/
def lc (l : Lk.L) : List Value := [iv l.who, iv l.fr, iv l.to, .bool l.al]
/-- a lock as a value -/
abbrev lv (l : Lk.L) : Value := .agg #[iv l.who, iv l.fr, iv l.to, .bool l.al]
theorem odds_any (a b : Lk.L) (w : World) :
    Calls Tryd.prog 79 #[lv a, lv b] w fun e w' => e = .returned (.bool (Lk.odds a b)) ∧ Below w.heap.size w w' := by
  obtain ⟨aw, af, at', aa⟩ := a
  obtain ⟨bw, bf, bt, ba⟩ := b
  have H1 : Hid (Lk.odds ⟨aw, af, at', aa⟩ ⟨bw, bf, bt, ba⟩ = (decide (af < bt) && decide (bf < at') && (aa || ba))) := Lib.hid rfl
  by_cases c1 : af < bt
  case' pos => have d1 := dec_t c1
  case' neg => have d1 := dec_f c1
  all_goals
    have HD1 := Lib.hid d1
    by_cases c2 : bf < at'
    case' pos => have d2 := dec_t c2
    case' neg => have d2 := dec_f c2
    all_goals
      have HD2 := Lib.hid d2
      clear c1 c2
      cases aa <;> cases ba
      all_goals
        go_enter Tryd.func79, Tryd.ntmps79
        go_wp2
        go_ret
        exact ⟨by rw [H1.out, HD1.out, HD2.out]; rfl, ((Below.refl _ _).alloc (Nat.le_refl _) _).alloc (by simp) _⟩
/-- a list of locks, wherever it lies: what is read there -/
def RowL (w : World) (v : Value) (ls : List Lk.L) : Prop :=
  ∃ p cap, v = .slice p ls.length cap ∧ ls.length ≤ 9223372036854775807 ∧ ∀ (j : Nat) (l : Lk.L), ls[j]? = some l → ∃ g off, p = some ⟨g, off, none⟩ ∧ g < w.heap.size ∧
    w.cell? ⟨g, off + j * 4, none⟩ = some (iv l.who) ∧ w.cell? ⟨g, off + j * 4 + 1, none⟩ = some (iv l.fr) ∧ w.cell? ⟨g, off + j * 4 + 2, none⟩ = some (iv l.to) ∧ w.cell? ⟨g, off + j * 4 + 3, none⟩ = some (.bool l.al)
theorem RowL.below {w w' : World} {v : Value} {ls : List Lk.L} (h : RowL w v ls) (hb : Below w.heap.size w w') : RowL w' v ls := by
  obtain ⟨p, cap, hv, h1, h2⟩ := h
  refine ⟨p, cap, hv, h1, fun j l hj => ?_⟩
  obtain ⟨g, off, hp, hg, c0, c1, c2, c3⟩ := h2 j l hj
  have k := fun o => hb.cell (p := ⟨g, o, none⟩) hg
  exact ⟨g, off, hp, Nat.lt_of_lt_of_le hg hb.size, (k _).trans c0, (k _).trans c1, (k _).trans c2, (k _).trans c3⟩
/-- what is asked of a function of a lock that says yes or no -/
def PredB (g : Nat) (lb : Array Value) (p : Lk.L → Bool) (w : World) : Prop :=
  ∀ W : World, Below w.heap.size w W → ∀ x, Calls Tryd.prog g (#[lv x] ++ lb) W fun e w' => e = .returned (.bool (p x)) ∧ Below W.heap.size W w'
def IdxFRel (ls : List Lk.L) (p : Lk.L → Bool) (w : World) (gk : Nat) (i : Value) (wr : World) : Prop :=
  ∃ k : Nat, k + gk = ls.length ∧ i = iv k ∧ Below w.heap.size w wr ∧ ∀ j l, j < k → ls[j]? = some l → p l = false
/-- where the first is that is so; -1: nowhere -/
def firstI (ls : List Lk.L) (p : Lk.L → Bool) : Int := if ls.findIdx p < ls.length then (ls.findIdx p : Nat) else -1
theorem firstI_hit {ls : List Lk.L} {p : Lk.L → Bool} {k : Nat} {l : Lk.L} (hl : ls[k]? = some l) (hp : p l = true) (hno : ∀ j l, j < k → ls[j]? = some l → p l = false) : firstI ls p = k := by
  have hk := (List.getElem?_eq_some_iff.1 hl)
  have h : ls.findIdx p = k := by
    rw [List.findIdx_eq hk.1]
    refine ⟨by rw [hk.2]; exact hp, fun j hj => hno j _ hj (List.getElem?_eq_getElem _)⟩
  unfold firstI; rw [h, if_pos hk.1]
theorem firstI_miss {ls : List Lk.L} {p : Lk.L → Bool} (hno : ∀ j l, j < ls.length → ls[j]? = some l → p l = false) : firstI ls p = -1 := by
  unfold firstI
  rw [if_neg]
  intro h
  have h2 := List.findIdx_getElem (w := h)
  rw [hno _ _ h (List.getElem?_eq_getElem h)] at h2
  cases h2
theorem firstI_nonneg (ls : List Lk.L) (p : Lk.L → Bool) : decide (0 ≤ firstI ls p) = ls.any p := by
  unfold firstI
  split
  · rename_i h
    rw [List.findIdx_lt_length] at h
    rw [dec_t (by omega)]; symm; rw [List.any_eq_true]; exact h
  · rename_i h
    rw [List.findIdx_lt_length] at h
    rw [dec_f (by omega)]; symm; rw [List.any_eq_false]
    intro x hx hp; exact h ⟨x, hx, hp⟩
set_option maxRecDepth 100000 in
set_option maxHeartbeats 1000000 in
theorem indexFunc_any (ls : List Lk.L) (p : Lk.L → Bool) (g : Nat) (lb : Array Value) (eg : ∀ args w, (callFunc g args).run Tryd.prog w = .ok (.enter g args) w) (v : Value) (w : World) (hv : RowL w v ls) (hp : PredB g lb p w) :
    Calls Tryd.prog 75 #[v, .func (.func g) #[] lb] w fun e w' => e = .returned (iv (firstI ls p)) ∧ Below w.heap.size w w' := by
  obtain ⟨q, cap, rfl, hl, hc⟩ := hv
  have Hc := Lib.hid hc
  have HP := Lib.hid hp
  clear hc hp
  generalize hn : ls.length = n at *
  have Hn := Lib.hid hn
  clear hn
  go_enter Tryd.func75, Tryd.ntmps75
  go_wp2_with fail
  go_loopg [5, 8] n (fun gk _ i wr => IdxFRel ls p w gk i wr)
  case atStart => exact ⟨0, by rw [Hn.out]; omega, rfl, Below.refl _ _, fun j l hj => by omega⟩
  case round =>
    obtain ⟨k, hk, rfl, hb, hno⟩ := hrel
    rw [Hn.out] at hk
    have Hk := Lib.hid hk
    have Hb := Lib.hid hb
    have Hno := Lib.hid hno
    have hbz := hb.size
    clear hk hb hno
    by_cases hlt : k < n
    · obtain ⟨l, hl⟩ : ∃ l, ls[k]? = some l := ⟨ls[k]'(by rw [Hn.out]; exact hlt), List.getElem?_eq_getElem _⟩
      obtain ⟨gb, off, rfl, hg, c0, c1, c2, c3⟩ := Hc.out k l hl
      have hcell := fun o => Hb.out.cell (p := ⟨gb, o, none⟩) hg
      have d0 := (hcell _).trans c0
      have d1 := (hcell _).trans c1
      have d2 := (hcell _).trans c2
      have d3 := (hcell _).trans c3
      have Hl := Lib.hid hl
      clear c0 c1 c2 c3 hcell hl
      go_wp2_with fail
      have hcall := HP.out _ Hb.out l
      cases hq : p l with
      | true =>
        rw [hq] at hcall
        have Hr := Lib.hid (firstI_hit Hl.out hq Hno.out)
        clear hq
        refine hcall.mono ?_
        rintro e w' ⟨rfl, hb'⟩
        have Hb' := Lib.hid (Hb.out.trans (hb'.mono hbz))
        clear hb' hcall
        go_wp2_with fail
        go_ret
        exact ⟨by rw [Hr.out]; rfl, Hb'.out⟩
      | false =>
        rw [hq] at hcall
        have Hq := Lib.hid hq
        clear hq
        refine hcall.mono ?_
        rintro e w' ⟨rfl, hb'⟩
        have Hb' := Lib.hid (Hb.out.trans (hb'.mono hbz))
        clear hb' hcall
        go_wp2_with fail
        go_roundg (gk - 1)
        case measure => have := Hk.out; omega
        case rel =>
          refine ⟨k + 1, by rw [Hn.out]; have := Hk.out; omega, by go_num, Hb'.out, fun j l' hj h => ?_⟩
          by_cases e : j = k
          · subst e
            rw [Hl.out] at h
            obtain rfl := Option.some.inj h
            exact Hq.out
          · exact Hno.out j l' (by omega) h
    · obtain rfl : k = n := by have := Hk.out; omega
      have Hr := Lib.hid (firstI_miss (fun j l hj h => Hno.out j l (by rw [Hn.out] at hj; exact hj) h))
      clear hlt
      go_wp2_with fail
      go_ret
      exact ⟨by rw [Hr.out]; rfl, Hb.out⟩
set_option maxRecDepth 100000 in
theorem containsFunc_any (ls : List Lk.L) (p : Lk.L → Bool) (g : Nat) (lb : Array Value) (eg : ∀ args w, (callFunc g args).run Tryd.prog w = .ok (.enter g args) w) (v : Value) (w : World) (hv : RowL w v ls) (hp : PredB g lb p w) :
    Calls Tryd.prog 77 #[v, .func (.func g) #[] lb] w fun e w' => e = .returned (.bool (ls.any p)) ∧ Below w.heap.size w w' := by
  have Hv := Lib.hid hv
  have HP := Lib.hid hp
  clear hv hp
  go_enter Tryd.func77, Tryd.ntmps77
  go_wp2_with fail
  refine (indexFunc_any ls p g lb eg v _ Hv.out HP.out).mono ?_
  rintro e w' ⟨rfl, hb⟩
  have Hb := Lib.hid hb
  have Hr := Lib.hid (firstI_nonneg ls p)
  generalize firstI ls p = x at *
  clear hb
  go_wp2_with fail
  go_ret
  exact ⟨by rw [← Hr.out]; rfl, Hb.out⟩
/-- what find's own function says -/
theorem findP (B : Nat) (who : Int) (w : World) (hB : B < w.heap.size) (hc : w.cell? ⟨B, 0, none⟩ = some (iv who)) : PredB 76 #[.pointer (some ⟨B, 0, none⟩)] (fun x => x.who == who) w := by
  intro W hb x
  obtain ⟨xw, xf, xt, xa⟩ := x
  have hc' := (hb.cell (p := ⟨B, 0, none⟩) hB).trans hc
  have hB' := Nat.lt_of_lt_of_le hB hb.size
  clear hc hb
  go_enter Tryd.func76, Tryd.ntmps76
  go_wp2
  go_ret
  exact ⟨rfl, (Below.refl _ _).alloc (Nat.le_refl _) _⟩
theorem find_any (ls : List Lk.L) (who : Int) (v : Value) (w : World) (hv : RowL w v ls) :
    Calls Tryd.prog 56 #[v, iv who] w fun e w' => e = .returned (iv (firstI ls fun x => x.who == who)) ∧ Below w.heap.size w w' := by
  have Hv := Lib.hid (hv.below ((Below.refl _ _).alloc (Nat.le_refl _) (.cells #[iv who] 3)))
  have HP := Lib.hid (findP w.heap.size who (w.alloc (.cells #[iv who] 3)) (by simp) (by simp))
  clear hv
  have eg := enters_of Tryd.func76 (by kernel_rfl) rfl
  go_enter Tryd.func56, Tryd.ntmps56
  go_wp2_with fail
  refine (indexFunc_any ls _ _ _ eg v _ Hv.out HP.out).mono ?_
  rintro e w' ⟨rfl, hb⟩
  have Hb := Lib.hid (((Below.refl w.heap.size w).alloc (Nat.le_refl _) (.cells #[iv who] 3)).trans (hb.mono (by simp)))
  clear hb
  go_wp2_with fail
  go_ret
  exact ⟨rfl, Hb.out⟩
/-- what free's own function says -/
theorem freeP (B : Nat) (x : Lk.L) (w : World) (hB : B < w.heap.size) (hc : w.heap[B]? = some (.cells (lc x).toArray 52 (0, 0))) : PredB 78 #[.pointer (some ⟨B, 0, none⟩)] (fun y => Lk.odds x y) w := by
  intro W hb y
  have hblk := (hb.block B hB).trans hc
  have hne : B ≠ W.heap.size := by have := hb.size; omega
  have hB' := Nat.lt_of_lt_of_le hB hb.size
  have c0 : W.cell? ⟨B, 0, none⟩ = some (iv x.who) := by rw [cell_of_row _ _ _ _ _ _ hblk]; rfl
  have c1 : W.cell? ⟨B, 1, none⟩ = some (iv x.fr) := by rw [cell_of_row _ _ _ _ _ _ hblk]; rfl
  have c2 : W.cell? ⟨B, 2, none⟩ = some (iv x.to) := by rw [cell_of_row _ _ _ _ _ _ hblk]; rfl
  have c3 : W.cell? ⟨B, 3, none⟩ = some (.bool x.al) := by rw [cell_of_row _ _ _ _ _ _ hblk]; rfl
  clear hc hb hblk
  go_enter Tryd.func78, Tryd.ntmps78
  go_wp2_with fail
  refine (odds_any x y _).mono ?_
  rintro e w' ⟨rfl, hb⟩
  have Hb := Lib.hid (((Below.refl W.heap.size W).alloc (Nat.le_refl _) (.cells (lc y).toArray 52)).trans (hb.mono (by simp)))
  clear hb
  go_wp2_with fail
  go_ret
  exact ⟨rfl, Hb.out⟩
theorem free_any (ls : List Lk.L) (x : Lk.L) (v : Value) (w : World) (hv : RowL w v ls) :
    Calls Tryd.prog 58 #[v, lv x] w fun e w' => e = .returned (.bool (Lk.free ls x)) ∧ Below w.heap.size w w' := by
  have Hv := Lib.hid (hv.below ((Below.refl _ _).alloc (Nat.le_refl _) (.cells (lc x).toArray 52)))
  have HP := Lib.hid (freeP w.heap.size x (w.alloc (.cells (lc x).toArray 52)) (by simp) (heap_alloc_new _ _))
  clear hv
  have eg := enters_of Tryd.func78 (by kernel_rfl) rfl
  go_enter Tryd.func58, Tryd.ntmps58
  go_wp2_with fail
  refine (containsFunc_any ls _ _ _ eg v _ Hv.out HP.out).mono ?_
  rintro e w' ⟨rfl, hb⟩
  have Hb := Lib.hid (((Below.refl w.heap.size w).alloc (Nat.le_refl _) (.cells (lc x).toArray 52)).trans (hb.mono (by simp)))
  have Hr := Lib.hid (show Lk.free ls x = !(ls.any fun y => Lk.odds x y) from rfl)
  clear hb
  generalize ls.any _ = z at *
  go_wp2_with fail
  go_ret
  exact ⟨by rw [Hr.out]; rfl, Hb.out⟩
end Go.Proofs.YtoddoekmgkcomaaDoor
