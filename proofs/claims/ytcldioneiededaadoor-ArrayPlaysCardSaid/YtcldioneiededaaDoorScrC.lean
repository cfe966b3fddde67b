/- slices.Contains of true; healing where one is lost. -/
import Derived.Test.YtcldioneiededaaDoorAryN
namespace Go.Proofs.YtcldioneiededaaDoor
open Go.ChangeShapes Go.WideShapes Go.ChangeAt Go.RowKit
set_option linter.unusedVariables false
theorem indexB_any (ls : List Bool) (v : Value) (w : World) (hv : BoolR w v ls) :
    Calls Tryd.prog 79 #[v, .bool true] w fun e w' => ∃ i : Int, e = .returned (iv i) ∧ decide (0 ≤ i) = ls.any id ∧ -1 ≤ i ∧ w = w' := by
  obtain ⟨p, cap, rfl, hlen, hcap, hcells⟩ := Row.shape hv
  clear hv
  rw [List.length_map] at *
  unfold maxLen at hcap
  obtain ⟨n, hn⟩ : ∃ n, n = ls.length := ⟨_, rfl⟩
  rw [← hn] at hlen hcells ⊢
  have Hn := Lib.hid hn
  have Hcells := Lib.hid hcells
  clear hn hcells
  go_enter Tryd.func79, Tryd.ntmps79
  go_wp2_with fail
  go_loopg [5, 8] n (fun gk v5 v8 wr => ∃ k : Nat, k + gk = n ∧ v8 = iv k ∧ w = wr ∧ ∀ j, j < k → ls[j]? = some false)
  case atStart => exact ⟨0, by omega, rfl, rfl, fun j h => by omega⟩
  case round =>
    obtain ⟨k, hk, rfl, rfl, hm⟩ := hrel
    have Hk := Lib.hid hk
    have Hm := Lib.hid hm
    clear hk hm
    by_cases hlt : k < n
    · obtain ⟨g, off, rfl, hc⟩ := Hcells.out (by omega)
      obtain ⟨y, hy⟩ : ∃ y, ls[k]? = some y := ⟨ls[k]'(by rw [← Hn.out]; exact hlt), List.getElem?_eq_getElem _⟩
      have hc' := hc k hlt
      rw [List.getElem?_map, hy] at hc'
      have hc2 : w.cell? ⟨g, off + k, none⟩ = some (.bool y) := hc'
      have Hy := Lib.hid hy
      clear hc hc' hy
      cases y with
      | true =>
        go_wp2_with fail
        go_ret
        refine ⟨_, rfl, ?_, by omega, rfl⟩
        rw [dec_t (by omega)]
        exact (List.any_eq_true.2 ⟨true, List.mem_of_getElem? Hy.out, rfl⟩).symm
      | false =>
        go_wp2_with fail
        go_roundg (gk - 1)
        case measure => have := Hk.out; omega
        case rel => exact ⟨k + 1, by have := Hk.out; omega, by go_num, rfl, fun j hj => by
          by_cases e : j = k
          · rw [e]; exact Hy.out
          · exact Hm.out j (by omega)⟩
    · have hkn : k = n := by have := Hk.out; omega
      go_wp2_with fail
      go_ret
      refine ⟨-1, rfl, ?_, by omega, rfl⟩
      rw [dec_f (by omega)]
      symm
      rw [List.any_eq_false]
      intro x hx
      obtain ⟨j, hj, hjx⟩ := List.mem_iff_getElem.1 hx
      have := Hm.out j (by rw [hkn, Hn.out]; exact hj)
      rw [List.getElem?_eq_getElem hj] at this
      rw [← hjx, Option.some.inj this]; decide
theorem containsB_any (ls : List Bool) (v : Value) (w : World) (hv : BoolR w v ls) :
    Calls Tryd.prog 56 #[v, .bool true] w fun e w' => e = .returned (.bool (ls.any id)) ∧ w = w' := by
  have HI := Lib.hid (indexB_any ls v w hv)
  obtain ⟨b, hb⟩ : ∃ b, b = ls.any id := ⟨_, rfl⟩
  rw [← hb] at HI ⊢
  clear hv hb
  go_enter Tryd.func56, Tryd.ntmps56
  go_wp2_with fail
  refine HI.out.mono ?_
  rintro e w' ⟨i, rfl, hi, hi1, rfl⟩
  cases b with
  | true =>
    have := of_decide_eq_true hi
    clear hi
    go_wp2_with fail
    go_ret
    exact ⟨rfl, rfl⟩
  | false =>
    have Hi := Lib.hid hi
    clear hi
    go_wp2_with fail
    go_ret
    exact ⟨by show Ending.returned (.bool (decide (0 ≤ i))) = _; rw [Hi.out], rfl⟩
/-- the fault of healing parts of one length -/
theorem healF_gen {ps : List ByteArray} {ls : List Bool} {z : Nat} (h3 : 3 ≤ ps.length) (h12 : ps.length ≤ 12) (hl : ls.length = ps.length) (hz : ∀ i, i < ps.length → Gv.lo ls i = false → (ps.getD i ⟨#[]⟩).size = z) (hz16 : z ≤ 16) : Gv.healF ps ls = if 2 < (Gv.goneL ls ps.length).length then 8 else 0 := by
  have hm : manyB (ps.length : Int) = true := by unfold manyB; rw [dec_t (by omega), dec_t (by omega)]; rfl
  have hlen := Gv.have_len ps ls ps.length
  unfold Gv.healF
  rw [hm, if_neg (by decide), hl, if_neg (by simp)]
  by_cases hc : 2 < (Gv.goneL ls ps.length).length
  · rw [if_pos hc, if_pos (by omega)]
  · rw [if_neg hc, if_neg (by omega)]
    have hall : ∀ m, m ≤ ps.length → ∀ x ∈ Gv.have' ps ls m, x.size = z := by
      intro m
      induction m with
      | zero => intro _ x hx; cases hx
      | succ m ih =>
        intro hm x hx
        unfold Gv.have' at hx
        by_cases e : Gv.lo ls m = true
        · rw [if_pos e] at hx; exact ih (by omega) x hx
        · rw [if_neg e] at hx
          rcases List.mem_append.1 hx with hx | hx
          · exact ih (by omega) x hx
          · rw [List.mem_singleton.1 hx]; exact hz m (by omega) (by simpa using e)
    have hall := hall ps.length (Nat.le_refl _)
    generalize Gv.have' ps ls ps.length = hv at *
    have h0 : hv[0]? = some (hv[0]'(by omega)) := List.getElem?_eq_getElem (by omega)
    rw [blkF_good h0 (fun j x hx => by rw [hall x (List.mem_of_getElem? hx), hall _ (List.getElem_mem (by omega))]), hall _ (List.getElem_mem (by omega)), if_neg (by omega)]
theorem gone_one (n i : Nat) : (Gv.goneL (Gv.marks2 n i i) n).length ≤ 1 := by
  have h1 := Gv.gone_nodup (Gv.marks2 n i i) n
  have h2 : ∀ j ∈ Gv.goneL (Gv.marks2 n i i) n, j = i := fun j hj => by
    have := (Gv.marks2_at.1 (Gv.gone_mem.1 hj).2).2
    omega
  generalize Gv.goneL (Gv.marks2 n i i) n = g at *
  match g, h1, h2 with
  | [], _, _ => simp
  | [a], _, _ => simp
  | a :: b :: l, h1, h2 =>
    have e1 := h2 a (by simp)
    have e2 := h2 b (by simp)
    rw [e1, e2] at h1
    simp at h1
theorem any_marks {s : Ar.S} (ho : s.Ok) (row : Nat) : (s.marks row).any id = decide (0 < s.many row) := by
  have hg := s.many_gone ho row
  by_cases h : 0 < s.many row
  · rw [decide_eq_true h]
    have : 0 < (Gv.goneL (s.marks row) s.n).length := by omega
    obtain ⟨j, hj⟩ := List.exists_mem_of_length_pos this
    have := Gv.gone_mem.1 hj
    refine List.any_eq_true.2 ⟨true, ?_, rfl⟩
    have h2 := this.2
    unfold Gv.lo at h2
    rw [List.getD_eq_getElem?_getD, List.getElem?_eq_getElem (by rw [s.marks_len]; exact this.1)] at h2
    have h3 : (s.marks row)[j]'(by rw [s.marks_len]; exact this.1) = true := h2
    rw [← h3]; exact List.getElem_mem _
  · rw [decide_eq_false h]
    rw [List.any_eq_false]
    intro x hx
    unfold Ar.S.marks at hx
    obtain ⟨j, hj, rfl⟩ := List.mem_map.1 hx
    have h3 := ho.n3
    rw [Ar.S.none_lost h (Ar.dk_lt (by omega))]; decide
theorem marks_set {s : Ar.S} {row i : Nat} (h3 : 3 ≤ s.n) (h : ¬ 0 < s.many row) : ((s.marks row).map Value.bool).set i (.bool true) = (Gv.marks2 s.n i i).map Value.bool := by
  apply List.ext_getElem?
  intro j
  rw [List.getElem?_set, List.length_map, s.marks_len, List.getElem?_map, List.getElem?_map]
  unfold Ar.S.marks Gv.marks2
  by_cases hj : j < s.n
  · rw [List.getElem?_map, List.getElem?_map, List.getElem?_range hj]
    by_cases e : i = j
    · subst e; rw [if_pos rfl, if_pos hj]; simp
    · rw [if_neg e]
      have e' : ¬ j = i := fun h => e h.symm
      simp [Ar.S.none_lost h (Ar.dk_lt (n := s.n) (row := row) (j := j) (by omega)), e']
  · rw [List.getElem?_eq_none (l := List.map _ _) (by simp; omega), List.getElem?_eq_none (l := List.map _ _) (by simp; omega)]
    split
    · rw [if_neg (by omega)]; rfl
    · rfl
end Go.Proofs.YtcldioneiededaaDoor
