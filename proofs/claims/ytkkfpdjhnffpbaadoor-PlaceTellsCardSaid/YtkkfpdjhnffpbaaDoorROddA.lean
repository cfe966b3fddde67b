/- The walks of the references' In and Stripes. -/
import Derived.Test.YtkkfpdjhnffpbaaDoorOddY
import Derived.Test.YtkkfpdjhnffpbaaDoorSame
namespace Go.Proofs.YtkkfpdjhnffpbaaDoor
open Go.ChangeShapes Go.WideShapes Go.ChangeAt Go.RowKit
set_option linter.unusedVariables false
theorem quiet_drewO {P : Program} {f : FuncId} {args : Array Value} {w : World} {n : Nat} {v : Value}
    (h : Calls P f args (w.drewN n) fun e w' => e = .returned v ∧ ∃ k, (w.drewN n).drewN k = w') : Calls P f args (w.drewN n) fun e w'' => e = .returned v ∧ ∃ m, w'' = w.drewN m :=
  h.mono fun _ _ ⟨he, k, hm⟩ => ⟨he, n + k, by rw [← hm, World.drewN_drewN]⟩
theorem rin_any (l : List Int) (x : Int) (v : Value) (w : World) (hv : Row w v (l.map iv)) :
    Calls Tryd.prog 20 #[v, iv x] w fun e w' => e = .returned (.bool (l.contains x)) ∧ w = w' := by
  have HV := Lib.hid hv
  obtain ⟨p, cap, rfl, hl1, hl2, _⟩ := hv.shape
  rw [List.length_map] at *
  unfold maxLen at hl2
  obtain ⟨m, hm⟩ : ∃ m, m = l.length := ⟨_, rfl⟩
  rw [← hm] at HV hl1 ⊢
  have Hm := Lib.hid hm
  obtain ⟨r, hr⟩ : ∃ r, r = l.contains x := ⟨_, rfl⟩
  rw [← hr]
  have Hr := Lib.hid hr
  clear hv hm hr
  go_enter Tryd.func20, Tryd.ntmps20
  go_wp2_with fail
  go_loopg [5] m (fun gk v5 wr => ∃ i : Nat, i + gk = m ∧ v5 = iv i ∧ (l.take i).contains x = false ∧ w = wr)
  case atStart => exact ⟨0, by omega, rfl, rfl, rfl⟩
  case round =>
    obtain ⟨i, hi, rfl, hno, rfl⟩ := hrel
    have Hi := Lib.hid hi
    have Hno := Lib.hid hno
    clear hi hno
    by_cases him : i < m
    · obtain ⟨y, hy⟩ : ∃ y, l[i]? = some y := ⟨l[i]'(by rw [← Hm.out]; exact him), List.getElem?_eq_getElem _⟩
      obtain ⟨g2, o2, cc2, hv2, h3, h4, h5⟩ := HV.out.pos (by rw [List.length_map, ← Hm.out]; omega)
      injection hv2 with e1 q8 q9
      have He1 := Lib.hid e1
      have d1 := h5 i (by rw [List.length_map, ← Hm.out]; exact him)
      rw [List.getElem?_map, hy] at d1
      have d1' : w.cell? ⟨g2, o2 + i, none⟩ = some (iv y) := d1
      have htk : l.take (i + 1) = l.take i ++ [y] := by rw [List.take_add_one, hy]; rfl
      have Htk := Lib.hid htk
      have Hy := Lib.hid hy
      have hiI : (i : Int) < (m : Int) := by omega
      rw [e1]
      clear e1 q8 q9 h3 h4 h5 d1 htk hy
      by_cases hxy : y = x
      · have t1 : (y == x) = true := beq_t hxy
        have HT : Hid (l.contains x = true) := Lib.hid (List.contains_iff_mem.2 (hxy ▸ List.mem_of_getElem? Hy.out))
        clear hxy
        go_wp2_with fail
        go_ret
        exact ⟨by rw [Hr.out, HT.out]; rfl, rfl⟩
      · have t1 : (y == x) = false := beq_f hxy
        have HT : Hid ((l.take (i + 1)).contains x = false) := Lib.hid (by
          rw [← Bool.not_eq_true, List.contains_iff_mem, Htk.out, List.mem_append, List.mem_singleton]
          rintro (h | h)
          · have := List.contains_iff_mem.2 h
            rw [Hno.out] at this; cases this
          · exact hxy h.symm)
        clear hxy
        go_wp2_with fail
        rw [← He1.out]
        go_roundg (gk - 1)
        case measure => have := Hi.out; omega
        case rel => exact ⟨i + 1, by have := Hi.out; omega, by go_num, HT.out, rfl⟩
    · have him' : i = m := by have := Hi.out; omega
      have HT : Hid (l.contains x = false) := Lib.hid (by
        have h := Hno.out
        rw [him', Hm.out, List.take_length] at h; exact h)
      have hiI : ¬ (i : Int) < (m : Int) := by omega
      go_wp2_with fail
      go_ret
      exact ⟨by rw [Hr.out, HT.out]; rfl, rfl⟩
set_option maxRecDepth 100000 in
set_option maxHeartbeats 2000000 in
theorem rstripes_any (n : Int) (l : List (List Int)) (v : Value) (w : World) (hv : Rows2 w v l) :
    Calls Tryd.prog 9 #[iv n, v] w fun e w' => e = .returned (iv (Od.chk n l)) ∧ ∃ k, w' = w.drewN k := by
  have HV := Lib.hid hv
  obtain ⟨p, cap, rfl, hl1, hl2⟩ := hv.shape
  unfold maxLen at hl2
  obtain ⟨m, hm⟩ : ∃ m, m = l.length := ⟨_, rfl⟩
  rw [← hm] at HV hl1 ⊢
  have Hm := Lib.hid hm
  obtain ⟨F, hF⟩ : ∃ F, F = Od.chk n l := ⟨_, rfl⟩
  rw [← hF]
  have HF := Lib.hid (show F = if n < 1 ∨ 10 < n then 1 else if 40 < l.length then 4 else Od.sF n l from hF)
  clear hv hm hF
  by_cases h1 : n < 1 ∨ 10 < n
  · have hF1 : F = 1 := by rw [HF.out, if_pos h1]
    subst hF1
    by_cases h1a : n < 1
    · go_enter Tryd.func9, Tryd.ntmps9
      go_wp2_with fail
      go_ret
      exact ⟨rfl, 0, rfl⟩
    · have h1b : 10 < n := by omega
      go_enter Tryd.func9, Tryd.ntmps9
      go_wp2_with fail
      go_ret
      exact ⟨rfl, 0, rfl⟩
  · have h1a : ¬ n < 1 := by omega
    have h1b : ¬ 10 < n := by omega
    by_cases h2 : 40 < m
    · have hF1 : F = 4 := by rw [HF.out, if_neg h1, ← Hm.out, if_pos h2]
      have t1 : (40 : Int) < (m : Int) := by omega
      clear HF h1 h2
      subst hF1
      go_enter Tryd.func9, Tryd.ntmps9
      go_wp2_with fail
      go_ret
      exact ⟨rfl, 0, rfl⟩
    · have hF1 : F = Od.sF n l := by rw [HF.out, if_neg h1, ← Hm.out, if_neg h2]
      have t1 : ¬ (40 : Int) < (m : Int) := by omega
      have HF1 := Lib.hid hF1
      clear HF h1 hF1
      go_enter Tryd.func9, Tryd.ntmps9
      go_wp2_with fail
      go_loopg [5, 6, 7, 8] m (fun gk v5 v6 v7 v8 wr => ∃ i nd : Nat, i + gk = m ∧ v5 = iv i ∧ Od.sF n (l.drop i) = Od.sF n l ∧ wr = w.drewN nd)
      case atStart => exact ⟨0, 0, by omega, rfl, rfl, rfl⟩
      case round =>
        obtain ⟨gO, hgO⟩ : ∃ x : Nat, x = gk := ⟨_, rfl⟩
        subst hgO
        obtain ⟨wO, hwO⟩ : ∃ x : World, x = wr := ⟨_, rfl⟩
        subst hwO
        obtain ⟨i, nd, hi, rfl, hs, hwr⟩ := hrel
        have Hi := Lib.hid hi
        have Hs := Lib.hid hs
        have Hwr := Lib.hid hwr
        by_cases him : i < m
        · obtain ⟨s, hs⟩ : ∃ s, l[i]? = some s := ⟨l[i]'(by rw [← Hm.out]; exact him), List.getElem?_eq_getElem _⟩
          obtain ⟨g, o, c, p2, c2, hv, hg, hcl, hrb, hwf⟩ := HV.out.at hs
          injection hv with e1 q8 q9
          have He1 := Lib.hid e1
          have hstep := Od.sF_at (n := n) hs
          obtain ⟨k, hk⟩ : ∃ k, k = s.length := ⟨_, rfl⟩
          rw [← hk] at hcl hrb
          have hk9 : k ≤ c2 ∧ c2 ≤ 9223372036854775807 := by
            obtain ⟨_, c', hz, h1, h2, _⟩ := hrb.shape
            injection hz with _ _ z9
            rw [List.length_map, ← hk] at h1
            unfold maxLen at h2
            omega
          have d0 : wO.cell? ⟨g, o + i, none⟩ = some (.slice p2 k c2) := by rw [hwr]; simpa using hcl
          have HRB := Lib.hid hrb
          have HK := Lib.hid hk
          have Hst := Lib.hid hstep
          have D0 := Lib.hid d0
          have hiI : (i : Int) < (m : Int) := by omega
          rw [e1]
          clear e1 q8 q9 hrb hk hstep hs hwf hcl hwr hi
          go_wp2_with fail
          go_loopg [6] k (fun gk v6 wr => ∃ j : Nat, j + gk = k ∧ v6 = iv j ∧ Od.badB n (s.take j) = false ∧ wr = wO)
          case atStart => exact ⟨0, by omega, rfl, rfl, rfl⟩
          case round =>
            obtain ⟨j, hj, rfl, hno, hwe⟩ := hrel
            subst hwe
            have Hj := Lib.hid hj
            have Hno := Lib.hid hno
            obtain ⟨wO, hwO⟩ : ∃ x : World, x = wr := ⟨_, rfl⟩
            subst hwO
            clear hj hno
            by_cases hjk : j < k
            · obtain ⟨d, hd⟩ : ∃ d, s[j]? = some d := ⟨s[j]'(by rw [← HK.out]; exact hjk), List.getElem?_eq_getElem _⟩
              obtain ⟨g2, o2, cc2, hv2, h3, h4, h5⟩ := HRB.out.pos (by rw [List.length_map, ← HK.out]; omega)
              injection hv2 with e1 q8 q9
              have d1 := h5 j (by rw [List.length_map, ← HK.out]; exact hjk)
              rw [List.getElem?_map, hd] at d1
              have d1' : wO.cell? ⟨g2, o2 + j, none⟩ = some (iv d) := by rw [Hwr.out]; simpa using d1
              have d0' := D0.out
              rw [e1] at d0'
              have htk : s.take (j + 1) = s.take j ++ [d] := by rw [List.take_add_one, hd]; rfl
              have hnx : Od.badB n (s.take (j + 1)) = (decide (d < 0) || decide (n ≤ d)) := by
                have h := Hno.out
                unfold Od.badB at h ⊢
                rw [htk, List.any_append, h]; simp
              have Hnx := Lib.hid hnx
              have hin := List.mem_of_getElem? hd
              have Hin := Lib.hid hin
              have hjI : (j : Int) < (k : Int) := by omega
              clear e1 q8 q9 h3 h4 h5 d1 hd htk hnx hin d0
              by_cases hdb : (decide (d < 0) || decide (n ≤ d)) = true
              · have hF1 : F = 1 := by
                  rw [HF1.out, ← Hs.out, Hst.out, if_pos]
                  exact List.any_eq_true.2 ⟨d, Hin.out, hdb⟩
                subst hF1
                by_cases hd0 : d < 0
                · clear hdb
                  go_wp2_with fail
                  go_ret
                  exact ⟨rfl, nd, Hwr.out⟩
                · have hdn : n ≤ d := by simp at hdb; omega
                  clear hdb
                  go_wp2_with fail
                  go_ret
                  exact ⟨rfl, nd, Hwr.out⟩
              · have hdb2 : (decide (d < 0) || decide (n ≤ d)) = false := by simpa using hdb
                have HN := Lib.hid (Hnx.out.trans hdb2)
                have hd0 : ¬ d < 0 := fun h => hdb (by simp [h])
                have hdn : ¬ n ≤ d := fun h => hdb (by simp [h])
                clear hdb hdb2
                go_wp2_with fail
                go_roundg (gk - 1)
                case measure => have := Hj.out; omega
                case rel => exact ⟨j + 1, by have := Hj.out; omega, by go_num, HN.out, rfl⟩
            · have hjk' : j = k := by have := Hj.out; omega
              have Hbb : Hid (Od.badB n s = false) := Lib.hid (by
                have h := Hno.out
                rw [hjk', HK.out, List.take_length] at h; exact h)
              have hjI : ¬ (j : Int) < (k : Int) := by omega
              clear hjk hjk' Hno Hj
              go_wp2_with fail
              clear d0
              go_loopg [7, 8] k (fun gk v7 v8 wr => ∃ j n2 : Nat, j + gk = k ∧ v7 = iv j ∧ (s.take j).Nodup ∧ wr = wO.drewN n2)
              case atStart => exact ⟨0, 0, by omega, rfl, List.nodup_nil, rfl⟩
              case round =>
                obtain ⟨j, n2, hj, rfl, hnd, hwr⟩ := hrel
                have Hj := Lib.hid hj
                have Hnd := Lib.hid hnd
                have Hwr2 := Lib.hid hwr
                clear hj hnd
                have d0 : wr.cell? ⟨g, o + i, none⟩ = some (.slice p2 k c2) := by rw [hwr]; simpa using D0.out
                clear hwr
                by_cases hjk : j < k
                · obtain ⟨d, hd⟩ : ∃ d, s[j]? = some d := ⟨s[j]'(by rw [← HK.out]; exact hjk), List.getElem?_eq_getElem _⟩
                  obtain ⟨g2, o2, cc2, hv2, h3, h4, h5⟩ := HRB.out.pos (by rw [List.length_map, ← HK.out]; omega)
                  injection hv2 with e1 q8 q9
                  have d1 := h5 j (by rw [List.length_map, ← HK.out]; exact hjk)
                  rw [List.getElem?_map, hd] at d1
                  have d1' : wr.cell? ⟨g2, o2 + j, none⟩ = some (iv d) := by rw [Hwr2.out, Hwr.out]; simpa using d1
                  rw [e1] at d0
                  have hhd := row_headI HRB.out (k := j) (by rw [List.length_map, ← HK.out]; omega)
                  rw [← List.map_take, e1] at hhd
                  have HCo : Hid (∀ nq, Calls Tryd.prog 20 #[.slice (some ⟨g2, o2, none⟩) j c2, iv d] (wr.drewN nq) fun e w' => e = .returned (.bool ((s.take j).contains d)) ∧ ∃ n, (wr.drewN nq).drewN n = w') := Lib.hid (fun nq =>
                    (rin_any (s.take j) d _ (wr.drewN nq) (Row.below hhd (by rw [Hwr2.out, Hwr.out]; exact ((bdrew (Below.refl _ _) _).trans ((bdrew (Below.refl _ _) _).trans (bdrew (Below.refl _ _) _)))))).mono (by
                      rintro e w' ⟨h, rfl⟩
                      exact ⟨h, 0, rfl⟩))
                  have hsucc : s.take (j + 1) = s.take j ++ [d] := by rw [List.take_add_one, hd]; rfl
                  have Hsucc := Lib.hid hsucc
                  have hjc : (j : Int) ≤ (c2 : Int) := by omega
                  have hjkI : (j : Int) ≤ (k : Int) := by omega
                  have hjkI' : (j : Int) < (k : Int) := by omega
                  clear e1 q8 q9 h3 h4 h5 d1 hd hhd hsucc
                  cases hcb : (s.take j).contains d with
                  | true =>
                    rw [hcb] at HCo
                    have hnn : ¬ s.Nodup := fun hh => by
                      have h1 : (s.take (j + 1)).Nodup := hh.sublist (List.take_sublist _ _)
                      rw [Hsucc.out, List.nodup_append] at h1
                      exact h1.2.2 d (List.contains_iff_mem.1 hcb) d (List.mem_singleton.2 rfl) rfl
                    have hF1 : F = 7 := by rw [HF1.out, ← Hs.out, Hst.out, Hbb.out, if_neg hnn]; rfl
                    clear hcb hnn
                    subst hF1
                    go_wp2_with fail
                    go_quiet (first | (go_at_call 20; exact quiet_drewO (HCo.out _)))
                    go_wp2_with fail
                    go_ret
                    exact ⟨rfl, nd + (n2 + nq), by rw [Hwr2.out, Hwr.out, World.drewN_drewN, World.drewN_drewN]⟩
                  | false =>
                    rw [hcb] at HCo
                    have hnd2 : (s.take (j + 1)).Nodup := by
                      rw [Hsucc.out, List.nodup_append]
                      refine ⟨Hnd.out, by simp, fun a ha b hb e => ?_⟩
                      rw [List.mem_singleton.1 hb] at e
                      rw [e] at ha
                      have := List.contains_iff_mem.2 ha
                      rw [hcb] at this; cases this
                    have Hnd2 := Lib.hid hnd2
                    clear hcb hnd2
                    go_wp2_with fail
                    go_quiet (first | (go_at_call 20; exact quiet_drewO (HCo.out _)))
                    go_wp2_with fail
                    go_roundg (gk - 1)
                    case measure => have := Hj.out; omega
                    case rel => exact ⟨j + 1, n2 + nq, by have := Hj.out; omega, by go_num, Hnd2.out, by rw [Hwr2.out, World.drewN_drewN]⟩
                · have hjk' : j = k := by have := Hj.out; omega
                  have hnd2 : s.Nodup := by
                    have h := Hnd.out
                    rw [hjk', HK.out, List.take_length] at h; exact h
                  have hs2 : Od.sF n (l.drop (i + 1)) = Od.sF n l := by rw [← Hs.out, Hst.out, Hbb.out, if_pos hnd2]; rfl
                  have Hs2 := Lib.hid hs2
                  have hjI : ¬ (j : Int) < (k : Int) := by omega
                  clear hnd2 hs2
                  go_wp2_with fail
                  rw [← He1.out]
                  go_roundg (gO - 1)
                  case measure => have := Hi.out; omega
                  case rel => exact ⟨i + 1, nd + n2, by have := Hi.out; omega, by go_num, Hs2.out, by rw [Hwr2.out, Hwr.out, World.drewN_drewN]⟩
        · have him' : i = m := by have := Hi.out; omega
          have hF0 : F = 0 := by
            rw [HF1.out, ← Hs.out, him', Hm.out, List.drop_length]; rfl
          have hiI : ¬ (i : Int) < (m : Int) := by omega
          subst hF0
          clear hwr
          go_wp2_with fail
          go_ret
          exact ⟨rfl, nd, Hwr.out⟩
end Go.Proofs.YtkkfpdjhnffpbaaDoor
