/- The library's IndexFunc, ContainsFunc, Contains at a list of numbers; the walk of place.Check. -/
import Derived.Test.YtkkfpdjhnffpbaaDoorOddC
import Derived.Test.YtkkfpdjhnffpbaaDoorFuncs
import Derived.Test.YtkkfpdjhnffpbaaDoorSlices
namespace Go.Proofs.YtkkfpdjhnffpbaaDoor
open Go.ChangeShapes Go.WideShapes Go.ChangeAt Go.RowKit
set_option linter.unusedVariables false
set_option maxRecDepth 100000 in
set_option maxHeartbeats 1000000 in
theorem indexFunc_ints {α : Type} (enc : α → Value) (ls : List α) (p : α → Bool) (g : Nat) (lb : Array Value) (eg : ∀ args w, (callFunc g args).run Tryd.prog w = .ok (.enter g args) w) (v : Value) (w : World) (hv : Row w v (ls.map enc)) (hp : ∀ x ∈ ls, Calls Tryd.prog g (#[enc x] ++ lb) w fun e w' => e = .returned (.bool (p x)) ∧ w = w') :
    Calls Tryd.prog 47 #[v, .func (.func g) #[] lb] w fun e w' => e = .returned (iv (firstQ ls p)) ∧ w = w' := by
  obtain ⟨q, cap, rfl, hlen, hcap, hc⟩ := hv.shape
  rw [List.length_map] at *
  unfold maxLen at hcap
  have hN : ls.length ≤ 9223372036854775807 := by omega
  have Hc := Lib.hid hc
  have HP := Lib.hid hp
  clear hc hp hv hcap
  generalize hn : ls.length = n at *
  have Hn := Lib.hid hn
  clear hn
  go_enter Tryd.func47, Tryd.ntmps47
  go_wp2_with fail
  go_loopg [5, 8] n (fun gk _ i wr => IdxQRel ls p w gk i wr)
  case atStart => exact ⟨0, by rw [Hn.out]; omega, rfl, rfl, fun j l hj => by omega⟩
  case round =>
    obtain ⟨k, hk, rfl, hwr, hno⟩ := hrel
    subst hwr
    rw [Hn.out] at hk
    have Hk := Lib.hid hk
    have Hno := Lib.hid hno
    clear hk hno
    by_cases hlt : k < n
    · obtain ⟨l, hl⟩ : ∃ l, ls[k]? = some l := ⟨ls[k]'(by rw [Hn.out]; exact hlt), List.getElem?_eq_getElem _⟩
      obtain ⟨gb, off, rfl, hcc⟩ := Hc.out (by omega)
      have d0 := hcc k hlt
      rw [List.getElem?_map, hl] at d0
      have d1 : wr.cell? ⟨gb, off + k, none⟩ = some (enc l) := d0
      have Hl := Lib.hid hl
      clear d0 hcc hl
      go_wp2_with fail
      have hcall := HP.out l (List.mem_of_getElem? Hl.out)
      cases hq : p l with
      | true =>
        rw [hq] at hcall
        have Hr := Lib.hid (firstQ_hit Hl.out hq Hno.out)
        clear hq
        refine hcall.mono ?_
        rintro e w' ⟨rfl, rfl⟩
        clear hcall
        go_wp2_with fail
        go_ret
        exact ⟨by rw [Hr.out]; rfl, rfl⟩
      | false =>
        rw [hq] at hcall
        have Hq := Lib.hid hq
        clear hq
        refine hcall.mono ?_
        rintro e w' ⟨rfl, rfl⟩
        clear hcall
        go_wp2_with fail
        go_roundg (gk - 1)
        case measure => have := Hk.out; omega
        case rel =>
          refine ⟨k + 1, by rw [Hn.out]; have := Hk.out; omega, by go_num, rfl, fun j l' hj h => ?_⟩
          by_cases e : j = k
          · subst e
            rw [Hl.out] at h
            obtain rfl := Option.some.inj h
            exact Hq.out
          · exact Hno.out j l' (by omega) h
    · obtain rfl : k = n := by have := Hk.out; omega
      have Hr := Lib.hid (firstQ_miss (fun j l hj h => Hno.out j l (by rw [Hn.out] at hj; exact hj) h))
      clear hlt
      go_wp2_with fail
      go_ret
      exact ⟨by rw [Hr.out]; rfl, rfl⟩
theorem containsFunc_ints {α : Type} (enc : α → Value) (ls : List α) (p : α → Bool) (g : Nat) (lb : Array Value) (eg : ∀ args w, (callFunc g args).run Tryd.prog w = .ok (.enter g args) w) (v : Value) (w : World) (hv : Row w v (ls.map enc)) (hp : ∀ x ∈ ls, Calls Tryd.prog g (#[enc x] ++ lb) w fun e w' => e = .returned (.bool (p x)) ∧ w = w') :
    Calls Tryd.prog 33 #[v, .func (.func g) #[] lb] w fun e w' => e = .returned (.bool (ls.any p)) ∧ w = w' := by
  have Hv := Lib.hid hv
  have HP := Lib.hid hp
  clear hv hp
  go_enter Tryd.func33, Tryd.ntmps33
  go_wp2_with fail
  refine (indexFunc_ints enc ls p g lb eg v _ Hv.out HP.out).mono ?_
  rintro e w' ⟨rfl, rfl⟩
  have Hr := Lib.hid (firstQ_nonneg ls p)
  generalize firstQ ls p = x at *
  go_wp2_with fail
  go_ret
  exact ⟨by rw [← Hr.out]; rfl, rfl⟩
theorem contains_ints (xs : List Int) (x : Int) (v : Value) (w : World) (hv : Row w v (xs.map iv)) :
    Calls Tryd.prog 31 #[v, iv x] w fun e w' => e = .returned (.bool (xs.contains x)) ∧ w = w' := by
  have HI := Lib.hid (index_any xs x v w hv)
  have hr : xs.contains x = decide (0 ≤ idx xs x) := by
    unfold idx
    by_cases h : xs.idxOf x < xs.length
    · rw [if_pos h, dec_t (by omega), List.contains_iff_mem]; exact List.idxOf_lt_length_iff.1 h
    · rw [if_neg h, dec_f (by omega), ← Bool.not_eq_true, List.contains_iff_mem]; exact fun hm => h (List.idxOf_lt_length_iff.2 hm)
  rw [hr]
  have Hr := Lib.hid hr
  generalize idx xs x = k at *
  clear hv hr
  obtain ⟨r, hr⟩ : ∃ r, r = decide (0 ≤ k) := ⟨_, rfl⟩
  rw [← hr]
  have Hr2 := Lib.hid hr
  clear hr
  go_enter Tryd.func31, Tryd.ntmps31
  go_wp2_with fail
  refine HI.out.mono ?_
  rintro e w' ⟨rfl, rfl⟩
  go_wp2_with fail
  go_ret
  exact ⟨by rw [Hr2.out]; rfl, rfl⟩
theorem row_headI {w : World} {p : Option Addr} {n cap : Nat} {xs : List Value} (h : Row w (.slice p n cap) xs) {k : Nat} (hk : k ≤ xs.length) : Row w (.slice p k cap) (xs.take k) := by
  obtain ⟨p', cap', hv, h1, h2, h3, h4⟩ := h
  injection hv with e1 e2 e3
  subst e1 e3
  refine ⟨p, cap, by rw [List.length_take, Nat.min_eq_left hk], by rw [List.length_take]; omega, h2, h3, fun h0 => ?_⟩
  rw [List.length_take] at h0
  obtain ⟨g, o, hp, h5⟩ := h4 (by omega)
  refine ⟨g, o, hp, fun j hj => ?_⟩
  rw [List.length_take] at hj
  rw [List.getElem?_take, if_pos (by omega)]
  exact h5 j (by omega)
theorem Rows2.at {w : World} {v : Value} {xss : List (List Int)} (h : Rows2 w v xss) {i : Nat} {l : List Int} (hl : xss[i]? = some l) :
    ∃ g o c p2 c2, v = .slice (some ⟨g, o, none⟩) xss.length c ∧ g < w.heap.size ∧ w.cell? ⟨g, o + i, none⟩ = some (.slice p2 l.length c2) ∧ Row w (.slice p2 l.length c2) (l.map iv) ∧ ∀ n ∈ l, (Lit.int .i64 n).wf = true := by
  obtain ⟨vs, hr, hlen, hrow⟩ := h
  have hi := (List.getElem?_eq_some_iff.1 hl).1
  obtain ⟨g, o, c, hv, h1, h2, h3⟩ := hr.pos (by omega)
  obtain ⟨u, hu, hb, hw⟩ := hrow i l hl
  obtain ⟨p2, c2, rfl, _⟩ := hb.shape
  rw [List.length_map] at *
  have h4 := h3 i (by omega)
  rw [hu] at h4
  exact ⟨g, o, c, p2, c2, by rw [hv, hlen], World.block_lt_of_cell? w _ h4, h4, hb, hw⟩
theorem Rows2.shape {w : World} {v : Value} {xss : List (List Int)} (h : Rows2 w v xss) : ∃ p c, v = .slice p xss.length c ∧ xss.length ≤ c ∧ c ≤ maxLen := by
  obtain ⟨vs, hr, hlen, _⟩ := h
  obtain ⟨p, c, hv, h1, h2, _⟩ := hr.shape
  exact ⟨p, c, by rw [hv, hlen], by omega, h2⟩
namespace Od
def badB (n : Int) (s : List Int) : Bool := s.any (fun d => decide (d < 0) || decide (n ≤ d))
def sF (n : Int) : List (List Int) → Int
  | [] => 0
  | s :: t => if badB n s then 1 else if s.Nodup then sF n t else 7
def chk (n : Int) (l : List (List Int)) : Int := if n < 1 ∨ 10 < n then 1 else if 40 < l.length then 4 else sF n l
theorem sF_at {n : Int} {l : List (List Int)} {i : Nat} {s : List Int} (h : l[i]? = some s) : sF n (l.drop i) = if badB n s then 1 else if s.Nodup then sF n (l.drop (i + 1)) else 7 := by
  obtain ⟨hi, hs⟩ := List.getElem?_eq_some_iff.1 h
  rw [List.drop_eq_getElem_cons hi, hs]; rfl
theorem chk_0 {n : Int} {l : List (List Int)} (h : chk n l = 0) : 1 ≤ n ∧ n ≤ 10 ∧ l.length ≤ 40 ∧ ∀ s ∈ l, s.Nodup ∧ ∀ d ∈ s, 0 ≤ d ∧ d < n := by
  unfold chk at h
  by_cases h1 : n < 1 ∨ 10 < n
  · rw [if_pos h1] at h; cases h
  · rw [if_neg h1] at h
    by_cases h2 : 40 < l.length
    · rw [if_pos h2] at h; cases h
    · rw [if_neg h2] at h
      refine ⟨by omega, by omega, by omega, ?_⟩
      clear h1 h2
      induction l with
      | nil => intro s hs; cases hs
      | cons a t ih =>
        unfold sF at h
        cases hb : badB n a with
        | true => rw [hb] at h; cases h
        | false =>
          rw [hb] at h
          simp only [Bool.false_eq_true, if_false] at h
          by_cases hnd : a.Nodup
          · rw [if_pos hnd] at h
            intro s hs
            rcases List.mem_cons.1 hs with rfl | hs
            · refine ⟨hnd, fun d hd => ?_⟩
              have := List.any_eq_false.1 hb d hd
              simp at this
              omega
            · exact ih h s hs
          · rw [if_neg hnd] at h; cases h
end Od
theorem pcheck1 (d n : Int) (b : Nat) (w : World) (hc : w.cell? ⟨b, 0, none⟩ = some (iv n)) :
    Calls Tryd.prog 34 (#[iv d] ++ #[.pointer (some ⟨b, 0, none⟩)]) w fun e w' => e = .returned (.bool (decide (d < 0) || decide (n ≤ d))) ∧ w = w' := by
  show Calls Tryd.prog _ #[iv d, .pointer (some ⟨b, 0, none⟩)] w fun e w' => e = .returned (.bool (decide (d < 0) || decide (n ≤ d))) ∧ w = w'
  by_cases h1 : d < 0
  · rw [dec_t h1]
    go_enter Tryd.func34, Tryd.ntmps34
    go_wp2_with fail
    go_ret
    exact ⟨rfl, rfl⟩
  · rw [dec_f h1]
    by_cases h2 : n ≤ d
    · rw [dec_t h2]
      go_enter Tryd.func34, Tryd.ntmps34
      go_wp2_with fail
      go_ret
      exact ⟨rfl, rfl⟩
    · rw [dec_f h2]
      go_enter Tryd.func34, Tryd.ntmps34
      go_wp2_with fail
      go_ret
      exact ⟨rfl, rfl⟩
theorem pdisks (n : Int) (w : World) : Calls Tryd.prog 25 #[iv n] w fun e w' => e = .returned (.bool (decide (1 ≤ n ∧ n ≤ 10))) ∧ w = w' := by
  by_cases h1 : 1 ≤ n
  · by_cases h2 : n ≤ 10
    · rw [dec_t ⟨h1, h2⟩]
      go_enter Tryd.func25, Tryd.ntmps25
      go_wp2_with fail
      go_ret
      exact ⟨rfl, rfl⟩
    · rw [dec_f (fun h => h2 h.2)]
      go_enter Tryd.func25, Tryd.ntmps25
      go_wp2_with fail
      go_ret
      exact ⟨rfl, rfl⟩
  · rw [dec_f (fun h => h1 h.1)]
    go_enter Tryd.func25, Tryd.ntmps25
    go_wp2_with fail
    go_ret
    exact ⟨rfl, rfl⟩
def PcRel (n : Int) (l : List (List Int)) (w1 : World) (gk : Nat) (v21 : Value) (wr : World) : Prop :=
  ∃ i : Nat, i + gk = l.length ∧ v21 = iv i ∧ Od.sF n (l.drop i) = Od.sF n l ∧ w1 = wr
set_option maxRecDepth 100000 in
set_option maxHeartbeats 2000000 in
theorem pcheck_any (n : Int) (l : List (List Int)) (v : Value) (w : World) (hv : Rows2 w v l) :
    Calls Tryd.prog 22 #[iv n, v] w fun e w' => e = .returned (errV (Od.chk n l)) ∧ Below w.heap.size w w' := by
  have HV := Lib.hid hv
  obtain ⟨p, cap, rfl, hl1, hl2⟩ := hv.shape
  unfold maxLen at hl2
  obtain ⟨m, hm⟩ : ∃ m, m = l.length := ⟨_, rfl⟩
  rw [← hm] at HV hl1 ⊢
  have Hm := Lib.hid hm
  obtain ⟨b, hb⟩ : ∃ b, b = w.heap.size := ⟨_, rfl⟩
  obtain ⟨w1, hw1⟩ : ∃ w1, w1 = w.alloc (.cells #[iv n] 3) := ⟨_, rfl⟩
  have hc : w1.cell? ⟨b, 0, none⟩ = some (iv n) := by rw [hw1, hb, cell_of_row _ _ _ _ _ _ (heap_alloc_new w _)]; rfl
  have hbl : Below w.heap.size w w1 := by rw [hw1]; exact (Below.refl _ _).alloc (Nat.le_refl _) _
  have HB := Lib.hid hbl
  have HV1 := Lib.hid (HV.out.below hbl)
  have Hb := Lib.hid hb
  have Hw1 := Lib.hid hw1
  have HD := Lib.hid (pdisks n w1)
  obtain ⟨F, hF⟩ : ∃ F, F = Od.chk n l := ⟨_, rfl⟩
  rw [← hF]
  have HF := Lib.hid (show F = if n < 1 ∨ 10 < n then 1 else if 40 < l.length then 4 else Od.sF n l from hF)
  clear hv hm hb hw1 hbl hF
  go_enter Tryd.func22, Tryd.ntmps22
  go_wp2_with fail
  rw [← Hb.out, show w.alloc (.cells #[Value.int .i64 n] 3) = w1 from Hw1.out.symm]
  refine HD.out.mono ?_
  rintro e w' ⟨rfl, rfl⟩
  clear HD Hb Hw1
  by_cases h1 : n < 1 ∨ 10 < n
  · have hF1 : F = 1 := by rw [HF.out, if_pos h1]
    rw [dec_f (p := 1 ≤ n ∧ n ≤ 10) (by omega)]
    clear HF h1
    subst hF1
    go_wp2_with fail
    go_ret
    exact ⟨rfl, HB.out⟩
  · rw [dec_t (p := 1 ≤ n ∧ n ≤ 10) (by omega)]
    by_cases h2 : 40 < m
    · have hF1 : F = 4 := by rw [HF.out, if_neg h1, ← Hm.out, if_pos h2]
      have t1 : (40 : Int) < (m : Int) := by omega
      clear HF h1 h2
      subst hF1
      go_wp2_with fail
      go_ret
      exact ⟨rfl, HB.out⟩
    · have hF1 : F = Od.sF n l := by rw [HF.out, if_neg h1, ← Hm.out, if_neg h2]
      have t1 : ¬ (40 : Int) < (m : Int) := by omega
      have HF1 := Lib.hid hF1
      have eg := enters_of Tryd.func34 (by kernel_rfl) rfl
      clear HF h1 hF1
      go_wp2_with fail
      go_loopg [6, 7, 8, 21] m (fun gk v6 v7 v8 v21 wr => ∃ i : Nat, i + gk = m ∧ v21 = iv i ∧ Od.sF n (l.drop i) = Od.sF n l ∧ w1 = wr)
      case atStart => exact ⟨0, by omega, rfl, rfl, rfl⟩
      case round =>
        obtain ⟨gO, hgO⟩ : ∃ x : Nat, x = gk := ⟨_, rfl⟩
        subst hgO
        obtain ⟨i, hi, rfl, hs, rfl⟩ := hrel
        have Hi := Lib.hid hi
        have Hs := Lib.hid hs
        clear hi hs
        by_cases him : i < m
        · obtain ⟨s, hs⟩ : ∃ s, l[i]? = some s := ⟨l[i]'(by rw [← Hm.out]; exact him), List.getElem?_eq_getElem _⟩
          obtain ⟨g, o, c, p2, c2, hv, hg, hcl, hrb, hwf⟩ := HV1.out.at hs
          injection hv with e1 q8 q9
          have He1 := Lib.hid e1
          have hstep := Od.sF_at (n := n) hs
          obtain ⟨k, hk⟩ : ∃ k, k = s.length := ⟨_, rfl⟩
          rw [← hk] at hcl hrb
          obtain ⟨_, c2', hz, hk1, hk2, _⟩ := hrb.shape
          injection hz with z7 z8 z9
          rw [List.length_map, ← hk] at hk1
          unfold maxLen at hk2
          rw [← z9] at hk1 hk2
          have HRB := Lib.hid hrb
          have HK := Lib.hid hk
          have Hst := Lib.hid hstep
          have HCF := Lib.hid (containsFunc_ints iv s (fun d => decide (d < 0) || decide (n ≤ d)) _ #[.pointer (some ⟨b, 0, none⟩)] eg (.slice p2 k c2) w1 hrb (fun d hd => pcheck1 d n b w1 hc))
          rw [e1]
          clear e1 q8 q9 z7 z8 z9 hrb hk hstep hs hwf
          go_wp2_with fail
          refine HCF.out.mono ?_
          rintro e w' ⟨rfl, rfl⟩
          clear HCF
          cases hbb : s.any (fun d => decide (d < 0) || decide (n ≤ d)) with
          | true =>
            have hF1 : F = 1 := by rw [HF1.out, ← Hs.out, Hst.out, show Od.badB n s = true from hbb]; rfl
            clear hbb
            subst hF1
            go_wp2_with fail
            go_ret
            exact ⟨rfl, HB.out⟩
          | false =>
            have Hbb := Lib.hid (show Od.badB n s = false from hbb)
            clear hbb
            go_wp2_with fail
            go_loopg [7, 8, 31] k (fun gk v7 v8 v31 wr => ∃ j : Nat, j + gk = k ∧ v31 = iv j ∧ (s.take j).Nodup ∧ w1 = wr)
            case atStart => exact ⟨0, by omega, rfl, List.nodup_nil, rfl⟩
            case round =>
              obtain ⟨j, hj, rfl, hnd, rfl⟩ := hrel
              have Hj := Lib.hid hj
              have Hnd := Lib.hid hnd
              clear hj hnd
              by_cases hjk : j < k
              · obtain ⟨d, hd⟩ : ∃ d, s[j]? = some d := ⟨s[j]'(by rw [← HK.out]; exact hjk), List.getElem?_eq_getElem _⟩
                obtain ⟨g2, o2, cc2, hv2, h3, h4, h5⟩ := HRB.out.pos (by rw [List.length_map, ← HK.out]; omega)
                injection hv2 with e1 q8 q9
                have He2 := Lib.hid e1
                have d1 := h5 j (by rw [List.length_map, ← HK.out]; exact hjk)
                rw [List.getElem?_map, hd] at d1
                have d1' : w1.cell? ⟨g2, o2 + j, none⟩ = some (iv d) := d1
                have hhd := row_headI HRB.out (k := j) (by rw [List.length_map, ← HK.out]; omega)
                rw [← List.map_take] at hhd
                have HCo := Lib.hid (contains_ints (s.take j) d _ w1 hhd)
                have hsucc : s.take (j + 1) = s.take j ++ [d] := by rw [List.take_add_one, hd]; rfl
                have Hsucc := Lib.hid hsucc
                have hjc : (j : Int) ≤ (c2 : Int) := by omega
                have hjkI : (j : Int) ≤ (k : Int) := by omega
                have hjkI' : (j : Int) < (k : Int) := by omega
                rw [e1] at HCo
                rw [e1]
                clear e1 q8 q9 h3 h4 h5 d1 hd hhd hsucc
                go_wp2_with fail
                refine HCo.out.mono ?_
                rintro e w' ⟨rfl, rfl⟩
                clear HCo
                cases hcb : (s.take j).contains d with
                | true =>
                  have hnn : ¬ s.Nodup := fun hh => by
                    have h1 : (s.take (j + 1)).Nodup := hh.sublist (List.take_sublist _ _)
                    rw [Hsucc.out, List.nodup_append] at h1
                    exact h1.2.2 d (List.contains_iff_mem.1 hcb) d (List.mem_singleton.2 rfl) rfl
                  have hF1 : F = 7 := by rw [HF1.out, ← Hs.out, Hst.out, Hbb.out, if_neg hnn]; rfl
                  clear hcb hnn
                  subst hF1
                  go_wp2_with fail
                  go_ret
                  exact ⟨rfl, HB.out⟩
                | false =>
                  have hnd2 : (s.take (j + 1)).Nodup := by
                    rw [Hsucc.out, List.nodup_append]
                    refine ⟨Hnd.out, by simp, fun a ha b hb e => ?_⟩
                    rw [List.mem_singleton.1 hb] at e
                    rw [e] at ha
                    have := List.contains_iff_mem.2 ha
                    rw [hcb] at this; cases this
                  have Hnd2 := Lib.hid hnd2
                  clear hcb hnd2
                  go_wp2_with fail
                  rw [← He2.out]
                  go_roundg (gk - 1)
                  case measure => have := Hj.out; omega
                  case rel => exact ⟨j + 1, by have := Hj.out; omega, by go_num, Hnd2.out, rfl⟩
              · have hjk' : j = k := by have := Hj.out; omega
                have hnd2 : s.Nodup := by
                  have h := Hnd.out
                  rw [hjk', HK.out, List.take_length] at h; exact h
                have hs2 : Od.sF n (l.drop (i + 1)) = Od.sF n l := by rw [← Hs.out, Hst.out, Hbb.out, if_pos hnd2]; rfl
                have Hs2 := Lib.hid hs2
                subst hjk'
                clear hnd2 hs2
                go_wp2_with fail
                rw [← He1.out]
                go_roundg (gO - 1)
                case measure => have := Hi.out; omega
                case rel => exact ⟨i + 1, by have := Hi.out; omega, by go_num, Hs2.out, rfl⟩
        · have him' : i = m := by have := Hi.out; omega
          have hF0 : F = 0 := by
            rw [HF1.out, ← Hs.out, him', Hm.out, List.drop_length]; rfl
          subst hF0
          subst him'
          go_wp2_with fail
          go_ret
          exact ⟨rfl, HB.out⟩
end Go.Proofs.YtkkfpdjhnffpbaaDoor
