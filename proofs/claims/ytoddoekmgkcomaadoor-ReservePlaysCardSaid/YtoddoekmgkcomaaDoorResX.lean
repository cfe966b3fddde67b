/- The walks of package reserve: Preempt, Keys. -/
import Derived.Test.YtoddoekmgkcomaaDoorResV
namespace Go.Proofs.YtoddoekmgkcomaaDoor
open Go.ChangeShapes Go.WideShapes Go.ChangeAt Go.RowKit
set_option linter.unusedVariables false
def KeysPost (s : Res.St) (w : World) (e : Ending) (w' : World) : Prop :=
  ∃ v, e = .returned v ∧ w'.ownsRow w.heap.size 3 1 v 9 ((s.1.drop 1).map iv) ∧ Below w.heap.size w w'
theorem keys_any {w : World} {b : Nat} {s : Res.St} (hR : ResAt w b s) :
    Calls Tryd.prog 48 #[.pointer (some ⟨b, 0, none⟩)] w (KeysPost s w) := by
  obtain ⟨i0, hi, hz0, hz1, hz2⟩ := info_parts info_int
  have hl : ((s.1.drop 1).map iv).length = 9 * 1 := by rw [List.length_map, List.length_drop, hR.len]
  have hn : ∀ j u, ((s.1.drop 1).map iv)[j]? = some u → w.cell? (Addr.add ⟨b, 1, none⟩ j) = some u := by
    intro j u hj
    have hjl := (List.getElem?_eq_some_iff.1 hj).1
    rw [hl] at hjl
    rw [Addr.add_lit, show (1 : Nat) + j = j + 1 by omega, hR.key (by omega)]
    rw [List.getElem?_map, List.getElem?_drop, List.getElem?_eq_getElem (by rw [hR.len]; omega)] at hj
    rw [← hj, List.getD_eq_getElem?_getD, List.getElem?_eq_getElem (by rw [hR.len]; omega)]
    simp [Nat.add_comm]
  have h1 : ∀ u ∈ (s.1.drop 1).map iv, u.oneCell' = true := by
    intro u hu; obtain ⟨x, _, rfl⟩ := List.mem_map.1 hu; rfl
  have Hl := Lib.hid hl
  have Hn := Lib.hid hn
  have H1 := Lib.hid h1
  clear hl hn h1 hR
  go_enter Tryd.func48, Tryd.ntmps48
  go_wp2_with (at_builtin; refine wpList_append_own _ rfl _ _ 40 rfl w.heap.size 3 i0 (.int .i64 0) 1 8 Tryd.underlying40 hi hz0 hz1 hz2 rfl (by decide) _ _ _ rfl (World.ownsRow_nil _ _ _ _) ⟨b, 1, none⟩ 9 9 ((s.1.drop 1).map iv) rfl Hl.out Hn.out H1.out ?qc4 ?qc5 ?qc6 ?_)
  try case qc4 => unfold maxLen; omega
  try case qc5 => omega
  try case qc6 => exact Nat.le_refl _
  intro v' w1 hown hgrow _
  have Hown := Lib.hid hown
  clear hown
  go_wp2_with fail
  go_ret
  refine ⟨_, rfl, ?_, ?_⟩
  · have e : (s.1.drop 1).map iv = (s.1.map iv).tail := by simp
    rw [e]; exact Hown.out
  · exact (Below.refl _ w).grown hgrow (Nat.le_refl _) (by intro k hk; cases hk)

def PrePost (b : Nat) (r : (Int × Int) × Res.St) (w : World) (e : Ending) (w' : World) : Prop :=
  e = .returned (.tuple #[iv r.1.1, errV r.1.2]) ∧ ResAt w' b r.2 ∧ Kept (· = b) w w'
def GoRel (b : Nat) (s : Res.St) (x : Int) (w : World) (gk : Nat) (i n : Value) (wr : World) : Prop :=
  ∃ k m : Nat, k + gk = 10 ∧ i = iv k ∧ m = (Res.go s x k).2 ∧ n = iv m ∧ ResAt wr b (Res.go s x k).1 ∧ Kept (· = b) w wr ∧ wr.heap[w.heap.size]? = some (.cells #[iv s.2.1, iv s.2.2] 83 (0, 0))
theorem go_yes {s : Res.St} {x : Int} {k : Nat} (h : s.1.getD k 0 = x) : Res.go s x (k + 1) = (Res.out (Res.go s x k).1 k, (Res.go s x k).2 + 1) := by
  rw [Res.go]; rw [if_pos (beq_t h)]
theorem go_no {s : Res.St} {x : Int} {k : Nat} (h : ¬ s.1.getD k 0 = x) : Res.go s x (k + 1) = Res.go s x k := by
  rw [Res.go]; rw [if_neg (by rw [beq_f h]; decide)]
set_option maxRecDepth 100000 in
set_option maxHeartbeats 2000000 in
theorem preempt_any {w : World} {b : Nat} {s : Res.St} (hR : ResAt w b s) (h k x : Int) :
    Calls Tryd.prog 45 #[.pointer (some ⟨b, 0, none⟩), iv h, iv k, iv x] w (PrePost b (Res.preempt s h k x) w) := by
  have H := Lib.hid hR
  have hlt := hR.lt
  have ch := hR.h
  have ck := hR.k
  clear hR
  cases hh : Res.hostB h with
  | false =>
    have Hh := Lib.hid hh
    clear hh
    go_enter Tryd.func45, Tryd.ntmps45
    go_wp2_with fail
    refine (host_any _ _).mono ?_
    rintro e w' ⟨rfl, rfl⟩
    rw [Hh.out]
    go_wp2_with fail
    go_ret2
    rw [PrePost, Res.preempt, if_pos (by simp [Hh.out])]
    exact ⟨rfl, H.out, Kept.refl _ _⟩
  | true =>
    cases hk : Res.keyB x with
    | false =>
      have Hh := Lib.hid hh
      have Hk := Lib.hid hk
      clear hh hk
      go_enter Tryd.func45, Tryd.ntmps45
      go_wp2_with fail
      refine (host_any _ _).mono ?_
      rintro e w' ⟨rfl, rfl⟩
      rw [Hh.out]
      go_wp2_with fail
      refine (key_any _ _).mono ?_
      rintro e w' ⟨rfl, rfl⟩
      rw [Hk.out]
      go_wp2_with fail
      go_ret2
      rw [PrePost, Res.preempt, if_pos (by simp [Hh.out, Hk.out])]
      exact ⟨rfl, H.out, Kept.refl _ _⟩
    | true =>
      have Hh := Lib.hid hh
      have Hk := Lib.hid hk
      have hi := host_in hh
      clear hh hk
      cases hd : Res.denied s h k with
      | true =>
        have Hd := Lib.hid hd
        clear hd
        go_enter Tryd.func45, Tryd.ntmps45
        go_wp2_with fail
        refine (host_any _ _).mono ?_
        rintro e w' ⟨rfl, rfl⟩
        rw [Hh.out]
        go_wp2_with fail
        refine (key_any _ _).mono ?_
        rintro e w' ⟨rfl, rfl⟩
        rw [Hk.out]
        go_wp2_with fail
        refine (denied_any H.out h k Hh.out).mono ?_
        rintro e w' ⟨rfl, rfl⟩
        rw [Hd.out]
        go_wp2_with fail
        go_ret2
        rw [PrePost, Res.preempt, if_neg (by simp [Hh.out, Hk.out]), if_pos Hd.out]
        exact ⟨rfl, H.out, Kept.refl _ _⟩
      | false =>
        have Hd := Lib.hid hd
        clear hd
        obtain ⟨q, rfl⟩ : ∃ q : Nat, h = q := ⟨h.toNat, by omega⟩
        have hq : q < 10 := by omega
        obtain ⟨A, hA⟩ : ∃ A : Array Value, A = (s.1.map iv).toArray := ⟨_, rfl⟩
        have HA := Lib.hid hA
        clear hA
        have hc : ∀ j v, (s.1.map iv)[j]? = some v → (w.alloc (.cells #[iv s.2.1, iv s.2.2] 83)).cell? (Addr.add ⟨b, 0, none⟩ j) = some v := by
          intro j v hj
          have hjl := (List.getElem?_eq_some_iff.1 hj).1
          rw [List.length_map, H.out.len] at hjl
          rw [Addr.add_lit, Nat.zero_add]
          refine ((Below.refl w.heap.size w).alloc (Nat.le_refl _) _).cell (p := ⟨b, j, none⟩) hlt |>.trans ?_
          rw [H.out.key hjl, ← hj, List.getElem?_map, List.getElem?_eq_getElem (by rw [H.out.len]; exact hjl), List.getD_eq_getElem?_getD, List.getElem?_eq_getElem (by rw [H.out.len]; exact hjl)]
          rfl
        have Hc := Lib.hid hc
        have hlen : (Tryd.prog.info? 81).map (·.size) = some (s.1.map iv).length := by rw [List.length_map, H.out.len]; kernel_rfl
        have Hlen := Lib.hid hlen
        clear hc hlen
        go_enter Tryd.func45, Tryd.ntmps45
        go_wp2_with fail
        refine (host_any _ _).mono ?_
        rintro e w' ⟨rfl, rfl⟩
        rw [Hh.out]
        go_wp2_with fail
        refine (key_any _ _).mono ?_
        rintro e w' ⟨rfl, rfl⟩
        rw [Hk.out]
        go_wp2_with fail
        refine (denied_any H.out _ k Hh.out).mono ?_
        rintro e w' ⟨rfl, rfl⟩
        rw [Hd.out]
        go_wp2_with (refine wpList_load_sub rfl 81 _ rfl ⟨b, 0, none⟩ rfl (s.1.map iv) _ Hc.out Tryd.underlying81 rfl Hlen.out ?_)
        rw [← HA.out]
        go_loopg [38, 10] 10 (fun gk i n wr => GoRel b s x w gk i n wr)
        case atStart => exact ⟨0, 0, rfl, rfl, rfl, rfl, H.out.below ((Below.refl _ _).alloc (Nat.le_refl _) _), (Kept.self b w).alloc _, heap_alloc_new _ _⟩
        case round =>
          obtain ⟨i, m, hi', rfl, hm, rfl, hR, hK, hblk⟩ := hrel
          have Hi := Lib.hid hi'
          have Hm := Lib.hid hm
          have HR := Lib.hid hR
          have HK := Lib.hid hK
          have Hblk := Lib.hid hblk
          have hm2 := Res.go_le s x i
          rw [← hm] at hm2
          have hi10 : i ≤ 10 := by omega
          clear hi' hm hR hK hblk
          by_cases hlt : i < 10
          · have hx : ∀ w, (Instr.index 81 (.agg A) (.int .i64 i)).run Tryd.prog w = .ok (iv (s.1.getD i 0)) w := by
              intro w
              refine run_index_arr _ _ _ _ _ _ Tryd.underlying81 hlt _ underlying_int rfl (by kernel_rfl) ?_ w
              rw [HA.out, List.getElem?_toArray, List.getElem?_map, List.getD_eq_getElem?_getD, List.getElem?_eq_getElem (by rw [H.out.len]; exact hlt)]; rfl
            have hy := fun e => go_yes (s := s) (x := x) (k := i) e
            have hz := fun e => go_no (s := s) (x := x) (k := i) e
            generalize s.1.getD i 0 = y at *
            have Hy := Lib.hid hy
            have Hz := Lib.hid hz
            clear hy hz
            by_cases c : y = x
            · have c1 := beq_t c
              have Hc1 := Lib.hid c
              clear c
              go_wp2_with fail
              refine (rleave_any HR.out i hlt).mono ?_
              rintro e w2 ⟨rfl, h1, h2⟩
              have H1 := Lib.hid h1
              have H2 := Lib.hid h2
              clear h1 h2
              go_wp2_with fail
              go_roundg (gk - 1)
              case measure => have := Hi.out; omega
              case rel => exact ⟨i + 1, m + 1, by have := Hi.out; omega, by go_num, by rw [Hy.out Hc1.out, Hm.out], by go_num, by rw [Hy.out Hc1.out]; exact H1.out, HK.out.also H2.out, H2.out.heap Hblk.out (by omega)⟩
            · have c1 := beq_f c
              have Hc1 := Lib.hid c
              clear c
              go_wp2_with fail
              go_roundg (gk - 1)
              case measure => have := Hi.out; omega
              case rel => exact ⟨i + 1, m, by have := Hi.out; omega, by go_num, by rw [Hz.out Hc1.out, Hm.out], rfl, by rw [Hz.out Hc1.out]; exact HR.out, HK.out, Hblk.out⟩
          · obtain rfl : i = 10 := by omega
            clear hlt
            have g0 : wr.cell? ⟨w.heap.size, 0, none⟩ = some (iv s.2.1) := by rw [cell_of_row _ _ _ _ _ _ Hblk.out]; rfl
            have g1 : wr.cell? ⟨w.heap.size, 1, none⟩ = some (iv s.2.2) := by rw [cell_of_row _ _ _ _ _ _ Hblk.out]; rfl
            have hR := HR.out
            have eh := hR.h
            have ek := hR.k
            have eq := hR.key hq
            have fr := hR.f
            have hP : Res.preempt s q k x = if m == 0 then ((0, 5), (Res.go s x 10).1) else (((m : Int), 0), if !((Res.go s x 10).1.2.1 == s.2.1 && (Res.go s x 10).1.2.2 == s.2.2) && (Res.go s x 10).1.1.getD q 0 != 0 then ((Res.go s x 10).1.1, q, s.2.2) else (Res.go s x 10).1) := by
              rw [Res.preempt, if_neg (by simp [Hh.out, Hk.out]), if_neg (by rw [Hd.out]; decide)]
              simp only [Res.key, Int.toNat_natCast]
              rw [← Hm.out]
              rfl
            have Hset := Lib.hid (hR.setH q s.2.2)
            clear hR
            generalize hG : (Res.go s x 10).1 = G at *
            have HG := Lib.hid hG
            clear hG
            have HP := Lib.hid hP
            clear hP
            obtain ⟨GK, GH, GD⟩ := G
            obtain ⟨K, H0, D0⟩ := s
            simp only at eh ek eq g0 g1 ch ck
            by_cases m0 : m = 0
            · subst m0
              go_wp2_with fail
              go_ret2
              rw [PrePost, HP.out, if_pos (by rfl)]
              exact ⟨rfl, HR.out, HK.out⟩
            · have t0 : ((m : Int) == 0) = false := beq_f (by omega)
              have HM := Lib.hid (show (m == 0) = false from beq_eq_false_iff_ne.2 m0)
              clear m0
              by_cases c : GH = H0 ∧ GD = D0
              · have d1 := beq_t c.1
                have d2 := beq_t c.2
                have HQ : Hid (Res.preempt (K, H0, D0) q k x = (((m : Int), 0), (GK, GH, GD))) := Lib.hid (by rw [HP.out, HM.out]; simp only [d1, d2]; rfl)
                clear c
                go_wp2_with fail
                go_quiet (fail)
                go_wp2_with fail
                go_ret2
                rw [PrePost, HQ.out]
                exact ⟨rfl, HR.out.drewN _, HK.out.drewN _⟩
              · have two : GH ≠ H0 ∨ (GH = H0 ∧ GD ≠ D0) := by omega
                have hlt2 := HR.out.lt
                have HS := Lib.hid (Hset.out)
                clear c Hset
                try simp only at eq
                generalize hy : GK.getD q 0 = y at *
                have Hy := Lib.hid hy
                clear hy
                by_cases y0 : y = 0
                · have e1 := beq_t y0
                  have e2 := bne_f y0
                  clear y0
                  rcases two with c | ⟨c, d⟩
                  · have d1 := beq_f c
                    have HQ : Hid (Res.preempt (K, H0, D0) q k x = (((m : Int), 0), (GK, GH, GD))) := Lib.hid (by rw [HP.out, HM.out]; simp only [d1, Hy.out, e2]; rfl)
                    clear c
                    go_wp2_with fail
                    go_quiet (fail)
                    go_wp2_with fail
                    go_ret2
                    rw [PrePost, HQ.out]
                    exact ⟨rfl, HR.out.drewN _, HK.out.drewN _⟩
                  · have d1 := beq_t c
                    have d2 := beq_f d
                    have HQ : Hid (Res.preempt (K, H0, D0) q k x = (((m : Int), 0), (GK, GH, GD))) := Lib.hid (by rw [HP.out, HM.out]; simp only [d1, d2, Hy.out, e2]; rfl)
                    clear c d
                    go_wp2_with fail
                    go_quiet (fail)
                    go_wp2_with fail
                    go_ret2
                    rw [PrePost, HQ.out]
                    exact ⟨rfl, HR.out.drewN _, HK.out.drewN _⟩
                · have e1 := beq_f y0
                  have e2 := bne_t y0
                  clear y0
                  rcases two with c | ⟨c, d⟩
                  · have d1 := beq_f c
                    have HQ : Hid (Res.preempt (K, H0, D0) q k x = (((m : Int), 0), (GK, (q : Int), D0))) := Lib.hid (by rw [HP.out, HM.out]; simp only [d1, Hy.out, e2]; rfl)
                    clear c
                    go_wp2_with fail
                    go_quiet (fail)
                    go_wp2_with fail
                    go_ret2
                    rw [PrePost, HQ.out]
                    exact ⟨rfl, (HR.out.drewN nq).setH _ _, ((HK.out.drewN nq).set1 _ _).set1 _ _⟩
                  · have d1 := beq_t c
                    have d2 := beq_f d
                    have HQ : Hid (Res.preempt (K, H0, D0) q k x = (((m : Int), 0), (GK, (q : Int), D0))) := Lib.hid (by rw [HP.out, HM.out]; simp only [d1, d2, Hy.out, e2]; rfl)
                    clear c d
                    go_wp2_with fail
                    go_quiet (fail)
                    go_wp2_with fail
                    go_ret2
                    rw [PrePost, HQ.out]
                    exact ⟨rfl, (HR.out.drewN nq).setH _ _, ((HK.out.drewN nq).set1 _ _).set1 _ _⟩
end Go.Proofs.YtoddoekmgkcomaaDoor
