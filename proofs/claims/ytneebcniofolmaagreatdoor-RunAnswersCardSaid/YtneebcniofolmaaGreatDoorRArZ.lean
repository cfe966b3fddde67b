/- The reference's array: Lost, Raw, Fail, Replace, Poke. · The reference's array: Fail, Replace, Poke. · The reference's array: Poke. -/
import Derived.Test.YtneebcniofolmaaGreatDoorRArW
import Derived.StillTailTactics
import Derived.Test.YtneebcniofolmaaGreatDoorAryU
namespace Go.Proofs.YtneebcniofolmaaGreatDoor
open Go.ChangeShapes Go.WideShapes Go.ChangeAt Go.RowKit
set_option linter.unusedVariables false
variable {F : Nat → Prop} {w : World} {b : Nat} {s : Ar.S}
theorem RAryOk.n {F : Nat → Prop} {w : World} {b : Nat} {s : Ar.S} (h : RAryOk F w b s) : w.cell? ⟨b, 0, none⟩ = some (iv s.n) := by obtain ⟨_, _, _, _, _, _, _, _, _, _, h, _⟩ := h; exact h.c0
theorem RAryOk.r {F : Nat → Prop} {w : World} {b : Nat} {s : Ar.S} (h : RAryOk F w b s) : w.cell? ⟨b, 1, none⟩ = some (iv s.rows) := by obtain ⟨_, _, _, _, _, _, _, _, _, _, h, _⟩ := h; exact h.c1
theorem RAryOk.z {F : Nat → Prop} {w : World} {b : Nat} {s : Ar.S} (h : RAryOk F w b s) : w.cell? ⟨b, 2, none⟩ = some (iv s.size) := by obtain ⟨_, _, _, _, _, _, _, _, _, _, h, _⟩ := h; exact h.c2
set_option maxRecDepth 100000 in
theorem rLost (h : RAryOk F w b s) (q : Nat) (hq : q < s.rows) :
    Calls Tryz.prog 31 #[.pointer (some ⟨b, 0, none⟩), iv q] w fun e w' => e = .returned (iv (s.many q)) ∧ w = w' := by
  have c0 := h.n
  have ho := h.1
  have hr20 := ho.r20
  have hn := ho.n3
  have hn10 := ho.n10
  have HG := Lib.hid (fun d hd => rGone h (d := d) hd q (by omega))
  have hmn : s.many q = s.manyTo q s.n := rfl
  rw [hmn]
  obtain ⟨n, hn0⟩ : ∃ n, n = s.n := ⟨_, rfl⟩
  rw [← hn0] at c0 hn hn10 ⊢
  have Hn := Lib.hid hn0
  clear h ho hmn hn0
  go_enter Tryz.func31, Tryz.ntmps31
  go_wp2_with fail
  go_loopg [5, 6, 7] n (fun gk v5 v6 v7 wr => ∃ k : Nat, k + gk = n ∧ v6 = iv k ∧ v5 = iv (s.manyTo q k) ∧ w = wr)
  case atStart => exact ⟨0, by omega, rfl, rfl, rfl⟩
  case round =>
    obtain ⟨k, hk', rfl, rfl, rfl⟩ := hrel
    have Hk := Lib.hid hk'
    have hmt := s.manyTo_le q k
    have hsu := s.manyTo_succ q k
    by_cases hlt : k < n
    · have HA1 := Lib.hid (HG.out k (by rw [← Hn.out]; exact hlt))
      clear hk'
      generalize s.lost k q = f at *
      cases f with
      | true =>
        rw [if_pos rfl] at hsu
        have Hsu := Lib.hid hsu
        generalize s.manyTo q k = mk at *
        clear hsu
        go_wp2_with fail
        refine HA1.out.mono ?_
        rintro e w' ⟨rfl, rfl⟩
        go_wp2_with fail
        go_roundg (gk - 1)
        case measure => have := Hk.out; omega
        case rel => exact ⟨k + 1, by have := Hk.out; omega, by go_num, by rw [Hsu.out]; go_num, rfl⟩
      | false =>
        rw [if_neg (by decide)] at hsu
        have Hsu := Lib.hid hsu
        generalize s.manyTo q k = mk at *
        clear hsu
        go_wp2_with fail
        refine HA1.out.mono ?_
        rintro e w' ⟨rfl, rfl⟩
        go_wp2_with fail
        go_roundg (gk - 1)
        case measure => have := Hk.out; omega
        case rel => exact ⟨k + 1, by have := Hk.out; omega, by go_num, by rw [Hsu.out], rfl⟩
    · have hkn : k = n := by omega
      clear hk' hsu
      subst hkn
      go_wp2_with fail
      go_ret
      exact ⟨rfl, rfl⟩
def RRawPost (s : Ar.S) (row : Nat) (w : World) (e : Ending) (w' : World) : Prop :=
  ∃ v1 v2, e = .returned (.tuple #[v1, v2]) ∧ w'.ownsRow w.heap.size 9 1 v1 s.n ((s.parts row).map Value.string) ∧ w'.ownsRow w.heap.size 4 1 v2 s.n ((s.marks row).map Value.bool) ∧ Below w.heap.size w w'
theorem tabS_parts (s : Ar.S) (row : Nat) : tabS s.n (s.part row) = (s.parts row).map Value.string := by
  unfold tabS Ar.S.parts; rw [List.map_map]; rfl
theorem tabB_marks (s : Ar.S) (row : Nat) : tabB s.n (fun j => s.lost (Ar.dk s.n row j) row) = (s.marks row).map Value.bool := by
  unfold tabB Ar.S.marks; rw [List.map_map]; rfl
set_option maxRecDepth 100000 in
set_option maxHeartbeats 2000000 in
theorem rRaw (h : RAryOk F w b s) (row : Nat) (hr : row < s.rows) :
    Calls Tryz.prog 43 #[.pointer (some ⟨b, 0, none⟩), iv row] w (RRawPost s row w) := by
  have c0 := h.n
  have hr20 := h.1.r20
  have h3 := h.1.n3
  have h10 := h.1.n10
  have H := Lib.hid h
  have HO := Lib.hid (rlayout_any s.n (row : Int) h3 h10 (by omega) (by omega) w)
  obtain ⟨n, hn0⟩ : ∃ n, n = s.n := ⟨_, rfl⟩
  have Hn := Lib.hid hn0
  unfold RRawPost
  rw [← tabS_parts, ← tabB_marks]
  rw [← hn0] at c0 h3 h10 HO ⊢
  clear h hn0
  go_enter Tryz.func43, Tryz.ntmps43
  go_wp2_with fail
  refine HO.out.mono ?_
  rintro e w1 ⟨vo, rfl, hO1, hB1⟩
  rw [Int.toNat_natCast, ordN_eq (by omega)] at hO1
  obtain ⟨go, co, rfl, _, _, hco1, hco2, _, _⟩ := owns_pos hO1 (by omega)
  unfold maxLen at hco2
  have HO1 := Lib.hid hO1
  have HB1 := Lib.hid hB1
  clear hO1 hB1 c0 HO
  go_wp2_with fail
  go_loopg [7, 8, 9, 10, 11] n (fun gk v7 v8 v9 v10 v11 wr => PartsRel w.heap.size n row (s.part row) (fun j => s.lost (Ar.dk n row j) row) w (.slice (some ⟨go, 0, none⟩) n co) gk v7 v8 v9 wr)
  case atStart => exact ⟨0, by omega, rfl, World.ownsRow_nil _ _ _ _, World.ownsRow_nil _ _ _ _, HO1.out, HB1.out⟩
  case round =>
    clear HO1 HB1
    obtain ⟨k, hk, rfl, hP, hL, hO, hB⟩ := hrel
    have hzr := hB.size
    have Hk := Lib.hid hk
    have HP := Lib.hid hP
    have HL := Lib.hid hL
    have HO := Lib.hid hO
    have HB := Lib.hid hB
    clear hk hP hL hB
    by_cases hlt : k < n
    · have c1 : wr.cell? ⟨go, k, none⟩ = some (iv (Ar.dk n row k)) := (hO.cellAt k (by omega)).trans (ordN_get hlt)
      have hd : Ar.dk n row k < n := Ar.dk_lt (by omega)
      have hps : s.part row k = if s.lost (Ar.dk n row k) row then ⟨#[]⟩ else s.c (Ar.dk n row k) row := by rw [Hn.out]; rfl
      obtain ⟨d, hd0⟩ : ∃ d, d = Ar.dk n row k := ⟨_, rfl⟩
      rw [← hd0] at c1 hd hps
      have Hl : Hid (s.lost (Ar.dk n row k) row = s.lost d row) := Lib.hid (by rw [hd0])
      have HR1 := Lib.hid (H.out.below HB.out)
      have HGo := Lib.hid (rGone HR1.out (d := d) (by rw [← Hn.out]; exact hd) row (by omega))
      cases hf : s.lost d row with
      | true =>
        rw [hf] at HGo Hl hps
        rw [if_pos rfl] at hps
        have Hs := Lib.hid hps
        clear hO hf hps hd0
        go_wp2_with fail
        refine HGo.out.mono ?_
        rintro e w' ⟨rfl, rfl⟩
        go_wp2_with (at_builtin; refine app1 w wr (.string ⟨#[]⟩) 9 23 rfl _ _ rfl w.heap.size Tryz.underlying23 info_strY rfl _ k _ rfl _ rfl rfl HP.out rfl ?c1 ?c2 hzr HB.out ?_)
        case c1 => omega
        case c2 => omega
        intro v8 w8 hP8 hB8 hg8 hat8
        have hL8 := Kept.owns HL.out (Kept.grown hg8) (fun q hq e => own_ne HL.out HP.out (by decide) q hq e.symm)
        have hO8 := Kept.owns HO.out (Kept.grown hg8) (fun q hq e => own_ne HO.out HP.out (by decide) q hq e.symm)
        have HP8 := Lib.hid hP8
        have HL8 := Lib.hid hL8
        have HO8 := Lib.hid hO8
        have HB8 := Lib.hid hB8
        have hz8 := hB8.size
        clear hP8 hL8 hO8 hB8 hg8 hat8
        go_wp2_with (at_builtin; refine app1 w w8 (.bool true) 4 55 rfl _ _ rfl w.heap.size Tryz.underlying55 info_boolY rfl _ k _ rfl _ rfl rfl HL8.out rfl ?c3 ?c4 hz8 HB8.out ?_)
        case c3 => omega
        case c4 => omega
        intro v9 w9 hL9 hB9 hg9 hat9
        have hP9 := Kept.owns HP8.out (Kept.grown hg9) (fun q hq e => own_ne HP8.out HL8.out (by decide) q hq e.symm)
        have hO9 := Kept.owns HO8.out (Kept.grown hg9) (fun q hq e => own_ne HO8.out HL8.out (by decide) q hq e.symm)
        have HP9 := Lib.hid hP9
        have HL9 := Lib.hid hL9
        have HO9 := Lib.hid hO9
        have HB9 := Lib.hid hB9
        clear hP9 hL9 hO9 hB9 hg9 hat9
        go_wp2_with fail
        go_roundg (gk - 1)
        case measure => have := Hk.out; omega
        case rel => exact ⟨k + 1, by have := Hk.out; omega, by go_num, by rw [tabS_succ, Hs.out]; exact HP9.out, by rw [tabB_succ, Hl.out]; exact HL9.out, HO9.out, HB9.out⟩
      | false =>
        have hcl := hf
        rw [hf] at HGo Hl hps
        rw [if_neg (by decide)] at hps
        have Hs := Lib.hid hps
        obtain ⟨ho, gc, gf, gb, cc, cf, cb, gr, cr, C, hA, hI, hS⟩ := HR1.out
        have c3 := hA.c3
        have c4 := hA.lst.cell (j := d) (by rw [← Hn.out]; exact hd)
        have c5 := (hA.row d (by rw [← Hn.out]; exact hd)).cell (j := row) hr
        rw [hS d row (by rw [← Hn.out]; exact hd) hr hcl] at c5
        have q1 := hA.caps
        obtain ⟨k1, k2, _⟩ := q1
        obtain ⟨k7, k8⟩ := hA.rcap d (by rw [← Hn.out]; exact hd)
        unfold maxLen at k2 k8
        rw [← Hn.out] at c3 k1
        have hrI : (row : Int) < (s.rows : Int) := by omega
        have hdI : (d : Int) < (n : Int) := by omega
        obtain ⟨x, hx⟩ : ∃ x, x = s.c d row := ⟨_, rfl⟩
        rw [← hx] at c5 Hs
        clear hO hf hps hd0 hA hI hS ho hcl hx
        go_wp2_with fail
        refine HGo.out.mono ?_
        rintro e w' ⟨rfl, rfl⟩
        go_wp2_with fail
        go_quiet (fail)
        obtain ⟨wq1, hwq1⟩ : ∃ wq1, wq1 = wr.drewN nq := ⟨_, rfl⟩
        have hbq : Below wr.heap.size wr wq1 := by rw [hwq1]; exact bdrew (Below.refl _ _) nq
        rw [← hwq1]
        have HPq := Lib.hid (owns_below HP.out hbq)
        have HLq := Lib.hid (owns_below HL.out hbq)
        have HOq := Lib.hid (owns_below HO.out hbq)
        have HBq := Lib.hid (HB.out.trans (hbq.mono hzr))
        have hzq := HBq.out.size
        clear hwq1 hbq HP HL HO HB hzr c1 c3 c4 c5
        have HP := HPq
        have HL := HLq
        have HO := HOq
        have HB := HBq
        have hzr := hzq
        clear HPq HLq HOq HBq hzq
        go_wp2_with (at_builtin; refine app1 w wq1 (.string x) 9 23 rfl _ _ rfl w.heap.size Tryz.underlying23 info_strY rfl _ k _ rfl _ rfl rfl HP.out rfl ?c1 ?c2 hzr HB.out ?_)
        case c1 => omega
        case c2 => omega
        intro v8 w8 hP8 hB8 hg8 hat8
        have hL8 := Kept.owns HL.out (Kept.grown hg8) (fun q hq e => own_ne HL.out HP.out (by decide) q hq e.symm)
        have hO8 := Kept.owns HO.out (Kept.grown hg8) (fun q hq e => own_ne HO.out HP.out (by decide) q hq e.symm)
        have HP8 := Lib.hid hP8
        have HL8 := Lib.hid hL8
        have HO8 := Lib.hid hO8
        have HB8 := Lib.hid hB8
        have hz8 := hB8.size
        clear hP8 hL8 hO8 hB8 hg8 hat8
        go_wp2_with (at_builtin; refine app1 w w8 (.bool false) 4 55 rfl _ _ rfl w.heap.size Tryz.underlying55 info_boolY rfl _ k _ rfl _ rfl rfl HL8.out rfl ?c3 ?c4 hz8 HB8.out ?_)
        case c3 => omega
        case c4 => omega
        intro v9 w9 hL9 hB9 hg9 hat9
        have hP9 := Kept.owns HP8.out (Kept.grown hg9) (fun q hq e => own_ne HP8.out HL8.out (by decide) q hq e.symm)
        have hO9 := Kept.owns HO8.out (Kept.grown hg9) (fun q hq e => own_ne HO8.out HL8.out (by decide) q hq e.symm)
        have HP9 := Lib.hid hP9
        have HL9 := Lib.hid hL9
        have HO9 := Lib.hid hO9
        have HB9 := Lib.hid hB9
        clear hP9 hL9 hO9 hB9 hg9 hat9
        go_wp2_with fail
        go_roundg (gk - 1)
        case measure => have := Hk.out; omega
        case rel => exact ⟨k + 1, by have := Hk.out; omega, by go_num, by rw [tabS_succ, Hs.out]; exact HP9.out, by rw [tabB_succ, Hl.out]; exact HL9.out, HO9.out, HB9.out⟩
    · have hkn : k = n := by have := Hk.out; omega
      subst hkn
      clear hO
      go_wp2_with fail
      go_ret2
      exact ⟨_, _, rfl, HP.out, HL.out, HB.out⟩
end Go.Proofs.YtneebcniofolmaaGreatDoor
namespace Go.Proofs.YtneebcniofolmaaGreatDoor
open Go.ChangeShapes Go.WideShapes Go.ChangeAt Go.RowKit
set_option linter.unusedVariables false
variable {F : Nat → Prop} {w : World} {b : Nat} {s : Ar.S}
theorem not_has (s : Ar.S) {d : Int} (h : ¬ s.has d) : d < 0 ∨ (0 ≤ d ∧ (s.n : Int) ≤ d) := by
  unfold Ar.S.has at h
  by_cases h0 : d < 0
  · exact .inl h0
  · exact .inr ⟨by omega, by apply Classical.byContradiction; intro h1; exact h ⟨by omega, by omega⟩⟩
theorem not_hasRow (s : Ar.S) {d : Int} (h : ¬ s.hasRow d) : d < 0 ∨ (0 ≤ d ∧ (s.rows : Int) ≤ d) := by
  unfold Ar.S.hasRow at h
  by_cases h0 : d < 0
  · exact .inl h0
  · exact .inr ⟨by omega, by apply Classical.byContradiction; intro h1; exact h ⟨by omega, by omega⟩⟩
set_option maxRecDepth 100000 in
theorem rFail (h : RAryOk F w b s) (d : Int) :
    Calls Tryz.prog 27 #[.pointer (some ⟨b, 0, none⟩), iv d] w (RPost F b (s.fail d).1 (s.fail d).2 w) := by
  have HOK := Lib.hid h
  have H2 := Lib.hid (Ar.S.fail_ok h.1 d)
  unfold Ar.S.fail at H2 ⊢
  obtain ⟨ho, gc, gf, gb, cc, cf, cb, gr, cr, C, hA, hI, hS⟩ := h
  have hcaps := hA.caps
  obtain ⟨k1, k2, k3, k4, k5, k6⟩ := hcaps
  unfold maxLen at k2 k4 k6
  have c0 := hA.c0
  by_cases hd : s.has d
  · obtain ⟨k, rfl, hk⟩ := Ar.S.has_nat hd
    rw [if_pos hd, Int.toNat_natCast] at H2 ⊢
    have d1 : decide ((k : Int) < 0) = false := dec_f (by omega)
    have d2 : decide ((s.n : Int) ≤ (k : Int)) = false := dec_f (by omega)
    have c4 := hA.c4
    have c1 := hA.fls.cell hk
    have z1 := hA.fls.fz k
    have hk3 : (k : Int) < (s.n : Int) := by omega
    have HA2 := Lib.hid (hA.setF hk true)
    have HI := Lib.hid hI
    have HS := Lib.hid hS
    have Hf := Lib.hid (show s.fl k = s.fl k from rfl)
    cases hf : s.fl k with
    | true =>
      rw [hf] at c1
      rw [if_pos rfl]
      clear hA hI hS hd ho hf
      go_enter Tryz.func27, Tryz.ntmps27
      go_wp2_with fail
      go_ret
      exact ⟨rfl, HOK.out, Kept.refl F w⟩
    | false =>
      rw [hf] at c1
      rw [hf, if_neg (by decide)] at H2
      rw [if_neg (by decide)]
      have Hf2 := Lib.hid hf
      clear hA hI hS hd ho hf
      go_enter Tryz.func27, Tryz.ntmps27
      go_wp2_with fail
      go_ret
      exact ⟨rfl, ⟨H2.out, gc, gf, gb, cc, cf, cb, gr, cr, C, HA2.out, HI.out, fun d r hd hr hl => HS.out d r hd hr (by
        unfold Ar.S.lost at hl ⊢
        by_cases e : d = k
        · subst e; rw [Hf2.out]; simp [Ar.up] at hl
        · simpa [Ar.up, e] using hl)⟩, (Kept.refl F w).setCell (p := ⟨gf, k, none⟩) (fun _ => HI.out.2.2.1) _⟩
  · rw [if_neg hd]
    rcases not_has s hd with h0 | ⟨h0, h1⟩
    · have d1 : decide (d < 0) = true := dec_t h0
      clear hA hI hS hd
      go_enter Tryz.func27, Tryz.ntmps27
      go_wp2_with fail
      go_ret
      exact ⟨rfl, HOK.out, Kept.refl F w⟩
    · have d1 : decide (d < 0) = false := dec_f (by omega)
      have d2 : decide ((s.n : Int) ≤ d) = true := dec_t h1
      clear hA hI hS hd
      go_enter Tryz.func27, Tryz.ntmps27
      go_wp2_with fail
      go_ret
      exact ⟨rfl, HOK.out, Kept.refl F w⟩
set_option maxRecDepth 100000 in
theorem rReplace (h : RAryOk F w b s) (d : Int) :
    Calls Tryz.prog 28 #[.pointer (some ⟨b, 0, none⟩), iv d] w (RPost F b (s.replace d).1 (s.replace d).2 w) := by
  have HOK := Lib.hid h
  have H2 := Lib.hid (Ar.S.replace_ok h.1 d)
  unfold Ar.S.replace at H2 ⊢
  obtain ⟨ho, gc, gf, gb, cc, cf, cb, gr, cr, C, hA, hI, hS⟩ := h
  have hcaps := hA.caps
  obtain ⟨k1, k2, k3, k4, k5, k6⟩ := hcaps
  unfold maxLen at k2 k4 k6
  have c0 := hA.c0
  by_cases hd : s.has d
  · obtain ⟨k, rfl, hk⟩ := Ar.S.has_nat hd
    rw [if_pos hd, Int.toNat_natCast] at H2 ⊢
    have d1 : decide ((k : Int) < 0) = false := dec_f (by omega)
    have d2 : decide ((s.n : Int) ≤ (k : Int)) = false := dec_f (by omega)
    have c4 := hA.c4
    have c1 := hA.fls.cell hk
    have z1 := hA.fls.fz k
    have c5 := hA.c5
    have c6 := hA.bts.cell hk
    have hk3 : (k : Int) < (s.n : Int) := by omega
    have HA2 := Lib.hid ((hA.setF hk false).setB hk 0)
    have HAF := Lib.hid (hA.setF hk false)
    have HI := Lib.hid hI
    have HS := Lib.hid hS
    cases hf : s.fl k with
    | false =>
      rw [hf] at c1
      rw [if_neg (by decide)]
      clear hA hI hS hd ho hf
      go_enter Tryz.func28, Tryz.ntmps28
      go_wp2_with fail
      go_ret
      exact ⟨rfl, HOK.out, Kept.refl F w⟩
    | true =>
      rw [hf] at c1
      rw [hf, if_pos rfl] at H2
      rw [if_pos rfl]
      have Hf2 := Lib.hid hf
      have f5 := HAF.out.c5
      have f6 := HAF.out.bts.cell hk
      have z2 := HAF.out.bts.fz k
      clear hA hI hS hd ho hf
      go_enter Tryz.func28, Tryz.ntmps28
      go_wp2_with fail
      go_ret
      exact ⟨rfl, ⟨H2.out, gc, gf, gb, cc, cf, cb, gr, cr, C, HA2.out, HI.out, fun d r hd hr hl => HS.out d r hd hr (by
        unfold Ar.S.lost at hl ⊢
        by_cases e : d = k
        · subst e; simp [Ar.up] at hl
        · simpa [Ar.up, e] using hl)⟩, ((Kept.refl F w).setCell (p := ⟨gf, k, none⟩) (fun _ => HI.out.2.2.1) _).setCell (p := ⟨gb, k, none⟩) (fun _ => HI.out.2.2.2.1) _⟩
  · rw [if_neg hd]
    rcases not_has s hd with h0 | ⟨h0, h1⟩
    · have d1 : decide (d < 0) = true := dec_t h0
      clear hA hI hS hd
      go_enter Tryz.func28, Tryz.ntmps28
      go_wp2_with fail
      go_ret
      exact ⟨rfl, HOK.out, Kept.refl F w⟩
    · have d1 : decide (d < 0) = false := dec_f (by omega)
      have d2 : decide ((s.n : Int) ≤ d) = true := dec_t h1
      clear hA hI hS hd
      go_enter Tryz.func28, Tryz.ntmps28
      go_wp2_with fail
      go_ret
      exact ⟨rfl, HOK.out, Kept.refl F w⟩
end Go.Proofs.YtneebcniofolmaaGreatDoor
namespace Go.Proofs.YtneebcniofolmaaGreatDoor
open Go.ChangeShapes Go.WideShapes Go.ChangeAt Go.RowKit
set_option linter.unusedVariables false
variable {F : Nat → Prop} {w : World} {b : Nat} {s : Ar.S}
/-- a cell set on both sides -/
theorem setC_see {C : Nat → Nat → ByteArray} {s : Ar.S} {k q : Nat} {x : ByteArray} (hS : ∀ d r, d < s.n → r < s.rows → s.lost d r = false → C d r = s.c d r) : ∀ d r, d < (s.setC k q x).n → r < (s.setC k q x).rows → (s.setC k q x).lost d r = false → Ar.up C k (Ar.up (C k) q x) d r = (s.setC k q x).c d r := by
  intro d r hd hr hl
  show Ar.up C k (Ar.up (C k) q x) d r = Ar.up s.c k (Ar.up (s.c k) q x) d r
  by_cases e : d = k
  · subst e
    rw [Ar.up_self, Ar.up_self]
    by_cases e2 : r = q
    · subst e2; rw [Ar.up_self, Ar.up_self]
    · rw [Ar.up_ne _ _ e2, Ar.up_ne _ _ e2]; exact hS d r hd hr hl
  · rw [Ar.up_ne _ _ e, Ar.up_ne _ _ e]; exact hS d r hd hr hl
set_option maxRecDepth 100000 in
theorem rPoke (h : RAryOk F w b s) (d row : Int) (x : ByteArray) (hx : x.size ≤ maxLen) :
    Calls Tryz.prog 24 #[.pointer (some ⟨b, 0, none⟩), iv d, iv row, .string x] w (RPost F b (s.poke d row x).1 (s.poke d row x).2 w) := by
  have HOK := Lib.hid h
  unfold maxLen at hx
  unfold Ar.S.poke
  obtain ⟨ho, gc, gf, gb, cc, cf, cb, gr, cr, C, hA, hI, hS⟩ := h
  have hcaps := hA.caps
  obtain ⟨k1, k2, k3, k4, k5, k6⟩ := hcaps
  unfold maxLen at k2 k4 k6
  have c0 := hA.c0
  have c1 := hA.c1
  by_cases hd : s.has d
  · have hd0 := hd.1
    have hd1 := hd.2
    have d1 : decide (d < 0) = false := dec_f (by omega)
    have d2 : decide ((s.n : Int) ≤ d) = false := dec_f (by omega)
    by_cases hr : s.hasRow row
    · rw [if_pos ⟨hd, hr⟩]
      obtain ⟨q, rfl, hq⟩ := Ar.S.hasRow_nat hr
      obtain ⟨k, rfl, hk⟩ := Ar.S.has_nat hd
      rw [Int.toNat_natCast, Int.toNat_natCast]
      have d3 : decide ((q : Int) < 0) = false := dec_f (by omega)
      have d4 : decide ((s.rows : Int) ≤ (q : Int)) = false := dec_f (by omega)
      have c2 := hA.c2
      by_cases hz : x.size = s.size
      · rw [if_pos hz]
        have hne : ((x.size : Int) != (s.size : Int)) = false := bne_f (by omega)
        have HG := Lib.hid (rGone HOK.out hk q (by have := ho.r20; omega))
        have hok := Ar.S.setC_ok ho k q hz
        have Hok := Lib.hid hok
        cases hf : s.lost k q with
        | true =>
          rw [hf] at HG
          rw [if_pos rfl]
          clear hA hI hS hd hr hf ho hok hz
          go_enter Tryz.func24, Tryz.ntmps24
          go_wp2_with fail
          refine HG.out.mono ?_
          rintro e w' ⟨rfl, rfl⟩
          go_wp2_with fail
          go_ret
          exact ⟨rfl, HOK.out, Kept.refl F w⟩
        | false =>
          rw [hf] at HG
          rw [if_neg (by decide)]
          have c3 := hA.c3
          have c4 := hA.lst.cell hk
          have c5 := (hA.row k hk).cell hq
          have z5 := (hA.row k hk).fz q
          have hr7 := hA.rcap k hk
          unfold maxLen at hr7
          have hkI : (k : Int) < (s.n : Int) := by omega
          have hqI : (q : Int) < (s.rows : Int) := by omega
          have HS := Lib.hid (setC_see (k := k) (q := q) (x := x) hS)
          have HA := Lib.hid (hA.setC hk hq x)
          have HI := Lib.hid hI
          have Hk := Lib.hid hk
          clear hA hI hS hd hr hf ho hok hz
          go_enter Tryz.func24, Tryz.ntmps24
          go_wp2_with fail
          refine HG.out.mono ?_
          rintro e w' ⟨rfl, rfl⟩
          go_wp2_with fail
          go_ret
          exact ⟨rfl, ⟨Hok.out, gc, gf, gb, cc, cf, cb, gr, cr, _, HA.out, HI.out, HS.out⟩, (Kept.refl F w).setCell (p := ⟨gr k, q, none⟩) (fun _ => HI.out.2.2.2.2 k Hk.out) _⟩
      · rw [if_neg hz]
        have hne : ((x.size : Int) != (s.size : Int)) = true := bne_t (by omega)
        clear hA hI hS hd hr
        go_enter Tryz.func24, Tryz.ntmps24
        go_wp2_with fail
        go_ret
        exact ⟨rfl, HOK.out, Kept.refl F w⟩
    · rw [if_neg (fun h => hr h.2)]
      rcases not_hasRow s hr with h0 | ⟨h0, h1⟩
      · have d3 : decide (row < 0) = true := dec_t h0
        clear hA hI hS hd hr
        go_enter Tryz.func24, Tryz.ntmps24
        go_wp2_with fail
        go_ret
        exact ⟨rfl, HOK.out, Kept.refl F w⟩
      · have d3 : decide (row < 0) = false := dec_f (by omega)
        have d4 : decide ((s.rows : Int) ≤ row) = true := dec_t h1
        clear hA hI hS hd hr
        go_enter Tryz.func24, Tryz.ntmps24
        go_wp2_with fail
        go_ret
        exact ⟨rfl, HOK.out, Kept.refl F w⟩
  · rw [if_neg (fun h => hd h.1)]
    have hr := hd
    rcases not_has s hd with h0 | ⟨h0, h1⟩
    · have d1 : decide (d < 0) = true := dec_t h0
      clear hA hI hS hd hr
      go_enter Tryz.func24, Tryz.ntmps24
      go_wp2_with fail
      go_ret
      exact ⟨rfl, HOK.out, Kept.refl F w⟩
    · have d1 : decide (d < 0) = false := dec_f (by omega)
      have d2 : decide ((s.n : Int) ≤ d) = true := dec_t h1
      clear hA hI hS hd hr
      go_enter Tryz.func24, Tryz.ntmps24
      go_wp2_with fail
      go_ret
      exact ⟨rfl, HOK.out, Kept.refl F w⟩
end Go.Proofs.YtneebcniofolmaaGreatDoor
