/- The reference's array: Lost, Raw, Fail, Replace, Poke. -/
import Derived.Test.YtcldioneiededaaDoorRArW
import Derived.StillTailTactics
namespace Go.Proofs.YtcldioneiededaaDoor
open Go.ChangeShapes Go.WideShapes Go.ChangeAt Go.RowKit
set_option linter.unusedVariables false
variable {F : Nat → Prop} {w : World} {b : Nat} {s : Ar.S}
theorem RAryOk.n {F : Nat → Prop} {w : World} {b : Nat} {s : Ar.S} (h : RAryOk F w b s) : w.cell? ⟨b, 0, none⟩ = some (iv s.n) := by obtain ⟨_, _, _, _, _, _, _, _, _, _, h, _⟩ := h; exact h.c0
theorem RAryOk.r {F : Nat → Prop} {w : World} {b : Nat} {s : Ar.S} (h : RAryOk F w b s) : w.cell? ⟨b, 1, none⟩ = some (iv s.rows) := by obtain ⟨_, _, _, _, _, _, _, _, _, _, h, _⟩ := h; exact h.c1
theorem RAryOk.z {F : Nat → Prop} {w : World} {b : Nat} {s : Ar.S} (h : RAryOk F w b s) : w.cell? ⟨b, 2, none⟩ = some (iv s.size) := by obtain ⟨_, _, _, _, _, _, _, _, _, _, h, _⟩ := h; exact h.c2
set_option maxRecDepth 100000 in
theorem rLost (h : RAryOk F w b s) (q : Nat) (hq : q < s.rows) :
    Calls Tryd.prog 35 #[.pointer (some ⟨b, 0, none⟩), iv q] w fun e w' => e = .returned (iv (s.many q)) ∧ w = w' := by
  have c0 := h.n
  have ho := h.1
  have hr20 := ho.r20
  have hn := ho.n3
  have hn10 := ho.n10
  have HG := Lib.hid (fun d hd => rGone h (d := d) hd q (by omega))
  have hmn : s.many q = s.manyTo q s.n := rfl
  rw [hmn]
  obtain ⟨n, hn0⟩ : ∃ n, n = s.n := ⟨_, rfl⟩
  rw [← hn0] at c0 hn hn10 ⊢
  have Hn := Lib.hid hn0
  clear h ho hmn hn0
  go_enter Tryd.func35, Tryd.ntmps35
  go_wp2_with fail
  go_loopg [5, 6, 7] n (fun gk v5 v6 v7 wr => ∃ k : Nat, k + gk = n ∧ v6 = iv k ∧ v5 = iv (s.manyTo q k) ∧ w = wr)
  case atStart => exact ⟨0, by omega, rfl, rfl, rfl⟩
  case round =>
    obtain ⟨k, hk', rfl, rfl, rfl⟩ := hrel
    have Hk := Lib.hid hk'
    have hmt := s.manyTo_le q k
    have hsu := s.manyTo_succ q k
    by_cases hlt : k < n
    · have HA1 := Lib.hid (HG.out k (by rw [← Hn.out]; exact hlt))
      clear hk'
      generalize s.lost k q = f at *
      cases f with
      | true =>
        rw [if_pos rfl] at hsu
        have Hsu := Lib.hid hsu
        generalize s.manyTo q k = mk at *
        clear hsu
        go_wp2_with fail
        refine HA1.out.mono ?_
        rintro e w' ⟨rfl, rfl⟩
        go_wp2_with fail
        go_roundg (gk - 1)
        case measure => have := Hk.out; omega
        case rel => exact ⟨k + 1, by have := Hk.out; omega, by go_num, by rw [Hsu.out]; go_num, rfl⟩
      | false =>
        rw [if_neg (by decide)] at hsu
        have Hsu := Lib.hid hsu
        generalize s.manyTo q k = mk at *
        clear hsu
        go_wp2_with fail
        refine HA1.out.mono ?_
        rintro e w' ⟨rfl, rfl⟩
        go_wp2_with fail
        go_roundg (gk - 1)
        case measure => have := Hk.out; omega
        case rel => exact ⟨k + 1, by have := Hk.out; omega, by go_num, by rw [Hsu.out], rfl⟩
    · have hkn : k = n := by omega
      clear hk' hsu
      subst hkn
      go_wp2_with fail
      go_ret
      exact ⟨rfl, rfl⟩
def RRawPost (s : Ar.S) (row : Nat) (w : World) (e : Ending) (w' : World) : Prop :=
  ∃ v1 v2, e = .returned (.tuple #[v1, v2]) ∧ w'.ownsRow w.heap.size 9 1 v1 s.n ((s.parts row).map Value.string) ∧ w'.ownsRow w.heap.size 4 1 v2 s.n ((s.marks row).map Value.bool) ∧ Below w.heap.size w w'
theorem tabS_parts (s : Ar.S) (row : Nat) : tabS s.n (s.part row) = (s.parts row).map Value.string := by
  unfold tabS Ar.S.parts; rw [List.map_map]; rfl
theorem tabB_marks (s : Ar.S) (row : Nat) : tabB s.n (fun j => s.lost (Ar.dk s.n row j) row) = (s.marks row).map Value.bool := by
  unfold tabB Ar.S.marks; rw [List.map_map]; rfl
set_option maxRecDepth 100000 in
set_option maxHeartbeats 2000000 in
theorem rRaw (h : RAryOk F w b s) (row : Nat) (hr : row < s.rows) :
    Calls Tryd.prog 36 #[.pointer (some ⟨b, 0, none⟩), iv row] w (RRawPost s row w) := by
  have c0 := h.n
  have hr20 := h.1.r20
  have h3 := h.1.n3
  have h10 := h.1.n10
  have H := Lib.hid h
  have HO := Lib.hid (rlayout_any s.n (row : Int) h3 h10 (by omega) (by omega) w)
  obtain ⟨n, hn0⟩ : ∃ n, n = s.n := ⟨_, rfl⟩
  have Hn := Lib.hid hn0
  unfold RRawPost
  rw [← tabS_parts, ← tabB_marks]
  rw [← hn0] at c0 h3 h10 HO ⊢
  clear h hn0
  go_enter Tryd.func36, Tryd.ntmps36
  go_wp2_with fail
  refine HO.out.mono ?_
  rintro e w1 ⟨vo, rfl, hO1, hB1⟩
  rw [Int.toNat_natCast, ordN_eq (by omega)] at hO1
  obtain ⟨go, co, rfl, _, _, hco1, hco2, _, _⟩ := owns_pos hO1 (by omega)
  unfold maxLen at hco2
  have HO1 := Lib.hid hO1
  have HB1 := Lib.hid hB1
  clear hO1 hB1 c0 HO
  go_wp2_with fail
  go_loopg [7, 8, 9, 10, 11] n (fun gk v7 v8 v9 v10 v11 wr => PartsRel w.heap.size n row (s.part row) (fun j => s.lost (Ar.dk n row j) row) w (.slice (some ⟨go, 0, none⟩) n co) gk v7 v8 v9 wr)
  case atStart => exact ⟨0, by omega, rfl, World.ownsRow_nil _ _ _ _, World.ownsRow_nil _ _ _ _, HO1.out, HB1.out⟩
  case round =>
    clear HO1 HB1
    obtain ⟨k, hk, rfl, hP, hL, hO, hB⟩ := hrel
    have hzr := hB.size
    have Hk := Lib.hid hk
    have HP := Lib.hid hP
    have HL := Lib.hid hL
    have HO := Lib.hid hO
    have HB := Lib.hid hB
    clear hk hP hL hB
    by_cases hlt : k < n
    · have c1 : wr.cell? ⟨go, k, none⟩ = some (iv (Ar.dk n row k)) := (hO.cellAt k (by omega)).trans (ordN_get hlt)
      have hd : Ar.dk n row k < n := Ar.dk_lt (by omega)
      have hps : s.part row k = if s.lost (Ar.dk n row k) row then ⟨#[]⟩ else s.c (Ar.dk n row k) row := by rw [Hn.out]; rfl
      obtain ⟨d, hd0⟩ : ∃ d, d = Ar.dk n row k := ⟨_, rfl⟩
      rw [← hd0] at c1 hd hps
      have Hl : Hid (s.lost (Ar.dk n row k) row = s.lost d row) := Lib.hid (by rw [hd0])
      have HR1 := Lib.hid (H.out.below HB.out)
      have HGo := Lib.hid (rGone HR1.out (d := d) (by rw [← Hn.out]; exact hd) row (by omega))
      cases hf : s.lost d row with
      | true =>
        rw [hf] at HGo Hl hps
        rw [if_pos rfl] at hps
        have Hs := Lib.hid hps
        clear hO hf hps hd0
        go_wp2_with fail
        refine HGo.out.mono ?_
        rintro e w' ⟨rfl, rfl⟩
        go_wp2_with (at_builtin; refine app1 w wr (.string ⟨#[]⟩) 9 40 rfl _ _ rfl w.heap.size Tryd.underlying40 info_strY rfl _ k _ rfl _ rfl rfl HP.out rfl ?c1 ?c2 hzr HB.out ?_)
        case c1 => omega
        case c2 => omega
        intro v8 w8 hP8 hB8 hg8 hat8
        have hL8 := Kept.owns HL.out (Kept.grown hg8) (fun q hq e => own_ne HL.out HP.out (by decide) q hq e.symm)
        have hO8 := Kept.owns HO.out (Kept.grown hg8) (fun q hq e => own_ne HO.out HP.out (by decide) q hq e.symm)
        have HP8 := Lib.hid hP8
        have HL8 := Lib.hid hL8
        have HO8 := Lib.hid hO8
        have HB8 := Lib.hid hB8
        have hz8 := hB8.size
        clear hP8 hL8 hO8 hB8 hg8 hat8
        go_wp2_with (at_builtin; refine app1 w w8 (.bool true) 4 43 rfl _ _ rfl w.heap.size Tryd.underlying43 info_boolY rfl _ k _ rfl _ rfl rfl HL8.out rfl ?c3 ?c4 hz8 HB8.out ?_)
        case c3 => omega
        case c4 => omega
        intro v9 w9 hL9 hB9 hg9 hat9
        have hP9 := Kept.owns HP8.out (Kept.grown hg9) (fun q hq e => own_ne HP8.out HL8.out (by decide) q hq e.symm)
        have hO9 := Kept.owns HO8.out (Kept.grown hg9) (fun q hq e => own_ne HO8.out HL8.out (by decide) q hq e.symm)
        have HP9 := Lib.hid hP9
        have HL9 := Lib.hid hL9
        have HO9 := Lib.hid hO9
        have HB9 := Lib.hid hB9
        clear hP9 hL9 hO9 hB9 hg9 hat9
        go_wp2_with fail
        go_roundg (gk - 1)
        case measure => have := Hk.out; omega
        case rel => exact ⟨k + 1, by have := Hk.out; omega, by go_num, by rw [tabS_succ, Hs.out]; exact HP9.out, by rw [tabB_succ, Hl.out]; exact HL9.out, HO9.out, HB9.out⟩
      | false =>
        have hcl := hf
        rw [hf] at HGo Hl hps
        rw [if_neg (by decide)] at hps
        have Hs := Lib.hid hps
        obtain ⟨ho, gc, gf, gb, cc, cf, cb, gr, cr, C, hA, hI, hS⟩ := HR1.out
        have c3 := hA.c3
        have c4 := hA.lst.cell (j := d) (by rw [← Hn.out]; exact hd)
        have c5 := (hA.row d (by rw [← Hn.out]; exact hd)).cell (j := row) hr
        rw [hS d row (by rw [← Hn.out]; exact hd) hr hcl] at c5
        have q1 := hA.caps
        obtain ⟨k1, k2, _⟩ := q1
        obtain ⟨k7, k8⟩ := hA.rcap d (by rw [← Hn.out]; exact hd)
        unfold maxLen at k2 k8
        rw [← Hn.out] at c3 k1
        have hrI : (row : Int) < (s.rows : Int) := by omega
        have hdI : (d : Int) < (n : Int) := by omega
        obtain ⟨x, hx⟩ : ∃ x, x = s.c d row := ⟨_, rfl⟩
        rw [← hx] at c5 Hs
        clear hO hf hps hd0 hA hI hS ho hcl hx
        go_wp2_with fail
        refine HGo.out.mono ?_
        rintro e w' ⟨rfl, rfl⟩
        go_wp2_with fail
        go_quiet (fail)
        obtain ⟨wq1, hwq1⟩ : ∃ wq1, wq1 = wr.drewN nq := ⟨_, rfl⟩
        have hbq : Below wr.heap.size wr wq1 := by rw [hwq1]; exact bdrew (Below.refl _ _) nq
        rw [← hwq1]
        have HPq := Lib.hid (owns_below HP.out hbq)
        have HLq := Lib.hid (owns_below HL.out hbq)
        have HOq := Lib.hid (owns_below HO.out hbq)
        have HBq := Lib.hid (HB.out.trans (hbq.mono hzr))
        have hzq := HBq.out.size
        clear hwq1 hbq HP HL HO HB hzr c1 c3 c4 c5
        have HP := HPq
        have HL := HLq
        have HO := HOq
        have HB := HBq
        have hzr := hzq
        clear HPq HLq HOq HBq hzq
        go_wp2_with (at_builtin; refine app1 w wq1 (.string x) 9 40 rfl _ _ rfl w.heap.size Tryd.underlying40 info_strY rfl _ k _ rfl _ rfl rfl HP.out rfl ?c1 ?c2 hzr HB.out ?_)
        case c1 => omega
        case c2 => omega
        intro v8 w8 hP8 hB8 hg8 hat8
        have hL8 := Kept.owns HL.out (Kept.grown hg8) (fun q hq e => own_ne HL.out HP.out (by decide) q hq e.symm)
        have hO8 := Kept.owns HO.out (Kept.grown hg8) (fun q hq e => own_ne HO.out HP.out (by decide) q hq e.symm)
        have HP8 := Lib.hid hP8
        have HL8 := Lib.hid hL8
        have HO8 := Lib.hid hO8
        have HB8 := Lib.hid hB8
        have hz8 := hB8.size
        clear hP8 hL8 hO8 hB8 hg8 hat8
        go_wp2_with (at_builtin; refine app1 w w8 (.bool false) 4 43 rfl _ _ rfl w.heap.size Tryd.underlying43 info_boolY rfl _ k _ rfl _ rfl rfl HL8.out rfl ?c3 ?c4 hz8 HB8.out ?_)
        case c3 => omega
        case c4 => omega
        intro v9 w9 hL9 hB9 hg9 hat9
        have hP9 := Kept.owns HP8.out (Kept.grown hg9) (fun q hq e => own_ne HP8.out HL8.out (by decide) q hq e.symm)
        have hO9 := Kept.owns HO8.out (Kept.grown hg9) (fun q hq e => own_ne HO8.out HL8.out (by decide) q hq e.symm)
        have HP9 := Lib.hid hP9
        have HL9 := Lib.hid hL9
        have HO9 := Lib.hid hO9
        have HB9 := Lib.hid hB9
        clear hP9 hL9 hO9 hB9 hg9 hat9
        go_wp2_with fail
        go_roundg (gk - 1)
        case measure => have := Hk.out; omega
        case rel => exact ⟨k + 1, by have := Hk.out; omega, by go_num, by rw [tabS_succ, Hs.out]; exact HP9.out, by rw [tabB_succ, Hl.out]; exact HL9.out, HO9.out, HB9.out⟩
    · have hkn : k = n := by have := Hk.out; omega
      subst hkn
      clear hO
      go_wp2_with fail
      go_ret2
      exact ⟨_, _, rfl, HP.out, HL.out, HB.out⟩
end Go.Proofs.YtcldioneiededaaDoor
