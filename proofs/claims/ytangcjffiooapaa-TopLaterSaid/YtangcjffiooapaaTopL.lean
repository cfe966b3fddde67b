/- The walk of the law TopLater: it returns true. -/
import Derived.Test.YtangcjffiooapaaOne
import Derived.Test.YtangcjffiooapaaRedD
import Derived.Test.YtangcjffiooapaaRedO
import Derived.Test.YtangcjffiooapaaTopN
import Derived.Test.YtangcjffiooapaaCacQ
import Derived.Test.YtangcjffiooapaaTexts
namespace Go.Proofs.Ytangcjffiooapaa
open Go.ChangeShapes Go.WideShapes Go.ChangeAt Go.RowKit Go.Maps
set_option linter.unusedVariables false
theorem redNew_bad (cells : List ByteArray) (h0 : cellsF cells ≠ 0) (v : Value) (w : World) (hv : Row w v (cells.map Value.string)) :
    Calls Try.prog 27 #[v] w fun e w' => e = .returned (.tuple #[.pointer none, ev (cellsF cells)]) ∧ w = w' := by
  have HC := Lib.hid (cells_any cells v w hv)
  rw [errV_ne h0] at HC
  generalize cellsF cells = k at *
  clear h0 hv
  go_enter Try.func27, Try.ntmps27
  go_wp2_with fail
  refine HC.out.mono ?_
  rintro e w' ⟨rfl, rfl⟩
  go_wp2_with fail
  go_ret2
  exact ⟨rfl, rfl⟩
theorem RedOk.kept {F T : Nat → Prop} {w w' : World} {b : Nat} {s : Rd.R} (h : RedOk F w b s) (hk : Kept T w w') (hT : ∀ k, F k → ¬ T k) : RedOk F w' b s := by
  obtain ⟨vf, vc, h1, h2⟩ := h
  exact ⟨vf, vc, h1.kept hk (hT _ h2.b) (fun g hg => hT _ (h2.f g hg)) (fun g hg => hT _ (h2.c g hg)), h2⟩
structure TSt (w : World) (A H K b b2 m j : Nat) (cells : List ByteArray) (wr : World) (c : Cc.C) : Prop where
  ok : CacOk (fun k => (A ≤ k ∧ k < H) ∨ K ≤ k) wr b j c
  inv : Cc.Inv c
  len : c.below.length = m
  red : RedOk (fun k => H ≤ k ∧ k < K) wr b2 (Rd.new cells)
  bel : Below w.heap.size w wr
  size : K ≤ wr.heap.size
def TRel1 (w : World) (A H K b b2 m N : Nat) (cells : List ByteArray) (gk : Nat) (i : Value) (wr : World) : Prop :=
  ∃ (j : Nat) (c : Cc.C), j + gk = N ∧ i = iv j ∧ TSt w A H K b b2 m j cells wr c
def TRel2 (w1 : World) (l : List ByteArray) (m gk : Nat) (v i : Value) (wr : World) : Prop :=
  ∃ k : Nat, k + gk = m ∧ i = iv k ∧ wr.ownsRow w1.heap.size 59 2 v k ((Rd.ats l k).flatMap Rd.cell2) ∧ Below w1.heap.size w1 wr
theorem cwrite_len (c : Cc.C) (h : Cc.Inv c) (i : Int) (b : ByteArray) : (Cc.write c i b).2.below.length = c.below.length := by
  have h1 : ∀ c : Cc.C, (Cc.mid c i).below.length = c.below.length := by
    intro c
    unfold Cc.mid Cc.drop
    by_cases hl : (Cc.wo c.row i).length = c.room
    · simp only [hl, if_true]
      by_cases hd : c.dirty.contains ((Cc.wo c.row i).headD 0) = true
      · rw [if_pos hd]; exact (Cc.clean_row c _).2.2.2.2
      · rw [if_neg hd]
    · rw [if_neg hl]
  unfold Cc.write; split
  · rfl
  · show (Cc.mark (Cc.put c i b) i).below.length = c.below.length
    unfold Cc.mark; split <;> (rw [Cc.put_eq]; exact h1 c)
set_option maxRecDepth 100000 in
set_option maxHeartbeats 4000000 in
theorem topLater_bad (cells : List ByteArray) (room flush : Int) (hbad : cellsF cells ≠ 0 ∨ cellsF cells = 0 ∧ (room < 1 ∨ 1 ≤ room ∧ 12 < room)) (va vw : Value) (w : World) (ha : Row w va (cells.map Value.string)) :
    Calls Try.prog 7 #[va, iv room, vw, iv flush] w fun e w' => e = .returned (.bool true) ∧ Below w.heap.size w w' := by
  have HO := Lib.hid (one_any w)
  have Ha := Lib.hid ha
  clear ha
  rcases hbad with h | ⟨h, h'⟩
  · have Hn := Lib.hid h
    clear h
    go_enter Try.func7, Try.ntmps7
    go_wp2_with fail
    refine HO.out.mono ?_
    rintro e w1 ⟨rfl, hb1⟩
    have HB1 := Lib.hid hb1
    have HA1 := Lib.hid (Ha.out.low (Nat.le_refl _) hb1)
    clear hb1
    go_wp2_with fail
    refine (cacNew_bad cells room Hn.out _ _ HA1.out).mono ?_
    rintro e w2 ⟨rfl, rfl⟩
    go_wp2_with fail
    refine (redNew_bad cells Hn.out _ _ HA1.out).mono ?_
    rintro e w2 ⟨rfl, rfl⟩
    go_wp2_with fail
    go_ret
    exact ⟨rfl, HB1.out⟩
  · have Hn := Lib.hid h
    have Hr := Lib.hid h'
    clear h h'
    go_enter Try.func7, Try.ntmps7
    go_wp2_with fail
    refine HO.out.mono ?_
    rintro e w1 ⟨rfl, hb1⟩
    have HB1 := Lib.hid hb1
    have HA1 := Lib.hid (Ha.out.low (Nat.le_refl _) hb1)
    have hz1 := hb1.size
    clear hb1
    go_wp2_with fail
    refine (cacNew_no cells room Hr.out Hn.out _ _ HA1.out).mono ?_
    rintro e w2 ⟨rfl, rfl⟩
    go_wp2_with fail
    refine (redNew_any cells Hn.out _ _ HA1.out).mono ?_
    rintro e w3 ⟨b, rfl, hR, hb2⟩
    have HB2 := Lib.hid (HB1.out.trans (hb2.mono hz1))
    clear hR hb2
    go_wp2_with fail
    go_ret
    exact ⟨rfl, HB2.out⟩
theorem cflush_len (c : Cc.C) (x : Int) : (Cc.flush c x).2.below.length = c.below.length := by
  unfold Cc.flush
  split
  · rfl
  · exact (Cc.cleans_same c _).2.2.2.2
theorem TSt.drew {w : World} {A H K b b2 m j : Nat} {cells : List ByteArray} {wr : World} {c : Cc.C} (h : TSt w A H K b b2 m j cells wr c) : TSt w A H K b b2 m j cells wr.drew c := by
  have hb : Below wr.heap.size wr wr.drew := (Below.refl _ _).drew
  exact ⟨h.ok.below hb, h.inv, h.len, h.red.below hb, h.bel.drew, h.size⟩
theorem TSt.turn {w : World} {A H K b b2 m j j' : Nat} {cells : List ByteArray} {wr w' : World} {c c' : Cc.C} (h : TSt w A H K b b2 m j cells wr c) (hAw : w.heap.size ≤ A) (hAH : A ≤ H) (hHK : H ≤ K)
    (ho : CacOk (fun k => (A ≤ k ∧ k < H) ∨ K ≤ k) w' b j' c') (hk : Kept (fun k => (A ≤ k ∧ k < H) ∨ K ≤ k) wr w') (hi : Cc.Inv c') (hl : c'.below.length = c.below.length) : TSt w A H K b b2 m j' cells w' c' :=
  ⟨ho, hi, hl.trans h.len, h.red.kept hk (fun k h1 h2 => by omega), h.bel.trans (hk.toBelow h.bel.size (fun k _ h => by omega)), Nat.le_trans h.size hk.size⟩
set_option maxRecDepth 100000 in
set_option maxHeartbeats 4000000 in
theorem topLater_core (cells : List ByteArray) (room : Nat) (h1 : 1 ≤ room) (h2 : room ≤ 12) (h0 : cellsF cells = 0) (flush : Int) (ls : List Rd.W) (hls : ∀ s ∈ ls, s.b.size ≤ maxLen) (va vw : Value) (w : World) (ha : Row w va (cells.map Value.string)) (hl : RowWr w vw ls) :
    Calls Try.prog 7 #[va, iv room, vw, iv flush] w fun e w' => e = .returned (.bool true) ∧ Below w.heap.size w w' := by
  have HO := Lib.hid (one_any w)
  have Ha := Lib.hid ha
  have H0 := Lib.hid h0
  have Hls := Lib.hid hls
  have hc40 := (cellsF_0 h0).1
  obtain ⟨i0, hi, hq0, hq1, hq2⟩ := info_parts info_wr
  have HI := Lib.hid hi
  obtain ⟨pw, cw, rfl, hl1, hl2⟩ := hl
  have Hl2 := Lib.hid hl2
  obtain ⟨m, hm⟩ : ∃ m, m = cells.length := ⟨_, rfl⟩
  obtain ⟨n, hn⟩ : ∃ n, n = ls.length := ⟨_, rfl⟩
  rw [← hn] at hl1 ⊢
  rw [← hm] at hc40
  have Hm := Lib.hid hm
  have Hn := Lib.hid hn
  obtain ⟨N, hN⟩ : ∃ N, N = min n 40 := ⟨_, rfl⟩
  have hNn : N ≤ n := by omega
  have hN40 : N ≤ 40 := by omega
  have hNq : ∀ q, q < N → q < n ∧ q < 40 := fun q hq => by omega
  have hNe : n ≤ N ∨ (N < n ∧ 40 ≤ N) := by omega
  have HNq := Lib.hid hNq
  clear ha h0 hls hl2 hm hn hi hN hNq
  go_enter Try.func7, Try.ntmps7
  go_wp2_with fail
  refine HO.out.mono ?_
  rintro e w1 ⟨rfl, hb1⟩
  have HB1 := Lib.hid hb1
  have HA1 := Lib.hid (Ha.out.low (Nat.le_refl _) hb1)
  have hz1 := hb1.size
  clear hb1
  go_wp2_with fail
  refine (cacNew_any cells room h1 h2 H0.out _ _ HA1.out).mono ?_
  rintro e w2 ⟨b, rfl, hO2, hb2⟩
  have HO2 := Lib.hid hO2
  have HA2 := Lib.hid (HA1.out.low (Nat.le_refl _) hb2)
  have HB2 := Lib.hid (HB1.out.trans (hb2.mono hz1))
  have hz2 := hb2.size
  clear hO2 hb2
  go_wp2_with fail
  refine (redNew_any cells H0.out _ _ HA2.out).mono ?_
  rintro e w3 ⟨b2, rfl, hR3, hb3⟩
  have hz3 := hb3.size
  have HS3 : Hid (TSt w w1.heap.size w2.heap.size w3.heap.size b b2 m 0 cells w3 (Cc.new cells room)) := Lib.hid
    { ok := (HO2.out.wide (fun k hk h => .inl ⟨h, hk⟩)).below hb3
      inv := Cc.Inv.new h1 h2 (by rw [← Hm.out]; exact hc40) (cellsF_0 H0.out).2
      len := Hm.out.symm
      red := hR3.wide (fun k hk h => ⟨h, hk⟩)
      bel := HB2.out.trans (hb3.mono (Nat.le_trans hz1 hz2))
      size := Nat.le_refl _ }
  clear hR3 hb3 HO HO2
  obtain ⟨A, hA⟩ : ∃ A, A = w1.heap.size := ⟨_, rfl⟩
  obtain ⟨H, hH⟩ : ∃ H, H = w2.heap.size := ⟨_, rfl⟩
  obtain ⟨K, hK⟩ : ∃ K, K = w3.heap.size := ⟨_, rfl⟩
  rw [← hA, ← hH, ← hK] at HS3
  have hAw : w.heap.size ≤ A := by omega
  have hAH : A ≤ H := by omega
  have hHK : H ≤ K := by omega
  clear hA hH hK hz1 hz2 hz3 HA1 HA2 HB1 HB2
  go_wp2_with fail
  go_loopg [14] N (fun gk i wr => TRel1 w A H K b b2 m N cells gk i wr)
  case atStart => exact ⟨0, _, by omega, rfl, HS3.out⟩
  case round =>
    obtain ⟨wO, hwO⟩ : ∃ x : World, x = wr := ⟨_, rfl⟩
    obtain ⟨gO, hgO⟩ : ∃ x : Nat, x = gk := ⟨_, rfl⟩
    subst hwO hgO
    obtain ⟨j, c, hj, rfl, hS⟩ := hrel
    have HS := Lib.hid hS
    have Hj := Lib.hid hj
    clear hS HS3
    by_cases hlt : j < N
    · obtain ⟨hjn, hj40⟩ := HNq.out j hlt
      have b40 : decide ((j : Int) < 40) = true := dec_t (by omega)
      have bn : decide ((j : Int) < (n : Int)) = true := dec_t (by omega)
      have hjl : j < ls.length := by have := Hn.out; omega
      obtain ⟨g, off, hp, hg, cc0, cc1⟩ := Hl2.out j ls[j] (List.getElem?_eq_getElem hjl)
      have hsz := Hls.out ls[j] (List.getElem_mem hjl)
      generalize ls[j] = x at *
      obtain ⟨xp, xb⟩ := x
      have hbO := HS.out.bel
      have d0 : wO.cell? ⟨g, off + j * 2, none⟩ = some (iv xp) := (hbO.cell (p := ⟨g, off + j * 2, none⟩) hg).trans cc0
      have d1 : wO.cell? ⟨g, off + j * 2 + 1, none⟩ = some (.string xb) := (hbO.cell (p := ⟨g, off + j * 2 + 1, none⟩) hg).trans cc1
      have HF : Hid (∀ k, wO.drew.heap.size ≤ k → (A ≤ k ∧ k < H) ∨ K ≤ k) := Lib.hid (fun k hk => .inr (Nat.le_trans HS.out.size hk))
      have HW := Lib.hid (cwrite_any HS.out.drew.ok HS.out.inv HF.out (by omega) xp xb hsz)
      have Hp := Lib.hid hp
      have HgA : Hid (¬ ((A ≤ g ∧ g < H) ∨ K ≤ g)) := Lib.hid (by omega)
      rw [hp]
      clear hp cc0 cc1 hbO hsz hg
      go_wp2_with fail
      go_region_held3 (fun w' => w'.cell? ⟨g, off + j * 2, none⟩ = some (iv xp) ∧ w'.cell? ⟨g, off + j * 2 + 1, none⟩ = some (.string xb))
        (first
          | exact ⟨d0, d1⟩
          | exact ⟨f0, f1⟩
          | go_keep)
        (first
          | (go_at_call 12; (with_reducible refine HW.out.mono ?_); rintro e w4 ⟨rfl, hO4, hK4⟩; have HS4 := Lib.hid (HS.out.drew.turn hAw hAH hHK hO4 hK4 (HS.out.inv.write xp xb) (cwrite_len c HS.out.inv xp xb)); have f0 := hK4.cell (b := g) (o := off + j * 2) d0 HgA.out; have f1 := hK4.cell (b := g) (o := off + j * 2 + 1) d1 HgA.out; clear hO4 hK4))
      go_wp2_with fail
      rw [← Hp.out]
      go_roundg (gO - 1)
      case measure => have := Hj.out; omega
      case rel => exact ⟨j + 1, _, by have := Hj.out; omega, by go_num, HS4.out⟩
    · have hjN : j = N := by have := Hj.out; omega
      have hend : (n ≤ j ∧ decide ((j : Int) < (n : Int)) = false) ∨ ((j < n ∧ decide ((j : Int) < (n : Int)) = true) ∧ (40 ≤ j ∧ decide ((j : Int) < 40) = false)) := by
        rcases hNe with h | ⟨h, h'⟩
        · exact .inl ⟨by omega, dec_f (by omega)⟩
        · exact .inr ⟨⟨by omega, dec_t (by omega)⟩, by omega, dec_f (by omega)⟩
      have Hend := Lib.hid hend
      have hj40 : j < 100 := by omega
      clear hlt hNe hend hNn hN40 Hj hjN hj
      rcases Hend.out with ⟨q0, t0⟩ | ⟨⟨q0, t0⟩, q1, t1⟩
      · have HF : Hid (∀ k, wO.heap.size ≤ k → (A ≤ k ∧ k < H) ∨ K ≤ k) := Lib.hid (fun k hk => .inr (Nat.le_trans HS.out.size hk))
        have HL := Lib.hid (cflush_any HS.out.ok HS.out.inv HF.out flush)
        go_wp2_with fail
        refine HL.out.mono ?_
        rintro e w5 ⟨v5, rfl, hO5, hok5, hk5⟩
        have HS5 := Lib.hid (HS.out.turn hAw hAH hHK (hok5.wide (fun k _ h => h.1)) hk5 (HS.out.inv.flush flush) (cflush_len c flush))
        clear hO5 hok5 hk5 HL
        by_cases hf : flush < 0
        · have tf := dec_t hf
          have he : (Cc.flush c flush).1.2 = 1 := by unfold Cc.flush; rw [if_pos hf]
          rw [he, errV_ne (by decide : (1 : Int) ≠ 0)]
          clear he hf
          go_wp2_with fail
          go_ret
          exact ⟨rfl, HS5.out.bel⟩
        · have he : (Cc.flush c flush).1.2 = 0 := by unfold Cc.flush; rw [if_neg hf]
          rw [he, errV_0]
          obtain ⟨c6, hc6⟩ : ∃ c6, c6 = (Cc.flush c flush).2 := ⟨_, rfl⟩
          rw [← hc6] at HS5
          obtain ⟨l, hl⟩ : ∃ l, l = c6.below := ⟨_, rfl⟩
          have hlm : l.length = m := by rw [hl]; exact HS5.out.len
          have hl16 : ∀ x ∈ l, x.size ≤ 16 := by rw [hl]; exact HS5.out.inv.sz
          have HB := Lib.hid (cbelow_any HS5.out.ok (by rw [← hl]; omega))
          rw [← hl] at HB
          have Hlm := Lib.hid hlm
          have Hl16 := Lib.hid hl16
          clear he hf hc6 hl hlm hl16
          go_wp2_with fail
          refine HB.out.mono ?_
          rintro e w6 ⟨v6, rfl, hown6, hb6⟩
          have HR6 := Lib.hid (row_of_owns hown6).1
          have Hown6 := Lib.hid hown6
          have HRed6 := Lib.hid (HS5.out.red.below hb6)
          have HB6 := Lib.hid (HS5.out.bel.trans (hb6.mono HS5.out.bel.size))
          have hz6 := HB6.out.size
          have hK5 : K ≤ w5.heap.size := HS5.out.size
          have hK6 : K ≤ w6.heap.size := Nat.le_trans HS5.out.size hb6.size
          obtain ⟨p6, k6, hv6, h61, h62, _⟩ := (row_of_owns hown6).1.shape
          rw [List.length_map, Hlm.out] at hv6 h61
          subst hv6
          clear hown6 hb6 HB HS5 HS
          go_wp2_with fail
          go_loopg [16, 17] m (fun gk v i wr => TRel2 w6 l m gk v i wr)
          case atStart => exact ⟨0, by omega, rfl, World.ownsRow_nil _ _ _ _, Below.refl _ _⟩
          case round =>
            obtain ⟨k, hk, rfl, hown, hb⟩ := hrel
            have Hk := Lib.hid hk
            have Hown := Lib.hid hown
            have HBk := Lib.hid hb
            have hzr := hb.size
            clear hk hown hb
            by_cases hkm : k < m
            · have b40 : decide ((k : Int) < 40) = true := dec_t (by omega)
              have hkl : k < l.length := by have := Hlm.out; omega
              obtain ⟨pS, kS, eS, _, hS⟩ := Strs.get (ss := l) HR6.out
              obtain ⟨gb, ob, hpb, hcb, hgb⟩ := hS k l[k] (List.getElem?_eq_getElem hkl)
              injection eS with eS eS2 eS3
              rw [← eS] at hpb
              have hsn : Rd.ats l (k + 1) = Rd.ats l k ++ [⟨(k : Int), l[k]⟩] := by rw [Rd.ats_succ, List.getD_eq_getElem?_getD, List.getElem?_eq_getElem hkl]; rfl
              have Hsn := Lib.hid hsn
              generalize l[k] = x at *
              have cb : wr.cell? ⟨gb, ob + k, none⟩ = some (.string x) := (HBk.out.cell (p := ⟨gb, ob + k, none⟩) hgb).trans hcb
              have Hpb := Lib.hid hpb
              rw [hpb]
              clear hpb hcb hgb hS eS eS2 eS3 hsn
              have hi := HI.out
              go_wp2_with (at_builtin; (refine wpList_append_own _ rfl _ _ 53 rfl w6.heap.size 59 i0 _ 2 24 Try.underlying53 hi hq0 hq1 hq2 rfl (by decide) _ k _ rfl (Hown.out.alloc _) ⟨wr.heap.size, 0, none⟩ 1 1 [iv k, .string x] rfl rfl ?k1 ?k2 ?k3 ?k4 ?k5 ?_))
              case k1 =>
                intro j u hj
                have hj2 : j = 0 ∨ j = 1 := by have := (List.getElem?_eq_some_iff.1 hj).1; simp at this; omega
                rw [Addr.add_lit, Nat.zero_add, World.cell?_alloc_at _ _ _ _ rfl]
                rcases hj2 with rfl | rfl <;> exact hj
              case k2 => intro u hu; simp at hu; rcases hu with rfl | rfl <;> rfl
              case k3 => unfold maxLen; omega
              case k4 => omega
              case k5 => simp; omega
              intro v1 w7 hown7 hgr7 _
              have HB7 : Hid (Below w6.heap.size w6 w7) := Lib.hid ((HBk.out.alloc hzr _).grown hgr7 (by simp; omega) (fun g e => (Hown.out.lt g e).1))
              have Hown7 : Hid (w7.ownsRow w6.heap.size 59 2 v1 (k + 1) ((Rd.ats l (k + 1)).flatMap Rd.cell2)) := Lib.hid (by
                rw [Hsn.out, List.flatMap_append, show [(⟨(k : Int), x⟩ : Rd.W)].flatMap Rd.cell2 = [iv k, .string x] from rfl]; exact hown7)
              clear hown7 hgr7 hi
              go_wp2_with fail
              rw [← Hpb.out]
              go_roundg (gk - 1)
              case measure => have := Hk.out; omega
              case rel => exact ⟨k + 1, by have := Hk.out; omega, by go_num, Hown7.out, HB7.out⟩
            · have hkm' : k = m := by have := Hk.out; omega
              have hrow := rowWr_of Hown.out (Rd.ats_len l k) (by omega)
              have hKr : K ≤ wr.heap.size := Nat.le_trans hK6 hzr
              obtain ⟨s1, s2, s3, hlt⟩ := Rd.later cells l (by have := Hlm.out; have := Hm.out; omega) (by have := Hlm.out; omega) Hl16.out
              have hkl : k = l.length := by have := Hlm.out; omega
              rw [show Rd.ats l k = Rd.ats l l.length by rw [← hkl]] at hrow
              have HRow := Lib.hid hrow
              have HLt := Lib.hid hlt
              have HBw := Lib.hid (HB6.out.trans (HBk.out.mono hz6))
              have hzwr := HBw.out.size
              have hwH : w.heap.size ≤ H := Nat.le_trans hAw hAH
              obtain ⟨wR, hwR⟩ : ∃ wR, wR = wr := ⟨_, rfl⟩
              rw [← hwR] at HRow HBw hzr hKr HBk hzwr
              rw [← hwR]
              clear hwR hkm' hrow
              obtain ⟨FF, hFF⟩ : ∃ FF : Nat → Prop, FF = fun q => (H ≤ q ∧ q < K) ∨ wR.heap.size ≤ q := ⟨_, rfl⟩
              have HF : Hid (∀ q, wR.heap.size ≤ q → FF q) := Lib.hid (fun q hq => by rw [hFF]; exact .inr hq)
              have HFw : Hid (∀ q, FF q → w.heap.size ≤ q) := Lib.hid (fun q hq => by rw [hFF] at hq; rcases hq with h | h <;> omega)
              have HF6 : Hid (∀ q, q < w6.heap.size → K ≤ q → ¬ FF q) := Lib.hid (fun q h1 h2 h3 => by rw [hFF] at h3; rcases h3 with h | h <;> omega)
              have HR7 : Hid (RedOk FF wR b2 (Rd.new cells)) := Lib.hid ((HRed6.out.below HBk.out).wide (fun q _ h => by rw [hFF]; exact .inl h))
              have HP := Lib.hid (put_any HR7.out HF.out (by show (-1 : Int) ≤ -1; decide) (by show (-1 : Int) ≤ 9223372036854775807; decide) (by show ([] : List UInt8).length ≤ 1000000; decide) (by show cells.length ≤ 40; have := Hm.out; omega) (Rd.ats l l.length) _ HRow.out)
              rw [hlt.p1] at HP
              clear hlt hkl hFF HRed6
              go_wp2_with fail
              refine HP.out.mono ?_
              rintro e w8 ⟨he, hR8, hk8⟩
              obtain rfl : e = .returned .nilIface := he
              have hz8 := hk8.size
              have HR8 := Lib.hid hR8
              have HK8 := Lib.hid hk8
              have HP8 := Lib.hid (sync_any hR8 (by show -1 ≤ s1.left; rw [HLt.out.left1]; decide) (by show s1.left ≤ _; rw [HLt.out.left1]; decide) (by show s1.bytes.length ≤ _; have := HLt.out.len1; omega))
              rw [HLt.out.p2] at HP8
              clear hR8 hk8 HP
              go_wp2_with fail
              refine HP8.out.mono ?_
              rintro e w9 ⟨he, hR9, hk9⟩
              obtain rfl : e = .returned .nilIface := he
              have hz9 := hk9.size
              have HR9 := Lib.hid hR9
              have HK9 := Lib.hid (HK8.out.also hk9)
              have HP9 := Lib.hid (put_any hR9 (fun q hq => HF.out q (by omega)) (by show -1 ≤ s2.left; rw [HLt.out.left2]; decide) (by show s2.left ≤ _; rw [HLt.out.left2]; decide) (by show s2.bytes.length ≤ _; have := HLt.out.len2; omega) HLt.out.cells2 [] (.slice none 0 0) ⟨none, 0, rfl, by decide, fun j l hj => by simp at hj⟩)
              rw [HLt.out.p3] at HP9
              clear hR9 hk9 HP8 HK8 HR8
              go_wp2_with fail
              refine HP9.out.mono ?_
              rintro e w10 ⟨he, hR10, hk10⟩
              obtain rfl : e = .returned .nilIface := he
              have hz10 := hk10.size
              have HK10 := Lib.hid (HK9.out.also hk10)
              obtain ⟨tail, ht1, ht2⟩ := HLt.out.ends
              have hfl : s3.first.length = l.length := by rw [HLt.out.first]; have := Hlm.out; have := Hm.out; omega
              have hC := crash_any hR10 (fun q hq => HF.out q (by omega)) (by show s3.bytes.length ≤ _; have := HLt.out.len3; omega) HLt.out.safe3 (by rw [hfl]; have := Hlm.out; omega) 0 (by decide) (by decide) [Rd.ats l l.length] tail ht1 (fun x hx => by
                rw [List.mem_singleton] at hx; rw [hx, hfl]
                exact Rd.ats_ok l l rfl (by have := Hlm.out; omega) Hl16.out) ht2
              have HC := Lib.hid hC
              clear hR10 hk10 HP9 HK9 HR9 hC ht1 ht2 hfl
              go_wp2_with fail
              refine HC.out.mono ?_
              rintro e w11 ⟨rfl, hR11, hk11⟩
              have hz11 := hk11.size
              have HK11 := Lib.hid (HK10.out.also hk11)
              have hA := all_any hR11 (by rw [HLt.out.all]; have := Hlm.out; omega)
              rw [HLt.out.all] at hA
              have HA := Lib.hid hA
              clear hR11 hk11 HC HK10 hA
              go_wp2_with fail
              refine HA.out.mono ?_
              rintro e w12 ⟨v12, rfl, hown12, hb12⟩
              have HB12 := Lib.hid ((HBw.out.trans (HK11.out.toBelow hzwr (fun q _ h => HFw.out q h))).trans (hb12.mono (by omega)))
              have hr6 : Strs w12 (.slice p6 m k6) l := by
                have o1 := owns_below Hown6.out HBk.out
                have o2 := HK11.out.owns o1 (fun g hg => HF6.out g (Hown6.out.lt g hg).2 (Nat.le_trans hK5 (Hown6.out.lt g hg).1))
                exact (row_of_owns (owns_below o2 hb12)).1
              have HT := Lib.hid (texts_eq l v12 (.slice p6 m k6) w12 (row_of_owns hown12).1 hr6)
              clear hown12 hb12 hr6
              go_wp2_with fail
              refine HT.out.mono ?_
              rintro e w' ⟨rfl, nd, rfl⟩
              go_wp2_with fail
              go_ret
              exact ⟨rfl, bdrew HB12.out _⟩
      · have HF : Hid (∀ k, wO.heap.size ≤ k → (A ≤ k ∧ k < H) ∨ K ≤ k) := Lib.hid (fun k hk => .inr (Nat.le_trans HS.out.size hk))
        have HL := Lib.hid (cflush_any HS.out.ok HS.out.inv HF.out flush)
        go_wp2_with fail
        refine HL.out.mono ?_
        rintro e w5 ⟨v5, rfl, hO5, hok5, hk5⟩
        have HS5 := Lib.hid (HS.out.turn hAw hAH hHK (hok5.wide (fun k _ h => h.1)) hk5 (HS.out.inv.flush flush) (cflush_len c flush))
        clear hO5 hok5 hk5 HL
        by_cases hf : flush < 0
        · have tf := dec_t hf
          have he : (Cc.flush c flush).1.2 = 1 := by unfold Cc.flush; rw [if_pos hf]
          rw [he, errV_ne (by decide : (1 : Int) ≠ 0)]
          clear he hf
          go_wp2_with fail
          go_ret
          exact ⟨rfl, HS5.out.bel⟩
        · have he : (Cc.flush c flush).1.2 = 0 := by unfold Cc.flush; rw [if_neg hf]
          rw [he, errV_0]
          obtain ⟨c6, hc6⟩ : ∃ c6, c6 = (Cc.flush c flush).2 := ⟨_, rfl⟩
          rw [← hc6] at HS5
          obtain ⟨l, hl⟩ : ∃ l, l = c6.below := ⟨_, rfl⟩
          have hlm : l.length = m := by rw [hl]; exact HS5.out.len
          have hl16 : ∀ x ∈ l, x.size ≤ 16 := by rw [hl]; exact HS5.out.inv.sz
          have HB := Lib.hid (cbelow_any HS5.out.ok (by rw [← hl]; omega))
          rw [← hl] at HB
          have Hlm := Lib.hid hlm
          have Hl16 := Lib.hid hl16
          clear he hf hc6 hl hlm hl16
          go_wp2_with fail
          refine HB.out.mono ?_
          rintro e w6 ⟨v6, rfl, hown6, hb6⟩
          have HR6 := Lib.hid (row_of_owns hown6).1
          have Hown6 := Lib.hid hown6
          have HRed6 := Lib.hid (HS5.out.red.below hb6)
          have HB6 := Lib.hid (HS5.out.bel.trans (hb6.mono HS5.out.bel.size))
          have hz6 := HB6.out.size
          have hK5 : K ≤ w5.heap.size := HS5.out.size
          have hK6 : K ≤ w6.heap.size := Nat.le_trans HS5.out.size hb6.size
          obtain ⟨p6, k6, hv6, h61, h62, _⟩ := (row_of_owns hown6).1.shape
          rw [List.length_map, Hlm.out] at hv6 h61
          subst hv6
          clear hown6 hb6 HB HS5 HS
          go_wp2_with fail
          go_loopg [16, 17] m (fun gk v i wr => TRel2 w6 l m gk v i wr)
          case atStart => exact ⟨0, by omega, rfl, World.ownsRow_nil _ _ _ _, Below.refl _ _⟩
          case round =>
            obtain ⟨k, hk, rfl, hown, hb⟩ := hrel
            have Hk := Lib.hid hk
            have Hown := Lib.hid hown
            have HBk := Lib.hid hb
            have hzr := hb.size
            clear hk hown hb
            by_cases hkm : k < m
            · have b40 : decide ((k : Int) < 40) = true := dec_t (by omega)
              have hkl : k < l.length := by have := Hlm.out; omega
              obtain ⟨pS, kS, eS, _, hS⟩ := Strs.get (ss := l) HR6.out
              obtain ⟨gb, ob, hpb, hcb, hgb⟩ := hS k l[k] (List.getElem?_eq_getElem hkl)
              injection eS with eS eS2 eS3
              rw [← eS] at hpb
              have hsn : Rd.ats l (k + 1) = Rd.ats l k ++ [⟨(k : Int), l[k]⟩] := by rw [Rd.ats_succ, List.getD_eq_getElem?_getD, List.getElem?_eq_getElem hkl]; rfl
              have Hsn := Lib.hid hsn
              generalize l[k] = x at *
              have cb : wr.cell? ⟨gb, ob + k, none⟩ = some (.string x) := (HBk.out.cell (p := ⟨gb, ob + k, none⟩) hgb).trans hcb
              have Hpb := Lib.hid hpb
              rw [hpb]
              clear hpb hcb hgb hS eS eS2 eS3 hsn
              have hi := HI.out
              go_wp2_with (at_builtin; (refine wpList_append_own _ rfl _ _ 53 rfl w6.heap.size 59 i0 _ 2 24 Try.underlying53 hi hq0 hq1 hq2 rfl (by decide) _ k _ rfl (Hown.out.alloc _) ⟨wr.heap.size, 0, none⟩ 1 1 [iv k, .string x] rfl rfl ?k1 ?k2 ?k3 ?k4 ?k5 ?_))
              case k1 =>
                intro j u hj
                have hj2 : j = 0 ∨ j = 1 := by have := (List.getElem?_eq_some_iff.1 hj).1; simp at this; omega
                rw [Addr.add_lit, Nat.zero_add, World.cell?_alloc_at _ _ _ _ rfl]
                rcases hj2 with rfl | rfl <;> exact hj
              case k2 => intro u hu; simp at hu; rcases hu with rfl | rfl <;> rfl
              case k3 => unfold maxLen; omega
              case k4 => omega
              case k5 => simp; omega
              intro v1 w7 hown7 hgr7 _
              have HB7 : Hid (Below w6.heap.size w6 w7) := Lib.hid ((HBk.out.alloc hzr _).grown hgr7 (by simp; omega) (fun g e => (Hown.out.lt g e).1))
              have Hown7 : Hid (w7.ownsRow w6.heap.size 59 2 v1 (k + 1) ((Rd.ats l (k + 1)).flatMap Rd.cell2)) := Lib.hid (by
                rw [Hsn.out, List.flatMap_append, show [(⟨(k : Int), x⟩ : Rd.W)].flatMap Rd.cell2 = [iv k, .string x] from rfl]; exact hown7)
              clear hown7 hgr7 hi
              go_wp2_with fail
              rw [← Hpb.out]
              go_roundg (gk - 1)
              case measure => have := Hk.out; omega
              case rel => exact ⟨k + 1, by have := Hk.out; omega, by go_num, Hown7.out, HB7.out⟩
            · have hkm' : k = m := by have := Hk.out; omega
              have hrow := rowWr_of Hown.out (Rd.ats_len l k) (by omega)
              have hKr : K ≤ wr.heap.size := Nat.le_trans hK6 hzr
              obtain ⟨s1, s2, s3, hlt⟩ := Rd.later cells l (by have := Hlm.out; have := Hm.out; omega) (by have := Hlm.out; omega) Hl16.out
              have hkl : k = l.length := by have := Hlm.out; omega
              rw [show Rd.ats l k = Rd.ats l l.length by rw [← hkl]] at hrow
              have HRow := Lib.hid hrow
              have HLt := Lib.hid hlt
              have HBw := Lib.hid (HB6.out.trans (HBk.out.mono hz6))
              have hzwr := HBw.out.size
              have hwH : w.heap.size ≤ H := Nat.le_trans hAw hAH
              obtain ⟨wR, hwR⟩ : ∃ wR, wR = wr := ⟨_, rfl⟩
              rw [← hwR] at HRow HBw hzr hKr HBk hzwr
              rw [← hwR]
              clear hwR hkm' hrow
              obtain ⟨FF, hFF⟩ : ∃ FF : Nat → Prop, FF = fun q => (H ≤ q ∧ q < K) ∨ wR.heap.size ≤ q := ⟨_, rfl⟩
              have HF : Hid (∀ q, wR.heap.size ≤ q → FF q) := Lib.hid (fun q hq => by rw [hFF]; exact .inr hq)
              have HFw : Hid (∀ q, FF q → w.heap.size ≤ q) := Lib.hid (fun q hq => by rw [hFF] at hq; rcases hq with h | h <;> omega)
              have HF6 : Hid (∀ q, q < w6.heap.size → K ≤ q → ¬ FF q) := Lib.hid (fun q h1 h2 h3 => by rw [hFF] at h3; rcases h3 with h | h <;> omega)
              have HR7 : Hid (RedOk FF wR b2 (Rd.new cells)) := Lib.hid ((HRed6.out.below HBk.out).wide (fun q _ h => by rw [hFF]; exact .inl h))
              have HP := Lib.hid (put_any HR7.out HF.out (by show (-1 : Int) ≤ -1; decide) (by show (-1 : Int) ≤ 9223372036854775807; decide) (by show ([] : List UInt8).length ≤ 1000000; decide) (by show cells.length ≤ 40; have := Hm.out; omega) (Rd.ats l l.length) _ HRow.out)
              rw [hlt.p1] at HP
              clear hlt hkl hFF HRed6
              go_wp2_with fail
              refine HP.out.mono ?_
              rintro e w8 ⟨he, hR8, hk8⟩
              obtain rfl : e = .returned .nilIface := he
              have hz8 := hk8.size
              have HR8 := Lib.hid hR8
              have HK8 := Lib.hid hk8
              have HP8 := Lib.hid (sync_any hR8 (by show -1 ≤ s1.left; rw [HLt.out.left1]; decide) (by show s1.left ≤ _; rw [HLt.out.left1]; decide) (by show s1.bytes.length ≤ _; have := HLt.out.len1; omega))
              rw [HLt.out.p2] at HP8
              clear hR8 hk8 HP
              go_wp2_with fail
              refine HP8.out.mono ?_
              rintro e w9 ⟨he, hR9, hk9⟩
              obtain rfl : e = .returned .nilIface := he
              have hz9 := hk9.size
              have HR9 := Lib.hid hR9
              have HK9 := Lib.hid (HK8.out.also hk9)
              have HP9 := Lib.hid (put_any hR9 (fun q hq => HF.out q (by omega)) (by show -1 ≤ s2.left; rw [HLt.out.left2]; decide) (by show s2.left ≤ _; rw [HLt.out.left2]; decide) (by show s2.bytes.length ≤ _; have := HLt.out.len2; omega) HLt.out.cells2 [] (.slice none 0 0) ⟨none, 0, rfl, by decide, fun j l hj => by simp at hj⟩)
              rw [HLt.out.p3] at HP9
              clear hR9 hk9 HP8 HK8 HR8
              go_wp2_with fail
              refine HP9.out.mono ?_
              rintro e w10 ⟨he, hR10, hk10⟩
              obtain rfl : e = .returned .nilIface := he
              have hz10 := hk10.size
              have HK10 := Lib.hid (HK9.out.also hk10)
              obtain ⟨tail, ht1, ht2⟩ := HLt.out.ends
              have hfl : s3.first.length = l.length := by rw [HLt.out.first]; have := Hlm.out; have := Hm.out; omega
              have hC := crash_any hR10 (fun q hq => HF.out q (by omega)) (by show s3.bytes.length ≤ _; have := HLt.out.len3; omega) HLt.out.safe3 (by rw [hfl]; have := Hlm.out; omega) 0 (by decide) (by decide) [Rd.ats l l.length] tail ht1 (fun x hx => by
                rw [List.mem_singleton] at hx; rw [hx, hfl]
                exact Rd.ats_ok l l rfl (by have := Hlm.out; omega) Hl16.out) ht2
              have HC := Lib.hid hC
              clear hR10 hk10 HP9 HK9 HR9 hC ht1 ht2 hfl
              go_wp2_with fail
              refine HC.out.mono ?_
              rintro e w11 ⟨rfl, hR11, hk11⟩
              have hz11 := hk11.size
              have HK11 := Lib.hid (HK10.out.also hk11)
              have hA := all_any hR11 (by rw [HLt.out.all]; have := Hlm.out; omega)
              rw [HLt.out.all] at hA
              have HA := Lib.hid hA
              clear hR11 hk11 HC HK10 hA
              go_wp2_with fail
              refine HA.out.mono ?_
              rintro e w12 ⟨v12, rfl, hown12, hb12⟩
              have HB12 := Lib.hid ((HBw.out.trans (HK11.out.toBelow hzwr (fun q _ h => HFw.out q h))).trans (hb12.mono (by omega)))
              have hr6 : Strs w12 (.slice p6 m k6) l := by
                have o1 := owns_below Hown6.out HBk.out
                have o2 := HK11.out.owns o1 (fun g hg => HF6.out g (Hown6.out.lt g hg).2 (Nat.le_trans hK5 (Hown6.out.lt g hg).1))
                exact (row_of_owns (owns_below o2 hb12)).1
              have HT := Lib.hid (texts_eq l v12 (.slice p6 m k6) w12 (row_of_owns hown12).1 hr6)
              clear hown12 hb12 hr6
              go_wp2_with fail
              refine HT.out.mono ?_
              rintro e w' ⟨rfl, nd, rfl⟩
              go_wp2_with fail
              go_ret
              exact ⟨rfl, bdrew HB12.out _⟩
theorem topLater_walk (va : Value) (room : Int) (vw : Value) (flush : Int) (w0 : (Lit.int .i64 room).wf = true) (w1 : (Lit.int .i64 flush).wf = true) (w : World)
    (ha : ∃ ss, Strs w va ss ∧ ∀ s ∈ ss, s.size ≤ maxLen) (hl : ∃ ls : List Rd.W, RowWr w vw ls ∧ ∀ l ∈ ls, l.b.size ≤ maxLen) :
    Calls Try.prog 7 #[va, iv room, vw, iv flush] w fun e w' => e = .returned (.bool true) ∧ Below w.heap.size w w' := by
  obtain ⟨cells, hc, _⟩ := ha
  obtain ⟨ls, hl, hls⟩ := hl
  by_cases h0 : cellsF cells = 0
  · by_cases h : 1 ≤ room ∧ room ≤ 12
    · obtain ⟨r, rfl⟩ : ∃ r : Nat, room = r := ⟨room.toNat, by omega⟩
      exact topLater_core cells r (by omega) (by omega) h0 flush ls hls va vw w hc hl
    · exact topLater_bad cells room flush (.inr ⟨h0, by omega⟩) va vw w hc
  · exact topLater_bad cells room flush (.inl h0) va vw w hc
end Go.Proofs.Ytangcjffiooapaa
