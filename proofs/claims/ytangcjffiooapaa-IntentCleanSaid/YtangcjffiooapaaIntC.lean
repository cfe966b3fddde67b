/- The walk of the law IntentClean: it returns true. -/
import Derived.Test.YtangcjffiooapaaIntZ
import Derived.Test.YtangcjffiooapaaInts
namespace Go.Proofs.Ytangcjffiooapaa
open Go.ChangeShapes Go.WideShapes Go.ChangeAt Go.RowKit Go.Maps
set_option linter.unusedVariables false
namespace Nt
theorem L_head {g : Nat → Bool} {x : Int} {t : List Int} (h : L g = x :: t) : ∃ r : Nat, x = r ∧ r < 40 ∧ g r = true ∧ L (upd g r false) = t := by
  have hm : x ∈ L g := by rw [h]; exact List.mem_cons_self
  unfold L at hm
  obtain ⟨r, hr, rfl⟩ := List.mem_map.1 hm
  have h40 : r < 40 := by have := (List.mem_filter.1 hr).1; rwa [List.mem_range] at this
  have hg : g r = true := (List.mem_filter.1 hr).2
  refine ⟨r, rfl, h40, hg, ?_⟩
  have h0 : (lo g r).length = 0 := by
    rw [← count_lo g h40, List.countP_eq_zero]
    intro y hy
    have hs := L_sorted g
    rw [h] at hs hy
    rcases List.mem_cons.1 hy with rfl | hy
    · simp
    · have := (List.pairwise_cons.1 hs).1 y hy
      simp; omega
  rw [L_del h40 hg, h0, h]
  rfl
def Fine (s : S) (wide : Nat) : Prop := (∀ k, s.many k = 0) ∧ ∀ r, s.dirty r = true → r ≤ 39 / wide
theorem fine_zero (wide : Nat) : Fine zero wide := ⟨fun _ => rfl, fun r h => by cases h⟩
theorem fine_step {s : S} {wide c : Nat} (h : Fine s wide) (hc : c < 40) : (beg s wide c).many c ≠ 0 ∧ Fine (fin (beg s wide c) c) wide := by
  refine ⟨by show upd s.many c (s.many c + 1) c ≠ 0; rw [upd_same]; omega, fun k => ?_, fun r hr => ?_⟩
  · unfold fin beg
    show upd (upd s.many c (s.many c + 1)) c (upd s.many c (s.many c + 1) c - 1) k = 0
    by_cases e : k = c
    · subst e; rw [upd_same, upd_same, h.1 k]
    · rw [upd_other _ _ e, upd_other _ _ e, h.1 k]
  · unfold fin beg at hr
    have hr' : upd s.dirty (c / wide) true r = true := hr
    by_cases e : r = c / wide
    · subst e; exact Nat.div_le_div_right (by omega)
    · rw [upd_other _ _ e] at hr'; exact h.2 r hr'
theorem fine_busy {s : S} {wide r : Nat} (h : Fine s wide) : ¬ busy s wide r := by
  rintro ⟨c, _, hm, _⟩; exact hm (h.1 c)
theorem fine_cln {s : S} {wide r : Nat} (h : Fine s wide) : Fine (cln s r) wide := by
  refine ⟨h.1, fun q hq => ?_⟩
  have hq' : upd s.dirty r false q = true := hq
  by_cases e : q = r
  · subst e; rw [upd_same] at hq'; cases hq'
  · rw [upd_other _ _ e] at hq'; exact h.2 q hq'
end Nt
theorem intentClean_no (x : Int) (v : Value) (h : x < 1 ∨ 1 ≤ x ∧ 40 < x) (w : World) :
    Calls Try.prog 5 #[iv x, v] w fun e w' => e = .returned (.bool true) ∧ Below w.heap.size w w' := by
  have Hn := Lib.hid h
  rcases h with h | ⟨h1, h2⟩
  all_goals
    go_enter Try.func5, Try.ntmps5
    go_wp2_with fail
    refine (intNew_no x Hn.out _).mono ?_
    rintro e w' ⟨rfl, rfl⟩
    go_wp2_with fail
    go_ret
    exact ⟨rfl, Below.refl _ _⟩
def ICRel (w : World) (b wide N gk : Nat) (i : Value) (wr : World) : Prop :=
  ∃ (j : Nat) (s : Nt.S), j + gk = N ∧ j ≤ 60 ∧ i = iv j ∧ IntOk (fun k => w.heap.size ≤ k) wr 0 b (2 * j) wide s ∧ Nt.Fine s wide ∧ Below w.heap.size w wr
def ICRel2 (F : Nat → Prop) (w3 : World) (b wide : Nat) (d : List Int) (n gk : Nat) (i : Value) (wr : World) : Prop :=
  ∃ (j : Nat) (s : Nt.S), j + gk = d.length ∧ i = iv j ∧ IntOk F wr 0 b n wide s ∧ Nt.Fine s wide ∧ Nt.L s.dirty = d.drop j ∧ Kept F w3 wr
set_option maxRecDepth 100000 in
set_option maxHeartbeats 4000000 in
theorem intentClean_core (wide : Nat) (h1 : 1 ≤ wide) (h2 : wide ≤ 40) (v : Value) (xs : List Int) (w : World) (hv : Row w v (xs.map iv)) :
    Calls Try.prog 5 #[iv wide, v] w fun e w' => e = .returned (.bool true) ∧ Below w.heap.size w w' := by
  obtain ⟨p, cap, rfl, hl1, hl2, hcell⟩ := hv.get
  rw [List.length_map] at *
  have Hcell := Lib.hid hcell
  generalize hN : xs.length = N at *
  have HN := Lib.hid hN
  clear hv hcell hN
  go_enter Try.func5, Try.ntmps5
  go_wp2_with fail
  refine (intNew_any wide h1 h2 _).mono ?_
  rintro e w1 ⟨b, rfl, hI, hb⟩
  have HI := Lib.hid hI
  have HB := Lib.hid hb
  clear hI hb
  go_wp2_with fail
  go_loopg [7] N (fun gk i wr => ICRel w b wide N gk i wr)
  case atStart => exact ⟨0, Nt.zero, by omega, by omega, rfl, HI.out, Nt.fine_zero wide, HB.out⟩
  case round =>
    obtain ⟨wO, hwO⟩ : ∃ x : World, x = wr := ⟨_, rfl⟩
    obtain ⟨gO, hgO⟩ : ∃ x : Nat, x = gk := ⟨_, rfl⟩
    subst hwO hgO
    obtain ⟨j, s, hj, hj60, rfl, hI, hF, hB⟩ := hrel
    have HI2 := Lib.hid hI
    have HF := Lib.hid hF
    have HB2 := Lib.hid hB
    have Hj := Lib.hid hj
    clear hI hF hB HI HB hj
    by_cases hlt : j < N ∧ j < 60
    · obtain ⟨hltN, hlt60⟩ := hlt
      have b60 : decide ((j : Int) < 60) = true := dec_t (by omega)
      obtain ⟨g, o, hp, hc, hgl⟩ := Hcell.out j hltN
      obtain ⟨x, hx⟩ : ∃ x, xs[j]? = some x := ⟨xs[j]'(by rw [HN.out]; exact hltN), List.getElem?_eq_getElem _⟩
      rw [List.getElem?_map, hx] at hc
      have c1 : w.cell? ⟨g, o + j, none⟩ = some (iv x) := hc
      have C1 := Lib.hid c1
      have c2 : wO.cell? ⟨g, o + j, none⟩ = some (iv x) := (HB2.out.cell (p := ⟨g, o + j, none⟩) hgl).trans c1
      rw [hp]
      have Hp := Lib.hid hp
      clear hc hx hp c1
      obtain ⟨mb, vd, D, hA, hIn⟩ := HI2.out
      have HA := Lib.hid hA
      have HIn0 := Lib.hid hIn
      have hbz := HB2.out.size
      clear hA hIn
      by_cases hin : Nt.inB x = true
      · have hin2 := Nt.in_iff.1 hin
        obtain ⟨c, rfl⟩ : ∃ c : Nat, x = c := ⟨x.toNat, by omega⟩
        have hc40 : c < 40 := by omega
        clear hin hin2
        go_wp2_with fail
        refine (begin_yes HA.out (F := fun k => w.heap.size ≤ k) (fun k hk => by omega) HIn0.out (Nat.zero_le _) (by omega) c hc40).mono ?_
        rintro e w2 ⟨rfl, hI, hb⟩
        obtain ⟨hne, hF2⟩ := Nt.fine_step HF.out hc40
        obtain ⟨mb2, vd2, D2, hA2, hIn2⟩ := hI
        have HA2 := Lib.hid hA2
        have HB3 := Lib.hid (HB2.out.trans (hb.toBelow hbz (fun k _ hk => hk)))
        have HF2 := Lib.hid hF2
        have c3 : w2.cell? ⟨g, o + j, none⟩ = some (iv c) := (HB3.out.cell (p := ⟨g, o + j, none⟩) hgl).trans C1.out
        have hz2 := HB3.out.size
        have HE := Lib.hid (end_yes (HA2.out.below ((Below.refl _ _).drew)) hIn2 (by omega) c hc40)
        rw [if_neg hne] at HE
        clear hb hne hF2 hA2 c2 hIn2
        have b40 : decide ((c : Int) < 40) = true := dec_t (by omega)
        have b40' : decide (c < 40) = true := dec_t (by omega)
        go_wp2_with fail
        go_region_held3 (fun w' => w'.cell? ⟨g, o + j, none⟩ = some (iv c))
          (first
            | exact c3
            | exact c4
            | go_keep)
          (first
            | (go_at_call 21; (with_reducible refine HE.out.mono ?_); rintro e w3 ⟨he, hI3, hb3⟩; obtain rfl : e = .returned .nilIface := he; have HI3 := Lib.hid hI3; have HB4 := Lib.hid ((HB3.out.drew).trans (hb3.toBelow hz2 (fun k _ hk => hk))); have c4 := (HB4.out.cell (p := ⟨g, o + j, none⟩) hgl).trans C1.out; clear hI3 hb3))
        go_wp2_with fail
        rw [show (some ({ block := g, off := o, spot := none } : Addr)) = p from Hp.out.symm]
        go_roundg (gO - 1)
        case measure => have := Hj.out; omega
        case rel => exact ⟨j + 1, _, by have := Hj.out; omega, by omega, by go_num, HI3.out, HF2.out, HB4.out⟩
      · have Hin := Lib.hid (show Nt.inB x = false by simpa using hin)
        have hx : x < 0 ∨ 0 ≤ x ∧ 40 ≤ x := by
          have h := Hin.out
          rw [← Bool.not_eq_true, Nt.in_iff] at h
          omega
        clear hin
        go_wp2_with fail
        refine (begin_no x Hin.out).mono ?_
        rintro e w2 ⟨rfl, rfl⟩
        have hdx : decide (0 ≤ x) = false ∨ decide (0 ≤ x) = true ∧ decide (x < 40) = false := by
          rcases hx with h | ⟨h, h'⟩
          · exact .inl (dec_f (by omega))
          · exact .inr ⟨dec_t h, dec_f (by omega)⟩
        clear hx
        rcases hdx with hx | ⟨hx1, hx2⟩
        all_goals
          go_wp2_with fail
          go_quiet (fail)
          go_wp2_with fail
          rw [show (some ({ block := g, off := o, spot := none } : Addr)) = p from Hp.out.symm]
          go_roundg (gO - 1)
          case measure => have := Hj.out; omega
          case rel =>
            obtain ⟨m1, v1, D1, h1', h2'⟩ := (HI2.out.below (bdrew (Below.refl _ _) _))
            exact ⟨j + 1, s, by have := Hj.out; omega, by omega, by go_num, ⟨m1, v1, D1, h1'.more.more, h2'⟩, HF.out, bdrew HB2.out _⟩
    · have hfin : (¬ j < N) ∨ j < N ∧ ¬ j < 60 := by omega
      obtain ⟨mb, vd, D, hA, hIn⟩ := HI2.out
      have HA := Lib.hid hA
      clear hlt hA hIn
      rcases hfin with hf | ⟨hf, hf2⟩
      all_goals
        go_wp2_with fail
        refine (dirty_any HA.out).mono ?_
        rintro e w3 ⟨vl, rfl, hown, hb⟩
        obtain ⟨F, hF⟩ : ∃ F : Nat → Prop, F = fun k => w.heap.size ≤ k ∧ vl.ownBlock ≠ some k := ⟨_, rfl⟩
        have hzO := HB2.out.size
        have HFo : Hid (∀ k, F k → w.heap.size ≤ k) := Lib.hid (by intro k hk; rw [hF] at hk; exact hk.1)
        have HFl : Hid (∀ g, vl.ownBlock = some g → ¬ F g) := Lib.hid (by intro g hg hk; rw [hF] at hk; exact hk.2 hg)
        have HFn : Hid (∀ k, w3.heap.size ≤ k → F k) := Lib.hid (by
          intro k hk; rw [hF]
          have hz := hb.size
          exact ⟨by omega, fun e => by have := (hown.lt k e).2; omega⟩)
        have HI3 : Hid (IntOk F w3 0 b (2 * j) wide s) := Lib.hid (IntOk.below (HI2.out.wide (fun k hk h => by rw [hF]; exact ⟨h, fun e => by have := (hown.lt k e).1; omega⟩)) hb)
        have HL1 := Lib.hid (row_of_owns hown).1
        obtain ⟨d, hd⟩ : ∃ d, d = Nt.L s.dirty := ⟨_, rfl⟩
        rw [← hd] at HL1
        obtain ⟨pl, cl, hvl, hl1', hl2', hcl⟩ := HL1.out.get
        rw [List.length_map] at hvl hl1' hcl
        subst hvl
        have Hcl := Lib.hid hcl
        have HB3 := Lib.hid (HB2.out.trans (hb.mono HB2.out.size))
        have Hd := Lib.hid hd
        have hz3 := HB3.out.size
        obtain ⟨nd, hnd⟩ : ∃ nd, nd = d.length := ⟨_, rfl⟩
        rw [← hnd] at hl1' ⊢
        have Hnd := Lib.hid hnd
        clear hown hb hcl hd hnd hF HL1
        go_wp2_with fail
        go_loopg [11] nd (fun gk i wr => ICRel2 F w3 b wide d (2 * j) gk i wr)
        case atStart => exact ⟨0, s, by rw [← Hnd.out]; omega, rfl, HI3.out, HF.out, by rw [← Hd.out]; rfl, Kept.refl _ _⟩
        case round =>
          obtain ⟨wQ, hwQ⟩ : ∃ x : World, x = wr := ⟨_, rfl⟩
          obtain ⟨gQ, hgQ⟩ : ∃ x : Nat, x = gk := ⟨_, rfl⟩
          subst hwQ hgQ
          obtain ⟨q, s', hq, rfl, ⟨mb', vd', D', hA', hIn'⟩, hF', hL', hK'⟩ := hrel
          have HF' := Lib.hid hF'
          have HK := Lib.hid hK'
          have HL := Lib.hid hL'
          have HA' := Lib.hid hA'
          have HIn' := Lib.hid hIn'
          have hq2 : q + gQ = nd := by rw [Hnd.out]; exact hq
          have Hq := Lib.hid hq2
          have hzr := HK.out.size
          have hFr : ∀ k, wQ.heap.size ≤ k → F k := fun k hk => HFn.out k (by omega)
          have HFr := Lib.hid hFr
          have HBr : Hid (Below w.heap.size w wQ) := Lib.hid (HB3.out.trans (HK.out.toBelow hz3 (fun k _ hk => HFo.out k hk)))
          clear hF' hK' hL' hA' hIn' hq hFr
          by_cases hqn : q < nd
          · obtain ⟨gl, ol, hpl, hcq, hgq⟩ := Hcl.out q (by have := Hnd.out; omega)
            obtain ⟨x, hx⟩ : ∃ x, d[q]? = some x := ⟨d[q]'(by have := Hnd.out; omega), List.getElem?_eq_getElem _⟩
            rw [List.getElem?_map, hx] at hcq
            obtain ⟨r, hxr, hr40, hdr, hLr⟩ := Nt.L_head (g := s'.dirty) (x := x) (t := d.drop (q + 1)) (by
              rw [HL.out, List.drop_eq_getElem_cons (by have := Hnd.out; omega)]
              congr 1
              rw [List.getElem?_eq_getElem (by have := Hnd.out; omega)] at hx
              exact Option.some.inj hx)
            subst hxr
            have HnF : Hid (¬ F gl) := Lib.hid (HFl.out gl (by rw [hpl]; rfl))
            have cq : wQ.cell? ⟨gl, ol + q, none⟩ = some (iv r) := HK.out.cell hcq HnF.out
            have HC := Lib.hid (clean_yes HA'.out HFr.out HIn'.out r (HF'.out.2 r hdr))
            have Hdr := Lib.hid hdr
            have HLr := Lib.hid hLr
            rw [hpl]
            have Hpl := Lib.hid hpl
            clear hx hcq hdr hLr hpl
            go_wp2_with fail
            refine HC.out.mono ?_
            rintro e w5 (⟨hbz, _⟩ | ⟨_, he, hI, hk⟩)
            · exact absurd hbz (Nt.fine_busy HF'.out)
            · rw [Hdr.out] at he
              subst he
              have HI5 := Lib.hid hI
              have HK5 := Lib.hid (HK.out.also hk)
              clear hI hk
              go_wp2_with fail
              rw [show (some ({ block := gl, off := ol, spot := none } : Addr)) = pl from Hpl.out.symm]
              go_roundg (gQ - 1)
              case measure => have := Hq.out; omega
              case rel => exact ⟨q + 1, _, by have := Hq.out; have := Hnd.out; omega, by go_num, HI5.out, Nt.fine_cln HF'.out, HLr.out, HK5.out⟩
          · have hLe : Nt.L s'.dirty = [] := by rw [HL.out, List.drop_of_length_le (by have := Hnd.out; omega)]
            have HLe := Lib.hid hLe
            clear hLe
            go_wp2_with fail
            refine (dirty_any HA'.out).mono ?_
            rintro e w5 ⟨v5, rfl, hown5, hb5⟩
            obtain ⟨p5, c5, hv5, _⟩ := (row_of_owns hown5).1.get
            rw [HLe.out] at hv5
            subst hv5
            have HA5 := Lib.hid (HA'.out.below hb5)
            have HB5 := Lib.hid (HBr.out.trans (hb5.mono HBr.out.size))
            have hz5 := hb5.size
            clear hown5 hb5
            go_wp2_with fail
            refine (crash_any HA5.out (F := F) (fun k hk => HFr.out k (by omega)) HIn'.out (Nat.zero_le _)).mono ?_
            rintro e w6 ⟨v6, rfl, hown6, _, hk6⟩
            obtain ⟨p6, c6, hv6, _⟩ := (row_of_owns hown6).1.get
            rw [HLe.out] at hv6
            subst hv6
            have HB6 := Lib.hid (HB5.out.trans (hk6.toBelow HB5.out.size (fun k _ hk => HFo.out k hk)))
            clear hown6 hk6
            go_wp2_with fail
            go_ret
            exact ⟨rfl, HB6.out⟩
theorem intentClean_walk (x : Int) (v : Value) (hx : (Lit.int .i64 x).wf = true) (w : World) (hv : ∃ xs : List Int, Row w v (xs.map (Value.int .i64)) ∧ ∀ n ∈ xs, (Lit.int .i64 n).wf = true) :
    Calls Try.prog 5 #[iv x, v] w fun e w' => e = .returned (.bool true) ∧ Below w.heap.size w w' := by
  obtain ⟨xs, hr, _⟩ := hv
  by_cases h : 1 ≤ x ∧ x ≤ 40
  · obtain ⟨m, rfl⟩ : ∃ m : Nat, x = m := ⟨x.toNat, by omega⟩
    exact intentClean_core m (by omega) (by omega) v xs w hr
  · exact intentClean_no x v (by omega) w
end Go.Proofs.Ytangcjffiooapaa
