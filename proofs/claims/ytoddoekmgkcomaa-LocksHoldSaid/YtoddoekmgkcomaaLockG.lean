/- The walks of parityref2.Odds and of the law's own question 'fair'. -/
import Derived.Test.YtoddoekmgkcomaaLockW
import Derived.Deep.RegionHeld3
namespace Go.Proofs.Ytoddoekmgkcomaa
open Go.ChangeShapes Go.WideShapes Go.ChangeAt Go.RowKit
set_option linter.unusedVariables false
theorem rodds_any (a b : Lk.L) (w : World) :
    Calls Try.prog 37 #[lv a, lv b] w fun e w' => e = .returned (.bool (Lk.odds a b)) ∧ Below w.heap.size w w' := by
  obtain ⟨aw, af, at', aa⟩ := a
  obtain ⟨bw, bf, bt, ba⟩ := b
  have H1 : Hid (Lk.odds ⟨aw, af, at', aa⟩ ⟨bw, bf, bt, ba⟩ = (decide (af < bt) && decide (bf < at') && (aa || ba))) := Lib.hid rfl
  by_cases c1 : af < bt
  case' pos => have d1 := dec_t c1
  case' neg => have d1 := dec_f c1
  all_goals
    have HD1 := Lib.hid d1
    by_cases c2 : bf < at'
    case' pos => have d2 := dec_t c2
    case' neg => have d2 := dec_f c2
    all_goals
      have HD2 := Lib.hid d2
      clear c1 c2
      cases aa <;> cases ba
      all_goals
        go_enter Try.func37, Try.ntmps37
        go_wp2
        go_ret
        exact ⟨by rw [H1.out, HD1.out, HD2.out]; rfl, ((Below.refl _ _).alloc (Nat.le_refl _) _).alloc (by simp) _⟩
theorem drewBG {w w1 : World} (h : Below w.drew.heap.size w.drew w1) : Below w.heap.size w w1 := (Below.refl _ _).drew.trans (h.mono (by simp))
/-- the cells of one lock of a row -/
theorem RowL.at {w wr : World} {v : Value} {ls : List Lk.L} (h : RowL w v ls) (hb : Below w.heap.size w wr) {j : Nat} {l : Lk.L} (hj : ls[j]? = some l) : ∃ g off cap, v = .slice (some ⟨g, off, none⟩) ls.length cap ∧ ls.length ≤ 9223372036854775807 ∧ g < wr.heap.size ∧
    wr.cell? ⟨g, off + j * 4, none⟩ = some (iv l.who) ∧ wr.cell? ⟨g, off + j * 4 + 1, none⟩ = some (iv l.fr) ∧ wr.cell? ⟨g, off + j * 4 + 2, none⟩ = some (iv l.to) ∧ wr.cell? ⟨g, off + j * 4 + 3, none⟩ = some (.bool l.al) := by
  obtain ⟨p, cap, rfl, hl, hc⟩ := h.below hb
  obtain ⟨g, off, rfl, hg, c⟩ := hc j l hj
  exact ⟨g, off, cap, rfl, hl, hg, c⟩
def CntRel (n : Nat) (w : World) (gk : Nat) (i : Value) (wr : World) : Prop := ∃ k : Nat, k + gk = n ∧ i = iv k ∧ Below w.heap.size w wr
def WhyRel (h : List Lk.L) (x : Lk.L) (z : Bool) (n : Nat) (w : World) (gk : Nat) (r i : Value) (wr : World) : Prop :=
  ∃ k : Nat, k + gk = n ∧ i = iv k ∧ r = .bool (z || (h.take k).any fun y => Lk.odds x y) ∧ Below w.heap.size w wr
set_option maxRecDepth 100000 in
set_option maxHeartbeats 4000000 in
theorem fair_any (hs ls : List Lk.L) (vh vl : Value) (w : World) (hv : RowL w vh hs) (hl : RowL w vl ls) (hp : ∀ (i j : Nat) (a b : Lk.L), hs[i]? = some a → hs[j]? = some b → j < i → Lk.odds a b = false)
    (hw : ∀ (i : Nat) (x : Lk.L), ls[i]? = some x → (hs.any (fun y => Lk.odds x y) || (ls.take i).any fun y => Lk.odds x y) = true) :
    Calls Try.prog 17 #[vh, vl] w fun e w' => e = .returned (.bool true) ∧ Below w.heap.size w w' := by
  have Hv := Lib.hid hv
  have Hl := Lib.hid hl
  have HP := Lib.hid hp
  have HW := Lib.hid hw
  obtain ⟨ph, ch, rfl, hnh, _⟩ := hv
  obtain ⟨pl, cl, rfl, hnl, _⟩ := hl
  generalize hn : hs.length = n at *
  generalize hm : ls.length = m at *
  have Hn := Lib.hid hn
  have Hm := Lib.hid hm
  clear hp hw hn hm
  go_enter Try.func17, Try.ntmps17
  go_wp2_with fail
  go_loopg [5] n (fun gk i wr => CntRel n w gk i wr)
  case atStart => exact ⟨0, by omega, rfl, Below.refl _ _⟩
  case round =>
    obtain ⟨wO, hwO⟩ : ∃ x : World, x = wr := ⟨_, rfl⟩
    obtain ⟨gO, hgO⟩ : ∃ x : Nat, x = gk := ⟨_, rfl⟩
    subst hwO hgO
    obtain ⟨i, hi, rfl, hb⟩ := hrel
    have Hi := Lib.hid hi
    have HbO := Lib.hid hb
    clear hi hb
    by_cases hlt : i < n
    · obtain ⟨x, hx⟩ : ∃ x, hs[i]? = some x := ⟨hs[i]'(by rw [Hn.out]; exact hlt), List.getElem?_eq_getElem _⟩
      have Hx := Lib.hid hx
      clear hx
      go_wp2_with fail
      go_loopg [6] i (fun gk j wr => CntRel i wO gk j wr)
      case atStart => exact ⟨0, by omega, rfl, Below.refl _ _⟩
      case round =>
        obtain ⟨j, hj, rfl, hb⟩ := hrel
        have Hj := Lib.hid hj
        have Hb := Lib.hid (HbO.out.trans (hb.mono HbO.out.size))
        have Hb0 := Lib.hid hb
        clear hj hb
        by_cases hlt2 : j < i
        · obtain ⟨y, hy⟩ : ∃ y, hs[j]? = some y := ⟨hs[j]'(by rw [Hn.out]; omega), List.getElem?_eq_getElem _⟩
          have HO := Lib.hid (HP.out i j x y Hx.out hy hlt2)
          obtain ⟨ga, oa, ca, hva, _, hga, a0, a1, a2, a3⟩ := Hv.out.at Hb.out Hx.out
          obtain ⟨gb, ob, cb, hvb, _, hgb, b0, b1, b2, b3⟩ := Hv.out.at Hb.out hy
          simp only [Value.slice.injEq] at hva hvb
          obtain ⟨hva, e1, e2⟩ := hva; clear e1 e2
          obtain ⟨hvb, e1, e2⟩ := hvb; clear e1 e2
          subst hva
          have hgab : ga = gb ∧ oa = ob := by injection hvb with h; injection h with h1 h2; exact ⟨h1, h2⟩
          obtain ⟨rfl, rfl⟩ := hgab
          have hjn : (j : Int) < (n : Int) := by omega
          have hin : (i : Int) < (n : Int) := by omega
          have j0 : (0 : Int) ≤ (j : Int) := by omega
          have i0 : (0 : Int) ≤ (i : Int) := by omega
          clear hy hvb
          go_upto_region 7 with (fail)
          go_cut [7] (fun z wq => z = .bool false ∧ Below wr.heap.size wr wq)
          case first => as_aux_lemma =>
            go_region_held3 (fun w' => w'.cell? ⟨ga, oa + i * 4, none⟩ = some (iv x.who) ∧ w'.cell? ⟨ga, oa + i * 4 + 1, none⟩ = some (iv x.fr) ∧ w'.cell? ⟨ga, oa + i * 4 + 2, none⟩ = some (iv x.to) ∧ w'.cell? ⟨ga, oa + i * 4 + 3, none⟩ = some (.bool x.al) ∧ w'.cell? ⟨ga, oa + j * 4, none⟩ = some (iv y.who) ∧ w'.cell? ⟨ga, oa + j * 4 + 1, none⟩ = some (iv y.fr) ∧ w'.cell? ⟨ga, oa + j * 4 + 2, none⟩ = some (iv y.to) ∧ w'.cell? ⟨ga, oa + j * 4 + 3, none⟩ = some (.bool y.al))
              (first
                | exact ⟨a0, a1, a2, a3, b0, b1, b2, b3⟩
                | exact K1
                | go_keep)
              (first
                | (go_at_call 37; refine (rodds_any x y _).mono ?_; rintro e w1 ⟨rfl, hb1⟩; have HB1 := Lib.hid (drewBG hb1); have k0 := fun o => HB1.out.cell (p := ⟨ga, o, none⟩) hga; have k1 := fun o => HB1.out.cell (p := ⟨ga, o, none⟩) hgb; have K1 := And.intro ((k0 _).trans a0) (And.intro ((k0 _).trans a1) (And.intro ((k0 _).trans a2) (And.intro ((k0 _).trans a3) (And.intro ((k1 _).trans b0) (And.intro ((k1 _).trans b1) (And.intro ((k1 _).trans b2) ((k1 _).trans b3))))))); clear hb1 k0 k1))
            go_wp2_with fail
            go_meet
            exact ⟨by rw [HO.out], HB1.out⟩
          case rest =>
            obtain ⟨rfl, hb3⟩ := hcut
            have Hb3 := Lib.hid (Hb0.out.trans (hb3.mono Hb0.out.size))
            clear hb3
            go_wp2_with fail
            go_roundg (gk - 1)
            case measure => have := Hj.out; omega
            case rel => exact ⟨j + 1, by have := Hj.out; omega, by go_num, Hb3.out⟩
        · have HbE := Lib.hid Hb.out
          go_wp2_with fail
          go_roundg (gO - 1)
          case measure => have := Hi.out; omega
          case rel => exact ⟨i + 1, by have := Hi.out; omega, by go_num, HbE.out⟩
    · go_wp2_with fail
      clear hlt
      go_loopg [8] m (fun gk i wr => CntRel m w gk i wr)
      case atStart => exact ⟨0, by omega, rfl, HbO.out⟩
      case round =>
        clear Hi HbO HP
        obtain ⟨wP, hwP⟩ : ∃ x : World, x = wr := ⟨_, rfl⟩
        obtain ⟨gP, hgP⟩ : ∃ x : Nat, x = gk := ⟨_, rfl⟩
        subst hwP hgP
        obtain ⟨i, hi, rfl, hb⟩ := hrel
        have Hi := Lib.hid hi
        have HbO := Lib.hid hb
        clear hi hb
        by_cases hlt : i < m
        · obtain ⟨x, hx⟩ : ∃ x, ls[i]? = some x := ⟨ls[i]'(by rw [Hm.out]; exact hlt), List.getElem?_eq_getElem _⟩
          have Hx := Lib.hid hx
          have HQ := Lib.hid (HW.out i x hx)
          clear hx
          go_wp2_with fail
          go_loopg [9, 10] n (fun gk r j wr => WhyRel hs x false n wP gk r j wr)
          case atStart => exact ⟨0, by omega, rfl, by simp, Below.refl _ _⟩
          case round =>
            obtain ⟨j, hj, rfl, rfl, hb⟩ := hrel
            have Hj := Lib.hid hj
            have Hb := Lib.hid (HbO.out.trans (hb.mono HbO.out.size))
            have Hb0 := Lib.hid hb
            clear hj hb
            generalize hr1 : (false || (hs.take j).any fun y => Lk.odds x y) = r1 at *
            have HR1 := Lib.hid hr1
            clear hr1
            by_cases hlt2 : j < n
            · obtain ⟨y, hy⟩ : ∃ y, hs[j]? = some y := ⟨hs[j]'(by rw [Hn.out]; omega), List.getElem?_eq_getElem _⟩
              obtain ⟨o, ho⟩ : ∃ o, Lk.odds x y = o := ⟨_, rfl⟩
              have HO := Lib.hid ho
              have HNX := Lib.hid (show (false || (hs.take (j + 1)).any fun y => Lk.odds x y) = (r1 || o) by
                rw [List.take_add_one, hy, ← HR1.out, ← ho]; simp)
              obtain ⟨ga, oa, ca, hva, _, hga, a0, a1, a2, a3⟩ := Hl.out.at Hb.out Hx.out
              obtain ⟨gb, ob, cb, hvb, _, hgb, b0, b1, b2, b3⟩ := Hv.out.at Hb.out hy
              simp only [Value.slice.injEq] at hva hvb
              obtain ⟨hva, e1, e2⟩ := hva; clear e1 e2
              obtain ⟨hvb, e1, e2⟩ := hvb; clear e1 e2
              subst hva hvb
              have hjn : (j : Int) < (n : Int) := by omega
              have hin : (i : Int) < (m : Int) := by omega
              have j0 : (0 : Int) ≤ (j : Int) := by omega
              have i0 : (0 : Int) ≤ (i : Int) := by omega
              clear hy ho
              go_upto_region 17 with (fail)
              go_cut [11] (fun z wq => z = .bool o ∧ Below wr.heap.size wr wq)
              case first => as_aux_lemma =>
                go_region_held3 (fun w' => w'.cell? ⟨ga, oa + i * 4, none⟩ = some (iv x.who) ∧ w'.cell? ⟨ga, oa + i * 4 + 1, none⟩ = some (iv x.fr) ∧ w'.cell? ⟨ga, oa + i * 4 + 2, none⟩ = some (iv x.to) ∧ w'.cell? ⟨ga, oa + i * 4 + 3, none⟩ = some (.bool x.al) ∧ w'.cell? ⟨gb, ob + j * 4, none⟩ = some (iv y.who) ∧ w'.cell? ⟨gb, ob + j * 4 + 1, none⟩ = some (iv y.fr) ∧ w'.cell? ⟨gb, ob + j * 4 + 2, none⟩ = some (iv y.to) ∧ w'.cell? ⟨gb, ob + j * 4 + 3, none⟩ = some (.bool y.al))
                  (first
                    | exact ⟨a0, a1, a2, a3, b0, b1, b2, b3⟩
                    | exact K1
                    | go_keep)
                  (first
                    | (go_at_call 37; refine (rodds_any x y _).mono ?_; rintro e w1 ⟨rfl, hb1⟩; have HB1 := Lib.hid (drewBG hb1); have k0 := fun o => HB1.out.cell (p := ⟨ga, o, none⟩) hga; have k1 := fun o => HB1.out.cell (p := ⟨gb, o, none⟩) hgb; have K1 := And.intro ((k0 _).trans a0) (And.intro ((k0 _).trans a1) (And.intro ((k0 _).trans a2) (And.intro ((k0 _).trans a3) (And.intro ((k1 _).trans b0) (And.intro ((k1 _).trans b1) (And.intro ((k1 _).trans b2) ((k1 _).trans b3))))))); clear hb1 k0 k1))
                go_wp2_with fail
                go_meet
                exact ⟨by rw [HO.out], HB1.out⟩
              case rest =>
                obtain ⟨rfl, hb3⟩ := hcut
                have Hb3 := Lib.hid (Hb0.out.trans (hb3.mono Hb0.out.size))
                clear hb3
                cases r1
                all_goals
                  go_wp2_with fail
                  go_roundg (gk - 1)
                  case measure => have := Hj.out; omega
                  case rel => exact ⟨j + 1, by have := Hj.out; omega, by go_num, by rw [HNX.out]; rfl, Hb3.out⟩
            · have HZ1 := Lib.hid (show (hs.any fun y => Lk.odds x y) = r1 by
                rw [← HR1.out, List.take_of_length_le (by rw [Hn.out]; omega)]; simp)
              have HQ2 := Lib.hid (show (r1 || (ls.take i).any fun y => Lk.odds x y) = true by rw [← HZ1.out]; exact HQ.out)
              clear HR1 Hj
              go_wp2_with fail
              clear hlt2
              go_loopg [9, 12] i (fun gk r j wr => WhyRel ls x r1 i wP gk r j wr)
              case atStart => exact ⟨0, by omega, rfl, by simp, Hb0.out⟩
              case round =>
                clear Hb Hb0
                obtain ⟨j, hj, rfl, rfl, hb⟩ := hrel
                have Hj := Lib.hid hj
                have Hb := Lib.hid (HbO.out.trans (hb.mono HbO.out.size))
                have Hb0 := Lib.hid hb
                clear hj hb
                generalize hr2 : (r1 || (ls.take j).any fun y => Lk.odds x y) = r2 at *
                have HR1 := Lib.hid hr2
                clear hr2
                by_cases hlt2 : j < i
                · obtain ⟨y, hy⟩ : ∃ y, ls[j]? = some y := ⟨ls[j]'(by rw [Hm.out]; omega), List.getElem?_eq_getElem _⟩
                  obtain ⟨o, ho⟩ : ∃ o, Lk.odds x y = o := ⟨_, rfl⟩
                  have HO := Lib.hid ho
                  have HNX := Lib.hid (show (r1 || (ls.take (j + 1)).any fun y => Lk.odds x y) = (r2 || o) by
                    rw [List.take_add_one, hy, ← HR1.out, ← ho]; simp [Bool.or_assoc])
                  obtain ⟨ga, oa, ca, hva, _, hga, a0, a1, a2, a3⟩ := Hl.out.at Hb.out Hx.out
                  obtain ⟨gb, ob, cb, hvb, _, hgb, b0, b1, b2, b3⟩ := Hl.out.at Hb.out hy
                  simp only [Value.slice.injEq] at hva hvb
                  obtain ⟨hva, e1, e2⟩ := hva; clear e1 e2
                  obtain ⟨hvb, e1, e2⟩ := hvb; clear e1 e2
                  subst hva
                  have hgab : ga = gb ∧ oa = ob := by injection hvb with h; injection h with h1 h2; exact ⟨h1, h2⟩
                  obtain ⟨rfl, rfl⟩ := hgab
                  have hjn : (j : Int) < (m : Int) := by omega
                  have hin : (i : Int) < (m : Int) := by omega
                  have j0 : (0 : Int) ≤ (j : Int) := by omega
                  have i0 : (0 : Int) ≤ (i : Int) := by omega
                  clear hy ho hvb
                  go_upto_region 22 with (fail)
                  go_cut [13] (fun z wq => z = .bool o ∧ Below wr.heap.size wr wq)
                  case first => as_aux_lemma =>
                    go_region_held3 (fun w' => w'.cell? ⟨ga, oa + i * 4, none⟩ = some (iv x.who) ∧ w'.cell? ⟨ga, oa + i * 4 + 1, none⟩ = some (iv x.fr) ∧ w'.cell? ⟨ga, oa + i * 4 + 2, none⟩ = some (iv x.to) ∧ w'.cell? ⟨ga, oa + i * 4 + 3, none⟩ = some (.bool x.al) ∧ w'.cell? ⟨ga, oa + j * 4, none⟩ = some (iv y.who) ∧ w'.cell? ⟨ga, oa + j * 4 + 1, none⟩ = some (iv y.fr) ∧ w'.cell? ⟨ga, oa + j * 4 + 2, none⟩ = some (iv y.to) ∧ w'.cell? ⟨ga, oa + j * 4 + 3, none⟩ = some (.bool y.al))
                      (first
                        | exact ⟨a0, a1, a2, a3, b0, b1, b2, b3⟩
                        | exact K1
                        | go_keep)
                      (first
                        | (go_at_call 37; refine (rodds_any x y _).mono ?_; rintro e w1 ⟨rfl, hb1⟩; have HB1 := Lib.hid (drewBG hb1); have k0 := fun o => HB1.out.cell (p := ⟨ga, o, none⟩) hga; have k1 := fun o => HB1.out.cell (p := ⟨ga, o, none⟩) hgb; have K1 := And.intro ((k0 _).trans a0) (And.intro ((k0 _).trans a1) (And.intro ((k0 _).trans a2) (And.intro ((k0 _).trans a3) (And.intro ((k1 _).trans b0) (And.intro ((k1 _).trans b1) (And.intro ((k1 _).trans b2) ((k1 _).trans b3))))))); clear hb1 k0 k1))
                    go_wp2_with fail
                    go_meet
                    exact ⟨by rw [HO.out], HB1.out⟩
                  case rest =>
                    obtain ⟨rfl, hb3⟩ := hcut
                    have Hb3 := Lib.hid (Hb0.out.trans (hb3.mono Hb0.out.size))
                    clear hb3
                    cases r2
                    all_goals
                      go_wp2_with fail
                      go_roundg (gk - 1)
                      case measure => have := Hj.out; omega
                      case rel => exact ⟨j + 1, by have := Hj.out; omega, by go_num, by rw [HNX.out]; rfl, Hb3.out⟩
                · have hji : j = i := by have := Hj.out; omega
                  have HT := Lib.hid (show r2 = true by rw [← HR1.out, hji]; exact HQ2.out)
                  obtain rfl := HT.out
                  clear hji
                  go_wp2_with fail
                  go_roundg (gP - 1)
                  case measure => have := Hi.out; omega
                  case rel => exact ⟨i + 1, by have := Hi.out; omega, by go_num, Hb.out⟩
        · go_wp2_with fail
          go_ret
          exact ⟨rfl, HbO.out⟩
end Go.Proofs.Ytoddoekmgkcomaa
