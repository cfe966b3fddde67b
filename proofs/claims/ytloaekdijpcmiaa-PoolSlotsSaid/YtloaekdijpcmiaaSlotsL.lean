/- The walk of the law PoolSlots: it returns true. -/
import Derived.Test.YtloaekdijpcmiaaPoolT
import Derived.Deep.DeepCutAuto
import Derived.Deep.CutBlock
import Derived.Deep.LoopGhost
namespace Go.Proofs.Ytloaekdijpcmiaa
open Go.ChangeShapes Go.WideShapes Go.ChangeAt Go.RowKit
set_option linter.unusedVariables false

theorem zero_int2 (w : World) : (zeroValue 55).run Try.prog w = .ok (.agg #[iv 0, iv 0]) w := by kernel_rfl
def SlotsRel (B b gs cs gl cl m k N gk : Nat) (w : World) (i : Value) (wr : World) : Prop :=
  ∃ (j : Nat) (S L : List Int), j + gk = N ∧ j ≤ 80 ∧ i = iv j ∧ S.length = m + k ∧ L.length = m ∧ Pool.Inv S L ∧ PoolAt wr B b gs cs gl cl S L ∧ Below B w wr
/-- the two numbers of a step, as far as they are laid -/
def StepRel (w0 : World) (gq : Nat) (j : Value) (wr : World) : Prop :=
  ∃ (q : Nat) (x y : Int), q + gq = 2 ∧ j = iv q ∧ (Lit.int .i64 x).wf = true ∧ (Lit.int .i64 y).wf = true ∧ wr = w0.alloc (.cells #[iv x, iv y] 55)

def bools20 : Array Value := Array.replicate 20 (.bool false)
theorem zero_bools20 (w : World) : (zeroValue 57).run Try.prog w = .ok (.agg bools20) w := by kernel_rfl
theorem take_contains {L : List Int} {q : Nat} {d j : Int} (h : L[q]? = some d) : (L.take (q + 1)).contains j = ((L.take q).contains j || (d == j)) := by
  rw [List.take_add_one, h]
  simp only [Option.toList_some, List.contains_append, List.contains_cons, List.contains_nil, Bool.or_false]
  congr 1
  exact BEq.comm
def Mark20 (L : List Int) (B q : Nat) (wq : World) : Prop :=
  B < wq.heap.size ∧ ∀ j : Nat, j < 20 → wq.frozen? ⟨B, j, none⟩ = false ∧ wq.cell? ⟨B, j, none⟩ = some (.bool ((L.take q).contains (j : Int)))
theorem mark_set {L : List Int} {B q x : Nat} {wq : World} (h : Mark20 L B q wq) (hd : L[q]? = some (x : Int)) (hx : x < 20) : Mark20 L B (q + 1) (wq.setCell ⟨B, x, none⟩ (.bool true)) := by
  refine ⟨by simpa [World.setCell] using h.1, fun j hj => ⟨by rw [World.frozen?_setCell]; exact (h.2 j hj).1, ?_⟩⟩
  rw [take_contains hd]
  by_cases e : j = x
  · subst e
    rw [World.cell?_setCell_same _ _ _ (h.2 j hj).2, beq_t rfl, Bool.or_true]
  · rw [World.cell?_setCell_other _ _ _ _ (by intro h; injection h with _ h2; exact e h2.symm), (h.2 j hj).2, beq_f (by omega : (x : Int) ≠ (j : Int)), Bool.or_false]
def MarkRel (L : List Int) (w8 : World) (m gq : Nat) (o q : Value) (wq : World) : Prop :=
  ∃ (n : Nat) (b : Bool), n + gq = m ∧ o = .bool b ∧ q = iv n ∧ (b = true → ∃ i : Nat, L[i]? = some (-1)) ∧ Mark20 L w8.heap.size n wq ∧ Below w8.heap.size w8 wq

set_option maxRecDepth 100000 in
set_option maxHeartbeats 4000000 in
theorem poolSlots_core (m k : Nat) (h1 : 1 ≤ m) (h2 : m ≤ 10) (h4 : k ≤ 10) (v : Value) (xss : List (List Int)) (w : World) (hx : Rows2 w v xss) :
    Calls Try.prog 9 #[iv m, iv k, v] w fun e w' => e = .returned (.bool true) ∧ Below w.heap.size w w' := by
  have hz2 := zero_int2
  obtain ⟨us, hus, hlen, hrows⟩ := hx
  obtain ⟨po, co, rfl, hc1, hc2, hcells⟩ := hus.shape
  rw [hlen] at *
  have Hus := Lib.hid hus
  have Hrows := Lib.hid hrows
  have Hcells := Lib.hid hcells
  unfold maxLen at hc2
  have hNN : xss.length ≤ 9223372036854775807 := by omega
  generalize hN : xss.length = N at *
  have HN := Lib.hid hN
  clear hus hrows hcells hN
  go_enter Try.func9, Try.ntmps9
  go_wp2_with fail
  refine (new_yes 2 1 (by omega) (by omega) (by omega) _).mono ?_
  rintro e w1 ⟨gs1, cs1, gl1, cl1, rfl, hP1, hw1⟩
  have HP1 := Lib.hid hP1
  have Hw1 := Lib.hid hw1
  clear hP1 hw1
  go_wp2_with fail
  refine (fail_yes HP1.out (by decide) (by decide) 0 0 (by decide) (by decide)).mono ?_
  rintro e w2 ⟨rfl, hP2, hw2, _⟩
  have HP2 := Lib.hid hP2
  have Hw2 := Lib.hid (Hw1.out.trans hw2)
  have q2 : ((Pool.fail (Pool.newS 2 (2 + 1)) (Pool.newL 2 (2 + 1)) 0).2.2 != 2) = false := by decide +kernel
  generalize (Pool.fail (Pool.newS 2 (2 + 1)) (Pool.newL 2 (2 + 1)) 0).2.2 = r9 at q2 ⊢
  clear hP2 hw2 HP1 Hw1
  go_wp2_with fail
  refine (slots_any HP2.out (by decide +kernel)).mono ?_
  rintro e w3 ⟨vl, rfl, hown3, hw3⟩
  have hl3 : (Pool.fail (Pool.newS 2 (2 + 1)) (Pool.newL 2 (2 + 1)) 0).2.1.length = 2 := by decide +kernel
  rw [hl3] at hown3
  obtain ⟨g3, cap3, hv3, _, hg3, _, _, hc3, _⟩ := owns_pos hown3 (by omega)
  rw [hv3]
  have d0 : w3.cell? ⟨g3, 0, none⟩ = some (iv 2) := by rw [hc3 0 (by omega)]; rfl
  have Hw3 := Lib.hid (Hw2.out.trans (hw3.mono (by have := Hw2.out.size; omega)))
  clear hown3 hv3 hc3 hw3 HP2 hl3 Hw2
  go_wp2_with fail
  refine (new_yes m k h1 h2 h4 _).mono ?_
  rintro e w4 ⟨gs, cs, gl, cl, rfl, hP4, hw4⟩
  have hB0 : w.heap.size ≤ w3.heap.size := Hw3.out.size
  have HP4 := Lib.hid hP4
  have Hw4 := Lib.hid hw4
  clear hP4 hw4 d0
  go_wp2_with fail
  go_loopg [13] N (fun gk i wr => SlotsRel w3.heap.size w3.heap.size gs cs gl cl m k N gk w3 i wr)
  case atStart => exact ⟨0, _, _, by omega, by omega, rfl, Pool.newS_len _ _, by rw [Pool.newL_len, Nat.min_eq_right (by omega)], Pool.Inv.new m k, HP4.out, Hw4.out⟩
  case round =>
    obtain ⟨wO, hwO⟩ : ∃ x : World, x = wr := ⟨_, rfl⟩
    obtain ⟨gO, hgO⟩ : ∃ x : Nat, x = gk := ⟨_, rfl⟩
    subst hwO hgO
    obtain ⟨j, S, L, hj, hj80, rfl, hS, hL, hI, hP, hB⟩ := hrel
    clear HP4 Hw4
    have HI := Lib.hid hI
    have HP := Lib.hid hP
    have HB := Lib.hid hB
    have HS := Lib.hid hS
    have HL := Lib.hid hL
    clear hI hP hB hS hL
    have Hj := Lib.hid hj
    by_cases hlt : j < N
    · by_cases hlt80 : j < 80
      · have b80 : decide ((j : Int) < 80) = true := dec_t (by omega)
        obtain ⟨go, oo, hpo, hco⟩ := Hcells.out (by omega)
        obtain ⟨xs, hxs⟩ : ∃ xs, xss[j]? = some xs := ⟨xss[j]'(by rw [HN.out]; exact hlt), List.getElem?_eq_getElem _⟩
        obtain ⟨u, hu, hru, hwf⟩ := Hrows.out j xs hxs
        have hcu := hco j hlt
        rw [hu] at hcu
        obtain ⟨pi, ci, hu2, hi1, hi2, hi3⟩ := hru.shape
        rw [List.length_map] at hu2 hi1 hi3
        rw [hu2] at hcu
        have hlow : go < w.heap.size := World.block_lt_of_cell? w _ hcu
        have HWB := Lib.hid ((Hw3.out.trans (HB.out.mono hB0)))
        have fcu : ∀ x y : Int, (wO.alloc (.cells #[iv x, iv y] 55)).cell? ⟨go, oo + j, none⟩ = some (.slice pi xs.length ci) := by
          intro x y
          have h := ((HWB.out.alloc (by have := HWB.out.size; omega) (.cells #[iv x, iv y] 55)).cell (p := ⟨go, oo + j, none⟩) hlow)
          exact h.trans hcu
        have hi2' : xs.length ≤ 9223372036854775807 := by unfold maxLen at hi2; omega
        have Hi3 := Lib.hid hi3
        have Hwf := Lib.hid hwf
        have hzr : wO.heap.size ≤ wO.heap.size := Nat.le_refl _
        rw [hpo]
        have Hpo := Lib.hid hpo
        clear hj hco hxs hu hru hwf hcu hu2 hi3 hpo
        go_upto_block 2 with (fail)
        go_cut [15] (fun _ wq => ∃ x y : Int, (Lit.int .i64 x).wf = true ∧ (Lit.int .i64 y).wf = true ∧ wq = wO.alloc (.cells #[iv x, iv y] 55))
        case first =>
          go_wp2_with fail
          go_loopg [15] 2 (fun gq q wq => StepRel wO gq q wq)
          case atStart => exact ⟨0, 0, 0, rfl, rfl, by decide, by decide, rfl⟩
          case round =>
            obtain ⟨q, x, y, hq, rfl, hwx, hwy, rfl⟩ := hrel
            have f1 := fcu x y
            by_cases hq0 : q < xs.length
            · obtain ⟨gi, oi, rfl, hci⟩ := Hi3.out (by omega)
              obtain ⟨z, hz⟩ : ∃ z, xs[q]? = some z := ⟨xs[q], List.getElem?_eq_getElem hq0⟩
              have hcz := hci q hq0
              rw [List.getElem?_map, hz] at hcz
              have hlz : gi < w.heap.size := World.block_lt_of_cell? w _ hcz
              have f2 : (wO.alloc (.cells #[iv x, iv y] 55)).cell? ⟨gi, oi + q, none⟩ = some (iv z) :=
                ((HWB.out.alloc (by have := HWB.out.size; omega) (.cells #[iv x, iv y] 55)).cell (p := ⟨gi, oi + q, none⟩) hlz).trans hcz
              have hwz := Lib.hid (Hwf.out z (List.mem_of_getElem? hz))
              have Hx := Lib.hid hwx
              have Hy := Lib.hid hwy
              clear hci hz hcz fcu hwx hwy
              have hq3 : q = 0 ∨ q = 1 ∨ q = 2 := by omega
              rcases hq3 with rfl | rfl | rfl
              · rw [Nat.add_zero] at f2
                go_wp2_with fail
                go_roundg 1
                case measure => omega
                case rel => exact ⟨1, z, y, rfl, rfl, hwz.out, Hy.out, rfl⟩
              · go_wp2_with fail
                go_roundg 0
                case measure => omega
                case rel => exact ⟨2, x, z, rfl, rfl, Hx.out, hwz.out, rfl⟩
              · go_wp2_with fail
                go_meet
                exact ⟨x, y, Hx.out, Hy.out, rfl⟩
            · have Hx := Lib.hid hwx
              have Hy := Lib.hid hwy
              clear fcu hwx hwy
              go_wp2_with fail
              go_meet
              exact ⟨x, y, Hx.out, Hy.out, rfl⟩
        case rest =>
          obtain ⟨x, y, hwx, hwy, rfl⟩ := hcut
          have hy := bounds_i64 hwy
          clear hwx hwy fcu
          go_upto_block 4 with (fail)
          go_cut [] (fun wq => ∃ S' L' : List Int, S'.length = m + k ∧ L'.length = m ∧ Pool.Inv S' L' ∧ PoolAt wq w3.heap.size w3.heap.size gs cs gl cl S' L' ∧ Below w3.heap.size w3 wq)
          case first =>
            have HP0 := Lib.hid (HP.out.below ((Below.refl wO.heap.size wO).alloc (Nat.le_refl _) (.cells #[iv x, iv y] 55)))
            have HB1 := Lib.hid (HB.out.alloc (by have := HB.out.size; omega) (.cells #[iv x, iv y] 55))
            have hS1 : S.length ≤ 100 := by rw [HS.out]; omega
            have hL1 : L.length ≤ 100 := by rw [HL.out]; omega
            by_cases hx1 : x = 1
            · have t1 : (x == 1) = true := beq_t hx1
              clear hx1
              go_wp2_with fail
              refine (fill_tot HP0.out HI.out hS1 y).mono ?_
              rintro e w6 ⟨⟨r, rfl⟩, S', L', g1, g2, g3, g4, g5, _⟩
              have HR := Lib.hid (And.intro (g1.trans HS.out) (And.intro (g2.trans HL.out) (And.intro g3 (And.intro g4 (HB1.out.trans g5)))))
              clear g1 g2 g3 g4 g5
              go_wp2_with fail
              go_meet
              exact ⟨S', L', HR.out⟩
            · have t1 : (x == 1) = false := beq_f hx1
              clear hx1
              by_cases hx2 : x = 2
              · have t2 : (x == 2) = true := beq_t hx2
                clear hx2
                go_wp2_with fail
                refine (fresh_tot HP0.out HI.out hS1 hL1 y).mono ?_
                rintro e w6 ⟨⟨r, rfl⟩, S', L', g1, g2, g3, g4, g5, _⟩
                have HR := Lib.hid (And.intro (g1.trans HS.out) (And.intro (g2.trans HL.out) (And.intro g3 (And.intro g4 (HB1.out.trans g5)))))
                clear g1 g2 g3 g4 g5
                go_wp2_with fail
                go_meet
                exact ⟨S', L', HR.out⟩
              · have t2 : (x == 2) = false := beq_f hx2
                clear hx2
                go_wp2_with fail
                refine (fail_tot HP0.out HI.out hS1 hL1 y).mono ?_
                rintro e w6 ⟨⟨r, rfl⟩, S', L', g1, g2, g3, g4, g5, _⟩
                have HR := Lib.hid (And.intro (g1.trans HS.out) (And.intro (g2.trans HL.out) (And.intro g3 (And.intro g4 (HB1.out.trans g5)))))
                clear g1 g2 g3 g4 g5
                go_wp2_with fail
                go_meet
                exact ⟨S', L', HR.out⟩
          case rest =>
            clear HP HI HB HS HL
            obtain ⟨S', L', hS', hL', hI', hP', hB'⟩ := hcut
            have HI := Lib.hid hI'
            have HP := Lib.hid hP'
            have HB := Lib.hid hB'
            have HS := Lib.hid hS'
            have HL := Lib.hid hL'
            clear hS' hL' hI' hP' hB'
            have hlm : L'.length ≤ 100 := by rw [HL.out]; omega
            have hsm : S'.length ≤ 100 := by rw [HS.out]; omega
            go_wp2_with fail
            refine (slots_any HP.out hlm).mono ?_
            rintro e w7 ⟨vl, rfl, hown7, hb7⟩
            have Hown7 := Lib.hid hown7
            have Hb7 := Lib.hid hb7
            clear hown7 hb7
            go_wp2_with fail
            refine (states_any (HP.out.below Hb7.out) hsm).mono ?_
            rintro e w8 ⟨vs, rfl, hown8, hb8⟩
            have Hb8 := Lib.hid hb8
            have hrl := owns_below Hown7.out hb8
            rw [HL.out] at hrl
            rw [HS.out] at hown8
            obtain ⟨gl8, cl8, hvl, _, hgl8, hlc8, hcm8, hcl8, _⟩ := owns_pos hrl (by omega)
            obtain ⟨gs8, cs8, hvs, _, hgs8, hsc8, hsm8, hcs8, _⟩ := owns_pos hown8 (by omega)
            rw [hvl, hvs]
            have Hcl := Lib.hid hcl8
            have Hcs := Lib.hid hcs8
            clear hb8 hrl hown8 hvl hvs hcl8 hcs8
            unfold maxLen at hcm8 hsm8
            have HB8 := Lib.hid (HB.out.trans ((Hb7.out.trans (Hb8.out.mono Hb7.out.size)).mono HB.out.size))
            have hz20 := zero_bools20
            go_upto_block 5 with (fail)
            go_wp2_with fail
            go_loopg [19, 20, 21] m (fun gq o q _ wq => MarkRel L' w8 m gq o q wq)
            case atStart =>
              refine ⟨0, false, by omega, rfl, rfl, (fun h => by cases h), ⟨by simp, fun j hj => ⟨?_, ?_⟩⟩, (Below.refl _ _).alloc (Nat.le_refl _) _⟩
              · exact frozen_of_row _ _ _ _ _ (heap_alloc_new w8 (.cells bools20 57))
              · rw [cell_of_row _ _ _ _ _ _ (heap_alloc_new w8 (.cells bools20 57))]
                unfold bools20; rw [Array.getElem?_replicate, if_pos hj]; rfl
            case round =>
              obtain ⟨q, o, hq, ho, rfl, hopen, hmk, hbq⟩ := hrel
              rw [ho]
              have Hopen := Lib.hid hopen
              have Hmk := Lib.hid hmk
              have Hbq := Lib.hid hbq
              have Hq := Lib.hid hq
              clear hopen hmk hbq ho
              have hbz := Hbq.out.size
              by_cases hqm : q < m
              · obtain ⟨d, hd⟩ : ∃ d, L'[q]? = some d := ⟨L'[q]'(by rw [HL.out]; exact hqm), List.getElem?_eq_getElem _⟩
                have fd : wr.cell? ⟨gl8, q, none⟩ = some (iv d) := by
                  have h := Hcl.out q hqm
                  rw [List.getElem?_map, hd] at h
                  exact (Hbq.out.cell (p := ⟨gl8, q, none⟩) hgl8).trans h
                have Hd := Lib.hid hd
                clear hd hq
                by_cases hd1 : d = -1
                · have t1 : (d == -1) = true := beq_t hd1
                  have Hd1 := Lib.hid hd1
                  clear hd1
                  go_wp2_with fail
                  go_roundg (gk - 1)
                  case measure => have := Hq.out; omega
                  case rel =>
                    refine ⟨q + 1, true, by have := Hq.out; omega, rfl, by go_num, fun _ => ⟨q, by rw [Hd.out, Hd1.out]⟩, ⟨Hmk.out.1, fun j hj => ⟨(Hmk.out.2 j hj).1, ?_⟩⟩, Hbq.out⟩
                    rw [take_contains Hd.out, beq_f (by rw [Hd1.out]; omega : d ≠ (j : Int)), Bool.or_false]
                    exact (Hmk.out.2 j hj).2
                · have t1 : (d == -1) = false := beq_f hd1
                  rcases HI.out.a q d Hd.out with h | ⟨dj, rfl, hdj⟩
                  · exact absurd h hd1
                  have hdl : dj < m + k := by
                    rw [← HS.out]
                    rcases hdj with h | h <;> exact (List.getElem?_eq_some_iff.1 h).1
                  have hdl2 : dj < 20 := by omega
                  have f0 : (L'.take q).contains (dj : Int) = false := by
                    rw [Bool.eq_false_iff]
                    intro h
                    have hm := List.contains_iff_mem.1 h
                    obtain ⟨i, hi⟩ := List.mem_iff_getElem?.1 hm
                    rw [List.getElem?_take] at hi
                    split at hi
                    · have := HI.out.b i q dj hi Hd.out; omega
                    · cases hi
                  obtain ⟨g1, g2⟩ := Hmk.out.2 dj hdl2
                  rw [f0] at g2
                  have Hset := Lib.hid (mark_set Hmk.out Hd.out hdl2)
                  have fs : ∃ x, wr.cell? ⟨gs8, dj, none⟩ = some (iv x) ∧ (x = 0 ∨ x = 3) := by
                    have h := Hcs.out dj hdl
                    rw [List.getElem?_map] at h
                    rcases hdj with h1 | h1
                    · rw [h1] at h; exact ⟨0, (Hbq.out.cell (p := ⟨gs8, dj, none⟩) hgs8).trans h, .inl rfl⟩
                    · rw [h1] at h; exact ⟨3, (Hbq.out.cell (p := ⟨gs8, dj, none⟩) hgs8).trans h, .inr rfl⟩
                  obtain ⟨x, fs, hx⟩ := fs
                  clear f0 hd1 hdj
                  rcases hx with rfl | rfl
                  all_goals
                    go_wp2_with fail
                    go_roundg (gk - 1)
                    case measure => have := Hq.out; omega
                    case rel => exact ⟨q + 1, o, by have := Hq.out; omega, rfl, by go_num, Hopen.out, Hset.out, Hbq.out.setCell (Nat.le_refl _) _⟩
              · obtain rfl : q = m := by omega
                have hmk2 : ∀ j : Nat, j < 20 → wr.cell? ⟨w8.heap.size, j, none⟩ = some (.bool (L'.contains (j : Int))) := by
                  intro j hj
                  have h := (Hmk.out.2 j hj).2
                  rw [List.take_of_length_le (by rw [HL.out]; exact Nat.le_refl _)] at h
                  exact h
                have Hmk2 := Lib.hid hmk2
                clear hmk2 hqm hq
                obtain ⟨wq, hwq⟩ : ∃ x : World, x = wr := ⟨_, rfl⟩
                subst hwq
                go_upto_block 7 with (fail)
                go_wp2_with fail
                go_loopg [22] (q + k) (fun gd d wd => ∃ dd : Nat, dd + gd = q + k ∧ d = iv dd ∧ wd = wq)
                case atStart => exact ⟨0, by omega, rfl, rfl⟩
                case round =>
                  obtain ⟨dd, hdd, rfl, rfl⟩ := hrel
                  have Hdd := Lib.hid hdd
                  by_cases hlast : dd < q + k
                  · obtain ⟨x, hx⟩ : ∃ x, S'[dd]? = some x := ⟨S'[dd]'(by rw [HS.out]; exact hlast), List.getElem?_eq_getElem _⟩
                    have fx : wr.cell? ⟨gs8, dd, none⟩ = some (iv x) := by
                      have h := Hcs.out dd hlast
                      rw [List.getElem?_map, hx] at h
                      exact (Hbq.out.cell (p := ⟨gs8, dd, none⟩) hgs8).trans h
                    have fm := Hmk2.out dd (by omega)
                    have hc := HI.out.c dd x hx
                    have hd1 : x = 1 → o = false := by
                      intro h1
                      cases ho : o with
                      | false => rfl
                      | true => exact absurd (by rw [hx, h1]) (HI.out.d (Hopen.out ho) dd)
                    have hin : (x = 0 ∨ x = 3) → L'.contains (dd : Int) = true := by
                      intro h0
                      rcases hc with h | ⟨_, i, hi⟩
                      · omega
                      · exact List.contains_iff_mem.2 (List.mem_of_getElem? hi)
                    have hx4 : x = 0 ∨ x = 3 ∨ x = 1 ∨ x = 2 := by rcases hc with h | h <;> omega
                    have fin : (x = 0 ∨ x = 3) ∧ L'.contains (dd : Int) = true ∨ x = 1 ∧ o = false ∨ x = 2 := by
                      rcases hx4 with h | h | h | h
                      · exact .inl ⟨.inl h, hin (.inl h)⟩
                      · exact .inl ⟨.inr h, hin (.inr h)⟩
                      · exact .inr (.inl ⟨h, hd1 h⟩)
                      · exact .inr (.inr h)
                    clear hc hd1 hin hx4 hx hdd
                    generalize L'.contains (dd : Int) = bb at fm fin
                    rcases fin with ⟨h | h, h'⟩ | ⟨h, h'⟩ | h
                    · subst h h'
                      go_wp2_with fail
                      go_roundg (gk - 1)
                      case measure => have := Hdd.out; omega
                      case rel => exact ⟨dd + 1, by have := Hdd.out; omega, by go_num, rfl⟩
                    · subst h h'
                      go_wp2_with fail
                      go_roundg (gk - 1)
                      case measure => have := Hdd.out; omega
                      case rel => exact ⟨dd + 1, by have := Hdd.out; omega, by go_num, rfl⟩
                    · subst h
                      have ho := h'
                      cases bb
                      all_goals
                        go_wp2_with fail
                        go_roundg (gk - 1)
                        case measure => have := Hdd.out; omega
                        case rel => exact ⟨dd + 1, by have := Hdd.out; omega, by go_num, rfl⟩
                    · subst h
                      cases bb
                      all_goals
                        go_wp2_with fail
                        go_roundg (gk - 1)
                        case measure => have := Hdd.out; omega
                        case rel => exact ⟨dd + 1, by have := Hdd.out; omega, by go_num, rfl⟩
                  · go_wp2_with fail
                    rw [show (some ({ block := go, off := oo, spot := none } : Addr)) = po from Hpo.out.symm]
                    go_roundg (gO - 1)
                    case measure => have := Hj.out; omega
                    case rel => exact ⟨j + 1, S', L', by have := Hj.out; omega, by omega, by go_num, HS.out, HL.out, HI.out, HP.out.below (Hb7.out.trans ((Hb8.out.mono Hb7.out.size).trans (Hbq.out.mono (by have := Hb7.out.size; have := Hb8.out.size; omega)))), HB8.out.trans (Hbq.out.mono HB8.out.size)⟩
      · go_wp2_with fail
        go_ret
        exact ⟨rfl, Hw3.out.trans (HB.out.mono hB0)⟩
    · go_wp2_with fail
      go_ret
      exact ⟨rfl, Hw3.out.trans (HB.out.mono hB0)⟩

set_option maxRecDepth 100000 in
set_option maxHeartbeats 1000000 in
theorem poolSlots_no (x y : Int) (v : Value) (hc : x < 1 ∨ 1 ≤ x ∧ 10 < x ∨ 1 ≤ x ∧ x ≤ 10 ∧ y < 0 ∨ 1 ≤ x ∧ x ≤ 10 ∧ 0 ≤ y ∧ 10 < y) (w : World) :
    Calls Try.prog 9 #[iv x, iv y, v] w fun e w' => e = .returned (.bool true) ∧ Below w.heap.size w w' := by
  have Hc := Lib.hid hc
  clear hc
  go_enter Try.func9, Try.ntmps9
  go_wp2_with fail
  refine (new_yes 2 1 (by omega) (by omega) (by omega) _).mono ?_
  rintro e w1 ⟨gs1, cs1, gl1, cl1, rfl, hP1, hw1⟩
  have HP1 := Lib.hid hP1
  have Hw1 := Lib.hid hw1
  clear hP1 hw1
  go_wp2_with fail
  refine (fail_yes HP1.out (by decide) (by decide) 0 0 (by decide) (by decide)).mono ?_
  rintro e w2 ⟨rfl, hP2, hw2, _⟩
  have HP2 := Lib.hid hP2
  have Hw2 := Lib.hid (Hw1.out.trans hw2)
  have q2 : ((Pool.fail (Pool.newS 2 (2 + 1)) (Pool.newL 2 (2 + 1)) 0).2.2 != 2) = false := by decide +kernel
  generalize (Pool.fail (Pool.newS 2 (2 + 1)) (Pool.newL 2 (2 + 1)) 0).2.2 = r9 at q2 ⊢
  clear hP2 hw2 HP1 Hw1
  go_wp2_with fail
  refine (slots_any HP2.out (by decide +kernel)).mono ?_
  rintro e w3 ⟨vl, rfl, hown3, hw3⟩
  have hl3 : (Pool.fail (Pool.newS 2 (2 + 1)) (Pool.newL 2 (2 + 1)) 0).2.1.length = 2 := by decide +kernel
  rw [hl3] at hown3
  obtain ⟨g3, cap3, hv3, _, hg3, _, _, hc3, _⟩ := owns_pos hown3 (by omega)
  rw [hv3]
  have d0 : w3.cell? ⟨g3, 0, none⟩ = some (iv 2) := by rw [hc3 0 (by omega)]; rfl
  have Hw3 := Lib.hid (Hw2.out.trans (hw3.mono (by have := Hw2.out.size; omega)))
  clear hown3 hv3 hc3 hw3 HP2 hl3 Hw2
  go_wp2_with fail
  refine (new_no x y Hc.out _).mono ?_
  rintro e w' ⟨rfl, rfl⟩
  rcases Hc.out with h | ⟨h1, h2⟩ | ⟨h1, h2, h3⟩ | ⟨h1, h2, h3, h4⟩
  all_goals
    go_wp2_with fail
    go_ret
    exact ⟨rfl, Hw3.out⟩

theorem poolSlots_walk (a b : Int) (v : Value) (ha : (Lit.int .i64 a).wf = true) (hb : (Lit.int .i64 b).wf = true) (w : World) (hv : ∃ xss, Rows2 w v xss) :
    Calls Try.prog 9 #[iv a, iv b, v] w fun e w' => e = .returned (.bool true) ∧ Below w.heap.size w w' := by
  obtain ⟨xss, hx⟩ := hv
  have ha1 := bounds_i64 ha
  have hb1 := bounds_i64 hb
  clear ha hb
  by_cases h : 1 ≤ a ∧ a ≤ 10 ∧ 0 ≤ b ∧ b ≤ 10
  · obtain ⟨h1, h2, h3, h4⟩ := h
    obtain ⟨m, rfl⟩ : ∃ m : Nat, a = m := ⟨a.toNat, by omega⟩
    obtain ⟨k, rfl⟩ : ∃ k : Nat, b = k := ⟨b.toNat, by omega⟩
    exact poolSlots_core m k (by omega) (by omega) (by omega) v xss w hx
  · have hc : a < 1 ∨ 1 ≤ a ∧ 10 < a ∨ 1 ≤ a ∧ a ≤ 10 ∧ b < 0 ∨ 1 ≤ a ∧ a ≤ 10 ∧ 0 ≤ b ∧ 10 < b := by omega
    exact poolSlots_no a b v hc w
end Go.Proofs.Ytloaekdijpcmiaa
