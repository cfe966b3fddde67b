/- The walk of the law GrowPlays: it returns true. -/
import Derived.Test.YtoddoekmgkcomaaDoorGroE
import Derived.Test.YtoddoekmgkcomaaDoorSame
import Derived.Test.YtoddoekmgkcomaaDoorRCells
import Derived.Test.YtoddoekmgkcomaaDoorSteps
import Derived.StillTailTactics
import Derived.Deep.CutBlock
namespace Go.Proofs.YtoddoekmgkcomaaDoor
open Go.ChangeShapes Go.WideShapes Go.ChangeAt Go.RowKit
set_option linter.unusedVariables false
theorem DsAt.dsm {w : World} {g c n : Nat} {vs : Nat → Value} {D : Gr.Ds} (h : DsAt w g c n vs D) : DsM w (.slice (some ⟨g, 0, none⟩) n c) n D :=
  ⟨vss n vs, OwnR.row h.out, vss_len _ _, fun i u hu => by
    have hi : i < n := by have := (List.getElem?_eq_some_iff.1 hu).1; rw [vss_len] at this; exact this
    rw [vss_get vs hi] at hu
    obtain rfl := Option.some.inj hu
    exact OwnR.row (OwnR.of_owns (h.rows i hi))⟩
/-- what holds at a round's head: the object, the law's own list -/
structure GPl (w : World) (B gb N m : Nat) (p : Option Addr) (c done : Nat) (nw : List ByteArray) (wr : World) : Prop where
  ok : GroOk (fun k => B ≤ k ∧ (Value.slice p m c).ownBlock ≠ some k) wr gb N done nw
  own : OwnR wr B 9 (.slice p m c) (nw.map Value.string)
  len : nw.length = m
  hd : done ≤ m
  bel : Below w.heap.size w wr
  hB : w.heap.size ≤ B
  hz : B ≤ wr.heap.size
def GPRel (w : World) (B gb N m NN : Nat) (p : Option Addr) (c : Nat) (gk : Nat) (v14 v15 : Value) (wr : World) : Prop :=
  ∃ (j done : Nat) (nw : List ByteArray), j + gk = NN ∧ j ≤ 100 ∧ v15 = iv j ∧ v14 = iv done ∧ GPl w B gb N m p c done nw wr
theorem GPl.below {w : World} {B gb N m : Nat} {p : Option Addr} {c done : Nat} {nw : List ByteArray} {wr wr' : World} (h : GPl w B gb N m p c done nw wr) (hb : Below wr.heap.size wr wr') : GPl w B gb N m p c done nw wr' :=
  ⟨h.ok.below hb, h.own.below hb, h.len, h.hd, h.bel.trans (hb.mono h.bel.size), h.hB, Nat.le_trans h.hz hb.size⟩
/-- the object has turned, within F -/
theorem GPl.turn {w : World} {B gb N m : Nat} {p : Option Addr} {c done done' : Nat} {nw nw' : List ByteArray} {wr wr' : World} {F : Nat → Prop} (h : GPl w B gb N m p c done nw wr) (hF : ∀ k, F k → B ≤ k ∧ (Value.slice p m c).ownBlock ≠ some k) (ho : GroOk F wr' gb N done' nw') (hk : Kept F wr wr')
    (hd : done' ≤ m) (hl : nw' = nw) : GPl w B gb N m p c done' nw' wr' := by
  subst hl
  exact ⟨ho.wide (fun k _ hk => hF k hk), h.own.kept hk (fun g hg e => (hF g e).2 hg), h.len, hd, h.bel.trans (hk.toBelow h.bel.size (fun k _ e => Nat.le_trans h.hB (hF k e).1)), h.hB, Nat.le_trans h.hz hk.size⟩
set_option maxRecDepth 100000 in
set_option maxHeartbeats 4000000 in
theorem growPlays_no (cells : List ByteArray) (n : Int) (hF : gnF cells n ≠ 0) (vc vs vl : Value) (w : World) (hc : Row w vc (cells.map Value.string)) (hg : Handle w) :
    Calls Tryd.prog 6 #[vc, iv n, vs, vl] w fun e w' => e = .returned (.bool true) ∧ Below w.heap.size w w' := by
  have HRc := Lib.hid (rcells_any cells vc w hc)
  have HN := Lib.hid (gnew_no cells n hF vc w hc)
  have HSm := Lib.hid (same_eq (gnF cells n) w hg)
  have Hg := Lib.hid hg
  clear hc hg
  obtain ⟨z, hz⟩ : ∃ z, z = gnF cells n := ⟨_, rfl⟩
  obtain ⟨y, hy⟩ : ∃ y, y = cellsF cells := ⟨_, rfl⟩
  rw [← hz] at HN HSm hF
  rw [← hy] at HRc
  unfold gnF at hz
  rw [← hy] at hz
  clear hy
  have t2 : (z != 0) = true := bne_t hF
  by_cases h0 : y = 0
  · subst h0
    rw [if_neg (by simp)] at hz
    by_cases h1 : n < 1
    · obtain rfl : z = 1 := by rw [hz, if_pos (.inl h1)]
      clear hz hF
      go_enter Tryd.func6, Tryd.ntmps6
      go_wp2_with fail
      refine HRc.out.mono ?_
      rintro e w' ⟨rfl, rfl⟩
      clear HRc
      go_wp2_with fail
      refine HN.out.mono ?_
      rintro e w' ⟨rfl, rfl⟩
      clear HN
      go_wp2_with fail
      refine HSm.out.mono ?_
      rintro e w1 ⟨rfl, hb⟩
      have HB := Lib.hid hb
      clear hb HSm
      go_wp2_with fail
      go_ret
      exact ⟨rfl, HB.out⟩
    · have h2 : 10 ≤ n := by
        by_cases h2 : 10 ≤ n
        · exact h2
        · rw [if_neg (by omega)] at hz; exact absurd hz hF
      obtain rfl : z = 1 := by rw [hz, if_pos (.inr h2)]
      clear hz hF
      go_enter Tryd.func6, Tryd.ntmps6
      go_wp2_with fail
      refine HRc.out.mono ?_
      rintro e w' ⟨rfl, rfl⟩
      clear HRc
      go_wp2_with fail
      refine HN.out.mono ?_
      rintro e w' ⟨rfl, rfl⟩
      clear HN
      go_wp2_with fail
      refine HSm.out.mono ?_
      rintro e w1 ⟨rfl, hb⟩
      have HB := Lib.hid hb
      clear hb HSm
      go_wp2_with fail
      go_ret
      exact ⟨rfl, HB.out⟩
  · rw [if_pos h0] at hz
    subst hz
    have t1 : (z == 0) = false := beq_f h0
    clear h0 hF
    go_enter Tryd.func6, Tryd.ntmps6
    go_wp2_with fail
    refine HRc.out.mono ?_
    rintro e w' ⟨rfl, rfl⟩
    clear HRc
    go_wp2_with fail
    refine HN.out.mono ?_
    rintro e w' ⟨rfl, rfl⟩
    clear HN
    go_wp2_with fail
    refine HSm.out.mono ?_
    rintro e w1 ⟨rfl, hb⟩
    have HB := Lib.hid hb
    clear hb HSm
    go_wp2_with fail
    go_ret
    exact ⟨rfl, HB.out⟩
theorem div_facts (k M sr sd : Nat) (hM : 0 < M) (hk : k ≤ 1000) (hsr : sr = k / M) (hsd : sd = k % M) : (k : Int) / (M : Int) = (sr : Int) ∧ (k : Int) % (M : Int) = (sd : Int) ∧ (k : Int).tmod (M : Int) = (sd : Int) ∧ IntKind.i64.wrap ((k : Int) / (M : Int)) = (sr : Int) ∧
    wrap64 ((k : Int) / (M : Int)) = (sr : Int) ∧ IntKind.i64.wrap (sr : Int) = (sr : Int) ∧ ¬ M = 0 ∧ ¬ (M : Int) = 0 ∧ ((M : Int) == 0) = false := by
  have h1 : sr ≤ k := by rw [hsr]; exact Nat.div_le_self _ _
  have h2 : (k : Int) / (M : Int) = (sr : Int) := by rw [hsr]; exact (Int.natCast_ediv k M).symm
  have h3 : (k : Int) % (M : Int) = (sd : Int) := by rw [hsd]; exact (Int.natCast_emod k M).symm
  have h4 : IntKind.i64.wrap (sr : Int) = (sr : Int) := IntWalk.i64_in _ (by clear h2 h3 hsr hsd; omega)
  refine ⟨h2, h3, by rw [Int.tmod_eq_emod_of_nonneg (by clear h2 h3 hsr hsd; omega)]; exact h3, by rw [h2]; exact h4, by rw [h2]; exact IntWalk.wrap64_in _ (by clear h2 h3 hsr hsd; omega), h4, by omega, by clear h2 h3 hsr hsd; omega, beq_f (by clear h2 h3 hsr hsd; omega)⟩
def GPB (K m done : Nat) (nw : List ByteArray) (g2 : Nat) (wD : World) (gk : Nat) (v27 : Value) (wr : World) : Prop :=
  ∃ (k : Nat) (vs : Nat → Value), k + gk = m ∧ v27 = iv k ∧ DsAt wr g2 (K + 1) (K + 1) vs (Gr.build (Gr.spot K done) nw k) ∧ DsIn (fun q => wD.heap.size ≤ q) g2 (K + 1) vs ∧ Below wD.heap.size wD wr
def GPut (K g2 d r : Nat) (D : Gr.Ds) (wD : World) (gk : Nat) (wr : World) : Prop :=
  ∃ (vs' : Nat → Value) (j : Nat), DsAt wr g2 (K + 1) (K + 1) vs' (upd D d (D d ++ List.replicate j Gr.e0)) ∧ DsIn (fun q => wD.heap.size ≤ q) g2 (K + 1) vs' ∧ Below wD.heap.size wD wr ∧
    (j = 0 ∨ (D d).length + j ≤ r + 1) ∧ gk = r + 1 - ((D d).length + j)
def GPMid (w : World) (B gb N m : Nat) (p : Option Addr) (c : Nat) (D : Nat) (y : Int) (wA wk : World) (z14 : Value) : Prop :=
  ∃ (done : Nat) (nw : List ByteArray), z14 = iv done ∧ GPl w B gb N m p c done nw wk ∧ wk.cell? ⟨D, 1, none⟩ = some (iv y) ∧ wA.heap.size ≤ wk.heap.size
set_option maxRecDepth 100000 in
set_option maxHeartbeats 8000000 in
theorem growPlays_core (cells : List ByteArray) (K : Nat) (hN1 : 1 ≤ K) (hN2 : K < 10) (hcf : cellsF cells = 0) (ls : List ByteArray) (hls : ∀ s ∈ ls, s.size ≤ maxLen) (xss : List (List Int)) (va v vl : Value) (w : World) (ha : Strs w va cells) (hx : Rows2 w v xss) (hl : Strs w vl ls) (hg : Handle w) :
    Calls Tryd.prog 6 #[va, iv K, v, vl] w fun e w' => e = .returned (.bool true) ∧ Below w.heap.size w w' := by
  have hzi2 := zero_int2
  obtain ⟨us, hus, hlen, hrows⟩ := hx
  obtain ⟨po, co, rfl, hc1, hc2, hcells⟩ := hus.shape
  rw [hlen] at *
  have Hrows := Lib.hid hrows
  have Hcells := Lib.hid hcells
  unfold maxLen at hc2
  have hNN : xss.length ≤ 9223372036854775807 := by omega
  generalize hN : xss.length = N at *
  have HN := Lib.hid hN
  clear hus hrows hcells hN
  have HRc := Lib.hid (rcells_any cells va w ha)
  rw [hcf] at HRc
  have Hc := Lib.hid ha
  have Hg0 := Lib.hid hg
  obtain ⟨pl, cl, rfl, hl1, hl2⟩ := hl.get
  obtain ⟨pa, ca, rfl, ha1, ha2⟩ := ha.get
  have Hl2 := Lib.hid hl2
  have hm9 := (cellsF_0 hcf).1
  obtain ⟨m, hm⟩ : ∃ m, m = cells.length := ⟨_, rfl⟩
  rw [← hm] at hm9 ha1 Hc HRc ⊢
  have Hm := Lib.hid hm
  have HNw := Lib.hid (gnew_any cells K hN1 hN2 hcf _ w Hc.out)
  have t1 : ¬ (9 : Int) < (K : Int) := by omega
  have t2 : ¬ (K : Int) < 1 := by omega
  clear ha hl hg hl2 ha2 hm hcf
  go_enter Tryd.func6, Tryd.ntmps6
  go_wp2_with fail
  refine HRc.out.mono ?_
  rintro e w' ⟨rfl, rfl⟩
  clear HRc
  go_wp2_with fail
  refine HNw.out.mono ?_
  rintro e w7 ⟨gb, rfl, hG7, hb7⟩
  have HG7 := Lib.hid hG7
  have HB7 := Lib.hid hb7
  have hz7 := hb7.size
  have HSm := Lib.hid (same_nil 0 w7)
  rw [show ((0 : Int) == 0) = true from rfl] at HSm
  clear hG7 hb7 HNw
  go_wp2_with fail
  refine HSm.out.mono ?_
  rintro e w8 ⟨rfl, hb8⟩
  have HG8 := Lib.hid (HG7.out.below hb8)
  have HB8 := Lib.hid (HB7.out.trans (hb8.mono hz7))
  have hz8 := HB8.out.size
  have hz78 := hb8.size
  have HC8 := Lib.hid (Hc.out.below HB8.out)
  clear hb8 HSm HG7 HB7
  go_wp2_with (at_builtin; refine copyS _ rfl _ _ rfl rfl cells _ HC8.out rfl (by rw [← Hm.out]; omega) ?_)
  intro v9 w9 hO9 hb9
  obtain ⟨p9, n9, c9, rfl⟩ := (OwnR.of_owns hO9).slice
  have hO9' := OwnR.mono (OwnR.of_owns hO9) hz8
  have hsh := hO9'.shape
  have hn9 : m = n9 := by
    obtain ⟨q, c', h1, _⟩ := hsh
    injection h1 with _ h2 _
    rw [h2, List.length_map, Hm.out]
  subst hn9
  have hst : GPRel w w.heap.size gb K m N p9 c9 N (iv 0) (iv 0) w9 := by
    refine ⟨0, 0, cells, by omega, by omega, rfl, rfl, ?_, hO9', Hm.out.symm, Nat.zero_le _, HB8.out.trans (hb9.mono hz8), Nat.le_refl _, Nat.le_trans hz8 hb9.size⟩
    refine (HG8.out.wide (fun k hk hk2 => ⟨hk2, fun e => ?_⟩)).below hb9
    have := (hO9.lt k e).1; omega
  have Hst := Lib.hid hst
  have HB9 := Lib.hid (HB8.out.trans (hb9.mono hz8))
  have hz9 := HB9.out.size
  clear hO9 hb9 hO9' hsh hst HG8 HB8 HC8
  go_wp2_with fail
  go_loopg [14, 15] N (fun gk v14 v15 wr => GPRel w w.heap.size gb K m N p9 c9 gk v14 v15 wr)
  case atStart => exact Hst.out
  case round =>
    clear Hst HB9
    obtain ⟨wO, hwO⟩ : ∃ x : World, x = wr := ⟨_, rfl⟩
    obtain ⟨gO, hgO⟩ : ∃ x : Nat, x = gk := ⟨_, rfl⟩
    subst hwO hgO
    obtain ⟨j, done, nw, hj, hj100, rfl, rfl, hS⟩ := hrel
    have HS := Lib.hid hS
    have HWB := Lib.hid hS.bel
    have Hj := Lib.hid hj
    clear hS
    by_cases hlt : j < N
    · by_cases hlt100 : j < 100
      · have b100 : decide ((j : Int) < 100) = true := dec_t (by omega)
        obtain ⟨go, oo, hpo, hco⟩ := Hcells.out (by omega)
        obtain ⟨xs, hxs⟩ : ∃ xs, xss[j]? = some xs := ⟨xss[j]'(by rw [HN.out]; exact hlt), List.getElem?_eq_getElem _⟩
        obtain ⟨u, hu, hru, hwf⟩ := Hrows.out j xs hxs
        have hcu := hco j hlt
        rw [hu] at hcu
        obtain ⟨pi, ci, hu2, hi1, hi2, hi3⟩ := hru.shape
        rw [List.length_map] at hu2 hi1 hi3
        rw [hu2] at hcu
        have hlow : go < w.heap.size := World.block_lt_of_cell? w _ hcu
        have fcu : ∀ x y : Int, (wO.alloc (.cells #[iv x, iv y] 75)).cell? ⟨go, oo + j, none⟩ = some (.slice pi xs.length ci) := by
          intro x y
          have h := ((HWB.out.alloc HWB.out.size (.cells #[iv x, iv y] 75)).cell (p := ⟨go, oo + j, none⟩) hlow)
          exact h.trans hcu
        have hi2' : xs.length ≤ 9223372036854775807 := by unfold maxLen at hi2; omega
        have Hi3 := Lib.hid hi3
        rw [hpo]
        have Hpo := Lib.hid hpo
        clear hj hco hxs hu hru hwf hcu hu2 hi3 hpo
        go_upto_block 2 with (fail)
        go_cut [17] (fun _ wq => ∃ x y : Int, wq = wO.alloc (.cells #[iv x, iv y] 75))
        case first => as_aux_lemma =>
          go_wp2_with fail
          go_loopg [17] 2 (fun gq q wq => Step2Rel wO gq q wq)
          case atStart => exact ⟨0, 0, 0, rfl, rfl, rfl⟩
          case round =>
            obtain ⟨q, x, y, hq, rfl, rfl⟩ := hrel
            have f1 := fcu x y
            by_cases hq0 : q < xs.length
            · obtain ⟨gi, oi, rfl, hci⟩ := Hi3.out (by omega)
              obtain ⟨u, hz⟩ : ∃ z, xs[q]? = some z := ⟨xs[q], List.getElem?_eq_getElem hq0⟩
              have hcz := hci q hq0
              rw [List.getElem?_map, hz] at hcz
              have hlz : gi < w.heap.size := World.block_lt_of_cell? w _ hcz
              have f2 : (wO.alloc (.cells #[iv x, iv y] 75)).cell? ⟨gi, oi + q, none⟩ = some (iv u) :=
                ((HWB.out.alloc HWB.out.size (.cells #[iv x, iv y] 75)).cell (p := ⟨gi, oi + q, none⟩) hlz).trans hcz
              clear hci hz hcz fcu
              have hq3 : q = 0 ∨ q = 1 ∨ q = 2 := by omega
              rcases hq3 with rfl | rfl | rfl
              · rw [Nat.add_zero] at f2
                go_wp2_with fail
                go_roundg 1
                case measure => omega
                case rel => exact ⟨1, u, y, rfl, rfl, rfl⟩
              · go_wp2_with fail
                go_roundg 0
                case measure => omega
                case rel => exact ⟨2, x, u, rfl, rfl, rfl⟩
              · go_wp2_with fail
                go_meet
                exact ⟨x, y, rfl⟩
            · clear fcu
              go_wp2_with fail
              go_meet
              exact ⟨x, y, rfl⟩
        case rest =>
          obtain ⟨x, y, rfl⟩ := hcut
          clear fcu
          obtain ⟨D, hD⟩ : ∃ D : Nat, D = wO.heap.size := ⟨_, rfl⟩
          obtain ⟨wA, hwA⟩ : ∃ W : World, W = wO.alloc (.cells #[iv x, iv y] 75) := ⟨_, rfl⟩
          have c0 : wA.cell? ⟨D, 0, none⟩ = some (iv x) := by rw [hwA, hD]; simp
          have c1 : wA.cell? ⟨D, 1, none⟩ = some (iv y) := by rw [hwA, hD]; simp
          have hbA : Below wO.heap.size wO wA := by rw [hwA]; exact (Below.refl _ _).alloc (Nat.le_refl _) _
          have hDz : wA.heap.size = D + 1 := by rw [hwA, hD]; simp
          have hwD : w.heap.size ≤ D := by rw [hD]; exact HWB.out.size
          have hSA := HS.out.below hbA
          obtain ⟨F, hF⟩ : ∃ F : Nat → Prop, F = fun k => (w.heap.size ≤ k ∧ (Value.slice p9 m c9).ownBlock ≠ some k) ∧ k ≠ D := ⟨_, rfl⟩
          have HOA : Hid (GroOk F wA gb K done nw) := Lib.hid (GroOk.below (HS.out.ok.wide (fun k hk h => by rw [hF]; exact ⟨h, by omega⟩)) hbA)
          have hrl := fun g (hg : (Value.slice p9 m c9).ownBlock = some g) => HS.out.own.lt hg
          have HFn : Hid (∀ k, wA.heap.size ≤ k → F k) := Lib.hid (by intro k hk; rw [hF]; exact ⟨⟨by omega, fun e => by have := (hrl k e).2; omega⟩, by omega⟩)
          have HFo : Hid (∀ k, F k → w.heap.size ≤ k ∧ (Value.slice p9 m c9).ownBlock ≠ some k) := Lib.hid (by intro k hk; rw [hF] at hk; exact hk.1)
          have HFD : Hid (¬ F D) := Lib.hid (by rw [hF]; intro h; exact h.2 rfl)
          have HFl : Hid (∀ g, (Value.slice p9 m c9).ownBlock = some g → ¬ F g) := Lib.hid (by intro g hg hk; rw [hF] at hk; exact hk.1.2 hg)
          have HSA := Lib.hid hSA
          have HgA := Lib.hid (Hg0.out.below (Nat.le_refl _) hSA.bel)
          have hnl := hSA.len
          have hdm := hSA.hd
          have HgD : Hid (∀ g, (Value.slice p9 m c9).ownBlock = some g → g < D) := Lib.hid (fun g hg => by rw [hD]; exact (hrl g hg).2)
          have Hnl := Lib.hid hnl
          rw [← hwA, ← hD]
          clear hwA hD hbA hF hSA hrl HWB HS hnl
          go_upto_block 4 with (fail)
          go_cut [12, 14] (fun told z14 wq => told = .bool true ∧ ∃ wk, wk = wq ∧ GPMid w w.heap.size gb K m p9 c9 D y wA wk z14)
          case first => as_aux_lemma =>
            obtain ⟨bx, hbx⟩ : ∃ bx : Bool, bx = decide (x = 0 ∨ x = 1) := ⟨_, rfl⟩
            have HBx := Lib.hid hbx
            clear hbx
            go_upto_if 132 with (fail)
            go_cut [132] (fun s wq => s = .bool bx ∧ wA = wq)
            case first => as_aux_lemma =>
              by_cases h0 : x = 0
              · have HX := Lib.hid (show bx = true by rw [HBx.out]; simp [h0])
                have t0 := beq_t h0
                clear h0
                go_wp2_with fail
                go_meet
                exact ⟨by rw [HX.out, t0], rfl⟩
              · have HX := Lib.hid (show bx = (x == 1) by rw [HBx.out]; simp [h0]; rfl)
                have t0 := beq_f h0
                clear h0
                go_wp2_with fail
                go_meet
                exact ⟨by rw [HX.out], rfl⟩
            case rest =>
              obtain ⟨rfl, rfl⟩ := hcut
              cases bx with
              | true => as_aux_lemma =>
                by_cases hdn : done = m
                · have td : ((done : Int) == (m : Int)) = true := beq_t (by omega)
                  have HSt := Lib.hid (gstep_no HOA.out (by rw [Hnl.out]; exact hdn) (by rw [Hnl.out]; omega))
                  have HSm := Lib.hid (fun W (hW : Below w.heap.size w W) => same_eq 6 W (Hg0.out.below (Nat.le_refl _) hW))
                  rw [errV_ne (by decide)] at HSm
                  clear hdn
                  go_wp2_with fail
                  refine HSt.out.mono ?_
                  rintro e w1 ⟨rfl, hb1⟩
                  have HS1 := Lib.hid (HSA.out.below hb1)
                  have c1' := (hb1.cell (p := ⟨D, 1, none⟩) (show D < _ by omega)).trans c1
                  have hz1 := hb1.size
                  have HSm1 := Lib.hid (HSm.out w1 HS1.out.bel)
                  clear hb1 HSt
                  go_wp2_with fail
                  refine HSm1.out.mono ?_
                  rintro e w2 ⟨rfl, hb2⟩
                  have HS2 := Lib.hid (HS1.out.below hb2)
                  have c2' := (hb2.cell (p := ⟨D, 1, none⟩) (show D < _ by omega)).trans c1'
                  have hz2 := Nat.le_trans hz1 hb2.size
                  clear hb2 HSm1
                  go_wp2_with fail
                  go_meet
                  exact ⟨rfl, _, rfl, done, nw, rfl, HS2.out, c2', hz2⟩
                · have td : ((done : Int) == (m : Int)) = false := beq_f (by omega)
                  have hdlt : done < m := by omega
                  have HSt := Lib.hid (gstep_any HOA.out HFn.out (by rw [Hnl.out]; exact hdlt) (by rw [Hnl.out]; omega) (by omega) (by omega))
                  have HSm := Lib.hid (fun W => same_nil 0 W)
                  rw [show ((0 : Int) == 0) = true from rfl] at HSm
                  unfold GStepPost at HSt
                  rw [Hnl.out] at HSt
                  obtain ⟨bm, hbm⟩ : ∃ b : Bool, b = decide (done + 1 < m) := ⟨_, rfl⟩
                  rw [← hbm] at HSt
                  have tm : decide ((done : Int) + 1 < (m : Int)) = bm := by rw [hbm]; simp only [decide_eq_decide]; omega
                  clear hdn hbm
                  cases bm with
                  | true =>
                    go_wp2_with fail
                    refine HSt.out.mono ?_
                    rintro e w1 ⟨rfl, hG1, hK1⟩
                    have HS1 := Lib.hid (HSA.out.turn HFo.out hG1 hK1 hdlt rfl)
                    have c1' := hK1.cell c1 HFD.out
                    have hz1 := hK1.size
                    clear hG1 hK1 HSt
                    go_wp2_with fail
                    refine (HSm.out w1).mono ?_
                    rintro e w2 ⟨rfl, hb2⟩
                    have HS2 := Lib.hid (HS1.out.below hb2)
                    have c2' := (hb2.cell (p := ⟨D, 1, none⟩) (show D < _ by omega)).trans c1'
                    have hz2 := Nat.le_trans hz1 hb2.size
                    clear hb2
                    go_wp2_with fail
                    go_meet
                    exact ⟨rfl, _, rfl, done + 1, nw, rfl, HS2.out, c2', hz2⟩
                  | false =>
                    go_wp2_with fail
                    refine HSt.out.mono ?_
                    rintro e w1 ⟨rfl, hG1, hK1⟩
                    have HS1 := Lib.hid (HSA.out.turn HFo.out hG1 hK1 hdlt rfl)
                    have c1' := hK1.cell c1 HFD.out
                    have hz1 := hK1.size
                    clear hG1 hK1 HSt
                    go_wp2_with fail
                    refine (HSm.out w1).mono ?_
                    rintro e w2 ⟨rfl, hb2⟩
                    have HS2 := Lib.hid (HS1.out.below hb2)
                    have c2' := (hb2.cell (p := ⟨D, 1, none⟩) (show D < _ by omega)).trans c1'
                    have hz2 := Nat.le_trans hz1 hb2.size
                    clear hb2
                    go_wp2_with fail
                    go_meet
                    exact ⟨rfl, _, rfl, done + 1, nw, rfl, HS2.out, c2', hz2⟩
              | false => as_aux_lemma =>
                go_upto_if 97 with (fail)
                go_cut [21] (fun z wq => ∃ s : ByteArray, z = .string s ∧ s.size ≤ maxLen ∧ wA = wq)
                case first =>
                  by_cases hl0 : 0 < ls.length
                  · have hrl : j % ls.length < ls.length := Nat.mod_lt _ hl0
                    obtain ⟨gl, ol, hpl, hcl, hgl⟩ := Hl2.out (j % ls.length) ls[j % ls.length] (List.getElem?_eq_getElem hrl)
                    have cl0 := (HSA.out.bel.cell (p := ⟨gl, ol + j % ls.length, none⟩) hgl).trans hcl
                    have hsz := hls ls[j % ls.length] (List.getElem_mem hrl)
                    generalize ls[j % ls.length] = s0 at *
                    have Hsz := Lib.hid hsz
                    have Hpl := Lib.hid hpl
                    obtain ⟨n, hn⟩ : ∃ n, n = ls.length := ⟨_, rfl⟩
                    rw [← hn] at hl1 hrl hl0 cl0
                    have hnI : (0 : Int) < (n : Int) := by omega
                    have hnz : ¬ (n : Int) = 0 := by omega
                    have hr0 : 0 ≤ (j : Int) % (n : Int) := Int.emod_nonneg _ hnz
                    have hr1 : (j : Int) % (n : Int) < (n : Int) := Int.emod_lt_of_pos _ hnI
                    rw [hpl, ← hn]
                    have Hn := Lib.hid hn
                    clear hcl hsz hpl hn
                    go_wp2_with fail
                    rw [← Hpl.out, show n = ls.length from Hn.out]
                    go_meet
                    exact ⟨_, rfl, Hsz.out, rfl⟩
                  · obtain ⟨n, hn⟩ : ∃ n, n = ls.length := ⟨_, rfl⟩
                    rw [← hn] at hl1 hl0
                    have t0 : decide ((0 : Int) < (n : Int)) = false := dec_f (by omega)
                    have t0' : decide (0 < n) = false := dec_f hl0
                    have hn0 : (n : Int) ≤ 0 := by omega
                    rw [← hn]
                    have Hn := Lib.hid hn
                    clear hl0 hn
                    go_wp2_with fail
                    rw [show n = ls.length from Hn.out]
                    go_meet
                    exact ⟨⟨#[]⟩, rfl, Nat.zero_le _, rfl⟩
                case rest =>
                  obtain ⟨s0, rfl, hsz, rfl⟩ := hcut
                  have Hsz := Lib.hid hsz
                  have hsz' := hsz
                  unfold maxLen at hsz'
                  by_cases hin : 0 ≤ y ∧ y < (m : Int) ∧ s0.size ≤ 16
                  · obtain ⟨q, rfl⟩ : ∃ q : Nat, y = q := ⟨y.toNat, by omega⟩
                    have hqm : q < m := by omega
                    have hwf : wrF nw (q : Int) s0 = 0 := by unfold wrF; rw [if_neg (by rw [Hnl.out]; omega)]
                    have hws : wrS nw (q : Int) s0 = nw.set q s0 := by unfold wrS; rw [if_neg (by rw [Hnl.out]; omega)]; rfl
                    have Hwf := Lib.hid hwf
                    have Hws := Lib.hid hws
                    obtain ⟨gn, on, capn, hvn, hbn, hgn, _, _, hcell, hfz⟩ := HSA.out.own.at0 (by rw [List.length_map, Hnl.out]; omega)
                    injection hvn with e1 e2 e3
                    subst e1 e3
                    have cn0 := hcell q (by rw [List.length_map, Hnl.out]; exact hqm)
                    obtain ⟨y0, hy0⟩ : ∃ y, wA.cell? ⟨gn, on + q, none⟩ = some y := ⟨_, cn0.trans (List.getElem?_eq_getElem (by rw [List.length_map, Hnl.out]; exact hqm))⟩
                    have fn0 := hfz (on + q)
                    have hFg := HFl.out gn rfl
                    have hgD := HgD.out gn rfl
                    have hkB : Kept (· = gn) wA (wA.setCell ⟨gn, on + q, none⟩ (.string s0)) := (Kept.self gn wA).set1 _ _
                    have HGB := Lib.hid (HOA.out.kept hkB (fun k hk e => hFg (by rw [← e]; exact hk)))
                    have HOB := Lib.hid (OwnR.setStr HSA.out.own (k := q) (by rw [Hnl.out]; exact hqm) s0)
                    have HBB := Lib.hid (HSA.out.bel.setCell (p := ⟨gn, on + q, none⟩) (show w.heap.size ≤ gn from hbn) (.string s0))
                    have hzB : (wA.setCell ⟨gn, on + q, none⟩ (.string s0)).heap.size = wA.heap.size := by simp [World.setCell]
                    have c1B : (wA.setCell ⟨gn, on + q, none⟩ (.string s0)).cell? ⟨D, 1, none⟩ = some (iv (q : Int)) := hkB.cell c1 (by omega)
                    have hqI : (q : Int) < (m : Int) := by omega
                    have hsI : (s0.size : Int) ≤ 16 := by omega
                    have HW := Lib.hid (gwrite_any HGB.out (fun k hk => HFn.out k (by rw [hzB] at hk; exact hk)) (by omega) (by omega) (by rw [Hnl.out]; omega) (by omega) (q : Int) s0 hsz)
                    clear hcell hfz cn0 e2 hin hwf hws hkB hFg
                    go_wp2_with fail
                    obtain ⟨wB, hwB⟩ : ∃ W, W = wA.setCell ⟨gn, on + q, none⟩ (.string s0) := ⟨_, rfl⟩
                    rw [← hwB] at HGB HOB HBB hzB c1B HW ⊢
                    clear hwB
                    refine HW.out.mono ?_
                    rintro e w12 ⟨rfl, hG2, hK2⟩
                    rw [Hwf.out, errV_0]
                    rw [Hws.out] at hG2
                    have HS12 : Hid (GPl w w.heap.size gb K m (some ⟨gn, on, none⟩) c9 done (nw.set q s0) w12) := Lib.hid ⟨hG2.wide (fun k _ hk => HFo.out k hk), HOB.out.kept hK2 (fun g hg e => (HFo.out g e).2 hg), by rw [List.length_set]; exact Hnl.out, hdm, HBB.out.trans (hK2.toBelow HBB.out.size (fun k _ e => (HFo.out k e).1)), Nat.le_refl _, Nat.le_trans HBB.out.size hK2.size⟩
                    have c12 := hK2.cell c1B HFD.out
                    have hz12 : wA.heap.size ≤ w12.heap.size := by rw [← hzB]; exact hK2.size
                    have HSm := Lib.hid (same_nil 0 w12)
                    rw [show ((0 : Int) == 0) = true from rfl] at HSm
                    clear hG2 hK2 HW HGB HOB HBB c1B hy0 fn0
                    go_wp2_with fail
                    refine HSm.out.mono ?_
                    rintro e w13 ⟨rfl, hb13⟩
                    have HS13 := Lib.hid (HS12.out.below hb13)
                    have c13 := (hb13.cell (p := ⟨D, 1, none⟩) (show D < _ by omega)).trans c12
                    have hz13 := Nat.le_trans hz12 hb13.size
                    clear hb13 HSm
                    go_wp2_with fail
                    go_meet
                    exact ⟨rfl, _, rfl, done, nw.set q s0, rfl, HS13.out, c13, hz13⟩
                  · have hcn : y < 0 ∨ (nw.length : Int) ≤ y ∨ 16 < s0.size := by rw [Hnl.out]; omega
                    have hwf : wrF nw y s0 = 1 := by unfold wrF; rw [if_pos hcn]
                    have hws : wrS nw y s0 = nw := by unfold wrS; rw [if_pos hcn]
                    have HW := Lib.hid (gwrite_any HOA.out HFn.out (by omega) (by omega) (by rw [Hnl.out]; omega) (by omega) y s0 hsz)
                    unfold GWrPost at HW
                    rw [hwf, hws, errV_ne (by decide)] at HW
                    have HSm := Lib.hid (fun W (hW : Below w.heap.size w W) => same_eq 1 W (Hg0.out.below (Nat.le_refl _) hW))
                    rw [errV_ne (by decide)] at HSm
                    clear hcn hwf hws
                    by_cases g1 : y < 0
                    · go_wp2_with fail
                      refine HW.out.mono ?_
                      rintro e w12 ⟨rfl, hG2, hK2⟩
                      have HS12 := Lib.hid (HSA.out.turn HFo.out hG2 hK2 hdm rfl)
                      have c12 := hK2.cell c1 HFD.out
                      have hz12 := hK2.size
                      have HSm1 := Lib.hid (HSm.out w12 HS12.out.bel)
                      clear hG2 hK2 HW
                      go_wp2_with fail
                      refine HSm1.out.mono ?_
                      rintro e w13 ⟨rfl, hb13⟩
                      have HS13 := Lib.hid (HS12.out.below hb13)
                      have c13 := (hb13.cell (p := ⟨D, 1, none⟩) (show D < _ by omega)).trans c12
                      have hz13 := Nat.le_trans hz12 hb13.size
                      clear hb13 HSm1
                      go_wp2_with fail
                      go_meet
                      exact ⟨rfl, _, rfl, done, nw, rfl, HS13.out, c13, hz13⟩
                    · by_cases g2 : (m : Int) ≤ y
                      · go_wp2_with fail
                        refine HW.out.mono ?_
                        rintro e w12 ⟨rfl, hG2, hK2⟩
                        have HS12 := Lib.hid (HSA.out.turn HFo.out hG2 hK2 hdm rfl)
                        have c12 := hK2.cell c1 HFD.out
                        have hz12 := hK2.size
                        have HSm1 := Lib.hid (HSm.out w12 HS12.out.bel)
                        clear hG2 hK2 HW
                        go_wp2_with fail
                        refine HSm1.out.mono ?_
                        rintro e w13 ⟨rfl, hb13⟩
                        have HS13 := Lib.hid (HS12.out.below hb13)
                        have c13 := (hb13.cell (p := ⟨D, 1, none⟩) (show D < _ by omega)).trans c12
                        have hz13 := Nat.le_trans hz12 hb13.size
                        clear hb13 HSm1
                        go_wp2_with fail
                        go_meet
                        exact ⟨rfl, _, rfl, done, nw, rfl, HS13.out, c13, hz13⟩
                      · have g3 : 16 < s0.size := by omega
                        have g4 : (16 : Int) < (s0.size : Int) := by omega
                        go_wp2_with fail
                        refine HW.out.mono ?_
                        rintro e w12 ⟨rfl, hG2, hK2⟩
                        have HS12 := Lib.hid (HSA.out.turn HFo.out hG2 hK2 hdm rfl)
                        have c12 := hK2.cell c1 HFD.out
                        have hz12 := hK2.size
                        have HSm1 := Lib.hid (HSm.out w12 HS12.out.bel)
                        clear hG2 hK2 HW
                        go_wp2_with fail
                        refine HSm1.out.mono ?_
                        rintro e w13 ⟨rfl, hb13⟩
                        have HS13 := Lib.hid (HS12.out.below hb13)
                        have c13 := (hb13.cell (p := ⟨D, 1, none⟩) (show D < _ by omega)).trans c12
                        have hz13 := Nat.le_trans hz12 hb13.size
                        clear hb13 HSm1
                        go_wp2_with fail
                        go_meet
                        exact ⟨rfl, _, rfl, done, nw, rfl, HS13.out, c13, hz13⟩
          case rest =>
            obtain ⟨rfl, wB, rfl, done2, nw2, rfl, hS2, c1B, hzB⟩ := hcut
            have HS2 := Lib.hid hS2
            have Hnl2 := Lib.hid hS2.len
            have hdm2 := hS2.hd
            obtain ⟨ey, hey⟩ : ∃ z, z = rdF nw2 y := ⟨_, rfl⟩
            obtain ⟨sy, hsy⟩ : ∃ z, z = rdV nw2 y := ⟨_, rfl⟩
            have Hey := Lib.hid hey
            have Hsy := Lib.hid hsy
            clear HSA HOA HFn HFo HFD HFl HgD HgA Hnl c0 c1 hS2 hey hsy hdm
            obtain ⟨bq, hbq⟩ : ∃ b : Bool, b = decide (0 ≤ y ∧ y < (m : Int)) := ⟨_, rfl⟩
            have Hbq := Lib.hid hbq
            clear hbq
            go_upto_region 39 with (fail)
            go_cut [167] (fun z wq => z = .bool (!bq) ∧ wB = wq)
            case first => as_aux_lemma =>
              by_cases hin : 0 ≤ y ∧ y < (m : Int)
              · obtain rfl : bq = true := by rw [Hbq.out]; exact dec_t hin
                obtain ⟨q, rfl⟩ : ∃ q : Nat, y = q := ⟨y.toNat, by omega⟩
                have hqI : (q : Int) < (m : Int) := by omega
                have hh : (decide ((q : Int) < 0) || decide (m ≤ q)) = false := by rw [dec_f (by omega), dec_f (by omega)]; rfl
                have Hh := Lib.hid hh
                clear hin hh
                go_wp2_with fail
                go_meet
                exact ⟨by rw [Hh.out]; rfl, rfl⟩
              · obtain rfl : bq = false := by rw [Hbq.out]; exact dec_f hin
                by_cases g1 : y < 0
                · go_wp2_with fail
                  go_meet
                  exact ⟨rfl, rfl⟩
                · have g2 : (m : Int) ≤ y := by omega
                  go_wp2_with fail
                  go_meet
                  exact ⟨rfl, rfl⟩
            case rest =>
            obtain ⟨rfl, rfl⟩ := hcut
            go_upto_if 167 with (fail)
            go_cut [9, 22] (fun z u wq => z = iv ey ∧ u = .string sy ∧ wB = wq)
            case first => as_aux_lemma =>
              by_cases hin : 0 ≤ y ∧ y < (m : Int)
              · obtain rfl : bq = true := by rw [Hbq.out]; exact dec_t hin
                obtain ⟨q, rfl⟩ : ∃ q : Nat, y = q := ⟨y.toNat, by omega⟩
                have hqm : q < m := by omega
                obtain rfl : ey = 0 := by rw [Hey.out]; unfold rdF; rw [if_neg (by rw [Hnl2.out]; omega)]
                have hsy : nw2[q]? = some sy := by
                  rw [Hsy.out]; unfold rdV
                  rw [if_neg (by rw [Hnl2.out]; omega), show ((q : Int)).toNat = q by omega, List.getD_eq_getElem?_getD, List.getElem?_eq_getElem (by rw [Hnl2.out]; exact hqm)]; rfl
                have hst : Strs wB (.slice p9 m c9) nw2 := OwnR.row HS2.out.own
                obtain ⟨pn, cn, hvn, _, hcn⟩ := Strs.get hst
                injection hvn with e1 e2 e3
                subst e1 e3
                obtain ⟨gn, on, rfl, d0, _⟩ := hcn q sy hsy
                have hqI : (q : Int) < (m : Int) := by omega
                clear hin hsy hst e2 hcn
                go_wp2_with fail
                go_meet
                exact ⟨rfl, rfl, rfl⟩
              · have hcn : y < 0 ∨ (nw2.length : Int) ≤ y := by rw [Hnl2.out]; omega
                obtain rfl : bq = false := by rw [Hbq.out]; exact dec_f hin
                obtain rfl : ey = 1 := by rw [Hey.out]; unfold rdF; rw [if_pos hcn]
                obtain rfl : sy = ⟨#[]⟩ := by rw [Hsy.out]; unfold rdV; rw [if_pos hcn]
                clear hcn hin
                go_wp2_with fail
                go_meet
                exact ⟨rfl, rfl, rfl⟩
            case rest =>
              obtain ⟨rfl, rfl, rfl⟩ := hcut
              have HR := Lib.hid (gread_any HS2.out.ok (by omega) (by omega) (by rw [Hnl2.out]; omega) (by omega) y)
              rw [← Hey.out, ← Hsy.out] at HR
              go_wp2_with fail
              refine HR.out.mono ?_
              rintro e wC ⟨rfl, hbC⟩
              have HSC := Lib.hid (HS2.out.below hbC)
              have HSm := Lib.hid (same_eq ey wC (Hg0.out.below (Nat.le_refl _) HSC.out.bel))
              clear hbC HR HS2 c1B
              go_wp2_with fail
              refine HSm.out.mono ?_
              rintro e wD ⟨rfl, hbD⟩
              have HSD := Lib.hid (HSC.out.below hbD)
              have hmk := make_rowsG (K + 1) (by omega)
              rw [show (((K + 1 : Nat)) : Int) = (K : Int) + 1 by omega] at hmk
              clear hbD HSm HSC
              go_upto_block 5 with (fail)
              have HDs0 := Lib.hid (DsAt.made wD (K + 1) (by omega))
              have HB0 : Hid (Below wD.heap.size wD (wD.alloc (.cells (madeCells #[.slice none 0 0] (K + 1)) 22))) := Lib.hid ((Below.refl _ _).alloc (Nat.le_refl _) _)
              obtain ⟨g2, hg2⟩ : ∃ g, g = wD.heap.size := ⟨_, rfl⟩
              obtain ⟨w0, hw0⟩ : ∃ W, W = wD.alloc (.cells (madeCells #[.slice none 0 0] (K + 1)) 22) := ⟨_, rfl⟩
              rw [← hw0] at HDs0 HB0 ⊢
              rw [← hg2] at HDs0 ⊢
              have Hg2 := Lib.hid hg2
              clear hw0 hg2 hmk
              go_cut [] (fun wq => ∃ wk vs, wk = wq ∧ DsAt wk g2 (K + 1) (K + 1) vs (Gr.build (Gr.spot K done2) nw2 m) ∧ Below wD.heap.size wD wk)
              case first => as_aux_lemma =>
                have HOn := Lib.hid HSD.out.own
                have HDi0 : Hid (DsIn (fun q => wD.heap.size ≤ q) g2 (K + 1) (fun _ => .slice none 0 0)) := Lib.hid ⟨by show _ ≤ _; rw [Hg2.out]; exact Nat.le_refl _, fun i hi q hq => by cases hq⟩
                go_wp2_with fail
                go_loopg [27, 28, 29] m (fun gk v27 v28 v29 wr => GPB K m done2 nw2 g2 wD gk v27 wr)
                case atStart => exact ⟨0, _, by omega, rfl, HDs0.out, HDi0.out, HB0.out⟩
                case round =>
                  clear HDs0 HDi0 HB0
                  obtain ⟨wP, hwP⟩ : ∃ x : World, x = wr := ⟨_, rfl⟩
                  obtain ⟨gP, hgP⟩ : ∃ x : Nat, x = gk := ⟨_, rfl⟩
                  subst hwP hgP
                  obtain ⟨k, vs, hk, rfl, hDs, hDi, hBP⟩ := hrel
                  have Hk := Lib.hid hk
                  have HDs := Lib.hid hDs
                  have HDi := Lib.hid hDi
                  have HBP := Lib.hid hBP
                  have hzP := hBP.size
                  clear hk hDs hDi hBP
                  by_cases hkm : k < m
                  · have tk : decide ((k : Int) < (m : Int)) = true := dec_t (by omega)
                    obtain ⟨M, hM⟩ : ∃ M, M = if k < done2 then K + 1 else K := ⟨_, rfl⟩
                    have hM0 : 0 < M := by rw [hM]; split <;> omega
                    have hM9 : M ≤ 10 := by rw [hM]; split <;> omega
                    have HM := Lib.hid hM
                    clear hM
                    go_upto_if 200 with (fail)
                    go_cut [28] (fun z wq => z = iv M ∧ wP = wq)
                    case first =>
                      by_cases hkd : k < done2
                      · have HMe : Hid (M = K + 1) := Lib.hid (by rw [HM.out, if_pos hkd])
                        go_wp2_with fail
                        go_meet
                        exact ⟨by rw [HMe.out]; rfl, rfl⟩
                      · have HMe : Hid (M = K) := Lib.hid (by rw [HM.out, if_neg hkd])
                        go_wp2_with fail
                        go_meet
                        exact ⟨by rw [HMe.out], rfl⟩
                    case rest =>
                      obtain ⟨rfl, rfl⟩ := hcut
                      obtain ⟨sr, hsr⟩ : ∃ q, q = k / M := ⟨_, rfl⟩
                      obtain ⟨sd, hsd⟩ : ∃ r, r = k % M := ⟨_, rfl⟩
                      have hsp : Gr.spot K done2 k = (sd, sr) := by
                        unfold Gr.spot
                        rw [hsd, hsr, HM.out]
                        by_cases hkd : k < done2
                        · rw [if_pos hkd, if_pos hkd]
                        · rw [if_neg hkd, if_neg hkd]
                      have hsd9 : sd ≤ K := by have := Gr.spot_disk (n := K) (by omega) done2 k; rw [hsp] at this; exact this
                      have hsr9 : sr ≤ k := by have := Gr.spot_row K done2 k; rw [hsp] at this; exact this
                      obtain ⟨s, hs⟩ : ∃ s, nw2[k]? = some s := ⟨nw2[k]'(by rw [Hnl2.out]; exact hkm), List.getElem?_eq_getElem _⟩
                      have hsg : nw2.getD k Gr.e0 = s := by rw [List.getD_eq_getElem?_getD, hs]; rfl
                      have hnx : Gr.put (Gr.build (Gr.spot K done2) nw2 k) (sd, sr) s = Gr.build (Gr.spot K done2) nw2 (k + 1) := by rw [Gr.build, hsp, hsg]
                      have hstr : Strs wD (.slice p9 m c9) nw2 := OwnR.row HOn.out
                      obtain ⟨pn, cn, hvn, _, hcn⟩ := Strs.get hstr
                      injection hvn with e1 e2 e3
                      subst e1 e3
                      obtain ⟨gn, on, rfl, dn0, hgn⟩ := hcn k s hs
                      have hQ := div_facts k M sr sd hM0 (by omega) hsr hsd
                      have HQ := Lib.hid hQ
                      clear hQ
                      have qa : (sd : Int) < (K : Int) + 1 := by omega
                      have qb : (0 : Int) ≤ (sd : Int) := by omega
                      have qc : (0 : Int) ≤ (sr : Int) := by omega
                      have qd : (k : Int) < (m : Int) := by omega
                      have Hnx := Lib.hid hnx
                      have Dn0 := Lib.hid dn0
                      have hDl : (Gr.build (Gr.spot K done2) nw2 k sd).length ≤ 40 := by have := build_bound K done2 nw2 k sd; omega
                      obtain ⟨E, hE⟩ : ∃ E, E = Gr.build (Gr.spot K done2) nw2 k := ⟨_, rfl⟩
                      rw [← hE] at HDs Hnx hDl
                      have HStart : Hid (GPut K g2 sd sr E wD (sr + 1 - (E sd).length) wP) := Lib.hid (by
                        refine ⟨vs, 0, ?_, HDi.out, HBP.out, .inl rfl, rfl⟩
                        rw [List.replicate_zero, List.append_nil, upd_same]
                        exact HDs.out)
                      clear hsr hsd hsp hs hsg hnx hstr e2 hcn dn0 hE HDs HDi HBP
                      obtain ⟨q2, q3, q3', q4, q5, q6, q7, q8, q9⟩ := HQ.out
                      go_wp2_with fail
                      clear q2 q3 q3' q4 q5 q6 q7 q8 q9
                      go_loopg [] (sr + 1 - (E sd).length) (fun gk wr => GPut K g2 sd sr E wD gk wr)
                      case atStart => exact HStart.out
                      case round =>
                        clear HStart
                        obtain ⟨vs', jj, hA, hIn, hB, hj', hgk⟩ := hrel
                        have HA := Lib.hid hA
                        have HIn := Lib.hid hIn
                        have HBq := Lib.hid hB
                        have hzq := hB.size
                        obtain ⟨L, hL⟩ : ∃ L, L = (E sd).length + jj := ⟨_, rfl⟩
                        have hlen : (upd E sd (E sd ++ List.replicate jj Gr.e0) sd).length = L := by rw [upd_self, List.length_append, List.length_replicate, hL]
                        have hrow := hA.rows sd (by omega)
                        rw [hlen] at hrow
                        obtain ⟨pv, cv, hv, _, hLc, hcm2, k1, k2⟩ := owns_cut hrow (Nat.le_refl L)
                        obtain ⟨hgl2, _, _, hc, hf⟩ := hA.outer (by omega)
                        have d0 := hc sd (by omega)
                        rw [hv] at d0
                        have f0 := hf sd
                        have HL := Lib.hid hL
                        have Hj' := Lib.hid hj'
                        have Hgk := Lib.hid hgk
                        have Hv := Lib.hid hv
                        have hrow' := hrow
                        rw [hv] at hrow'
                        have HRow := Lib.hid hrow'
                        have Hlen := Lib.hid hlen
                        unfold maxLen at hcm2
                        have hL9 : L ≤ 200 := by omega
                        rw [← hL] at hgk
                        clear hA hIn hB hL hj' hlen hrow hrow' hc hf hv k1 k2
                        by_cases hlt' : L ≤ sr
                        · as_aux_lemma =>
                          have tl : decide ((L : Int) ≤ (sr : Int)) = true := dec_t (by omega)
                          clear hgk
                          obtain ⟨q2, q3, q3', q4, q5, q6, q7, q8, q9⟩ := HQ.out
                          go_wp2_with fail
                          go_quiet (fail)
                          clear q2 q3 q3' q4 q5 q6 q7 q8 q9
                          obtain ⟨wC, hwC⟩ : ∃ wC, wC = wr.drewN nq := ⟨_, rfl⟩
                          rw [← hwC]
                          have hbC : Below wr.heap.size wr wC := by rw [hwC]; exact bdrew (Below.refl _ _) nq
                          have HAC := Lib.hid (HA.out.below hbC)
                          have HBC := Lib.hid (HBq.out.trans (hbC.mono hzq))
                          have HrC := Lib.hid (owns_below HRow.out hbC)
                          have e0 := (hbC.cell (p := ⟨g2, sd, none⟩) hgl2).trans d0
                          have hL1 : L + 1 ≤ 1000000 := by omega
                          clear hwC hbC HA HBq HRow d0 f0
                          go_wp2_with (at_builtin; refine app1 wC wC (.string ⟨#[]⟩) 9 22 rfl _ _ rfl 0 Tryd.underlying22 info_strG rfl _ L _ rfl _ rfl rfl HrC.out rfl hL1 (by decide) (Nat.zero_le _) (Below.refl _ _) ?_)
                          intro v9 w9 hown9 hb9 hgr9 hat9
                          obtain ⟨p8, n8, c8, rfl⟩ := (OwnR.of_owns hown9).slice
                          have hk9 := Kept.grown hgr9
                          have hgd : (Value.slice pv L cv).ownBlock ≠ some g2 := by rw [← Hv.out]; exact HAC.out.ng sd (by omega)
                          have hg9 := (HAC.out.outer (by omega)).1
                          have e1 : w9.cell? ⟨g2, sd, none⟩ = some (.slice pv L cv) := hk9.cell e0 (fun e => hgd e.symm)
                          have f1 : w9.frozen? ⟨g2, sd, none⟩ = false := (hk9.frozen hg9 (fun e => hgd e.symm)).trans ((HAC.out.outer (by omega)).2.2.2.2 sd)
                          have hO9 : w9.ownsRow 0 9 1 (.slice p8 n8 c8) (L + 1) ((E sd ++ List.replicate (jj + 1) Gr.e0).map Value.string) := by
                            rw [upd_self] at hown9
                            rw [List.replicate_succ', ← List.append_assoc, List.map_append]
                            exact hown9
                          have hvv : ∀ q, (Value.slice p8 n8 c8).ownBlock = some q → (vs' sd).ownBlock = some q ∨ wC.heap.size ≤ q := fun q hq => by
                            rcases hat9 with e | e
                            · left; rw [Hv.out, ← e]; exact hq
                            · right; rw [hq] at e; have := Option.some.inj e; omega
                          have hT := HAC.out.turn (i := sd) (by omega) (by rw [Hv.out]; exact hk9) hO9 hvv
                          rw [upd_upd] at hT
                          have HT := Lib.hid hT
                          have HIT := Lib.hid (HIn.out.turn (w := wC) (fun q hq => Nat.le_trans HBC.out.size hq) (by omega) hvv)
                          have hFv : ∀ q, (Value.slice pv L cv).ownBlock = some q → wD.heap.size ≤ q := fun q hq => HIn.out.2 sd (by omega) q (by rw [Hv.out]; exact hq)
                          have HBT := Lib.hid ((HBC.out.trans (hk9.toBelow HBC.out.size (fun q _ e => hFv q e.symm))).setCell (p := ⟨g2, sd, none⟩) HIn.out.1 (.slice p8 n8 c8))
                          clear hown9 hb9 hgr9 hat9 hk9 hgd hO9 hvv hT hFv hg9 HAC HBC e0 HrC HIn
                          go_wp2_with fail
                          go_roundg (gk - 1)
                          case measure => have := Hgk.out; have := HL.out; omega
                          case rel => exact ⟨_, jj + 1, HT.out, HIT.out, HBT.out, .inr (by have := HL.out; omega), by have := Hgk.out; omega⟩
                        · as_aux_lemma =>
                          have hpad : E sd ++ List.replicate jj Gr.e0 = Gr.pad (E sd) (sr + 1) := by
                            unfold Gr.pad
                            have h1 := HL.out
                            rcases Hj'.out with h2 | h2
                            · rw [h2, show sr + 1 - (E sd).length = 0 by omega]
                            · rw [show sr + 1 - (E sd).length = jj by omega]
                          have Hpad := Lib.hid hpad
                          clear hpad
                          have hrow := HRow.out
                          obtain ⟨gb2, cap, hvv, _, _, _, _, hcc, hff⟩ := owns_pos hrow (by omega)
                          injection hvv with z1 z2 z3
                          subst z1 z3
                          obtain ⟨x0, hx0⟩ : ∃ x, wr.cell? ⟨gb2, sr, none⟩ = some x := by
                            refine ⟨_, (hcc sr (by omega)).trans (List.getElem?_eq_getElem ?_)⟩
                            have := hrow.1; simp only [Nat.mul_one] at this; rw [this]; omega
                          have hfr := hff sr
                          have tl : decide ((L : Int) ≤ (sr : Int)) = false := dec_f (by omega)
                          have qe : (sr : Int) < (L : Int) := by omega
                          clear z2 hcc hff hrow
                          obtain ⟨q2, q3, q3', q4, q5, q6, q7, q8, q9⟩ := HQ.out
                          go_wp2_with fail
                          go_quiet (fail)
                          clear q2 q3 q3' q4 q5 q6 q7 q8 q9
                          obtain ⟨wC, hwC⟩ : ∃ wC, wC = wr.drewN nq := ⟨_, rfl⟩
                          rw [← hwC]
                          have hbC : Below wr.heap.size wr wC := by rw [hwC]; exact bdrew (Below.refl _ _) nq
                          have HAC := Lib.hid (HA.out.below hbC)
                          have HBC := Lib.hid (HBq.out.trans (hbC.mono hzq))
                          have e0 := (hbC.cell (p := ⟨g2, sd, none⟩) hgl2).trans d0
                          have hgbl := World.block_lt_of_cell? wr _ hx0
                          have e1 := (hbC.cell (p := ⟨gb2, sr, none⟩) hgbl).trans hx0
                          have e2 := (hbC.frozen (p := ⟨gb2, sr, none⟩) hgbl).trans hfr
                          have d3 : wC.cell? ⟨gn, on + k, none⟩ = some (.string s) := (HBC.out.cell (p := ⟨gn, on + k, none⟩) hgn).trans Dn0.out
                          clear hwC hbC HA HBq d0 f0 hx0 hfr
                          obtain ⟨q2, q3, q3', q4, q5, q6, q7, q8, q9⟩ := HQ.out
                          go_wp2_with fail
                          go_still_tail 12, (by kernel_rfl)
                          clear q2 q3 q3' q4 q5 q6 q7 q8 q9
                          change wpList _ _ _ _ _ wC.drew
                          obtain ⟨wE, hwE⟩ : ∃ wE, wE = wC.drew := ⟨_, rfl⟩
                          have hbE : Below wC.heap.size wC wE := by rw [hwE]; exact (Below.refl _ _).drew
                          have HAE := Lib.hid (HAC.out.below hbE)
                          have HBE := Lib.hid (HBC.out.trans (hbE.mono HBC.out.size))
                          have e1' : wE.cell? ⟨gb2, sr, none⟩ = some x0 := by rw [hwE]; exact e1
                          have e2' : wE.frozen? ⟨gb2, sr, none⟩ = false := by rw [hwE]; exact e2
                          rw [← hwE]
                          have hfin := HAE.out.setStr (i := sd) (r := sr) (by omega) Hv.out (by rw [Hlen.out]; omega) s
                          rw [upd_self, upd_upd, Hpad.out, ← put_upd, Hnx.out] at hfin
                          have Hfin := Lib.hid hfin
                          have hFv : wD.heap.size ≤ gb2 := HIn.out.2 sd (by omega) gb2 (by rw [Hv.out]; rfl)
                          have HBF := Lib.hid (HBE.out.setCell (p := ⟨gb2, sr, none⟩) hFv (.string s))
                          clear hwE hbE HAC HBC e0 e1 e2 hfin HAE HBE d3
                          go_wp2_with fail
                          go_roundg (gP - 1)
                          case measure => have := Hk.out; omega
                          case rel => exact ⟨k + 1, vs', by have := Hk.out; omega, by go_num, Hfin.out, HIn.out, HBF.out⟩
                  · have hkm' : k = m := by have := Hk.out; omega
                    have HDs9 : Hid (DsAt wP g2 (K + 1) (K + 1) vs (Gr.build (Gr.spot K done2) nw2 m)) := Lib.hid (by rw [← hkm']; exact HDs.out)
                    clear HDs hkm'
                    go_wp2_with fail
                    go_meet
                    exact ⟨_, vs, rfl, HDs9.out, HBP.out⟩
              case rest =>
                obtain ⟨wE, vs2, rfl, hDs, hbE⟩ := hcut
                have HSE := Lib.hid (HSD.out.below hbE)
                have HDs := Lib.hid hDs
                have HDn := Lib.hid (gdone_any HSE.out.ok)
                obtain ⟨gq, cq, vq, hA, hI⟩ := HSE.out.ok
                rw [Hnl2.out] at hA
                have HDk := Lib.hid (gdisks_any hA (by omega) (fun i _ => by have := build_bound K done2 nw2 m i; omega))
                clear hA hI hDs hbE HSD
                go_wp2_with fail
                refine HDn.out.mono ?_
                rintro e w' ⟨rfl, rfl⟩
                go_wp2_with fail
                refine HDk.out.mono ?_
                rintro e wF ⟨vF, rfl, hM, hbF⟩
                have HSF := Lib.hid (HSE.out.below hbF)
                have HSame := Lib.hid (disks_same hM ((HDs.out.below hbF).dsm))
                clear hM hbF HDk HDn HSE
                go_wp2_with fail
                refine HSame.out.mono ?_
                rintro e w' ⟨rfl, kk, rfl⟩
                have HSG := Lib.hid (HSF.out.below (bdrew (Below.refl _ _) kk))
                clear HSame HSF
                go_wp2_with fail
                rw [← Hpo.out]
                go_roundg (gO - 1)
                case measure => have := Hj.out; omega
                case rel => exact ⟨j + 1, done2, nw2, by have := Hj.out; omega, by omega, by go_num, rfl, HSG.out⟩
      · have hr := HS.out
        clear hj
        go_wp2_with fail
        go_ret
        exact ⟨rfl, HS.out.bel⟩
    · clear hj
      go_wp2_with fail
      go_ret
      exact ⟨rfl, HS.out.bel⟩
end Go.Proofs.YtoddoekmgkcomaaDoor
