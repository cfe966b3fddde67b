/- The walk of the law IntentPlays: it returns true. -/
import Derived.Test.YtangcjffiooapaaDoorIntR
import Derived.Test.YtangcjffiooapaaDoorInts
import Derived.Test.YtangcjffiooapaaDoorSame
import Derived.Test.YtangcjffiooapaaDoorSteps
import Derived.StillTailTactics
namespace Go.Proofs.YtangcjffiooapaaDoor
open Go.ChangeShapes Go.WideShapes Go.ChangeAt Go.RowKit Go.Maps
set_option linter.unusedVariables false
theorem setOut {F : Nat → Prop} {w : World} {B b n wide : Nat} {s : Nt.S} {M q : Nat} {u : Value} (h : IntOk F w B b n wide s) (hM : ¬ F M) : IntOk F (w.setCell ⟨M, q, none⟩ u) B b n wide s := by
  obtain ⟨mb, v, D, h1, h2⟩ := h
  have hk : Kept (· = M) w (w.setCell ⟨M, q, none⟩ u) := (Kept.self M w).set1 _ _
  exact ⟨mb, v, D, { h1 with blk := hk.heap h1.blk (fun e => hM (by rw [← e]; exact h2.b)), many := h1.many.kept hk (fun e => hM (by rw [← e]; exact h2.m)), row := h1.row.kept hk (fun g hg e => hM (by rw [← e]; exact h2.v g hg)) }, h2⟩
theorem IntOk.more {F : Nat → Prop} {w : World} {B b n wide : Nat} {s : Nt.S} (h : IntOk F w B b n wide s) : IntOk F w B b (n + 1) wide s := by
  obtain ⟨mb, v, D, h1, h2⟩ := h
  exact ⟨mb, v, D, h1.more, h2⟩
theorem IntOk.kept {F T : Nat → Prop} {w w' : World} {B b n wide : Nat} {s : Nt.S} (h : IntOk F w B b n wide s) (hk : Kept T w w') (hT : ∀ k, T k → ¬ F k) : IntOk F w' B b n wide s := by
  obtain ⟨mb, v, D, h1, h2⟩ := h
  exact ⟨mb, v, D, { h1 with blk := hk.heap h1.blk (fun e => hT _ e h2.b), many := h1.many.kept hk (fun e => hT _ e h2.m), row := h1.row.kept hk (fun g hg e => hT _ e (h2.v g hg)) }, h2⟩
def int40v : Array Value := Array.replicate 40 (iv 0)
theorem int40v_list : int40v.toList = List.replicate 40 (iv 0) := by unfold int40v; exact Array.toList_replicate
theorem int40v_get (k : Nat) (h : k < int40v.toList.length) : int40v.toList[k] = iv 0 :=
  List.eq_of_mem_replicate (n := 40) (by rw [← int40v_list]; exact List.getElem_mem h)
theorem zero_int40v (w : World) : (zeroValue 55).run Tryd.prog w = .ok (.agg int40v) w := by kernel_rfl
/-- the object, the reference and the step's numbers, side by side -/
structure Side (F : Nat → Prop) (w : World) (b c D n wide : Nat) (y : Int) (s s2 : Nt.S) (wq : World) : Prop where
  obj : IntOk F wq 0 b n wide s
  ref : RIntAt wq c wide s2
  y1 : wq.cell? ⟨D, 1, none⟩ = some (iv y)
  bel : Below w.heap.size w wq
  fn : ∀ k, wq.heap.size ≤ k → F k
  fo : ∀ k, F k → w.heap.size ≤ k ∧ k ≠ c ∧ k ≠ D
  cD : c ≠ D
  wc : w.heap.size ≤ c
namespace Side
variable {F : Nat → Prop} {w wq w' : World} {b c D n n' wide : Nat} {y : Int} {s s2 s' : Nt.S}
theorem below (h : Side F w b c D n wide y s s2 wq) (hb : Below wq.heap.size wq w') : Side F w b c D n wide y s s2 w' :=
  { h with obj := h.obj.below hb, ref := h.ref.below hb, y1 := (hb.cell (p := ⟨D, 1, none⟩) (World.block_lt_of_cell? wq _ h.y1)).trans h.y1, bel := h.bel.trans (hb.mono h.bel.size), fn := fun k hk => h.fn k (Nat.le_trans hb.size hk) }
theorem objT (h : Side F w b c D n wide y s s2 wq) (ho : IntOk F w' 0 b n' wide s') (hk : Kept F wq w') : Side F w b c D n' wide y s' s2 w' :=
  ⟨ho, h.ref.kept hk (fun e => (h.fo _ e).2.1 rfl), hk.cell h.y1 (fun e => (h.fo _ e).2.2 rfl), h.bel.trans (hk.toBelow h.bel.size (fun k _ e => (h.fo _ e).1)), fun k hz => h.fn k (Nat.le_trans hk.size hz), h.fo, h.cD, h.wc⟩
theorem refT (h : Side F w b c D n wide y s s2 wq) (hr : RIntAt w' c wide s') (hk : Kept (· = c) wq w') : Side F w b c D n wide y s s' w' :=
  ⟨h.obj.kept hk (fun k e hF => (h.fo _ hF).2.1 e), hr, hk.cell h.y1 (fun e => h.cD e.symm), h.bel.trans (hk.toBelow h.bel.size (fun k _ e => by rw [e]; exact h.wc)), fun k hz => h.fn k (Nat.le_trans hk.size hz), h.fo, h.cD, h.wc⟩
theorem more (h : Side F w b c D n wide y s s2 wq) : Side F w b c D (n + 1) wide y s s2 wq := { h with obj := h.obj.more }
end Side
theorem RIntAt.there {w : World} {c wide : Nat} {s : Nt.S} (h : RIntAt w c wide s) : w.there c 1 (int40v.size) := by
  intro j hj
  have hj' : j < 40 := by simpa [int40v] using hj
  exact ⟨by rw [h.many j hj']; rfl, h.f _⟩
theorem RIntAt.setAll {w : World} {c wide : Nat} {s : Nt.S} (h : RIntAt w c wide s) : RIntAt (w.setCells c 1 int40v.toList) c wide (Nt.crash s) ∧ Kept (· = c) w (w.setCells c 1 int40v.toList) := by
  have hk := kept_setCells w c 1 int40v.toList
  have hl : int40v.toList.length = 40 := by rw [int40v_list, List.length_replicate]
  obtain ⟨cs, h1⟩ := h.ex
  obtain ⟨cur', k1, k2, k3⟩ := setCells_at c 58 int40v.toList 1 w cs h1
  have hin : ∀ k, k < 40 → (w.setCells c 1 int40v.toList).cell? ⟨c, 1 + k, none⟩ = some (iv 0) := by
    intro k hkk
    have h40 := World.cell?_setCells_in c int40v.toList 1 w (fun j hj => (h.there j (by simpa using hj)).1) k (by rw [hl]; exact hkk)
    rw [int40v_get] at h40
    exact h40
  have hout : ∀ o, o < 1 ∨ 41 ≤ o → (w.setCells c 1 int40v.toList).cell? ⟨c, o, none⟩ = w.cell? ⟨c, o, none⟩ := fun o ho =>
    World.cell?_setCells_out c int40v.toList 1 w ⟨c, o, none⟩ (fun _ _ => by rw [hl]; exact ho)
  exact ⟨⟨⟨cur', k1⟩, h.w1, h.w40, by rw [hout 0 (by omega)]; exact h.c0, fun k hk => hin k hk, fun k hk => by rw [hout _ (by omega)]; exact h.dirty k hk⟩, hk⟩
namespace Nt
def begR (s : S) (wide : Nat) (y : Int) : (Bool × Int) × S := if inB y then ((!s.dirty (y.toNat / wide), 0), beg s wide y.toNat) else ((false, 1), s)
def finR (s : S) (y : Int) : Int × S := if inB y then (if s.many y.toNat = 0 then (6, s) else (0, fin s y.toNat)) else (1, s)
end Nt
theorem begin_tot {F : Nat → Prop} {w : World} {b n wide : Nat} {s : Nt.S} (h : IntOk F w 0 b n wide s) (hF : ∀ k, w.heap.size ≤ k → F k) (hn : n < 1000000) (y : Int) :
    Calls Tryd.prog 28 #[.pointer (some ⟨b, 0, none⟩), iv y] w fun e w' => e = .returned (.tuple #[.bool (Nt.begR s wide y).1.1, errV (Nt.begR s wide y).1.2]) ∧ IntOk F w' 0 b (n + 1) wide (Nt.begR s wide y).2 ∧ Kept F w w' := by
  obtain ⟨mb, v, D, h1, h2⟩ := h
  unfold Nt.begR
  by_cases hin : Nt.inB y = true
  · have := Nt.in_iff.1 hin
    obtain ⟨c, rfl⟩ : ∃ c : Nat, y = c := ⟨y.toNat, by omega⟩
    rw [if_pos hin, Int.toNat_natCast]
    exact (begin_yes h1 hF h2 (Nat.zero_le _) hn c (by omega)).mono fun e w' ⟨a, b, c⟩ => ⟨a, b, c⟩
  · rw [if_neg hin]
    refine (begin_no y (by simpa using hin)).mono ?_
    rintro e w' ⟨rfl, rfl⟩
    exact ⟨rfl, ⟨mb, v, D, h1.more, h2⟩, Kept.refl _ _⟩
theorem end_tot {F : Nat → Prop} {w : World} {b n wide : Nat} {s : Nt.S} (h : IntOk F w 0 b n wide s) (hn : n < 1000000) (y : Int) :
    Calls Tryd.prog 29 #[.pointer (some ⟨b, 0, none⟩), iv y] w fun e w' => e = .returned (errV (Nt.finR s y).1) ∧ IntOk F w' 0 b (n + 1) wide (Nt.finR s y).2 ∧ Kept F w w' := by
  obtain ⟨mb, v, D, h1, h2⟩ := h
  unfold Nt.finR
  by_cases hin : Nt.inB y = true
  · have := Nt.in_iff.1 hin
    obtain ⟨c, rfl⟩ : ∃ c : Nat, y = c := ⟨y.toNat, by omega⟩
    rw [if_pos hin, Int.toNat_natCast]
    exact (end_yes h1 h2 hn c (by omega)).mono fun e w' ⟨a, b, c⟩ => ⟨a, b, c⟩
  · rw [if_neg hin]
    refine (end_no y (by simpa using hin)).mono ?_
    rintro e w' ⟨rfl, rfl⟩
    exact ⟨rfl, ⟨mb, v, D, h1.more, h2⟩, Kept.refl _ _⟩
theorem clean_tot {F : Nat → Prop} {w : World} {b n wide : Nat} {s : Nt.S} (h : IntOk F w 0 b n wide s) (hF : ∀ k, w.heap.size ≤ k → F k) (r : Nat) (hr : r ≤ 39 / wide) :
    Calls Tryd.prog 31 #[.pointer (some ⟨b, 0, none⟩), iv r] w fun e w' => e = .returned (.tuple #[.bool (Nt.clean s wide r).1, .nilIface]) ∧ IntOk F w' 0 b (n + 1) wide (Nt.clean s wide r).2 ∧ Kept F w w' := by
  obtain ⟨mb, v, D, h1, h2⟩ := h
  refine (clean_yes h1 hF h2 r hr).mono ?_
  rintro e w' (⟨hb, he, hI, hk⟩ | ⟨hb, he, hI, hk⟩)
  · rw [Nt.clean_busy hb]; exact ⟨he, hI.more, hk⟩
  · rw [Nt.clean_free hb]; exact ⟨he, hI.more, hk⟩
theorem dirty_tot {F : Nat → Prop} {w : World} {b n wide : Nat} {s : Nt.S} (h : IntOk F w 0 b n wide s) :
    Calls Tryd.prog 34 #[.pointer (some ⟨b, 0, none⟩)] w (DirtyPost s.dirty w) := by
  obtain ⟨mb, v, D, h1, h2⟩ := h
  exact dirty_any h1
theorem crash_tot {F : Nat → Prop} {w : World} {b n wide : Nat} {s : Nt.S} (h : IntOk F w 0 b n wide s) (hF : ∀ k, w.heap.size ≤ k → F k) :
    Calls Tryd.prog 32 #[.pointer (some ⟨b, 0, none⟩)] w (CrashPost F 0 b wide s w) := by
  obtain ⟨mb, v, D, h1, h2⟩ := h
  exact crash_any h1 hF h2 (Nat.zero_le _)
theorem clean_out {F : Nat → Prop} {w : World} {b n wide : Nat} {s : Nt.S} (h : IntOk F w 0 b n wide s) (x : Int) (hx : x < 0 ∨ 0 ≤ x ∧ ((39 / wide : Nat) : Int) < x) :
    Calls Tryd.prog 31 #[.pointer (some ⟨b, 0, none⟩), iv x] w fun e w' => e = .returned (.tuple #[.bool false, ev 1]) ∧ w = w' := by
  obtain ⟨mb, v, D, h1, h2⟩ := h
  exact clean_no h1 x hx
theorem IntOk.moreN {F : Nat → Prop} {w : World} {B b n wide : Nat} {s : Nt.S} (h : IntOk F w B b n wide s) : ∀ k, IntOk F w B b (n + k) wide s
  | 0 => h
  | k + 1 => (IntOk.moreN h k).more
def eI (b : Bool) : Int := if b then 0 else 1
theorem begR_e (s : Nt.S) (wide : Nat) (y : Int) : (Nt.begR s wide y).1.2 = eI (Nt.inB y) := by
  unfold Nt.begR eI; split <;> rfl
def IPlaysRel (w : World) (b c wide N gk : Nat) (i : Value) (wr : World) : Prop :=
  ∃ (j : Nat) (s : Nt.S), j + gk = N ∧ j ≤ 80 ∧ i = iv j ∧ IntOk (fun k => w.heap.size ≤ k ∧ k ≠ c) wr 0 b j wide s ∧ RIntAt wr c wide s ∧ Below w.heap.size w wr
set_option maxRecDepth 100000 in
theorem intentPlays_no (x : Int) (v : Value) (h : x < 1 ∨ 1 ≤ x ∧ 40 < x) (w : World) (hg : Handle w) :
    Calls Tryd.prog 4 #[iv x, v] w fun e w' => e = .returned (.bool true) ∧ Below w.heap.size w w' := by
  have Hg := Lib.hid hg
  have Hn := Lib.hid h
  clear hg
  rcases h with h | ⟨h1, h2⟩
  all_goals
    go_enter Tryd.func4, Tryd.ntmps4
    go_wp2_with fail
    refine (intNew_no x Hn.out _).mono ?_
    rintro e w' ⟨rfl, rfl⟩
    go_wp2_with fail
    refine (same_ev 1 1 _ Hg.out).mono ?_
    rintro e w' ⟨rfl, hb⟩
    go_wp2_with fail
    go_ret
    exact ⟨rfl, hb⟩
def rint0 (wide : Nat) : Array Value := (iv wide :: (List.replicate 40 (iv 0) ++ List.replicate 40 (.bool false))).toArray
theorem rint_new (w : World) (wide : Nat) (h1 : 1 ≤ wide) (h2 : wide ≤ 40) (o : Array Value) (ho : o = rint0 wide) : RIntAt (w.alloc (.cells o 58)) w.heap.size wide Nt.zero := by
  subst ho
  have hb := heap_alloc_new w (.cells (rint0 wide) 58)
  refine ⟨⟨_, hb⟩, h1, h2, ?_, fun k hk => ?_, fun k hk => ?_⟩
  · rw [cell_of_row _ _ _ _ _ _ hb]; rfl
  · rw [cell_of_row _ _ _ _ _ _ hb, rint0, List.getElem?_toArray, Nat.add_comm, List.getElem?_cons_succ, List.getElem?_append_left (by simp; omega), List.getElem?_replicate, if_pos hk]; rfl
  · rw [cell_of_row _ _ _ _ _ _ hb, rint0, List.getElem?_toArray, show 41 + k = (40 + k) + 1 by omega, List.getElem?_cons_succ, List.getElem?_append_right (by simp), List.length_replicate, Nat.add_sub_cancel_left, List.getElem?_replicate, if_pos hk]; rfl
set_option maxRecDepth 100000 in
set_option maxHeartbeats 8000000 in
theorem intentPlays_core (wide : Nat) (h1 : 1 ≤ wide) (h2 : wide ≤ 40) (v : Value) (xss : List (List Int)) (w : World) (hx : Rows2 w v xss) (hg : Handle w) :
    Calls Tryd.prog 4 #[iv wide, v] w fun e w' => e = .returned (.bool true) ∧ Below w.heap.size w w' := by
  have hz2 := zero_int2
  have Hg := Lib.hid hg
  obtain ⟨us, hus, hlen, hrows⟩ := hx
  obtain ⟨po, co, rfl, hc1, hc2, hcells⟩ := hus.shape
  rw [hlen] at *
  have Hrows := Lib.hid hrows
  have Hcells := Lib.hid hcells
  unfold maxLen at hc2
  have hNN : xss.length ≤ 9223372036854775807 := by omega
  generalize hN : xss.length = N at *
  have HN := Lib.hid hN
  clear hus hrows hcells hN
  clear hg
  go_enter Tryd.func4, Tryd.ntmps4
  go_wp2_with fail
  refine (intNew_any wide h1 h2 _).mono ?_
  rintro e w1 ⟨b, rfl, hI, hb⟩
  have HI := Lib.hid hI
  have HB := Lib.hid hb
  have HG1 := Lib.hid (Hg.out.below (Nat.le_refl _) hb)
  have hz1 := hb.size
  clear hI hb
  go_wp2_with fail
  refine (same_nil 0 _).mono ?_
  rintro e w2 ⟨rfl, hb⟩
  have HI2 : Hid (IntOk (fun k => w.heap.size ≤ k ∧ k ≠ w2.heap.size) w2 0 b 0 wide Nt.zero) := Lib.hid (IntOk.below (HI.out.wide (fun k hk h => ⟨h, by have := hb.size; omega⟩)) hb)
  have HB2 := Lib.hid (HB.out.trans (hb.mono hz1))
  have hz2' := HB2.out.size
  clear hb HI HB HG1
  go_wp2_with fail
  obtain ⟨c, hc⟩ : ∃ c, c = w2.heap.size := ⟨_, rfl⟩
  have hst : IPlaysRel w b c wide N N (iv 0) (w2.alloc (.cells (Tryd.zeroCells58.setIfInBounds 0 (iv wide)) 58)) := by
    refine ⟨0, Nt.zero, by omega, by omega, rfl, ?_, ?_, HB2.out.alloc hz2' _⟩
    · rw [hc]; exact HI2.out.below ((Below.refl _ _).alloc (Nat.le_refl _) _)
    · rw [hc]; exact rint_new w2 wide h1 h2 _ rfl
  have Hst := Lib.hid hst
  have hwc : w.heap.size ≤ c := by omega
  rw [← hc]
  clear hst hc HI2 HB2
  go_loopg [10] N (fun gk i wr => IPlaysRel w b c wide N gk i wr)
  case atStart => exact Hst.out
  case round =>
    obtain ⟨wO, hwO⟩ : ∃ x : World, x = wr := ⟨_, rfl⟩
    obtain ⟨gO, hgO⟩ : ∃ x : Nat, x = gk := ⟨_, rfl⟩
    subst hwO hgO
    obtain ⟨j, s, hj, hj80, rfl, hI, hR, hB⟩ := hrel
    have HI := Lib.hid hI
    have HR := Lib.hid hR
    have HWB := Lib.hid hB
    have Hj := Lib.hid hj
    have hcl := hR.lt
    clear hI hR hB Hst
    by_cases hlt : j < N
    · by_cases hlt80 : j < 80
      · have b80 : decide ((j : Int) < 80) = true := dec_t (by omega)
        obtain ⟨go, oo, hpo, hco⟩ := Hcells.out (by omega)
        obtain ⟨xs, hxs⟩ : ∃ xs, xss[j]? = some xs := ⟨xss[j]'(by rw [HN.out]; exact hlt), List.getElem?_eq_getElem _⟩
        obtain ⟨u, hu, hru, hwf⟩ := Hrows.out j xs hxs
        have hcu := hco j hlt
        rw [hu] at hcu
        obtain ⟨pi, ci, hu2, hi1, hi2, hi3⟩ := hru.shape
        rw [List.length_map] at hu2 hi1 hi3
        rw [hu2] at hcu
        have hlow : go < w.heap.size := World.block_lt_of_cell? w _ hcu
        have fcu : ∀ x y : Int, (wO.alloc (.cells #[iv x, iv y] 33)).cell? ⟨go, oo + j, none⟩ = some (.slice pi xs.length ci) := by
          intro x y
          have h := ((HWB.out.alloc HWB.out.size (.cells #[iv x, iv y] 33)).cell (p := ⟨go, oo + j, none⟩) hlow)
          exact h.trans hcu
        have hi2' : xs.length ≤ 9223372036854775807 := by unfold maxLen at hi2; omega
        have Hi3 := Lib.hid hi3
        rw [hpo]
        have Hpo := Lib.hid hpo
        clear hj hco hxs hu hru hwf hcu hu2 hi3 hpo
        go_upto_block 2 with (fail)
        go_cut [12] (fun _ wq => ∃ x y : Int, wq = wO.alloc (.cells #[iv x, iv y] 33))
        case first => as_aux_lemma =>
          go_wp2_with fail
          go_loopg [12] 2 (fun gq q wq => Step2Rel wO gq q wq)
          case atStart => exact ⟨0, 0, 0, rfl, rfl, rfl⟩
          case round =>
            obtain ⟨q, x, y, hq, rfl, rfl⟩ := hrel
            have f1 := fcu x y
            by_cases hq0 : q < xs.length
            · obtain ⟨gi, oi, rfl, hci⟩ := Hi3.out (by omega)
              obtain ⟨u, hz⟩ : ∃ z, xs[q]? = some z := ⟨xs[q], List.getElem?_eq_getElem hq0⟩
              have hcz := hci q hq0
              rw [List.getElem?_map, hz] at hcz
              have hlz : gi < w.heap.size := World.block_lt_of_cell? w _ hcz
              have f2 : (wO.alloc (.cells #[iv x, iv y] 33)).cell? ⟨gi, oi + q, none⟩ = some (iv u) :=
                ((HWB.out.alloc HWB.out.size (.cells #[iv x, iv y] 33)).cell (p := ⟨gi, oi + q, none⟩) hlz).trans hcz
              clear hci hz hcz fcu
              have hq3 : q = 0 ∨ q = 1 ∨ q = 2 := by omega
              rcases hq3 with rfl | rfl | rfl
              · rw [Nat.add_zero] at f2
                go_wp2_with fail
                go_roundg 1
                case measure => omega
                case rel => exact ⟨1, u, y, rfl, rfl, rfl⟩
              · go_wp2_with fail
                go_roundg 0
                case measure => omega
                case rel => exact ⟨2, x, u, rfl, rfl, rfl⟩
              · go_wp2_with fail
                go_meet
                exact ⟨x, y, rfl⟩
            · clear fcu
              go_wp2_with fail
              go_meet
              exact ⟨x, y, rfl⟩
        case rest =>
          obtain ⟨x, y, rfl⟩ := hcut
          clear fcu
          obtain ⟨D, hD⟩ : ∃ D : Nat, D = wO.heap.size := ⟨_, rfl⟩
          obtain ⟨wA, hwA⟩ : ∃ W : World, W = wO.alloc (.cells #[iv x, iv y] 33) := ⟨_, rfl⟩
          have c0 : wA.cell? ⟨D, 0, none⟩ = some (iv x) := by rw [hwA, hD]; simp
          have c1 : wA.cell? ⟨D, 1, none⟩ = some (iv y) := by rw [hwA, hD]; simp
          have hbA : Below wO.heap.size wO wA := by rw [hwA]; exact (Below.refl _ _).alloc (Nat.le_refl _) _
          have hDz : wA.heap.size = D + 1 := by rw [hwA, hD]; simp
          have hwD : w.heap.size ≤ D := by rw [hD]; exact HWB.out.size
          obtain ⟨F, hF⟩ : ∃ F : Nat → Prop, F = fun k => w.heap.size ≤ k ∧ k ≠ c ∧ k ≠ D := ⟨_, rfl⟩
          have HS : Hid (Side F w b c D j wide y s s wA) := Lib.hid (by
            refine ⟨IntOk.below (HI.out.wide (fun k hk h => by rw [hF]; exact ⟨h.1, h.2, by omega⟩)) hbA, HR.out.below hbA, c1, HWB.out.trans (hbA.mono HWB.out.size), ?_, ?_, by omega, hwc⟩
            · intro k hk; rw [hF]; exact ⟨by omega, by omega, by omega⟩
            · intro k hk; rw [hF] at hk; exact hk)
          rw [← hwA, ← hD]
          clear hwA hD hbA hF HI HR HWB hDz
          obtain ⟨bi, hbi⟩ : ∃ bi, bi = Nt.inB y := ⟨_, rfl⟩
          have Hbi := Lib.hid hbi
          clear hbi
          go_upto_region 18 with (fail)
          go_cut [13] (fun s wq => s = .bool bi ∧ wA = wq)
          case first => as_aux_lemma =>
            by_cases h0 : 0 ≤ y
            · have HX := Lib.hid (show bi = decide (y < 40) by rw [Hbi.out]; unfold Nt.inB; rw [dec_t h0, Bool.true_and])
              go_wp2_with fail
              go_meet
              exact ⟨by rw [HX.out], rfl⟩
            · have HX := Lib.hid (show bi = false by rw [Hbi.out]; unfold Nt.inB; rw [dec_f h0, Bool.false_and])
              go_wp2_with fail
              go_meet
              exact ⟨by rw [HX.out], rfl⟩
          case rest =>
          obtain ⟨rfl, rfl⟩ := hcut
          go_upto_if 86 with (fail)
          go_cut [5] (fun e wq => e = iv (eI bi) ∧ wA = wq)
          case first => as_aux_lemma =>
            cases bi
            all_goals
              go_wp2_with fail
              go_meet
              exact ⟨rfl, rfl⟩
          case rest =>
          obtain ⟨rfl, rfl⟩ := hcut
          go_upto_block 4 with (fail)
          go_cut [8] (fun told wq => told = .bool true ∧ ∃ wk s', wk = wq ∧ Side F w b c D (j + 1) wide y s' s' wk)
          case first => as_aux_lemma =>
            obtain ⟨bx, hbx⟩ : ∃ bx : Bool, bx = decide (x = 0 ∨ x = 1) := ⟨_, rfl⟩
            have HBx := Lib.hid hbx
            clear hbx
            have ff := fun k => (HS.out.ref.f k)
            have hw1 := HS.out.ref.w1
            have hw40 := HS.out.ref.w40
            have hw0 : ¬ wide = 0 := by omega
            have hcD := HS.out.cD
            have hDc : D ≠ c := fun e => hcD e.symm
            go_upto_if 98 with (fail)
            go_cut [98] (fun s wq => s = .bool bx ∧ wA = wq)
            case first => as_aux_lemma =>
              by_cases h0 : x = 0
              · have HX := Lib.hid (show bx = true by rw [HBx.out]; simp [h0])
                have t0 := beq_t h0
                clear h0
                go_wp2_with fail
                go_meet
                exact ⟨by rw [HX.out, t0], rfl⟩
              · have HX := Lib.hid (show bx = (x == 1) by rw [HBx.out]; simp [h0]; rfl)
                have t0 := beq_f h0
                clear h0
                go_wp2_with fail
                go_meet
                exact ⟨by rw [HX.out], rfl⟩
            case rest =>
            obtain ⟨rfl, rfl⟩ := hcut
            have HIn := Lib.hid (show Nt.inB y = bi from Hbi.out.symm)
            cases bx with
            | true =>
              go_upto_if 101 with (fail)
              go_cut [14] (fun s0 wq => s0 = .bool (Nt.begR s wide y).1.1 ∧ ∃ wk, wk = wq ∧ Side F w b c D j wide y s (Nt.begR s wide y).2 wk)
              case first => as_aux_lemma =>
                cases bi with
                | false =>
                  have HX := Lib.hid (show Nt.begR s wide y = ((false, 1), s) by unfold Nt.begR; rw [← Hbi.out]; rfl)
                  go_wp2_with fail
                  go_meet
                  rw [HX.out]
                  exact ⟨rfl, _, rfl, HS.out⟩
                | true =>
                  have hin2 := Nt.in_iff.1 Hbi.out.symm
                  obtain ⟨q, rfl⟩ : ∃ q : Nat, y = q := ⟨y.toNat, by omega⟩
                  have hq40 : q < 40 := by omega
                  clear hin2
                  have HX := Lib.hid (show Nt.begR s wide q = ((!s.dirty (q / wide), 0), Nt.beg s wide q) by unfold Nt.begR; rw [← Hbi.out, Int.toNat_natCast]; rfl)
                  have hqm : q ≤ 1000000 := by omega
                  obtain ⟨r, hr⟩ : ∃ r, r = q / wide := ⟨_, rfl⟩
                  have hr40 : r < 40 := by rw [hr]; exact Nat.lt_of_le_of_lt (Nat.div_le_self _ _) hq40
                  have hrI : (r : Int) < 40 := by omega
                  have hqI : (q : Int) < 40 := by omega
                  have cd := HS.out.ref.dirty r hr40
                  have hbm : s.many q ≤ j := by obtain ⟨mb, v, DD, hA, _⟩ := HS.out.obj; exact hA.many.bound q
                  have Hr := Lib.hid hr
                  have hqo := wrap_quo q wide r hqm hr
                  have hqp := wrap_quo' q wide r hqm hr
                  rw [← hr] at HX
                  clear hr
                  go_wp2_with fail
                  go_quiet (fail)
                  go_upto_region 29 with (fail)
                  obtain ⟨wB, hwB⟩ : ∃ wB, wB = wA.drewN nq := ⟨_, rfl⟩
                  have HSB : Hid (Side F w b c D j wide q s s wB) := Lib.hid (by rw [hwB]; exact HS.out.below (bdrew (Below.refl _ _) nq))
                  rw [← hwB]
                  have yB := HSB.out.y1
                  clear hwB cd c1 ff HS
                  go_still_tail 8, (by kernel_rfl)
                  change wpList _ _ _ _ _ wB.drew
                  obtain ⟨wC, hwC⟩ : ∃ wC, wC = wB.drew := ⟨_, rfl⟩
                  have HSC : Hid (Side F w b c D j wide q s s wC) := Lib.hid (by rw [hwC]; exact HSB.out.below (Below.refl _ _).drew)
                  rw [← hwC]
                  have cd := HSC.out.ref.dirty r hr40
                  have fC := HSC.out.ref.f (41 + r)
                  clear hwC yB HSB
                  go_upto_region 30 with (fail)
                  have HSD := Lib.hid (HSC.out.refT (HSC.out.ref.setD hr40 true) ((Kept.self c wC).set1 _ _))
                  obtain ⟨wD, hwD'⟩ : ∃ wD, wD = wC.setCell ⟨c, 41 + r, none⟩ (.bool true) := ⟨_, rfl⟩
                  rw [← hwD'] at HSD ⊢
                  have yD := HSD.out.y1
                  have cm := HSD.out.ref.many q hq40
                  clear hwD' cd fC HSC
                  go_still_tail 11, (by kernel_rfl)
                  change wpList _ _ _ _ _ wD.drew
                  obtain ⟨wE, hwE⟩ : ∃ wE, wE = wD.drew := ⟨_, rfl⟩
                  have HSE : Hid (Side F w b c D j wide q s ⟨s.many, Nt.upd s.dirty r true⟩ wE) := Lib.hid (by rw [hwE]; exact HSD.out.below (Below.refl _ _).drew)
                  rw [← hwE]
                  have cm' := HSE.out.ref.many q hq40
                  have fE := HSE.out.ref.f (1 + q)
                  clear hwE yD cm HSD
                  go_wp2_with fail
                  go_meet
                  rw [HX.out]
                  have hfin := HSE.out.refT (HSE.out.ref.setM hq40 (s.many q + 1)) ((Kept.self c wE).set1 _ _)
                  rw [Hr.out] at hfin ⊢
                  exact ⟨rfl, _, by go_num, hfin⟩
              case rest =>
                obtain ⟨rfl, wB, hwB, hSB⟩ := hcut
                subst hwB
                have HSB := Lib.hid hSB
                have yB := hSB.y1
                have hbe := begR_e s wide y
                rw [HIn.out] at hbe
                have HBT := Lib.hid (begin_tot hSB.obj hSB.fn (by omega) y)
                obtain ⟨b0, hb0⟩ : ∃ b0, b0 = (Nt.begR s wide y).1.1 := ⟨_, rfl⟩
                obtain ⟨s2, hs2⟩ : ∃ s2, s2 = (Nt.begR s wide y).2 := ⟨_, rfl⟩
                rw [hbe, ← hb0, ← hs2] at HBT
                rw [← hs2] at HSB
                rw [← hb0]
                obtain ⟨e0, he0⟩ : ∃ e0, e0 = eI bi := ⟨_, rfl⟩
                rw [← he0] at HBT ⊢
                clear hSB hbe hb0 hs2 he0 HS c1 ff
                go_wp2_with fail
                refine HBT.out.mono ?_
                rintro e w12 ⟨rfl, hok, hk⟩
                have HS12 := Lib.hid (HSB.out.objT hok hk)
                have HG2 := Lib.hid (Hg.out.below (Nat.le_refl _) HS12.out.bel)
                clear hok hk HBT
                go_wp2_with fail
                refine (same_eq e0 _ HG2.out).mono ?_
                rintro e w13 ⟨rfl, hb⟩
                have HS13 := Lib.hid (HS12.out.below hb)
                clear hb
                cases b0
                all_goals
                  go_wp2_with fail
                  go_meet
                  exact ⟨rfl, _, s2, rfl, HS13.out⟩
            | false =>
              by_cases hx2 : x = 2
              · subst hx2
                go_upto_region 34 with (fail)
                go_cut [158] (fun z wq => z = .bool (bi && (s.many y.toNat == 0)) ∧ ∃ wk, wk = wq ∧ Side F w b c D j wide y s s wk)
                case first => as_aux_lemma =>
                  cases bi with
                  | false =>
                    go_quiet (fail)
                    go_wp2_with fail
                    go_meet
                    exact ⟨rfl, _, rfl, HS.out.below (bdrew (Below.refl _ _) _)⟩
                  | true =>
                    have hin2 := Nt.in_iff.1 Hbi.out.symm
                    obtain ⟨q, rfl⟩ : ∃ q : Nat, y = q := ⟨y.toNat, by omega⟩
                    have hq40 : q < 40 := by omega
                    clear hin2
                    have cm := HS.out.ref.many q hq40
                    have hqI : (q : Int) < 40 := by omega
                    go_quiet (fail)
                    go_wp2_with fail
                    go_meet
                    refine ⟨?_, _, rfl, HS.out.below (bdrew (Below.refl _ _) _)⟩
                    rw [Bool.true_and, Int.toNat_natCast]
                    congr 1
                    rw [Bool.eq_iff_iff, beq_iff_eq, beq_iff_eq]; omega
                case rest =>
                obtain ⟨rfl, wB, hwB, hSB⟩ := hcut
                subst hwB
                have HSB := Lib.hid hSB
                clear hSB HS c1 ff
                go_upto_if 158 with (fail)
                go_cut [5] (fun z wq => z = iv (Nt.finR s y).1 ∧ ∃ wk, wk = wq ∧ Side F w b c D j wide y s (Nt.finR s y).2 wk)
                case first => as_aux_lemma =>
                  cases bi with
                  | false =>
                    have HX := Lib.hid (show Nt.finR s y = (1, s) by unfold Nt.finR; rw [HIn.out]; rfl)
                    rw [Bool.false_and]
                    go_wp2_with fail
                    go_meet
                    rw [HX.out]
                    exact ⟨rfl, _, rfl, HSB.out⟩
                  | true =>
                    have hin2 := Nt.in_iff.1 Hbi.out.symm
                    obtain ⟨q, rfl⟩ : ∃ q : Nat, y = q := ⟨y.toNat, by omega⟩
                    have hq40 : q < 40 := by omega
                    clear hin2
                    rw [Int.toNat_natCast, Bool.true_and]
                    have hqI : (q : Int) < 40 := by omega
                    by_cases hm0 : s.many q = 0
                    · have HX := Lib.hid (show Nt.finR s q = (6, s) by unfold Nt.finR; rw [HIn.out, if_pos rfl, Int.toNat_natCast, if_pos hm0])
                      have t0 : (s.many q == 0) = true := by rw [hm0]; rfl
                      rw [t0]
                      clear hm0 t0
                      go_wp2_with fail
                      go_meet
                      rw [HX.out]
                      exact ⟨rfl, _, rfl, HSB.out⟩
                    · have HX := Lib.hid (show Nt.finR s q = (0, Nt.fin s q) by unfold Nt.finR; rw [HIn.out, if_pos rfl, Int.toNat_natCast, if_neg hm0])
                      have t0 : (s.many q == 0) = false := by simpa using hm0
                      have hbm : s.many q ≤ j := by obtain ⟨mb, v, DD, hA, _⟩ := HSB.out.obj; exact hA.many.bound q
                      have hp1 : 1 ≤ s.many q := by omega
                      have hp1I : (1 : Int) ≤ (s.many q : Int) := by omega
                      have hnum : iv ((s.many q : Int) - 1) = iv ((s.many q - 1 : Nat) : Int) := by congr 1; omega
                      have Hnum := Lib.hid hnum
                      rw [t0]
                      have yB := HSB.out.y1
                      have cm := HSB.out.ref.many q hq40
                      clear hm0 t0 hnum
                      go_upto_region 37 with (fail)
                      go_still_tail 11, (by kernel_rfl)
                      change wpList _ _ _ _ _ wB.drew
                      obtain ⟨wE, hwE⟩ : ∃ wE, wE = wB.drew := ⟨_, rfl⟩
                      have HSE : Hid (Side F w b c D j wide q s s wE) := Lib.hid (by rw [hwE]; exact HSB.out.below (Below.refl _ _).drew)
                      rw [← hwE]
                      have cm' := HSE.out.ref.many q hq40
                      have fE := HSE.out.ref.f (1 + q)
                      clear hwE yB cm HSB
                      go_wp2_with fail
                      go_meet
                      rw [HX.out]
                      have hfin := HSE.out.refT (HSE.out.ref.setM hq40 (s.many q - 1)) ((Kept.self c wE).set1 _ _)
                      rw [← Hnum.out] at hfin
                      exact ⟨rfl, _, rfl, hfin⟩
                case rest =>
                obtain ⟨rfl, wC, hwC, hSC⟩ := hcut
                subst hwC
                have HSC := Lib.hid hSC
                have yC := hSC.y1
                have HET := Lib.hid (end_tot hSC.obj (by omega) y)
                obtain ⟨e0, he0⟩ : ∃ e0, e0 = (Nt.finR s y).1 := ⟨_, rfl⟩
                obtain ⟨s2, hs2⟩ : ∃ s2, s2 = (Nt.finR s y).2 := ⟨_, rfl⟩
                rw [← he0, ← hs2] at HET
                rw [← hs2] at HSC
                rw [← he0]
                clear hSC he0 hs2 HSB
                go_wp2_with fail
                refine HET.out.mono ?_
                rintro e w12 ⟨rfl, hok, hk⟩
                have HS12 := Lib.hid (HSC.out.objT hok hk)
                have HG2 := Lib.hid (Hg.out.below (Nat.le_refl _) HS12.out.bel)
                clear hok hk HET
                go_wp2_with fail
                refine (same_eq e0 _ HG2.out).mono ?_
                rintro e w13 ⟨rfl, hb⟩
                have HS13 := Lib.hid (HS12.out.below hb)
                clear hb
                go_wp2_with fail
                go_meet
                exact ⟨rfl, _, s2, rfl, HS13.out⟩
              · have b2 := beq_f hx2
                clear hx2
                by_cases hx3 : x = 3
                · subst hx3
                  have hq39 : (39 : Int) / (wide : Int) = ((39 / wide : Nat) : Int) := (Int.natCast_ediv 39 wide).symm
                  have hw39 : wrap64 ((39 : Int) / (wide : Int)) = ((39 / wide : Nat) : Int) := wrap_quo 39 wide _ (by omega) rfl
                  have hw39' : IntKind.i64.wrap ((39 : Int) / (wide : Int)) = ((39 / wide : Nat) : Int) := wrap_quo' 39 wide _ (by omega) rfl
                  have hle : 39 / wide ≤ 39 := Nat.div_le_self _ _
                  obtain ⟨m39, hm39⟩ : ∃ m39, m39 = 39 / wide := ⟨_, rfl⟩
                  rw [← hm39] at hq39 hw39 hw39' hle
                  have Hm39 := Lib.hid hm39
                  have HQ := Lib.hid hq39
                  have HW1 := Lib.hid hw39
                  have HW2 := Lib.hid hw39'
                  clear hm39 hw39 hw39' hq39
                  by_cases hy0 : 0 ≤ y
                  · obtain ⟨q, rfl⟩ : ∃ q : Nat, y = q := ⟨y.toNat, by omega⟩
                    have t1 : decide ((q : Int) < 0) = false := dec_f (by omega)
                    by_cases hqm : q ≤ m39
                    · have t2 : decide ((m39 : Int) < (q : Int)) = false := dec_f (by omega)
                      have t2' : decide (m39 < q) = false := dec_f (by omega)
                      have t3 : decide ((39 : Int) / (wide : Int) < (q : Int)) = false := by rw [HQ.out]; exact t2
                      have hqle : q ≤ 39 / wide := by rw [← Hm39.out]; exact hqm
                      have hq40 : q < 40 := by omega
                      have Hqle := Lib.hid hqle
                      have hw39 := HW1.out
                      have hw39' := HW2.out
                      clear hqm hle hy0 hqle
                      go_wp2_with fail
                      go_quiet (fail)
                      have HSB := Lib.hid (HS.out.below (bdrew (Below.refl _ _) nq))
                      have HRC := Lib.hid (rclean_any HSB.out.ref q hq40)
                      obtain ⟨b0, hb0⟩ : ∃ b0, b0 = (Nt.clean s wide q).1 := ⟨_, rfl⟩
                      obtain ⟨s2, hs2⟩ : ∃ s2, s2 = (Nt.clean s wide q).2 := ⟨_, rfl⟩
                      clear hw39 hw39' c1 ff
                      have yB := HSB.out.y1
                      go_wp2_with fail
                      refine HRC.out.mono ?_
                      rintro e w11 ⟨rfl, hr, hk⟩
                      have HS11 := Lib.hid (HSB.out.refT hr hk)
                      have HCT := Lib.hid (clean_tot HS11.out.obj HS11.out.fn q Hqle.out)
                      rw [← hb0, ← hs2] at HCT
                      rw [← hs2] at HS11
                      rw [← hb0]
                      have y11 := HS11.out.y1
                      clear hr hk HRC HS HSB yB hb0 hs2
                      go_wp2_with fail
                      refine HCT.out.mono ?_
                      rintro e w12 ⟨rfl, hok, hk⟩
                      have HS12 := Lib.hid (HS11.out.objT hok hk)
                      clear hok hk HCT
                      go_wp2_with fail
                      refine (same_nil 0 _).mono ?_
                      rintro e w13 ⟨rfl, hb⟩
                      have HS13 := Lib.hid (HS12.out.below hb)
                      clear hb
                      cases b0
                      all_goals
                        go_wp2_with fail
                        go_meet
                        exact ⟨by simp, _, s2, rfl, HS13.out⟩
                    · have t2 : decide ((m39 : Int) < (q : Int)) = true := dec_t (by omega)
                      have t2' : decide (m39 < q) = true := dec_t (by omega)
                      have t3 : decide ((39 : Int) / (wide : Int) < (q : Int)) = true := by rw [HQ.out]; exact t2
                      have HCO := fun (wz : World) (h : IntOk F wz 0 b j wide s) => clean_out h (q : Int) (.inr ⟨by omega, by rw [← Hm39.out]; omega⟩)
                      have HCO' := Lib.hid HCO
                      have hw39 := HW1.out
                      have hw39' := HW2.out
                      clear hqm hle hy0 HCO
                      go_wp2_with fail
                      go_quiet (fail)
                      have HSB := Lib.hid (HS.out.below (bdrew (Below.refl _ _) nq))
                      have yB := HSB.out.y1
                      clear hw39 hw39' c1 ff
                      go_wp2_with fail
                      refine (HCO'.out _ HSB.out.obj).mono ?_
                      rintro e w' ⟨rfl, rfl⟩
                      have HG2 := Lib.hid (Hg.out.below (Nat.le_refl _) HSB.out.bel)
                      go_wp2_with fail
                      refine (same_ev 1 1 _ HG2.out).mono ?_
                      rintro e w13 ⟨rfl, hb⟩
                      have HS13 := Lib.hid (HSB.out.more.below hb)
                      clear hb
                      go_wp2_with fail
                      go_meet
                      exact ⟨by simp, _, s, rfl, HS13.out⟩
                  · have t1 : decide (y < 0) = true := dec_t (by omega)
                    have HCO := fun (wz : World) (h : IntOk F wz 0 b j wide s) => clean_out h y (.inl (by omega))
                    have HCO' := Lib.hid HCO
                    clear hle hy0 HCO
                    go_wp2_with fail
                    go_quiet (fail)
                    have HSB := Lib.hid (HS.out.below (bdrew (Below.refl _ _) nq))
                    have yB := HSB.out.y1
                    clear c1 ff
                    go_wp2_with fail
                    refine (HCO'.out _ HSB.out.obj).mono ?_
                    rintro e w' ⟨rfl, rfl⟩
                    have HG2 := Lib.hid (Hg.out.below (Nat.le_refl _) HSB.out.bel)
                    go_wp2_with fail
                    refine (same_ev 1 1 _ HG2.out).mono ?_
                    rintro e w13 ⟨rfl, hb⟩
                    have HS13 := Lib.hid (HSB.out.more.below hb)
                    clear hb
                    go_wp2_with fail
                    go_meet
                    exact ⟨by simp, _, s, rfl, HS13.out⟩
                · have b3 := beq_f hx3
                  clear hx3
                  have HCA := HS.out.ref.setAll
                  have hth := HS.out.ref.there
                  have hz40 := zero_int40v
                  have hst : (storeCells ⟨c, 1, none⟩ int40v.toList 0).run Tryd.prog wA = .ok () (wA.setCells c 1 int40v.toList) :=
                    run_storeCells_cells (P := Tryd.prog) c 1 int40v.toList 0 wA (fun j hj => by simpa using (hth j (by simpa using hj)).1) (fun j hj => by simpa using (hth j (by simpa using hj)).2) (fun v hv => by rw [int40v_list] at hv; rw [List.eq_of_mem_replicate hv]; rfl)
                  go_upto_region 23 with (fail)
                  have HSB := Lib.hid (HS.out.refT HCA.1 HCA.2)
                  obtain ⟨wB, hwB⟩ : ∃ wB, wB = wA.setCells c 1 int40v.toList := ⟨_, rfl⟩
                  rw [← hwB] at HSB ⊢
                  have HCT := Lib.hid (crash_tot HSB.out.obj HSB.out.fn)
                  clear hwB HCA hth HS c1 ff hst hz40
                  go_wp2_with fail
                  refine HCT.out.mono ?_
                  rintro e w6 ⟨v6, rfl, hown6, hok, hk⟩
                  have HS6 := Lib.hid (HSB.out.objT (n' := j + 1) (by have := hok.moreN (j + 1); rw [Nat.zero_add] at this; exact this) hk)
                  have HR6 := Lib.hid (row_of_owns hown6).1
                  clear hown6 hok hk HCT HSB
                  go_wp2_with fail
                  refine (rlist_any HS6.out.ref).mono ?_
                  rintro e w7 ⟨v7, rfl, hown7, hb7⟩
                  have HR7 := Lib.hid (row_of_owns hown7).1
                  have HR67 := Lib.hid (HR6.out.below hb7)
                  have HS7 := Lib.hid (HS6.out.below hb7)
                  clear hown7 hb7 HS6 HR6
                  go_wp2_with fail
                  refine (ints_eq (Nt.L s.dirty) v6 v7 w7 HR67.out HR7.out).mono ?_
                  rintro e w' ⟨rfl, nd, rfl⟩
                  have HS8 := Lib.hid (HS7.out.below (bdrew (Below.refl _ _) nd))
                  go_wp2_with fail
                  go_meet
                  exact ⟨rfl, _, Nt.crash s, rfl, HS8.out⟩
          case rest =>
            obtain ⟨rfl, wk, s', hwk, hS⟩ := hcut
            subst hwk
            have HS' := Lib.hid hS
            clear hS HS c0 c1
            go_wp2_with fail
            refine (dirty_tot HS'.out.obj).mono ?_
            rintro e w6 ⟨v6, rfl, hown6, hb6⟩
            have HR6 := Lib.hid (row_of_owns hown6).1
            have HS6 := Lib.hid (HS'.out.below hb6)
            clear hown6 hb6 HS'
            go_wp2_with fail
            refine (rlist_any HS6.out.ref).mono ?_
            rintro e w7 ⟨v7, rfl, hown7, hb7⟩
            have HR7 := Lib.hid (row_of_owns hown7).1
            have HR67 := Lib.hid (HR6.out.below hb7)
            have HS7 := Lib.hid (HS6.out.below hb7)
            clear hown7 hb7 HS6 HR6
            go_wp2_with fail
            refine (ints_eq (Nt.L s'.dirty) v6 v7 w7 HR67.out HR7.out).mono ?_
            rintro e w' ⟨rfl, nd, rfl⟩
            have HS8 := Lib.hid (HS7.out.below (bdrew (Below.refl _ _) nd))
            clear HS7
            have HIe : Hid (IntOk (fun k => w.heap.size ≤ k ∧ k ≠ c) (w7.drewN nd) 0 b (j + 1) wide s') := Lib.hid (IntOk.wide HS8.out.obj (fun k _ hk => ⟨(HS8.out.fo k hk).1, (HS8.out.fo k hk).2.1⟩))
            go_wp2_with fail
            rw [show (some ({ block := go, off := oo, spot := none } : Addr)) = po from Hpo.out.symm]
            go_roundg (gO - 1)
            case measure => have := Hj.out; omega
            case rel => exact ⟨j + 1, s', by have := Hj.out; omega, by omega, by go_num, HIe.out, HS8.out.ref, HS8.out.bel⟩
      · go_wp2_with fail
        go_ret
        exact ⟨rfl, HWB.out⟩
    · go_wp2_with fail
      go_ret
      exact ⟨rfl, HWB.out⟩
theorem intentPlays_walk (x : Int) (v : Value) (hx : (Lit.int .i64 x).wf = true) (w : World) (hg : Handle w) (hv : ∃ xss, Rows2 w v xss) :
    Calls Tryd.prog 4 #[iv x, v] w fun e w' => e = .returned (.bool true) ∧ Below w.heap.size w w' := by
  obtain ⟨xss, hr⟩ := hv
  by_cases h : 1 ≤ x ∧ x ≤ 40
  · obtain ⟨m, rfl⟩ : ∃ m : Nat, x = m := ⟨x.toNat, by omega⟩
    exact intentPlays_core m (by omega) (by omega) v xss w hr hg
  · exact intentPlays_no x v (by omega) w hg
end Go.Proofs.YtangcjffiooapaaDoor
