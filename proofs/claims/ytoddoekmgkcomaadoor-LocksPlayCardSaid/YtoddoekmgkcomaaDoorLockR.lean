/- The reference's locks: whose, drop, clear0. -/
import Derived.Test.YtoddoekmgkcomaaDoorLockS
import Derived.Test.YtoddoekmgkcomaaDoorLockG
import Derived.Deep.LoopGhost
namespace Go.Proofs.YtoddoekmgkcomaaDoor
open Go.ChangeShapes Go.WideShapes Go.ChangeAt Go.RowKit
set_option linter.unusedVariables false
def WhoseRel (ls : List Lk.L) (who : Int) (w : World) (gk : Nat) (i : Value) (wr : World) : Prop :=
  ∃ k : Nat, k + gk = ls.length ∧ i = iv k ∧ wr = w ∧ ∀ (j : Nat) (l : Lk.L), j < k → ls[j]? = some l → l.who ≠ who
set_option maxRecDepth 100000 in
theorem whose_any (ls : List Lk.L) (who : Int) (v : Value) (w : World) (hv : RowL w v ls) :
    Calls Tryd.prog 53 #[v, iv who] w fun e w' => e = .returned (.bool (Lk.has ls who)) ∧ w = w' := by
  obtain ⟨q, cap, rfl, hl, hc⟩ := hv
  have Hc := Lib.hid hc
  clear hc
  generalize hn : ls.length = n at *
  have Hn := Lib.hid hn
  clear hn
  go_enter Tryd.func53, Tryd.ntmps53
  go_wp2_with fail
  go_loopg [5] n (fun gk i wr => WhoseRel ls who w gk i wr)
  case atStart => exact ⟨0, by rw [Hn.out]; omega, rfl, rfl, fun j l hj => by omega⟩
  case round =>
    obtain ⟨k, hk, rfl, rfl, hno⟩ := hrel
    rw [Hn.out] at hk
    have Hk := Lib.hid hk
    have Hno := Lib.hid hno
    clear hk hno
    by_cases hlt : k < n
    · obtain ⟨l, hl⟩ : ∃ l, ls[k]? = some l := ⟨ls[k]'(by rw [Hn.out]; exact hlt), List.getElem?_eq_getElem _⟩
      obtain ⟨gb, off, rfl, hg, c0, _⟩ := Hc.out k l hl
      have Hl := Lib.hid hl
      clear hl
      by_cases e : l.who = who
      · have t1 := beq_t e
        have HR := Lib.hid (Lk.has_iff.2 ⟨l, List.mem_of_getElem? Hl.out, e⟩)
        clear e
        go_wp2_with fail
        go_ret
        exact ⟨by rw [HR.out]; rfl, rfl⟩
      · have t1 := beq_f e
        have He := Lib.hid e
        clear e
        go_wp2_with fail
        go_roundg (gk - 1)
        case measure => have := Hk.out; omega
        case rel =>
          refine ⟨k + 1, by rw [Hn.out]; have := Hk.out; omega, by go_num, rfl, fun j l' hj h => ?_⟩
          by_cases e : j = k
          · subst e
            rw [Hl.out] at h
            obtain rfl := Option.some.inj h
            exact He.out
          · exact Hno.out j l' (by omega) h
    · obtain rfl : k = n := by have := Hk.out; omega
      have HR : Hid (Lk.has ls who = false) := Lib.hid (Lk.has_no.2 fun x hx => by
        obtain ⟨j, hj⟩ := List.getElem?_of_mem hx
        exact Hno.out j x (by rw [← Hn.out]; exact (List.getElem?_eq_some_iff.1 hj).1) hj)
      go_wp2_with fail
      go_ret
      exact ⟨by rw [HR.out]; rfl, rfl⟩
def DropPost (ls : List Lk.L) (w : World) (e : Ending) (w' : World) : Prop := ∃ v, e = .returned v ∧ w'.ownsRow w.heap.size 52 4 v ls.length (lcs ls) ∧ Below w.heap.size w w'
def DropRel (ls : List Lk.L) (who : Int) (w : World) (gk : Nat) (o i : Value) (wr : World) : Prop :=
  ∃ k : Nat, k + gk = ls.length ∧ i = iv k ∧ wr.ownsRow w.heap.size 52 4 o (Lk.drop (ls.take k) who).length (lcs (Lk.drop (ls.take k) who)) ∧ Below w.heap.size w wr
theorem drop_len_le (ls : List Lk.L) (who : Int) : (Lk.drop ls who).length ≤ ls.length := List.length_filter_le _ _
set_option maxRecDepth 100000 in
set_option maxHeartbeats 1000000 in
theorem drop_any (ls : List Lk.L) (hs : ls.length ≤ 1000) (who : Int) (v : Value) (w : World) (hv : RowL w v ls) :
    Calls Tryd.prog 54 #[v, iv who] w (DropPost (Lk.drop ls who) w) := by
  obtain ⟨i0, hi0, hz0, hz1, hz2⟩ := info_parts info_lock
  have Hv := Lib.hid hv
  obtain ⟨q, cap, rfl, hl, _⟩ := hv
  generalize hn : ls.length = n at *
  have Hn := Lib.hid hn
  clear hn
  go_enter Tryd.func54, Tryd.ntmps54
  go_wp2_with fail
  go_loopg [5, 6] n (fun gk o i wr => DropRel ls who w gk o i wr)
  case atStart => exact ⟨0, by rw [Hn.out]; omega, rfl, World.ownsRow_nil _ _ _ _, Below.refl _ _⟩
  case round =>
    obtain ⟨k, hk, rfl, hown, hb⟩ := hrel
    rw [Hn.out] at hk
    have Hk := Lib.hid hk
    have Hb := Lib.hid hb
    have Hown := Lib.hid hown
    have hbz := hb.size
    clear hk hb hown
    by_cases hlt : k < n
    · obtain ⟨l, hl⟩ : ∃ l, ls[k]? = some l := ⟨ls[k]'(by rw [Hn.out]; exact hlt), List.getElem?_eq_getElem _⟩
      obtain ⟨gb, off, cc, hq, _, hgb, d0, d1, d2, d3⟩ := Hv.out.at Hb.out hl
      simp only [Value.slice.injEq] at hq
      obtain ⟨rfl, hpx, rfl⟩ := hq
      have hax : ls.take (k + 1) = ls.take k ++ [l] := by rw [List.take_add_one, hl]; rfl
      have HAX := Lib.hid hax
      have hdl := drop_len_le (ls.take k) who
      have htl : (ls.take k).length ≤ k := List.length_take_le _ _
      clear hl hpx hax
      by_cases e : l.who = who
      · have t1 := bne_f e
        have HQ : Hid (Lk.drop (ls.take (k + 1)) who = Lk.drop (ls.take k) who) := Lib.hid (by rw [HAX.out]; unfold Lk.drop; rw [List.filter_append]; simp [e])
        clear e
        go_wp2_with fail
        go_roundg (gk - 1)
        case measure => have := Hk.out; omega
        case rel => exact ⟨k + 1, by rw [Hn.out]; have := Hk.out; omega, by go_num, by rw [HQ.out]; exact Hown.out, Hb.out⟩
      · have t1 := bne_t e
        have HQ : Hid (Lk.drop (ls.take (k + 1)) who = Lk.drop (ls.take k) who ++ [l]) := Lib.hid (by rw [HAX.out]; unfold Lk.drop; rw [List.filter_append]; simp [e])
        clear e
        generalize Lk.drop (ls.take k) who = dd at *
        have hdd : dd.length ≤ 1000 := by omega
        have hlowr := Lib.hid (fun k (e : u5.ownBlock = some k) => (Hown.out.lt k e).1)
        have HBx := Lib.hid (Hb.out.alloc hbz (.cells (lc l).toArray 52))
        clear hdl htl
        go_wp2_with (at_builtin; refine wpList_append_lies _ rfl _ _ 39 rfl w.heap.size 52 i0 _ 4 32 Tryd.underlying39 hi0 hz0 hz1 hz2 rfl (by omega) _ dd.length (lcs dd) rfl (Hown.out.alloc _) ⟨wr.heap.size, 0, none⟩ 1 1 (lc l) rfl rfl (World.news_of_block (cs := (lc l).toArray) (t := 52) (fr := (0, 0)) (heap_alloc_new wr _)) (lc_one l) (by omega) ?c1 ?c2 ?c3 (wr.heap.size + 1) ?c4 ?_)
        case c1 => unfold maxLen; omega
        case c2 => omega
        case c3 => (try simp) <;> omega
        try case c4 => simp
        intro g cap w1 hown1 hgrow hat hlt'
        have Hown1 : Hid (w1.ownsRow w.heap.size 52 4 (.slice (some ⟨g, 0, none⟩) (dd.length + 1) cap) (dd ++ [l]).length (lcs (dd ++ [l]))) := Lib.hid (by rw [← lcs_snoc, List.length_append]; exact hown1)
        have Hb1 := Lib.hid (HBx.out.grown hgrow (by simp; omega) (fun k e => hlowr.out k e))
        clear hown1 hgrow hat
        go_wp2_with fail
        go_roundg (gk - 1)
        case measure => have := Hk.out; omega
        case rel => exact ⟨k + 1, by rw [Hn.out]; have := Hk.out; omega, by go_num, by rw [HQ.out]; exact Hown1.out, Hb1.out⟩
    · have hall : ls.take k = ls := List.take_of_length_le (by rw [Hn.out]; omega)
      have HR : Hid (wr.ownsRow w.heap.size 52 4 u5 (Lk.drop ls who).length (lcs (Lk.drop ls who))) := Lib.hid (by have := Hown.out; rw [hall] at this; exact this)
      clear hall
      go_wp2_with fail
      go_ret
      exact ⟨_, rfl, HR.out, Hb.out⟩
def ClearRel (ls : List Lk.L) (x : Lk.L) (W w : World) (gk : Nat) (i : Value) (wr : World) : Prop :=
  ∃ k : Nat, k + gk = ls.length ∧ i = iv k ∧ Below W.heap.size W wr ∧ ∀ (j : Nat) (l : Lk.L), j < k → ls[j]? = some l → Lk.odds l x = false
set_option maxRecDepth 100000 in
set_option maxHeartbeats 1000000 in
theorem clear_any (ls : List Lk.L) (x : Lk.L) (v : Value) (w : World) (hv : RowL w v ls) :
    Calls Tryd.prog 55 #[v, lv x] w fun e w' => e = .returned (.bool (Lk.free ls x)) ∧ Below w.heap.size w w' := by
  obtain ⟨wA, hwA⟩ : ∃ W : World, W = w.alloc (.cells (lc x).toArray 52) := ⟨_, rfl⟩
  have hBA : Below w.heap.size w wA := by rw [hwA]; exact (Below.refl _ _).alloc (Nat.le_refl _) _
  have pb : wA.heap[w.heap.size]? = some (.cells (lc x).toArray 52 (0, 0)) := by rw [hwA]; exact heap_alloc_new _ _
  have hsA := (Array.getElem?_eq_some_iff.1 pb).1
  have Hv := Lib.hid (hv.below hBA)
  have HBA := Lib.hid hBA
  have HPB := Lib.hid pb
  have HWA := Lib.hid hwA
  obtain ⟨q, cap, rfl, hl, _⟩ := hv
  generalize hn : ls.length = n at *
  have Hn := Lib.hid hn
  clear hn hwA hBA pb
  go_enter Tryd.func55, Tryd.ntmps55
  go_wp2_with fail
  rw [show (w.alloc (.cells #[iv x.who, iv x.fr, iv x.to, .bool x.al] 52)) = wA from HWA.out.symm]
  go_loopg [5] n (fun gk i wr => ClearRel ls x wA w gk i wr)
  case atStart => exact ⟨0, by rw [Hn.out]; omega, rfl, Below.refl _ _, fun j l hj => by omega⟩
  case round =>
    obtain ⟨k, hk, rfl, hb, hno⟩ := hrel
    rw [Hn.out] at hk
    have Hk := Lib.hid hk
    have Hno := Lib.hid hno
    have Hb := Lib.hid hb
    have hbz := hb.size
    clear hk hno hb
    by_cases hlt : k < n
    · obtain ⟨l, hl⟩ : ∃ l, ls[k]? = some l := ⟨ls[k]'(by rw [Hn.out]; exact hlt), List.getElem?_eq_getElem _⟩
      obtain ⟨gb, off, cc, hq, _, hgb, d0, d1, d2, d3⟩ := Hv.out.at Hb.out hl
      simp only [Value.slice.injEq] at hq
      obtain ⟨rfl, hpx, rfl⟩ := hq
      have pb := (Hb.out.block _ hsA).trans HPB.out
      have e0 : wr.cell? ⟨w.heap.size, 0, none⟩ = some (iv x.who) := by rw [cell_of_row _ _ _ _ _ _ pb]; rfl
      have e1 : wr.cell? ⟨w.heap.size, 1, none⟩ = some (iv x.fr) := by rw [cell_of_row _ _ _ _ _ _ pb]; rfl
      have e2 : wr.cell? ⟨w.heap.size, 2, none⟩ = some (iv x.to) := by rw [cell_of_row _ _ _ _ _ _ pb]; rfl
      have e3 : wr.cell? ⟨w.heap.size, 3, none⟩ = some (.bool x.al) := by rw [cell_of_row _ _ _ _ _ _ pb]; rfl
      have hsR : w.heap.size < wr.heap.size := by omega
      have Hl := Lib.hid hl
      have kn : (k : Int) < (n : Int) := by omega
      clear hl hpx pb
      go_upto_region 4 with (fail)
      cases ho : Lk.odds l x
      all_goals
        have HO := Lib.hid ho
        clear ho
      · go_cut [6] (fun z wq => z = .bool false ∧ Below wr.heap.size wr wq)
        case first => as_aux_lemma =>
          go_region_held3 (fun w' => w'.cell? ⟨gb, off + k * 4, none⟩ = some (iv l.who) ∧ w'.cell? ⟨gb, off + k * 4 + 1, none⟩ = some (iv l.fr) ∧ w'.cell? ⟨gb, off + k * 4 + 2, none⟩ = some (iv l.to) ∧ w'.cell? ⟨gb, off + k * 4 + 3, none⟩ = some (.bool l.al) ∧ w'.cell? ⟨w.heap.size, 0, none⟩ = some (iv x.who) ∧ w'.cell? ⟨w.heap.size, 1, none⟩ = some (iv x.fr) ∧ w'.cell? ⟨w.heap.size, 2, none⟩ = some (iv x.to) ∧ w'.cell? ⟨w.heap.size, 3, none⟩ = some (.bool x.al))
            (first
              | exact ⟨d0, d1, d2, d3, e0, e1, e2, e3⟩
              | exact K1
              | go_keep)
            (first
              | (go_at_call 74; refine (rodds_any l x _).mono ?_; rintro e w1 ⟨rfl, hb1⟩; have HB1 := Lib.hid (drewBG hb1); have k0 := fun o => HB1.out.cell (p := ⟨gb, o, none⟩) hgb; have k1 := fun o => HB1.out.cell (p := ⟨w.heap.size, o, none⟩) hsR; have K1 := And.intro ((k0 _).trans d0) (And.intro ((k0 _).trans d1) (And.intro ((k0 _).trans d2) (And.intro ((k0 _).trans d3) (And.intro ((k1 _).trans e0) (And.intro ((k1 _).trans e1) (And.intro ((k1 _).trans e2) ((k1 _).trans e3))))))); clear hb1 k0 k1))
          go_wp2_with fail
          go_meet
          exact ⟨by rw [HO.out], HB1.out⟩
        case rest =>
          obtain ⟨rfl, hb3⟩ := hcut
          have Hb3 := Lib.hid (Hb.out.trans (hb3.mono hbz))
          clear hb3
          go_wp2_with fail
          go_roundg (gk - 1)
          case measure => have := Hk.out; omega
          case rel =>
            refine ⟨k + 1, by rw [Hn.out]; have := Hk.out; omega, by go_num, Hb3.out, fun j l' hj h => ?_⟩
            by_cases e : j = k
            · subst e
              rw [Hl.out] at h
              obtain rfl := Option.some.inj h
              exact HO.out
            · exact Hno.out j l' (by omega) h
      · go_cut [6] (fun z wq => z = .bool true ∧ Below wr.heap.size wr wq)
        case first => as_aux_lemma =>
          go_region_held3 (fun w' => w'.cell? ⟨gb, off + k * 4, none⟩ = some (iv l.who) ∧ w'.cell? ⟨gb, off + k * 4 + 1, none⟩ = some (iv l.fr) ∧ w'.cell? ⟨gb, off + k * 4 + 2, none⟩ = some (iv l.to) ∧ w'.cell? ⟨gb, off + k * 4 + 3, none⟩ = some (.bool l.al) ∧ w'.cell? ⟨w.heap.size, 0, none⟩ = some (iv x.who) ∧ w'.cell? ⟨w.heap.size, 1, none⟩ = some (iv x.fr) ∧ w'.cell? ⟨w.heap.size, 2, none⟩ = some (iv x.to) ∧ w'.cell? ⟨w.heap.size, 3, none⟩ = some (.bool x.al))
            (first
              | exact ⟨d0, d1, d2, d3, e0, e1, e2, e3⟩
              | exact K1
              | go_keep)
            (first
              | (go_at_call 74; refine (rodds_any l x _).mono ?_; rintro e w1 ⟨rfl, hb1⟩; have HB1 := Lib.hid (drewBG hb1); have k0 := fun o => HB1.out.cell (p := ⟨gb, o, none⟩) hgb; have k1 := fun o => HB1.out.cell (p := ⟨w.heap.size, o, none⟩) hsR; have K1 := And.intro ((k0 _).trans d0) (And.intro ((k0 _).trans d1) (And.intro ((k0 _).trans d2) (And.intro ((k0 _).trans d3) (And.intro ((k1 _).trans e0) (And.intro ((k1 _).trans e1) (And.intro ((k1 _).trans e2) ((k1 _).trans e3))))))); clear hb1 k0 k1))
          go_wp2_with fail
          go_meet
          exact ⟨by rw [HO.out], HB1.out⟩
        case rest =>
          obtain ⟨rfl, hb3⟩ := hcut
          have Hb3 := Lib.hid (HBA.out.trans ((Hb.out.trans (hb3.mono hbz)).mono HBA.out.size))
          have HR : Hid (Lk.free ls x = false) := Lib.hid (Lk.free_no.2 ⟨l, List.mem_of_getElem? Hl.out, by rw [Lk.odds_comm]; exact HO.out⟩)
          clear hb3
          go_wp2_with fail
          go_ret
          exact ⟨by rw [HR.out]; rfl, Hb3.out⟩
    · obtain rfl : k = n := by have := Hk.out; omega
      have HR : Hid (Lk.free ls x = true) := Lib.hid (Lk.free_yes.2 fun y hy => by
        obtain ⟨j, hj⟩ := List.getElem?_of_mem hy
        rw [Lk.odds_comm]
        exact Hno.out j y (by rw [← Hn.out]; exact (List.getElem?_eq_some_iff.1 hj).1) hj)
      have HbE := Lib.hid (HBA.out.trans (Hb.out.mono HBA.out.size))
      go_wp2_with fail
      go_ret
      exact ⟨by rw [HR.out]; rfl, HbE.out⟩
end Go.Proofs.YtoddoekmgkcomaaDoor
