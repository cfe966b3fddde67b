/- The walk of Grow's cut. -/
import Derived.Test.YtcldioneiededaaDoorGroX
import Derived.Deep.OwnRows
namespace Go.Proofs.YtcldioneiededaaDoor
open Go.ChangeShapes Go.WideShapes Go.ChangeAt Go.RowKit
set_option linter.unusedVariables false
theorem info_intG : (Tryd.prog.info? 3).map (fun i => (i.zero, i.size, i.bytes)) = some (some (.int .i64 0), 1, 8) := by kernel_rfl
theorem make_intsG (n : Nat) (h : n ≤ 1000000) (w : World) : (Instr.makeSlice 52 (.int .i64 (n : Int)) (.int .i64 (n : Int))).run Tryd.prog w = .ok (.slice (some ⟨w.heap.size, 0, none⟩) n n) (w.alloc (.cells (madeCells #[.int .i64 0] n) 3)) :=
  run_make_row' 52 3 (.int .i64 0) 8 Tryd.underlying52 info_intG rfl .i64 .i64 n (by omega) (by omega) w
/-- a list of ints at the head of a block, as a function -/
def LsAt (w : World) (lb n : Nat) (f : Nat → Nat) : Prop := ∃ cur, w.heap[lb]? = some (.cells cur 3 (0, 0)) ∧ cur.size = n ∧ ∀ j, j < n → cur[j]? = some (iv (f j))
namespace LsAt
variable {w w1 : World} {lb n : Nat} {f : Nat → Nat}
theorem cell (h : LsAt w lb n f) {j : Nat} (hj : j < n) : w.cell? ⟨lb, j, none⟩ = some (iv (f j)) := by
  obtain ⟨cur, h1, h2, h3⟩ := h
  rw [cell_of_row _ _ _ _ _ _ h1, h3 j hj]
theorem fz (h : LsAt w lb n f) (j : Nat) : w.frozen? ⟨lb, j, none⟩ = false := by
  obtain ⟨cur, h1, _⟩ := h; exact frozen_of_row _ _ _ _ _ h1
theorem kept {T : Nat → Prop} (h : LsAt w lb n f) (hk : Kept T w w1) (hn : ¬ T lb) : LsAt w1 lb n f := by
  obtain ⟨cur, h1, h2, h3⟩ := h; exact ⟨cur, hk.heap h1 hn, h2, h3⟩
theorem below (h : LsAt w lb n f) (hb : Below w.heap.size w w1) : LsAt w1 lb n f := by
  obtain ⟨cur, h1, h2, h3⟩ := h; exact ⟨cur, by rw [hb.block lb (Array.getElem?_eq_some_iff.1 h1).1]; exact h1, h2, h3⟩
theorem set (h : LsAt w lb n f) {j : Nat} (hj : j < n) (x : Nat) : LsAt (w.setCell ⟨lb, j, none⟩ (iv x)) lb n (upd f j x) := by
  obtain ⟨cur, h1, h2, h3⟩ := h
  refine ⟨cur.setIfInBounds j (iv x), heap_setCell_same _ _ _ _ _ _ h1, by rw [Array.size_setIfInBounds]; exact h2, fun k hk => ?_⟩
  by_cases e : k = j
  · subst e; rw [Array.getElem?_setIfInBounds_self_of_lt (by omega), upd_self]
  · rw [Array.getElem?_setIfInBounds_ne (fun h => e h.symm), upd_ne _ _ e]; exact h3 k hk
theorem made (w : World) (n : Nat) : LsAt (w.alloc (.cells (madeCells #[.int .i64 0] n) 3)) w.heap.size n (fun _ => 0) := by
  have hl : (madeCells #[Value.int .i64 0] n).toList = List.replicate n (.int .i64 0) := toList_madeCells_one _ _
  have hs : (madeCells #[Value.int .i64 0] n).size = n := by rw [← Array.length_toList, hl, List.length_replicate]
  refine ⟨_, heap_alloc_new w _, hs, fun j hj => ?_⟩
  rw [← Array.getElem?_toList, hl, List.getElem?_replicate, if_pos hj]; rfl
end LsAt
theorem last_upd (p : Nat → Nat × Nat) (k : Nat) : (fun d => Gr.last p d (k + 1)) = upd (fun d => Gr.last p d k) (p k).1 (max (Gr.last p (p k).1 k) ((p k).2 + 1)) := by
  funext d
  rw [Gr.last]
  unfold upd
  by_cases e : (p k).1 = d
  · rw [if_pos e, if_pos e.symm, e]
  · rw [if_neg e, if_neg (fun h => e h.symm)]
theorem last_bound (p : Nat → Nat × Nat) (hp : ∀ i, (p i).2 ≤ i) (d k : Nat) : Gr.last p d k ≤ k := Gr.last_le p d k k (fun i hi _ => by have := hp i; omega)
def Cut1 (F : Nat → Prop) (b g c n m done lb : Nat) (vs : Nat → Value) (D : Gr.Ds) (w : World) (gk : Nat) (v17 : Value) (wr : World) : Prop :=
  ∃ k : Nat, k + gk = m ∧ v17 = iv k ∧ GroAt wr b g c n m done vs D ∧ Kept F w wr ∧ LsAt wr lb (n + 1) (fun d => Gr.last (Gr.spot n done) d k)
def Cut2 (F : Nat → Prop) (b g c n m done lb : Nat) (D : Gr.Ds) (w : World) (gk : Nat) (v39 : Value) (wr : World) : Prop :=
  ∃ x : Nat, x + gk = n + 1 ∧ v39 = iv x ∧ ∃ vs, GroAt wr b g c n m done vs (fun y => if y < x then (D y).take (Gr.last (Gr.spot n done) y m) else D y) ∧ GroIn F b g n vs ∧ Kept F w wr ∧ LsAt wr lb (n + 1) (fun d => Gr.last (Gr.spot n done) d m) ∧
    (F lb ∧ b ≠ lb ∧ g ≠ lb ∧ ∀ i, i < n + 1 → (vs i).ownBlock ≠ some lb)
set_option maxRecDepth 100000 in
set_option maxHeartbeats 2000000 in
theorem gcut_any {w : World} {b g c n m done : Nat} {vs : Nat → Value} {D : Gr.Ds} (h : GroAt w b g c n m done vs D) {F : Nat → Prop} (hF : ∀ k, w.heap.size ≤ k → F k) (hI : GroIn F b g n vs) (h0 : 0 < n) (hn : n ≤ 100) (hm : m ≤ 1000) (hd : done ≤ 1000)
    (hle : ∀ x, x ≤ n → Gr.last (Gr.spot n done) x m ≤ (D x).length) (hl : ∀ x, x ≤ n → (D x).length ≤ 1000) :
    Calls Tryd.prog 72 #[.pointer (some ⟨b, 0, none⟩)] w (GPutPost F b g c n m done (fun x => (D x).take (Gr.last (Gr.spot n done) x m)) w) := by
  have HF := Lib.hid hF
  have HI := Lib.hid hI
  have HLe := Lib.hid hle
  have HLl := Lib.hid hl
  have H := Lib.hid h
  have c0 := h.c0
  have c2 := h.c2
  have hcm := (h.ds.outer (by omega)).2.2.1
  unfold maxLen at hcm
  have hmk := make_intsG (n + 1) (by omega)
  rw [show (((n + 1 : Nat)) : Int) = (n : Int) + 1 by omega] at hmk
  have hbm : Below w.heap.size w (w.alloc (.cells (madeCells #[.int .i64 0] (n + 1)) 3)) := (Below.refl _ _).alloc (Nat.le_refl _) _
  have H1 := Lib.hid (h.below hbm)
  have HK1 := Lib.hid (Kept.new F hbm)
  have HL1 := Lib.hid (LsAt.made w (n + 1))
  have c2' := H1.out.c2
  clear h hF hI hle hl hbm c2
  go_enter Tryd.func72, Tryd.ntmps72
  go_wp2_with fail
  obtain ⟨lb, hlb⟩ : ∃ lb, lb = w.heap.size := ⟨_, rfl⟩
  obtain ⟨wA, hwA⟩ : ∃ wA, wA = w.alloc (.cells (madeCells #[.int .i64 0] (n + 1)) 3) := ⟨_, rfl⟩
  rw [← hwA] at H1 HK1 HL1 c2' ⊢
  rw [← hlb] at HL1 ⊢
  have HFl : Hid (F lb ∧ b ≠ lb ∧ g ≠ lb ∧ ∀ i, i < n + 1 → (vs i).ownBlock ≠ some lb) := Lib.hid (by
    refine ⟨HF.out lb (by omega), ?_, ?_, fun i hi e => ?_⟩
    · have := H.out.lt; omega
    · have := (H.out.ds.outer (by omega)).1; omega
    · have := H.out.ds.lt hi e; omega)
  clear hwA hlb c0 c2' hmk H
  go_loopg [3, 4, 17] m (fun gk v3 v4 v17 wr => Cut1 F b g c n m done lb vs D w gk v17 wr)
  case atStart => exact ⟨0, by omega, rfl, H1.out, HK1.out, HL1.out⟩
  case round =>
    clear H1 HK1 HL1
    obtain ⟨k, hk, rfl, hA, hK, hL⟩ := hrel
    have Hk := Lib.hid hk
    have HA := Lib.hid hA
    have HK := Lib.hid hK
    have HL := Lib.hid hL
    clear hk hA hK hL
    by_cases hkm : k < m
    · have HAt := Lib.hid (gat_any HA.out h0 (by omega) hd k (by omega))
      obtain ⟨sd, hsd⟩ : ∃ x, x = (Gr.spot n done k).1 := ⟨_, rfl⟩
      obtain ⟨sr, hsr⟩ : ∃ x, x = (Gr.spot n done k).2 := ⟨_, rfl⟩
      have hsd9 : sd ≤ n := by rw [hsd]; exact Gr.spot_disk h0 done k
      have hsr9 : sr ≤ k := by rw [hsr]; exact Gr.spot_row n done k
      have hsp : Gr.spot n done k = (sd, sr) := by rw [hsd, hsr]
      rw [hsp] at HAt
      have Hsp := Lib.hid hsp
      clear hsd hsr hsp
      go_wp2_with fail
      refine HAt.out.mono ?_
      rintro e w1 ⟨rfl, hb1⟩
      clear HAt
      have hb2 : Below w1.heap.size w1 (w1.alloc (.cells #[iv sd, iv sr] 29)) := (Below.refl _ _).alloc (Nat.le_refl _) _
      have hb3 := hb1.trans (hb2.mono hb1.size)
      have HA3 := Lib.hid (HA.out.below hb3)
      have HK3 := Lib.hid (HK.out.also (Kept.new F hb3))
      have HL3 := Lib.hid (HL.out.below hb3)
      have hz1 := hb1.size
      clear hb1 hb2 hb3 HA HK HL
      go_wp2_with fail
      have s0 : (w1.alloc (.cells #[iv sd, iv sr] 29)).cell? ⟨w1.heap.size, 0, none⟩ = some (iv sd) := by rw [cell_of_row _ _ _ _ _ _ (heap_alloc_new _ _)]; rfl
      have s1 : (w1.alloc (.cells #[iv sd, iv sr] 29)).cell? ⟨w1.heap.size, 1, none⟩ = some (iv sr) := by rw [cell_of_row _ _ _ _ _ _ (heap_alloc_new _ _)]; rfl
      obtain ⟨S, hS⟩ : ∃ S, S = w1.heap.size := ⟨_, rfl⟩
      obtain ⟨wB, hwB⟩ : ∃ wB, wB = w1.alloc (.cells #[iv sd, iv sr] 29) := ⟨_, rfl⟩
      rw [← hwB] at HA3 HK3 HL3 s0 s1 ⊢
      rw [← hS] at s0 s1 ⊢
      clear hwB hS
      have l0 := HL3.out.cell (j := sd) (by omega)
      have hlb9 := last_bound (Gr.spot n done) (Gr.spot_row n done) sd k
      obtain ⟨lv, hlv⟩ : ∃ lv, lv = Gr.last (Gr.spot n done) sd k := ⟨_, rfl⟩
      rw [← hlv] at l0 hlb9
      have hsdI : (sd : Int) < (n : Int) + 1 := by omega
      have Hlv := Lib.hid hlv
      clear hlv
      go_still_tail 13, (by kernel_rfl)
      have hw1 : IntKind.i64.wrap ((sr : Int) + 1) = (sr : Int) + 1 := IntWalk.i64_in _ (by omega)
      have hmx : (if (lv : Int) < (sr : Int) + 1 then (sr : Int) + 1 else (lv : Int)) = ((max lv (sr + 1) : Nat) : Int) := by split <;> omega
      have hmx2 : max (lv : Int) ((sr : Int) + 1) = ((max lv (sr + 1) : Nat) : Int) := by omega
      first
        | rw [hw1, hmx]
        | rw [hw1, hmx2]
      change wpList _ _ _ _ _ wB.drew
      obtain ⟨wE, hwE⟩ : ∃ wE, wE = wB.drew := ⟨_, rfl⟩
      rw [← hwE]
      have hbE : Below wB.heap.size wB wE := by rw [hwE]; exact (Below.refl _ _).drew
      have HAE := Lib.hid (HA3.out.below hbE)
      have HKE := Lib.hid (HK3.out.also (Kept.new F hbE))
      have HLE := Lib.hid (HL3.out.below hbE)
      have k0 := HLE.out.cell (j := sd) (by omega)
      rw [← Hlv.out] at k0
      have k1 := HLE.out.fz sd
      have hk9 : Kept (· = lb) wE (wE.setCell ⟨lb, sd, none⟩ (iv ((max lv (sr + 1) : Nat) : Int))) := (Kept.self lb wE).set1 _ _
      have HAF := Lib.hid (HAE.out.kept hk9 HFl.out.2.1 HFl.out.2.2.1 (fun i hi k hk e => HFl.out.2.2.2 i hi (by rw [hk, e])))
      have HKF := Lib.hid (HKE.out.also (hk9.mono (fun k _ e => by rw [e]; exact HFl.out.1)))
      have HLF : Hid (LsAt (wE.setCell ⟨lb, sd, none⟩ (iv ((max lv (sr + 1) : Nat) : Int))) lb (n + 1) (fun d => Gr.last (Gr.spot n done) d (k + 1))) := Lib.hid (by
        rw [last_upd, Hsp.out]
        show LsAt _ lb (n + 1) (upd _ sd (max (Gr.last (Gr.spot n done) sd k) (sr + 1)))
        rw [← Hlv.out]
        exact HLE.out.set (j := sd) (by omega) _)
      generalize ((max lv (sr + 1) : Nat) : Int) = mx at *
      clear hwE hbE HA3 HK3 HL3 s0 s1 l0 HAE HKE HLE hk9 hw1 hmx hmx2
      go_wp2_with fail
      go_roundg (gk - 1)
      case measure => have := Hk.out; omega
      case rel => exact ⟨k + 1, by have := Hk.out; omega, by go_num, HAF.out, HKF.out, HLF.out⟩
    · obtain rfl : k = m := by have := Hk.out; omega
      clear Hk
      go_wp2_with fail
      go_loopg [5, 6, 39] (n + 1) (fun gk v5 v6 v39 wr => Cut2 F b g c n k done lb D w gk v39 wr)
      case atStart => exact ⟨0, by omega, rfl, vs, HA.out.ext (fun i _ => rfl), HI.out, HK.out, HL.out, HFl.out⟩
      case round =>
        clear HA HK HL HI HFl
        obtain ⟨x, hx, rfl, vs', hA, hI, hK, hL, hFl⟩ := hrel
        have Hx := Lib.hid hx
        have HA := Lib.hid hA
        have HI := Lib.hid hI
        have HK := Lib.hid hK
        have HL := Lib.hid hL
        have HFl := Lib.hid hFl
        clear hA hI hK hL hFl
        by_cases hxn : x < n + 1
        · have hDx : (fun y => if y < x then (D y).take (Gr.last (Gr.spot n done) y k) else D y) x = D x := if_neg (by omega)
          have l0 := HL.out.cell (j := x) hxn
          have hrow := HA.out.ds.rows x hxn
          simp only [if_neg (Nat.lt_irrefl x)] at hrow
          have hlx := HLe.out x (by omega)
          obtain ⟨lv, hlv⟩ : ∃ lv, lv = Gr.last (Gr.spot n done) x k := ⟨_, rfl⟩
          rw [← hlv] at l0 hlx
          obtain ⟨pv, cv, hv, _, hLc, hcm2, hcut, hblk⟩ := owns_cut hrow hlx
          obtain ⟨_, _, _, hc, hf⟩ := HA.out.ds.outer (by omega)
          have c0 := HA.out.c0
          have d0 := hc x hxn
          rw [hv] at d0
          have f0 := hf x
          have hxI : (x : Int) < (n : Int) + 1 := by omega
          have hll := HLl.out x (by omega)
          have hlvI : (lv : Int) ≤ ((D x).length : Int) := by omega
          obtain ⟨L, hL⟩ : ∃ L, L = (D x).length := ⟨_, rfl⟩
          rw [← hL] at hlx hLc d0 hlvI hll
          have hvvI : (lv : Int) ≤ (cv : Int) := by omega
          have hvv0 : (0 : Int) ≤ (lv : Int) := by omega
          have Hv := Lib.hid hv
          have Hcut := Lib.hid hcut
          have Hblk := Lib.hid hblk
          have Hlv := Lib.hid hlv
          have HDx := Lib.hid hDx
          unfold maxLen at hcm2
          clear hx hDx hrow hlv hv hcut hblk hc hf hL
          go_wp2_with fail
          go_still_tail 15, (by kernel_rfl)
          change wpList _ _ _ _ _ wr.drew
          obtain ⟨wE, hwE⟩ : ∃ wE, wE = wr.drew := ⟨_, rfl⟩
          rw [← hwE]
          have hbE : Below wr.heap.size wr wE := by rw [hwE]; exact (Below.refl _ _).drew
          have HAE := Lib.hid (HA.out.below hbE)
          have e0 := (hbE.cell (p := ⟨g, x, none⟩) (World.block_lt_of_cell? wr _ d0)).trans d0
          have e1 := (hbE.frozen (p := ⟨g, x, none⟩) (World.block_lt_of_cell? wr _ d0)).trans f0
          have HKE := Lib.hid ((HK.out.also (Kept.new F hbE)).setCell (p := ⟨g, x, none⟩) (fun _ => HI.out.2.1) (.slice pv lv cv))
          have hT := HAE.out.turn (i := x) (v' := .slice pv lv cv) (k := lv) (l := (D x).take lv) hxn (Kept.refl _ wE) (by rw [List.map_take]; exact owns_below Hcut.out hbE) (fun k hk => .inl (by rw [← Hblk.out]; exact hk))
          have HT : Hid (GroAt (wE.setCell ⟨g, x, none⟩ (.slice pv lv cv)) b g c n k done (upd vs' x (.slice pv lv cv)) (fun y => if y < x + 1 then (D y).take (Gr.last (Gr.spot n done) y k) else D y)) := Lib.hid (hT.ext (fun i hi => by
            by_cases e : i = x
            · subst e; rw [upd_self, if_pos (by omega), Hlv.out]
            · rw [upd_ne _ _ e]
              by_cases e2 : i < x
              · rw [if_pos e2, if_pos (by omega)]
              · rw [if_neg e2, if_neg (by omega)]))
          have HIT : Hid (GroIn F b g n (upd vs' x (.slice pv lv cv))) := Lib.hid ⟨HI.out.1, HI.out.2.1, fun i hi q hq => by
            by_cases e : i = x
            · subst e; rw [upd_self, Hblk.out] at hq; exact HI.out.2.2 i hi q hq
            · rw [upd_ne _ _ e] at hq; exact HI.out.2.2 i hi q hq⟩
          have HLT : Hid (LsAt (wE.setCell ⟨g, x, none⟩ (.slice pv lv cv)) lb (n + 1) (fun d => Gr.last (Gr.spot n done) d k)) := Lib.hid ((HL.out.below hbE).kept ((Kept.self g wE).set1 x (.slice pv lv cv)) (fun e => HFl.out.2.2.1 e.symm))
          have HFT : Hid (F lb ∧ b ≠ lb ∧ g ≠ lb ∧ ∀ i, i < n + 1 → (upd vs' x (.slice pv lv cv) i).ownBlock ≠ some lb) := Lib.hid ⟨HFl.out.1, HFl.out.2.1, HFl.out.2.2.1, fun i hi => by
            by_cases e : i = x
            · subst e; rw [upd_self, Hblk.out]; exact HFl.out.2.2.2 i hi
            · rw [upd_ne _ _ e]; exact HFl.out.2.2.2 i hi⟩
          clear hwE hbE HA HI HK HL HFl HAE hT c0 d0 f0
          go_wp2_with fail
          go_roundg (gk - 1)
          case measure => have := Hx.out; omega
          case rel => exact ⟨x + 1, by have := Hx.out; omega, by go_num, _, HT.out, HIT.out, HKE.out, HLT.out, HFT.out⟩
        · have HT := Lib.hid (HA.out.ext (D' := fun y => (D y).take (Gr.last (Gr.spot n done) y k)) (fun i hi => if_pos (by have := Hx.out; omega)))
          clear HA
          go_wp2_with fail
          go_end0
          exact ⟨rfl, _, HT.out, HI.out, HK.out⟩
end Go.Proofs.YtcldioneiededaaDoor
