/- The walk of the law LayoutEach: it returns true. -/
import Derived.Test.YtloaekdijpcmiaaOrder
namespace Go.Proofs.Ytloaekdijpcmiaa
open Go.ChangeShapes Go.WideShapes Go.ChangeAt Go.RowKit
set_option linter.unusedVariables false

/-- ten marks in block B: a mark stands only where f m stands for an m below k -/
def Marks10 (B : Nat) (f : Int → Int) (k : Nat) (wr : World) : Prop :=
  B < wr.heap.size ∧ ∀ j : Nat, j < 10 → wr.frozen? ⟨B, j, none⟩ = false ∧ ∃ b : Bool, wr.cell? ⟨B, j, none⟩ = some (.bool b) ∧ (b = true → ∃ m : Nat, m < k ∧ f m = j)
theorem Marks10.below {B : Nat} {f : Int → Int} {k : Nat} {w w' : World} (h : Marks10 B f k w) (hb : Below w.heap.size w w') : Marks10 B f k w' := by
  refine ⟨Nat.lt_of_lt_of_le h.1 hb.size, fun j hj => ?_⟩
  obtain ⟨h1, b, h2, h3⟩ := h.2 j hj
  exact ⟨by rw [hb.frozen (p := ⟨B, j, none⟩) h.1]; exact h1, b, by rw [hb.cell (p := ⟨B, j, none⟩) h.1]; exact h2, h3⟩
theorem Marks10.set {B : Nat} {f : Int → Int} {k : Nat} {w : World} (h : Marks10 B f k w) {x : Nat} (hx : x < 10) (hf : f k = x) : Marks10 B f (k + 1) (w.setCell ⟨B, x, none⟩ (.bool true)) := by
  refine ⟨by simpa [World.setCell] using h.1, fun j hj => ?_⟩
  obtain ⟨h1, b, h2, h3⟩ := h.2 j hj
  refine ⟨by rw [World.frozen?_setCell]; exact h1, ?_⟩
  by_cases e : j = x
  · subst e
    exact ⟨true, World.cell?_setCell_same _ _ _ h2, fun _ => ⟨k, by omega, hf⟩⟩
  · refine ⟨b, ?_, fun hb' => ?_⟩
    · rw [World.cell?_setCell_other _ _ _ _ (by intro h; injection h with _ h2; exact e h2.symm)]
      exact h2
    · obtain ⟨m, hm1, hm2⟩ := h3 hb'
      exact ⟨m, by omega, hm2⟩
theorem Marks10.other {B : Nat} {f : Int → Int} {k : Nat} {w : World} (h : Marks10 B f k w) {C x : Nat} (hne : C ≠ B) (u : Value) : Marks10 B f k (w.setCell ⟨C, x, none⟩ u) := by
  refine ⟨by simpa [World.setCell] using h.1, fun j hj => ?_⟩
  obtain ⟨h1, b, h2, h3⟩ := h.2 j hj
  refine ⟨by rw [World.frozen?_setCell]; exact h1, b, ?_, h3⟩
  rw [World.cell?_setCell_other _ _ _ _ (by intro h; injection h with h2 _; exact hne h2)]
  exact h2
def bools10 : Array Value := Array.replicate 10 (.bool false)
theorem zero_bools10 (w : World) : (zeroValue 46).run Try.prog w = .ok (.agg bools10) w := by kernel_rfl
theorem Marks10.new (w : World) (f : Int → Int) : Marks10 w.heap.size f 0 (w.alloc (.cells bools10 46)) := by
  have hh : (w.alloc (.cells bools10 46)).heap[w.heap.size]? = some (.cells bools10 46 (0, 0)) := heap_alloc_new w _
  refine ⟨by simp, fun j hj => ⟨frozen_of_row _ _ _ _ _ hh, false, ?_, fun h => by cases h⟩⟩
  rw [cell_of_row _ _ _ _ _ _ hh]
  unfold bools10; rw [Array.getElem?_replicate, if_pos hj]

/-- what holds at the head of each round of the first loop -/
def EachRel (n row : Int) (B g N : Nat) (w : World) (i : Value) (wr : World) : Prop :=
  ∃ k : Nat, k ≤ N ∧ i = iv k ∧ Marks10 B (fun m => Lay.disk n row m) k wr ∧ Marks10 (B + 1) (fun m => n - 1 - m) 0 wr ∧
    (∀ j : Nat, j < N → wr.cell? ⟨g, j, none⟩ = some (iv (Lay.disk n row j))) ∧ g < B ∧ Below w.heap.size w wr
/-- and of the second -/
def EachRel2 (n : Int) (B N : Nat) (w : World) (i : Value) (wr : World) : Prop :=
  ∃ k : Nat, k ≤ N ∧ i = iv k ∧ Marks10 (B + 1) (fun m => n - 1 - m) k wr ∧ Below w.heap.size w wr

set_option maxRecDepth 100000 in
set_option maxHeartbeats 4000000 in
theorem layoutEach_walk (n b row : Int) (hn : (Lit.int .i64 n).wf = true) (hb : (Lit.int .i64 b).wf = true) (hr : (Lit.int .i64 row).wf = true) (w : World) :
    Calls Try.prog 7 #[iv n, iv b, iv row] w fun e w' => e = .returned (.bool true) ∧ Below w.heap.size w w' := by
  have hn1 := bounds_i64 hn
  have hb1 := bounds_i64 hb
  have hr1 := bounds_i64 hr
  clear hn hb hr
  have hzero := zero_bools10
  go_enter Try.func7, Try.ntmps7
  go_wp2_with fail
  refine (order_yes 3 0 (by omega) (by omega) (by omega) (by omega) _).mono ?_
  rintro e w1 ⟨v, rfl, hown, hb1⟩
  obtain ⟨g, cap, rfl, hg1, hg2, hg3, hg4, hcells, hfz⟩ := owns_pos hown (by decide)
  have q0 : w1.cell? ⟨g, 0, none⟩ = some (iv 1) := by rw [hcells 0 (by decide), Lay.orderL_get (by decide)]; rfl
  have q1 : w1.cell? ⟨g, 1, none⟩ = some (iv 2) := by rw [hcells 1 (by decide), Lay.orderL_get (by decide)]; rfl
  have q2 : w1.cell? ⟨g, 2, none⟩ = some (iv 0) := by rw [hcells 2 (by decide), Lay.orderL_get (by decide)]; rfl
  clear hcells hfz hown
  by_cases hnok : n < 3 ∨ 10 < n
  · go_wp2_with fail
    refine (data_no1 n b hnok _).mono ?_
    rintro e w2 ⟨rfl, hb2⟩
    go_wp2_with fail
    refine (order_no1 n row hnok _).mono ?_
    rintro e w' ⟨rfl, rfl⟩
    go_wp2_with fail
    go_ret
    exact ⟨rfl, (hb1.trans (hb2.mono hb1.size)).alloc (by have := hb1.size; have := hb2.size; omega) _⟩
  have h3 : 3 ≤ n := by omega
  have h10 : n ≤ 10 := by omega
  clear hnok
  have hb1z := hb1.size
  -- the first part: both ways come to the call of Order
  by_cases hd : 0 ≤ b ∧ b / (n - 2) < 20
  case' pos =>
    obtain ⟨hd1, hd2⟩ := hd
    have e1 := Int.emod_nonneg b (by omega : n - 2 ≠ 0)
    have e2 := Int.emod_lt_of_pos b (by omega : 0 < n - 2)
    have e3 : 0 ≤ b / (n - 2) := Int.ediv_nonneg hd1 (by omega)
    have e4 := Lay.disk_bd (n := n) (row := b / (n - 2)) (i := b % (n - 2)) (by omega)
    have hrl := Lay.role_disk (k := b % (n - 2)) h3 h10 e3 e1 (by omega)
    rw [if_neg (by omega)] at hrl
    have hbk := Lay.back h3 h10 hd1
    generalize hq : Lay.disk n (b / (n - 2)) (b % (n - 2)) = q at *
    have t1 : (b / (n - 2) * (n - 2) + Lay.role n q (b / (n - 2)) != b) = false := bne_f (by rw [hrl, hbk])
    have t2 : decide (Lay.role n q (b / (n - 2)) < 0) = false := dec_f (by rw [hrl]; omega)
    have t3 : (Lay.role n q (b / (n - 2)) != b % (n - 2)) = false := bne_f hrl
    have t4 : ¬ Lay.role n q (b / (n - 2)) < 0 := by rw [hrl]; omega
    have Hq := Lib.hid hq
    have Hrl := Lib.hid hrl
    clear hq hrl hbk
    go_wp2_with fail
    refine (data_yes n b h3 h10 hd1 hd2 (by omega) _).mono ?_
    rintro e w2 ⟨rfl, hb2⟩
    rw [Hq.out]
    go_wp2_with fail
    refine (block_yes n q (b / (n - 2)) h3 h10 e4.1 e4.2 e3 hd2 (by rw [Hrl.out]; exact e1) _).mono ?_
    rintro e w3 ⟨rfl, hb3⟩
    obtain ⟨hc3, hf3⟩ := bcell hb3
    go_wp2_with fail
    refine (role_yes n q (b / (n - 2)) h3 h10 e4.1 e4.2 e3 hd2 _).mono ?_
    rintro e W ⟨rfl, hb4⟩
    clear hc3 hf3
    go_wp2_with fail
    have hbW : Below w.heap.size w W := ((hb1.trans (hb2.mono hb1.size)).alloc (by have := hb1.size; have := hb2.size; omega) _).trans ((hb3.mono (by have := hb1.size; have := hb2.size; simp; omega)).trans (hb4.mono (by have := hb1.size; have := hb2.size; have := hb3.size; simp at this; omega)))
    clear hb2 hb3 hb4 t1 t2 t3 t4 e1 e2 e3 e4 hd1 hd2
  case' neg =>
    go_wp2_with fail
    refine (data_no2 n b h3 h10 (by omega) (by omega) (by omega) _).mono ?_
    rintro e w2 ⟨rfl, hb2⟩
    go_wp2_with fail
    have hbW : Below w.heap.size w (w2.alloc (.cells #[.int .i64 0, .int .i64 0] 42)) := (hb1.trans (hb2.mono hb1.size)).alloc (by have := hb1.size; have := hb2.size; omega) _
    generalize w2.alloc (.cells #[.int .i64 0, .int .i64 0] 42) = W at *
    clear hb2 hd
  all_goals
    by_cases hrow : row < 0 ∨ 0 ≤ row ∧ 20 ≤ row
    · refine (order_no2 n row h3 h10 hrow _).mono ?_
      rintro e w' ⟨rfl, rfl⟩
      go_wp2_with fail
      go_ret
      exact ⟨rfl, hbW⟩
    · have hrow0 : 0 ≤ row := by omega
      have hrow20 : row < 20 := by omega
      refine (order_yes n row h3 h10 hrow0 hrow20 _).mono ?_
      rintro e w5 ⟨v, rfl, hown5, hb5⟩
      obtain ⟨g5, cap5, rfl, hg51, hg52, hg53, hg54, hcells5, hfz5⟩ := owns_pos hown5 (by omega)
      clear q0 q1 q2 hg1 hg2 hg3 hg4 hown5 hfz5 hrow
      have hlen : (((n.toNat : Nat) : Int) != n) = false := bne_f (by omega)
      have Hcells := Lib.hid hcells5
      clear hcells5
      have hz5 := hb5.size
      have hbz := hbW.size
      have hB5 := hbW.trans (hb5.mono hbz)
      clear hb5 hbW hb1 hb1z
      generalize hNN : n.toNat = N at *
      have HN := Lib.hid hNN
      clear hNN
      go_wp2_with fail
      have hcs : ∀ j : Nat, j < N → w5.cell? ⟨g5, j, none⟩ = some (iv (Lay.disk n row j)) := fun j hj => by rw [Hcells.out j hj]; exact Lay.orderL_get hj
      have Hcs := Lib.hid hcs
      clear hcs Hcells
      have HB5 := Lib.hid hB5
      clear hB5
      go_loopw [18] (fun i wr => EachRel n row w5.heap.size g5 N w i wr) (fun i _ => N - (intOf i).toNat)
      case atStart =>
        have hM1 := Marks10.new w5 (fun m => Lay.disk n row m)
        have hM2 := Marks10.new (w5.alloc (.cells bools10 46)) (fun m => n - 1 - m)
        rw [World.size_alloc] at hM2
        refine ⟨0, by omega, rfl, hM1.below ((Below.refl _ _).alloc (Nat.le_refl _) _), hM2, fun j hj => ?_, hg52, (HB5.out.alloc (by omega) _).alloc (by simp; omega) _⟩
        have c1 := ((Below.refl w5.heap.size w5).alloc (Nat.le_refl _) (.cells bools10 46)).cell (p := ⟨g5, j, none⟩) hg52
        have c2 := ((Below.refl (w5.heap.size + 1) (w5.alloc (.cells bools10 46))).alloc (by simp) (.cells bools10 46)).cell (p := ⟨g5, j, none⟩) (by simp; omega)
        rw [c2, c1]
        exact Hcs.out j hj
      case round =>
        obtain ⟨k, hk, rfl, hM1, hM2, hC, hgB, hB⟩ := hrel
        by_cases hlt : k < N
        · have hkn : (k : Int) < n := by have := HN.out; omega
          obtain ⟨x, hx⟩ : ∃ x : Nat, Lay.disk n row k = x := ⟨(Lay.disk n row k).toNat, by have := (Lay.disk_bd (n := n) (row := row) (i := k) (by omega)).1; omega⟩
          have hxn : (x : Int) < n := by have := (Lay.disk_bd (n := n) (row := row) (i := k) (by omega)).2; omega
          have hcell : wr.cell? ⟨g5, k, none⟩ = some (iv x) := by rw [hC k hlt, hx]
          obtain ⟨hfr, bb, hbb, hbt⟩ := hM1.2 x (by omega)
          have hb0 : bb = false := by
            cases bb with
            | false => rfl
            | true =>
              obtain ⟨m, hm1, hm2⟩ := hbt rfl
              have hm2' : Lay.disk n row m = x := hm2
              have := Lay.disk_inj h3 h10 hrow0 (by omega) hkn (by omega) (by omega) (hm2'.trans hx.symm)
              omega
          subst hb0
          have hrl := Lay.role_disk h3 h10 hrow0 (by omega) hkn
          rw [hx] at hrl
          have hx10 : (x : Int) < 10 := by omega
          have HM1 := Lib.hid (hM1.set (by omega) hx)
          have HM2 := Lib.hid (hM2.other (C := w5.heap.size) (x := x) (by omega) (.bool true))
          have hz1 := hM1.1
          have hz2 := hM2.1
          have HB := Lib.hid hB
          have HC := Lib.hid hC
          have Hrl := Lib.hid hrl
          have Hx := Lib.hid hx
          clear hM1 hM2 hB hC hbt hx hrl
          by_cases hq : n - 2 ≤ (k : Int)
          case' pos => have t1 : (Lay.role n x row != n - 3 - k) = false := bne_f (by rw [Hrl.out, if_pos hq])
          case' neg => have t1 : (Lay.role n x row != k) = false := bne_f (by rw [Hrl.out, if_neg hq])
          all_goals
            go_wp2_with fail
            refine (role_yes n x row h3 h10 (by omega) hxn hrow0 hrow20 _).mono ?_
            rintro e w6 ⟨rfl, hb6⟩
            obtain ⟨hc6, hf6⟩ := bcell hb6
            go_wp2_with fail
            go_roundw
            case rel =>
              have hz6 : (wr.setCell ⟨w5.heap.size, x, none⟩ (.bool true)).heap.size = wr.heap.size := by simp [World.setCell]
              refine ⟨k + 1, by omega, by go_num, HM1.out.below hb6, HM2.out.below hb6, fun j hj => ?_, hgB, (HB.out.setCell (by show w.heap.size ≤ w5.heap.size; omega) _).trans (hb6.mono (by have := HB.out.size; rw [hz6]; exact this))⟩
              rw [hb6.cell (p := ⟨g5, j, none⟩) (by show g5 < _; omega), World.cell?_setCell_other _ _ _ _ (by intro h; injection h with h2 _; omega)]
              exact HC.out j hj
            case measure => simp [intOf]; omega
        · obtain rfl : k = N := by omega
          clear hC
          have HM2 := Lib.hid hM2
          have HB := Lib.hid hB
          have hz2 := hM2.1
          clear hM1 hM2 hB
          have hnk : n ≤ (k : Int) := by have := HN.out; omega
          have hkn : (k : Int) ≤ n := by have := HN.out; omega
          clear hlt hk
          go_wp2_with fail
          go_loopw [22] (fun i wr => EachRel2 n w5.heap.size k w i wr) (fun i _ => k - (intOf i).toNat)
          case atStart => exact ⟨0, by omega, rfl, HM2.out, HB.out⟩
          case round =>
            rename_i wr'
            clear HM2 HB hz2
            obtain ⟨r, hr, rfl, hM2, hB⟩ := hrel
            by_cases hlt : r < k
            · have hrn : (r : Int) < n := by omega
              go_wp2_with fail
              refine (order_yes n r h3 h10 (by omega) (by omega) _).mono ?_
              rintro e w6 ⟨v, rfl, hown6, hb6⟩
              obtain ⟨g6, cap6, rfl, hg61, hg62, hg63, hg64, hcells6, hfz6⟩ := owns_pos hown6 (by omega)
              obtain ⟨x, hx⟩ : ∃ x : Nat, n - 1 - r = x := ⟨(n - 1 - r).toNat, by omega⟩
              have hP := Lay.disk_P h3 h10 (by omega : (0 : Int) ≤ r) hrn
              obtain ⟨s, hs⟩ : ∃ s : Nat, n - 2 = s := ⟨(n - 2).toNat, by omega⟩
              have hcell : w6.cell? ⟨g6, (n - 2).toNat, none⟩ = some (iv x) := by
                rw [hcells6 _ (by omega), Lay.orderL_get (by omega), show (((n - 2).toNat : Nat) : Int) = n - 2 by omega, hP, hx]
              obtain ⟨hfr, bb, hbb, hbt⟩ := (hM2.below hb6).2 x (by omega)
              have hb0 : bb = false := by
                cases bb with
                | false => rfl
                | true =>
                  obtain ⟨m, hm1, hm2⟩ := hbt rfl
                  have hm2' : n - 1 - (m : Int) = x := hm2
                  omega
              subst hb0
              have hxn : (x : Int) < n := by omega
              have hx10 : (x : Int) < 10 := by omega
              have HM2 := Lib.hid ((hM2.below hb6).set (by omega) hx)
              have HB := Lib.hid (hB.trans (hb6.mono hB.size))
              have hlen6 : (((n.toNat : Nat) : Int) != n) = false := bne_f (by omega)
              have hn2 : ((n - 2).toNat : Int) < (n.toNat : Int) := by omega
              clear hM2 hB hbt hcells6 hfz6 hown6 hx hP hs hb6
              go_wp2_with fail
              go_roundw
              case rel => exact ⟨r + 1, by omega, by go_num, HM2.out, HB.out.setCell (by show w.heap.size ≤ w5.heap.size + 1; omega) _⟩
              case measure => simp [intOf]; omega
            · obtain rfl : r = k := by omega
              clear hM2 hlt hr
              have HB := Lib.hid hB
              clear hB
              go_wp2_with fail
              go_ret
              exact ⟨rfl, HB.out⟩
end Go.Proofs.Ytloaekdijpcmiaa
