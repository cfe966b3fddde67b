/- The walk of the references' Fatal. -/
import Derived.Test.YtkkfpdjhnffpbaaDoorROddA
namespace Go.Proofs.YtkkfpdjhnffpbaaDoor
open Go.ChangeShapes Go.WideShapes Go.ChangeAt Go.RowKit
set_option linter.unusedVariables false
namespace Od
theorem pop_n : ∀ n, n ≤ 10 → ∀ x, x < 2 ^ n → (List.range n).countP (fun i => x.testBit i) = pop x := by decide +kernel
theorem count_in {t : List Nat} (h : t.Nodup) (ht : ∀ d ∈ t, d < 10) (p : Nat → Bool) : (List.range 10).countP (fun i => p i && t.contains i) = t.countP p := by
  rw [← List.countP_filter]
  have hp : List.Perm ((List.range 10).filter (fun i => t.contains i)) t := by
    rw [List.perm_ext_iff_of_nodup (List.Pairwise.filter _ List.nodup_range) h]
    intro a
    rw [List.mem_filter, List.mem_range]
    constructor
    · rintro ⟨_, h⟩; exact List.contains_iff_mem.1 h
    · intro h; exact ⟨ht a h, List.contains_iff_mem.2 h⟩
  exact hp.countP_eq p
theorem pop_mask {set : Nat} {s : List Int} (hnd : s.Nodup) (hs : ∀ d ∈ s, 0 ≤ d ∧ d < 10) : pop (set &&& mask (nats s)) = s.countP (fun d => set.testBit d.toNat) := by
  unfold pop
  have e : (fun i => (set &&& mask (nats s)).testBit i) = fun i => set.testBit i && (nats s).contains i := by funext i; rw [Nat.testBit_and, mask_bit]
  rw [e, count_in]
  · unfold nats; rw [List.countP_map]; rfl
  · unfold nats
    rw [List.Nodup, List.pairwise_map]
    refine List.Pairwise.imp_of_mem ?_ hnd
    intro a b ha hb hne e
    have h1 := hs a ha
    have h2 := hs b hb
    exact hne (by omega)
  · intro d hd
    obtain ⟨x, hx, rfl⟩ := List.mem_map.1 hd
    have := hs x hx
    omega
def lostC (set : Nat) (s : List Int) (j : Nat) : Nat := (s.take j).countP (fun d => set.testBit d.toNat)
theorem lostC_succ {set : Nat} {s : List Int} {j : Nat} {d : Int} (h : s[j]? = some d) : lostC set s (j + 1) = lostC set s j + if set.testBit d.toNat = true then 1 else 0 := by
  unfold lostC
  rw [List.take_add_one, h, List.countP_append]
  show _ + List.countP _ [d] = _
  rw [List.countP_singleton]
theorem lostC_le (set : Nat) (s : List Int) (j : Nat) : lostC set s j ≤ j := by
  unfold lostC
  exact Nat.le_trans (List.countP_le_length) (by rw [List.length_take]; omega)
def badC (set : Nat) (l : List (List Int)) (p : Int) (i : Nat) : Bool := (l.take i).any (fun s => decide (p < (lostC set s s.length : Int)))
theorem badC_succ {set : Nat} {l : List (List Int)} {p : Int} {i : Nat} {s : List Int} (h : l[i]? = some s) : badC set l p (i + 1) = (badC set l p i || decide (p < (lostC set s s.length : Int))) := by
  unfold badC
  rw [List.take_add_one, h, List.any_append]; simp
theorem badC_full {set : Nat} {l : List (List Int)} {p : Int} (hok : ∀ s ∈ l, s.Nodup ∧ ∀ d ∈ s, 0 ≤ d ∧ d < 10) : badC set l p l.length = fatal set (natss l) p := by
  unfold badC fatal natss
  rw [List.take_length, List.any_map]
  have e : ∀ s, s ∈ l → decide (p < (lostC set s s.length : Int)) = decide (p < (pop (set &&& mask (nats s)) : Int)) := fun s hs => by
    rw [pop_mask (hok s hs).1 (hok s hs).2]
    unfold lostC
    rw [List.take_length]
  rw [Bool.eq_iff_iff, List.any_eq_true, List.any_eq_true]
  exact ⟨fun ⟨s, hs, h⟩ => ⟨s, hs, (e s hs).symm.trans h⟩, fun ⟨s, hs, h⟩ => ⟨s, hs, (e s hs).trans h⟩⟩
def bitsC (set j : Nat) : Nat := (List.range j).countP (fun i => set.testBit i)
theorem bitsC_succ (set j : Nat) : bitsC set (j + 1) = bitsC set j + if set.testBit j = true then 1 else 0 := by
  unfold bitsC
  rw [List.range_succ, List.countP_append, List.countP_singleton]
def rowB (n set j : Nat) : List Value := (List.range n).map (fun i => .bool (decide (i < j) && set.testBit i))
theorem rowB_len (n set j : Nat) : (rowB n set j).length = n := by unfold rowB; simp
theorem rowB_at {n set j i : Nat} (h : i < n) : (rowB n set j)[i]? = some (.bool (decide (i < j) && set.testBit i)) := by unfold rowB; rw [List.getElem?_map, List.getElem?_range h]; rfl
theorem rowB_no {n set j : Nat} (h : set.testBit j = false) : rowB n set (j + 1) = rowB n set j := by
  unfold rowB
  refine List.map_congr_left (fun i _ => ?_)
  by_cases e : i = j
  · subst e; rw [h]; simp
  · have : decide (i < j + 1) = decide (i < j) := decide_eq_decide.2 (by omega)
    rw [this]
theorem rowB_yes {n set j : Nat} (h : set.testBit j = true) : rowB n set (j + 1) = (rowB n set j).set j (.bool true) := by
  apply List.ext_getElem?
  intro i
  rw [List.getElem?_set, rowB_len]
  by_cases hi : i < n
  · rw [rowB_at hi, rowB_at hi]
    by_cases e : j = i
    · subst e; rw [if_pos rfl, if_pos hi, h, decide_eq_true (by omega)]; rfl
    · have : decide (i < j + 1) = decide (i < j) := decide_eq_decide.2 (by omega)
      rw [if_neg e, this]
  · rw [List.getElem?_eq_none (by rw [rowB_len]; omega), List.getElem?_eq_none (by rw [rowB_len]; omega)]
    split
    · rw [if_neg (by omega)]
    · rfl
theorem bit_rem (x j : Nat) : (x / 2 ^ j) % 2 = if x.testBit j = true then 1 else 0 := by
  rw [Nat.testBit_eq_decide_div_mod_eq]
  have := Nat.mod_two_eq_zero_or_one (x / 2 ^ j)
  by_cases h : x / 2 ^ j % 2 = 1
  · rw [h]; simp
  · have h0 : x / 2 ^ j % 2 = 0 := by omega
    rw [h0]; simp
end Od
theorem info_boolO : (Tryd.prog.info? 4).map (fun i => (i.zero, i.size, i.bytes)) = some (some (.bool false), 1, 1) := by kernel_rfl
theorem make_boolsO (n : Nat) (h : n ≤ 1000000) (w : World) : (Instr.makeSlice 48 (.int .i64 (n : Int)) (.int .i64 (n : Int))).run Tryd.prog w = .ok (.slice (some ⟨w.heap.size, 0, none⟩) n n) (w.alloc (.cells (madeCells #[.bool false] n) 4)) :=
  run_make_row' 48 4 (.bool false) 1 Tryd.underlying48 info_boolO rfl .i64 .i64 n (by omega) (by omega) w
theorem made_boolsO (n set : Nat) (hn : n ≤ 1000000) (w : World) : OwnR (w.alloc (.cells (madeCells #[.bool false] n) 4)) w.heap.size 4 (.slice (some ⟨w.heap.size, 0, none⟩) n n) (Od.rowB n set 0) := by
  have hl : (madeCells #[Value.bool false] n).toList = List.replicate n (.bool false) := toList_madeCells_one _ _
  have hs : (madeCells #[Value.bool false] n).size = n := by rw [← Array.length_toList, hl, List.length_replicate]
  refine .inr ⟨w.heap.size, 0, n, _, by rw [Od.rowB_len], Nat.le_refl _, heap_alloc_new w _, by rw [Od.rowB_len]; exact Nat.le_refl _, by unfold maxLen; omega, by rw [hs]; omega, fun j hj => ?_⟩
  rw [Od.rowB_len] at hj
  rw [Nat.zero_add, ← Array.getElem?_toList, hl, List.getElem?_replicate, if_pos hj, Od.rowB_at hj]; simp
set_option maxRecDepth 100000 in
set_option maxHeartbeats 4000000 in
theorem rfatal_any (n : Nat) (h1 : 1 ≤ n) (h10 : n ≤ 10) (l : List (List Int)) (hl : l.length ≤ 40) (hok : ∀ s ∈ l, s.Nodup ∧ ∀ d ∈ s, 0 ≤ d ∧ d < (n : Int)) (f : Nat) (p : Int) (v : Value) (w : World) (hv : Rows2 w v l) :
    Calls Tryd.prog 10 #[iv n, v, iv f, iv p] w fun e w' => e = .returned (iv (Od.cnt n (Od.natss l) p f)) ∧ Below w.heap.size w w' := by
  have HV := Lib.hid hv
  have Hok := Lib.hid hok
  obtain ⟨pp, cap, rfl, hl1, hl2⟩ := hv.shape
  unfold maxLen at hl2
  obtain ⟨m, hm⟩ : ∃ m, m = l.length := ⟨_, rfl⟩
  rw [← hm] at HV hl1 hl ⊢
  have Hm := Lib.hid hm
  obtain ⟨V, hV⟩ : ∃ V, V = Od.cnt n (Od.natss l) p f := ⟨_, rfl⟩
  rw [← hV]
  have HVv := Lib.hid hV
  clear hv hok hm hV
  go_enter Tryd.func10, Tryd.ntmps10
  go_wp2_with fail
  go_loopg [9, 10] n (fun gk v9 v10 wr => ∃ i : Nat, i + gk = n ∧ v10 = iv i ∧ v9 = iv ((2 ^ i : Nat) : Int) ∧ w = wr)
  case atStart => exact ⟨0, by omega, rfl, rfl, rfl⟩
  case round =>
    obtain ⟨i, hi, rfl, rfl, rfl⟩ := hrel
    have Hi := Lib.hid hi
    clear hi
    by_cases hin : i < n
    · have h2 : 2 ^ i ≤ 2 ^ 10 := Nat.pow_le_pow_right (by omega) (by omega)
      have h2' : (2 : Nat) ^ 10 = 1024 := by decide
      obtain ⟨x, hx⟩ : ∃ x, x = 2 ^ i := ⟨_, rfl⟩
      have hx2 : 2 ^ (i + 1) = 2 * x := by rw [Nat.pow_succ, hx, Nat.mul_comm]
      have Hx2 := Lib.hid hx2
      rw [← hx] at h2 ⊢
      have hw : IntKind.i64.wrap (2 * (x : Int)) = ((2 * x : Nat) : Int) := by rw [IntWalk.i64_in _ (by omega)]; omega
      have hiI : (i : Int) < (n : Int) := by omega
      clear hx hx2 h2'
      go_wp2_with fail
      go_roundg (gk - 1)
      case measure => have := Hi.out; omega
      case rel => exact ⟨i + 1, by have := Hi.out; omega, by go_num, by rw [Hx2.out]; exact congrArg (Value.int .i64) (by omega), rfl⟩
    · have hin' : i = n := by have := Hi.out; omega
      subst hin'
      obtain ⟨n, hn⟩ : ∃ n, n = i := ⟨_, rfl⟩
      subst hn
      have hiI : ¬ (n : Int) < (n : Int) := by omega
      have hN9 : 2 ^ n ≤ 2 ^ 10 := Nat.pow_le_pow_right (by omega) h10
      have h2' : (2 : Nat) ^ 10 = 1024 := by decide
      obtain ⟨N, hN⟩ : ∃ N, N = 2 ^ n := ⟨_, rfl⟩
      rw [← hN] at hN9 ⊢
      rw [h2'] at hN9
      have HN := Lib.hid hN
      clear hN h2' hin
      go_wp2_with fail
      go_loopg [11, 12, 13, 14, 15, 16, 17, 18, 19, 20] N (fun gk v11 v12 v13 v14 v15 v16 v17 v18 v19 v20 wr => ∃ set : Nat, set + gk = N ∧ v12 = iv set ∧ v11 = iv (Od.ctk (Od.natss l) p set f) ∧ Below w.heap.size w wr)
      case atStart => exact ⟨0, by omega, rfl, rfl, Below.refl _ _⟩
      case round =>
        obtain ⟨gO, hgO⟩ : ∃ x : Nat, x = gk := ⟨_, rfl⟩
        subst hgO
        obtain ⟨set, hs, rfl, rfl, hB⟩ := hrel
        have Hs := Lib.hid hs
        have HB := Lib.hid hB
        have hz := hB.size
        obtain ⟨ct, hct⟩ : ∃ c, c = Od.ctk (Od.natss l) p set f := ⟨_, rfl⟩
        have hct9 : ct ≤ set := by rw [hct]; exact Od.ctk_le _ _ _ _
        rw [← hct]
        have Hct := Lib.hid hct
        clear hs hB hct
        by_cases hsN : set < N
        · have hsI : (set : Int) < (N : Int) := by omega
          have mk := make_boolsO n (by omega) wr
          have hO0 := made_boolsO n set (by omega) wr
          have hal : Below wr.heap.size wr (wr.alloc (.cells (madeCells #[.bool false] n) 4)) := (Below.refl _ _).alloc (Nat.le_refl _) _
          obtain ⟨wB, hwB⟩ : ∃ x, x = wr.alloc (.cells (madeCells #[.bool false] n) 4) := ⟨_, rfl⟩
          rw [← hwB] at mk hal hO0
          obtain ⟨b, hb⟩ : ∃ b, b = wr.heap.size := ⟨_, rfl⟩
          rw [← hb] at mk hO0
          have hbw : w.heap.size ≤ b := by omega
          have HO0 := Lib.hid (OwnR.mono hO0 hbw)
          have HBB := Lib.hid (HB.out.trans (hal.mono hz))
          have hzB := HBB.out.size
          have Hb := Lib.hid hb
          clear hO0 hal hwB hb
          go_wp2_with fail
          go_loopg [13, 14, 16] n (fun gk v13 v14 v16 wr => ∃ j : Nat, j + gk = n ∧ v16 = iv j ∧ v13 = iv (Od.bitsC set j) ∧ v14 = iv ((set / 2 ^ j : Nat) : Int) ∧ OwnR wr w.heap.size 4 (.slice (some ⟨b, 0, none⟩) n n) (Od.rowB n set j) ∧ Kept (fun x => x = b) wB wr)
          case atStart => exact ⟨0, by omega, rfl, rfl, by rw [Nat.pow_zero, Nat.div_one], HO0.out, Kept.refl _ _⟩
          case round =>
            clear HO0
            obtain ⟨j, hj, rfl, rfl, rfl, hO, hK⟩ := hrel
            have Hj := Lib.hid hj
            have HO := Lib.hid hO
            have HK := Lib.hid hK
            clear hj hO hK
            by_cases hjn : j < n
            · have hjI : (j : Int) < (n : Int) := by omega
              obtain ⟨x, hx⟩ : ∃ x, x = set / 2 ^ j := ⟨_, rfl⟩
              have hbr := Od.bit_rem set j
              have hx9 : x ≤ set := by rw [hx]; exact Nat.div_le_self _ _
              have hdv : set / 2 ^ (j + 1) = x / 2 := by rw [hx, Nat.pow_succ, Nat.div_div_eq_div_mul]
              rw [← hx] at hbr ⊢
              have Hdv := Lib.hid hdv
              obtain ⟨bc, hbc⟩ : ∃ c, c = Od.bitsC set j := ⟨_, rfl⟩
              have hbc9 : bc ≤ 10 := by rw [hbc]; unfold Od.bitsC; exact Nat.le_trans List.countP_le_length (by rw [List.length_range]; omega)
              have hbs := Od.bitsC_succ set j
              rw [← hbc] at hbs ⊢
              have Hbs := Lib.hid hbs
              clear hx hdv hbc hbs
              have hq1 : IntKind.i64.wrap ((x : Int) / 2) = ((x / 2 : Nat) : Int) := by rw [IntWalk.i64_in _ (by omega)]; omega
              have hq2 : wrap64 ((x : Int) / 2) = ((x / 2 : Nat) : Int) := by rw [IntWalk.wrap64_in _ (by omega)]; omega
              have hqe : ((x / 2 : Nat) : Int) = (x : Int) / 2 := by omega
              have Hqe := Lib.hid hqe
              clear hqe
              cases hbit : set.testBit j with
              | true =>
                rw [hbit, if_pos rfl] at hbr
                obtain ⟨_, _, hz1, _, _, hcc, hfz⟩ := OwnR.cellsO HO.out (by rw [Od.rowB_len]; omega)
                have d0 := hcc j hjn
                rw [Od.rowB_at hjn, Nat.zero_add] at d0
                have f0 := hfz j
                have hO2 := OwnR.setAtO HO.out (k := j) (by rw [Od.rowB_len]; exact hjn) (.bool true)
                rw [← Od.rowB_yes hbit, Nat.zero_add] at hO2
                have HO2 := Lib.hid hO2
                have HK2 := Lib.hid (HK.out.set1 j (.bool true))
                have t1 : ((x : Int) % 2 == 1) = true := beq_t (by omega)
                have Hbs2 := Lib.hid (Hbs.out.trans (by rw [hbit, if_pos rfl]))
                clear hz1 hcc hfz hO2 hbit hbr Hbs
                go_wp2_with fail
                go_roundg (gk - 1)
                case measure => have := Hj.out; omega
                case rel => exact ⟨j + 1, by have := Hj.out; omega, by go_num, by rw [Hbs2.out]; go_num, by rw [Hdv.out]; first | rfl | exact congrArg (Value.int .i64) Hqe.out.symm, HO2.out, HK2.out⟩
              | false =>
                rw [hbit, if_neg (by decide)] at hbr
                have t1 : ((x : Int) % 2 == 1) = false := beq_f (by omega)
                have Hbs2 := Lib.hid (Hbs.out.trans (by rw [hbit, if_neg (by decide)]))
                have HO2 := Lib.hid (show OwnR wr w.heap.size 4 (.slice (some ⟨b, 0, none⟩) n n) (Od.rowB n set (j + 1)) by rw [Od.rowB_no hbit]; exact HO.out)
                clear hbit hbr Hbs
                go_wp2_with fail
                go_roundg (gk - 1)
                case measure => have := Hj.out; omega
                case rel => exact ⟨j + 1, by have := Hj.out; omega, by go_num, by rw [Hbs2.out]; rfl, by rw [Hdv.out]; first | rfl | exact congrArg (Value.int .i64) Hqe.out.symm, HO2.out, HK.out⟩
            · have hjn' : j = n := by have := Hj.out; omega
              have hpop : Od.bitsC set j = Od.pop set := by rw [hjn']; exact Od.pop_n n h10 set (by rw [← HN.out]; exact hsN)
              rw [hpop]
              obtain ⟨q, hq⟩ : ∃ q, q = Od.pop set := ⟨_, rfl⟩
              rw [← hq]
              have Hq := Lib.hid hq
              have hjI : ¬ (j : Int) < (n : Int) := by omega
              have hbF := HBB.out.trans (HK.out.toBelow hzB (fun x _ e => by rw [e]; exact hbw))
              have HBF := Lib.hid hbF
              have hrow : ∀ d : Nat, d < n → wr.cell? ⟨b, d, none⟩ = some (.bool (set.testBit d)) := fun d hd => by
                obtain ⟨_, _, _, _, _, hcc, _⟩ := OwnR.cellsO HO.out (by rw [Od.rowB_len]; omega)
                have h := hcc d hd
                rw [Od.rowB_at hd, Nat.zero_add, hjn', decide_eq_true hd] at h
                exact h
              have Hrow := Lib.hid hrow
              have hst := Od.ctk_succ (Od.natss l) p set f
              rw [← Hct.out, ← Hq.out] at hst
              have Hst := Lib.hid hst
              generalize set / 2 ^ j = sx at *
              clear hpop hq hbF hrow hst HO HK hjn mk
              by_cases hqf : q = f
              · have t1 : ((q : Int) != (f : Int)) = false := bne_f (by omega)
                obtain ⟨wF, hwF⟩ : ∃ x : World, x = wr := ⟨_, rfl⟩
                subst hwF
                go_wp2_with fail
                go_loopg [17, 18, 19, 20] m (fun gk v17 v18 v19 v20 wr => ∃ i : Nat, i + gk = m ∧ v18 = iv i ∧ v17 = .bool (Od.badC set l p i) ∧ wr = wF)
                case atStart => exact ⟨0, by omega, rfl, rfl, rfl⟩
                case round =>
                  obtain ⟨gP, hgP⟩ : ∃ x : Nat, x = gk := ⟨_, rfl⟩
                  subst hgP
                  obtain ⟨i, hi, rfl, rfl, hwe⟩ := hrel
                  subst hwe
                  obtain ⟨wF, hwF⟩ : ∃ x : World, x = wr := ⟨_, rfl⟩
                  subst hwF
                  have Hi := Lib.hid hi
                  obtain ⟨bd, hbd⟩ : ∃ x, x = Od.badC set l p i := ⟨_, rfl⟩
                  rw [← hbd]
                  have Hbd := Lib.hid hbd
                  clear hi hbd
                  by_cases him : i < m
                  · obtain ⟨s, hs⟩ : ∃ s, l[i]? = some s := ⟨l[i]'(by rw [← Hm.out]; exact him), List.getElem?_eq_getElem _⟩
                    obtain ⟨g, o, c, p2, c2, hv, hg, hcl, hrb, hwf⟩ := HV.out.at hs
                    injection hv with e1 q8 q9
                    have He1 := Lib.hid e1
                    have hsc := Od.badC_succ (set := set) (p := p) hs
                    obtain ⟨k, hk⟩ : ∃ k, k = s.length := ⟨_, rfl⟩
                    rw [← hk] at hcl hrb hsc
                    have hk9 : k ≤ 9223372036854775807 := by
                      obtain ⟨_, c', _, h1, h2, _⟩ := hrb.shape
                      rw [List.length_map, ← hk] at h1
                      unfold maxLen at h2
                      omega
                    have d0 : wF.cell? ⟨g, o + i, none⟩ = some (.slice p2 k c2) := (HBF.out.cell (p := ⟨g, o + i, none⟩) hg).trans hcl
                    rw [← Hbd.out] at hsc
                    have Hsc := Lib.hid hsc
                    have HRB := Lib.hid hrb
                    have HK := Lib.hid hk
                    have hds := (Hok.out s (List.mem_of_getElem? hs)).2
                    have Hds := Lib.hid hds
                    have D0 := Lib.hid d0
                    have hiI : (i : Int) < (m : Int) := by omega
                    rw [e1]
                    clear e1 q8 q9 hrb hk hsc hs hwf hcl hds
                    go_wp2_with fail
                    go_loopg [19, 20] k (fun gk v19 v20 wr => ∃ j : Nat, j + gk = k ∧ v20 = iv j ∧ v19 = iv (Od.lostC set s j) ∧ wr = wF)
                    case atStart => exact ⟨0, by omega, rfl, rfl, rfl⟩
                    case round =>
                      obtain ⟨j2, hj2, rfl, rfl, hwe⟩ := hrel
                      subst hwe
                      obtain ⟨wF, hwF⟩ : ∃ x : World, x = wr := ⟨_, rfl⟩
                      subst hwF
                      have Hj2 := Lib.hid hj2
                      obtain ⟨lc, hlc⟩ : ∃ x, x = Od.lostC set s j2 := ⟨_, rfl⟩
                      have hlc9 : lc ≤ j2 := by rw [hlc]; exact Od.lostC_le _ _ _
                      rw [← hlc]
                      have Hlc := Lib.hid hlc
                      clear hj2 hlc
                      by_cases hjk : j2 < k
                      · obtain ⟨d, hd⟩ : ∃ d, s[j2]? = some d := ⟨s[j2]'(by rw [← HK.out]; exact hjk), List.getElem?_eq_getElem _⟩
                        obtain ⟨g2, o2, cc2, hv2, h3, h4, h5⟩ := HRB.out.pos (by rw [List.length_map, ← HK.out]; omega)
                        injection hv2 with e1 q8 q9
                        have d1 := h5 j2 (by rw [List.length_map, ← HK.out]; exact hjk)
                        rw [List.getElem?_map, hd] at d1
                        have d1' : w.cell? ⟨g2, o2 + j2, none⟩ = some (iv d) := d1
                        have d2 : wF.cell? ⟨g2, o2 + j2, none⟩ = some (iv d) := (HBF.out.cell (p := ⟨g2, o2 + j2, none⟩) (World.block_lt_of_cell? w _ d1')).trans d1'
                        have d0' := D0.out
                        rw [e1] at d0'
                        have hdb := Hds.out d (List.mem_of_getElem? hd)
                        have hls := Od.lostC_succ (set := set) hd
                        obtain ⟨dn, rfl⟩ : ∃ x : Nat, d = x := ⟨d.toNat, by omega⟩
                        rw [Int.toNat_natCast, ← Hlc.out] at hls
                        have d3 := Hrow.out dn (by omega)
                        have hdI : (dn : Int) < (n : Int) := by omega
                        have hjkI : (j2 : Int) < (k : Int) := by omega
                        have Hls := Lib.hid hls
                        clear e1 q8 q9 h3 h4 h5 d1 hd d1' d0 hls
                        cases hbit : set.testBit dn with
                        | true =>
                          rw [hbit] at d3
                          have Hl2 := Lib.hid (Hls.out.trans (by rw [hbit, if_pos rfl]))
                          clear hbit Hls
                          go_wp2_with fail
                          go_roundg (gk - 1)
                          case measure => have := Hj2.out; omega
                          case rel => exact ⟨j2 + 1, by have := Hj2.out; omega, by go_num, by rw [Hl2.out]; go_num, rfl⟩
                        | false =>
                          rw [hbit] at d3
                          have Hl2 := Lib.hid (Hls.out.trans (by rw [hbit, if_neg (by decide)]))
                          clear hbit Hls
                          go_wp2_with fail
                          go_roundg (gk - 1)
                          case measure => have := Hj2.out; omega
                          case rel => exact ⟨j2 + 1, by have := Hj2.out; omega, by go_num, by rw [Hl2.out]; rfl, rfl⟩
                      · have hjk' : j2 = k := by have := Hj2.out; omega
                        have Hl2 : Hid (Od.lostC set s k = lc) := Lib.hid (by rw [Hlc.out, hjk'])
                        have hjkI : ¬ (j2 : Int) < (k : Int) := by omega
                        have hsc2 := Hsc.out
                        rw [Hl2.out] at hsc2
                        cases bd with
                        | true =>
                          have Hs2 := Lib.hid (show Od.badC set l p (i + 1) = true by rw [hsc2]; rfl)
                          clear hsc2
                          go_wp2_with fail
                          rw [← He1.out]
                          go_roundg (gP - 1)
                          case measure => have := Hi.out; omega
                          case rel => exact ⟨i + 1, by have := Hi.out; omega, by go_num, by rw [Hs2.out], rfl⟩
                        | false =>
                          have Hs2 := Lib.hid (show Od.badC set l p (i + 1) = decide (p < (lc : Int)) by rw [hsc2]; rfl)
                          clear hsc2
                          go_wp2_with fail
                          rw [← He1.out]
                          go_roundg (gP - 1)
                          case measure => have := Hi.out; omega
                          case rel => exact ⟨i + 1, by have := Hi.out; omega, by go_num, by rw [Hs2.out], rfl⟩
                  · have him' : i = m := by have := Hi.out; omega
                    have hiI : ¬ (i : Int) < (m : Int) := by omega
                    have hbf : bd = Od.fatal set (Od.natss l) p := by
                      rw [Hbd.out, him', Hm.out]
                      exact Od.badC_full (fun s hs => ⟨(Hok.out s hs).1, fun d hd => by have := (Hok.out s hs).2 d hd; omega⟩)
                    have hst := Hst.out
                    rw [← hbf] at hst
                    have Hst2 := Lib.hid hst
                    clear hbf hst him
                    cases bd with
                    | true =>
                      have Hs2 := Lib.hid (show Od.ctk (Od.natss l) p (set + 1) f = ct + 1 by rw [Hst2.out, if_pos (by simp [hqf])])
                      go_wp2_with fail
                      go_roundg (gO - 1)
                      case measure => have := Hs.out; omega
                      case rel => exact ⟨set + 1, by have := Hs.out; omega, by go_num, by rw [Hs2.out]; go_num, HBF.out⟩
                    | false =>
                      have Hs2 := Lib.hid (show Od.ctk (Od.natss l) p (set + 1) f = ct by rw [Hst2.out]; rfl)
                      go_wp2_with fail
                      go_roundg (gO - 1)
                      case measure => have := Hs.out; omega
                      case rel => exact ⟨set + 1, by have := Hs.out; omega, by go_num, by rw [Hs2.out], HBF.out⟩
              · have t1 : ((q : Int) != (f : Int)) = true := bne_t (by omega)
                have Hs2 := Lib.hid (show Od.ctk (Od.natss l) p (set + 1) f = ct by rw [Hst.out, if_neg (by simp [hqf])]; rfl)
                go_wp2_with fail
                go_roundg (gO - 1)
                case measure => have := Hs.out; omega
                case rel => exact ⟨set + 1, by have := Hs.out; omega, by go_num, by rw [Hs2.out], HBF.out⟩
        · have hsN' : set = N := by have := Hs.out; omega
          have hsI : ¬ (set : Int) < (N : Int) := by omega
          have HVe : Hid (V = ct) := Lib.hid (by rw [HVv.out, Hct.out, hsN', HN.out, Od.ctk_full])
          go_wp2_with fail
          go_ret
          exact ⟨by rw [HVe.out]; rfl, HB.out⟩
end Go.Proofs.YtkkfpdjhnffpbaaDoor
