/- The walk of the law TopPool: it returns true. -/
import Derived.Test.YtcldioneiededaaTpoP
import Derived.Test.YtcldioneiededaaPoolN
import Derived.Test.YtcldioneiededaaPoolM
import Derived.Test.YtcldioneiededaaAryT
import Derived.Test.YtcldioneiededaaAryG
import Derived.Test.YtcldioneiededaaAryN
import Derived.Test.YtcldioneiededaaAryZ
import Derived.Test.YtcldioneiededaaAryR
import Derived.Test.YtcldioneiededaaOne
import Derived.Deep.CutBlock
namespace Go.Proofs.Ytcldioneiededaa
open Go.ChangeShapes Go.WideShapes Go.ChangeAt Go.RowKit
set_option linter.unusedVariables false
def blkT (q : Nat) : ByteArray := ⟨#[UInt8.ofNat q, UInt8.ofNat (q / 7)]⟩
theorem conv2T (w : World) (a b : UInt8) : (convert 74 9 (.slice (some ⟨w.heap.size, 0, none⟩) 2 2)).run Try.prog (w.alloc (.cells #[.int .u8 a.toNat, .int .u8 b.toNat] 5)) = .ok (.string ⟨#[a, b]⟩) (w.alloc (.cells #[.int .u8 a.toNat, .int .u8 b.toNat] 5)) := by
  have h := run_convert_bytes_back (P := Try.prog) (w.alloc (.cells #[.int .u8 a.toNat, .int .u8 b.toNat] 5)) 74 9 5 ⟨w.heap.size, 0, none⟩ 2 [a, b] Try.underlying74 Try.underlying5 Try.underlying9 (fun j hj => by
    rw [Addr.add_lit, Nat.zero_add, World.cell?_alloc_at _ _ _ _ rfl]
    have hj3 : j = 0 ∨ j = 1 := by simp at hj; omega
    rcases hj3 with rfl | rfl <;> rfl)
  exact h
theorem byte_ofT (q : Nat) : (q : Int) % 256 = ((UInt8.ofNat q).toNat : Int) := by
  rw [UInt8.toNat_ofNat']
  omega
set_option maxRecDepth 100000 in
theorem blockT (q : Nat) (hq : q ≤ 9223372036854775807) (w : World) :
    Calls Try.prog 9 #[iv q] w fun e w' => e = .returned (.string (blkT q)) ∧ Below w.heap.size w w' := by
  have b1 := byte_ofT q
  have b2 := byte_ofT (q / 7)
  obtain ⟨r, hr⟩ : ∃ r, r = q / 7 := ⟨_, rfl⟩
  have hr9 : r ≤ 9223372036854775807 := by omega
  have hd : (q : Int) / 7 = (r : Int) := by omega
  have q1 : wrap64 ((q : Int) / 7) = (r : Int) := by rw [hd]; exact IntWalk.wrap64_in _ (by omega)
  have q2 : IntKind.i64.wrap ((q : Int) / 7) = (r : Int) := by rw [hd]; exact IntWalk.i64_in _ (by omega)
  have q3 : (q : Int).tdiv 7 = (r : Int) := by rw [Int.tdiv_eq_ediv_of_nonneg (by omega)]; exact hd
  have q4 : IntKind.i64.wrap (r : Int) = (r : Int) := IntWalk.i64_in _ (by omega)
  unfold blkT
  rw [← hr] at b2 ⊢
  have cv := conv2T w (UInt8.ofNat q) (UInt8.ofNat r)
  obtain ⟨a, ha⟩ : ∃ a, a = UInt8.ofNat q := ⟨_, rfl⟩
  obtain ⟨b, hb⟩ : ∃ b, b = UInt8.ofNat r := ⟨_, rfl⟩
  rw [← ha] at b1 cv ⊢
  rw [← hb] at b2 cv ⊢
  have HB : Hid (Below w.heap.size w (w.alloc (.cells #[.int .u8 a.toNat, .int .u8 b.toNat] 5))) := Lib.hid ((Below.refl _ _).alloc (Nat.le_refl _) _)
  clear hr hd ha hb hr9
  go_enter Try.func9, Try.ntmps9
  go_wp2_with fail
  go_ret
  exact ⟨rfl, HB.out⟩
theorem PoolAt.keptT {T : Nat → Prop} {w w' : World} {B b gs cs gl cl : Nat} {S L : List Int} (h : PoolAt w B b gs cs gl cl S L) (hk : Kept T w w') (h1 : ¬ T b) (h2 : ¬ T gs) (h3 : ¬ T gl) : PoolAt w' B b gs cs gl cl S L :=
  { h with blk := hk.heap h.blk h1, own1 := Kept.owns h.own1 hk (fun g hg => by have e : gs = g := Option.some.inj hg; rw [← e]; exact h2), own2 := Kept.owns h.own2 hk (fun g hg => by have e : gl = g := Option.some.inj hg; rw [← e]; exact h3) }
/-- the array, the pool, and the law's own cells -/
structure TMid (K b E pb gs cs gl cl E2 gc M cc : Nat) (w : World) (s : Ar.S) (S L : List Int) (cells : List ByteArray) (wr : World) : Prop where
  ary : AryOk (fun p => b ≤ p ∧ p < E) K wr b s
  pool : PoolAt wr E pb gs cs gl cl S L
  low : pb < E2 ∧ gs < E2 ∧ gl < E2
  own : wr.ownsRow E2 9 1 (.slice (some ⟨gc, 0, none⟩) M cc) M (cells.map Value.string)
  bel : Below w.heap.size w wr
  o : w.heap.size ≤ b ∧ b < E ∧ E < E2 ∧ E2 ≤ wr.heap.size
namespace TMid
variable {K K' b E pb gs cs gl cl E2 gc M cc : Nat} {w : World} {s s' : Ar.S} {S L S' L' : List Int} {cells : List ByteArray} {wr w' : World}
theorem geb (h : TMid K b E pb gs cs gl cl E2 gc M cc w s S L cells wr) : E2 ≤ gc ∧ gc < wr.heap.size := h.own.lt gc rfl
theorem below (h : TMid K b E pb gs cs gl cl E2 gc M cc w s S L cells wr) (hb : Below wr.heap.size wr w') : TMid K b E pb gs cs gl cl E2 gc M cc w s S L cells w' := by
  have o := h.o
  exact ⟨h.ary.below hb, h.pool.below hb, h.low, owns_below h.own hb, h.bel.trans (hb.mono h.bel.size), by have := hb.size; omega⟩
theorem more (h : TMid K b E pb gs cs gl cl E2 gc M cc w s S L cells wr) (hK : K ≤ K') : TMid K' b E pb gs cs gl cl E2 gc M cc w s S L cells wr := { h with ary := h.ary.more hK }
theorem stA (h : TMid K b E pb gs cs gl cl E2 gc M cc w s S L cells wr) (ha : AryOk (fun p => b ≤ p ∧ p < E) K' w' b s') (hk : Kept (fun p => b ≤ p ∧ p < E) wr w') : TMid K' b E pb gs cs gl cl E2 gc M cc w s' S L cells w' := by
  have o := h.o
  have hp := h.pool
  have h1 := hp.hb
  have h2 := hp.hs
  have h3 := hp.hl
  exact ⟨ha, hp.keptT hk (fun hh => by have := hh.2; omega) (fun hh => by have := hh.2; omega) (fun hh => by have := hh.2; omega), h.low, Kept.owns h.own hk (fun g hg hh => by have h1 := (h.own.lt g hg).1; have h2 : g < E := hh.2; omega), h.bel.trans (hk.toBelow (B := w.heap.size) h.bel.size (fun p _ hh => by have := hh.1; omega)), by have := hk.size; omega⟩
theorem stP (h : TMid K b E pb gs cs gl cl E2 gc M cc w s S L cells wr) (hp : PoolAt w' E pb gs cs gl cl S' L') (hk : Kept (fun k => k = gs ∨ k = gl) wr w') : TMid K b E pb gs cs gl cl E2 gc M cc w s S' L' cells w' := by
  have o := h.o
  have h2 := hp.hs
  have h3 := hp.hl
  have hl := h.low
  exact ⟨h.ary.kept hk (fun p hp hh => by have := hp.2; omega), hp, h.low, Kept.owns h.own hk (fun g hg hh => by have h1 := (h.own.lt g hg).1; omega), h.bel.trans (hk.toBelow (B := w.heap.size) h.bel.size (fun p _ hh => by omega)), by have := hk.size; omega⟩
theorem cell (h : TMid K b E pb gs cs gl cl E2 gc M cc w s S L cells wr) (hl : cells.length = M) {j : Nat} (hj : j < M) : wr.cell? ⟨gc, j, none⟩ = some (.string (cells.getD j ⟨#[]⟩)) := by
  rw [h.own.cellAt j (by omega), List.getElem?_map, List.getElem?_eq_getElem (by omega), List.getD_eq_getElem?_getD, List.getElem?_eq_getElem (by omega)]; rfl
theorem put {j : Nat} {x : ByteArray} (h : TMid K b E pb gs cs gl cl E2 gc M cc w s S L cells wr) : TMid K b E pb gs cs gl cl E2 gc M cc w s S L (cells.set j x) (wr.setCell ⟨gc, j, none⟩ (.string x)) := by
  have o := h.o
  have hg := h.geb
  have hl := h.low
  have hs : Kept (· = gc) wr (wr.setCell ⟨gc, j, none⟩ (.string x)) := (Kept.self gc wr).set1 _ _
  refine ⟨h.ary.kept hs (fun p hp e => by have h1 : p < E := hp.2; have h2 : p = gc := e; omega), h.pool.keptT hs (fun e => by have h2 : pb = gc := e; omega) (fun e => by have h2 : gs = gc := e; omega) (fun e => by have h2 : gl = gc := e; omega), h.low, ?_, h.bel.setCell (p := ⟨gc, j, none⟩) (by show w.heap.size ≤ gc; omega) _, by have := hs.size; omega⟩
  rw [List.map_set]; exact (h.own.stored j (.string x)).1
end TMid
/-- the cells while they are made noughts -/
def czz (M i : Nat) : List ByteArray := (List.range M).map (fun q => if q < i then Dk.noughts 2 else ⟨#[]⟩)
theorem czz_len (M i : Nat) : (czz M i).length = M := by unfold czz; simp
theorem czz_at {M q : Nat} (i : Nat) (h : q < M) : (czz M i)[q]? = some (if q < i then Dk.noughts 2 else ⟨#[]⟩) := by unfold czz; rw [List.getElem?_map, List.getElem?_range h]; rfl
theorem czz_set {M i : Nat} (h : i < M) : (czz M i).set i (Dk.noughts 2) = czz M (i + 1) := by
  refine List.ext_getElem? (fun q => ?_)
  by_cases hq : q < M
  · rw [czz_at _ hq, List.getElem?_set, czz_len]
    by_cases e : i = q
    · subst e; rw [if_pos rfl, if_pos hq, if_pos (by omega)]
    · rw [if_neg e, czz_at _ hq]
      by_cases c : q < i
      · rw [if_pos c, if_pos (by omega)]
      · rw [if_neg c, if_neg (by omega)]
  · rw [List.getElem?_eq_none (by rw [List.length_set, czz_len]; omega), List.getElem?_eq_none (by rw [czz_len]; omega)]
theorem czz_full (M : Nat) : czz M M = List.replicate M (Dk.noughts 2) := by
  refine List.ext_getElem? (fun q => ?_)
  by_cases hq : q < M
  · rw [czz_at _ hq, List.getElem?_replicate, if_pos hq, if_pos hq]
  · rw [List.getElem?_eq_none (by rw [czz_len]; omega), List.getElem?_eq_none (by rw [List.length_replicate]; omega)]
theorem czz_0 (M : Nat) : (czz M 0).map Value.string = List.replicate M (.string ⟨#[]⟩) := by
  refine List.ext_getElem? (fun q => ?_)
  rw [List.getElem?_map]
  by_cases hq : q < M
  · rw [czz_at _ hq, List.getElem?_replicate, if_pos hq, if_neg (by omega)]; rfl
  · rw [List.getElem?_eq_none (by rw [czz_len]; omega), List.getElem?_eq_none (by rw [List.length_replicate]; omega)]; rfl
theorem info_strTp : (Try.prog.info? 9).map (fun i => (i.zero, i.size, i.bytes)) = some (some (.string ⟨#[]⟩), 1, 16) := by kernel_rfl
theorem make_strsTp (n : Nat) (h : n ≤ 1000000) (w : World) : (Instr.makeSlice 32 (.int .i64 (n : Int)) (.int .i64 (n : Int))).run Try.prog w = .ok (.slice (some ⟨w.heap.size, 0, none⟩) n n) (w.alloc (.cells (madeCells #[.string ⟨#[]⟩] n) 9)) :=
  run_make_row' 32 9 (.string ⟨#[]⟩) 16 Try.underlying32 info_strTp rfl .i64 .i64 n (by omega) (by omega) w
theorem made_strsTp (n : Nat) (hn : n ≤ 1000000) (h0 : 0 < n) (w : World) : (w.alloc (.cells (madeCells #[.string ⟨#[]⟩] n) 9)).ownsRow w.heap.size 9 1 (.slice (some ⟨w.heap.size, 0, none⟩) n n) n (List.replicate n (.string ⟨#[]⟩)) := by
  have hl : (madeCells #[Value.string ⟨#[]⟩] n).toList = List.replicate n (.string ⟨#[]⟩) := toList_madeCells_one _ _
  have hs : (madeCells #[Value.string ⟨#[]⟩] n).size = n := by rw [← Array.length_toList, hl, List.length_replicate]
  refine ⟨by rw [List.length_replicate]; omega, .inr ⟨w.heap.size, n, _, rfl, Nat.le_refl _, heap_alloc_new w _, Nat.le_refl _, by unfold maxLen; omega, by rw [hs]; omega, by rw [hl, Nat.mul_one, List.take_of_length_le (by rw [List.length_replicate]; exact Nat.le_refl _)]⟩⟩
theorem strl_eqT (b : ByteArray) : (b.toList == b.toList) = true := by simp
theorem pnew_tot (n k : Int) (w : World) : Calls Try.prog 7 #[iv n, iv k] w fun e w' => ∃ p x, e = .returned (.tuple #[p, x]) ∧ Below w.heap.size w w' := by
  by_cases h : n < 1 ∨ 1 ≤ n ∧ 10 < n ∨ 1 ≤ n ∧ n ≤ 10 ∧ k < 0 ∨ 1 ≤ n ∧ n ≤ 10 ∧ 0 ≤ k ∧ 10 < k
  · refine (pnew_no n k h w).mono ?_
    rintro e w' ⟨rfl, rfl⟩
    exact ⟨_, _, rfl, Below.refl _ _⟩
  · obtain ⟨a, rfl⟩ : ∃ a : Nat, n = a := ⟨n.toNat, by omega⟩
    obtain ⟨b, rfl⟩ : ∃ b : Nat, k = b := ⟨k.toNat, by omega⟩
    refine (pnew_yes a b (by omega) (by omega) (by omega) w).mono ?_
    rintro e w' ⟨_, _, _, _, rfl, _, hb⟩
    exact ⟨_, _, rfl, hb⟩
set_option maxRecDepth 100000 in
set_option maxHeartbeats 4000000 in
theorem topPool_no (n rows sp : Int) (v v2 : Value) (h : n < 3 ∨ 10 < n ∨ rows < 1 ∨ 20 < rows ∨ sp < 0 ∨ 10 < sp) (w : World) :
    Calls Try.prog 3 #[iv n, iv rows, iv sp, v, v2] w fun e w' => e = .returned (.bool true) ∧ Below w.heap.size w w' := by
  have C0 := Lib.hid (one_any w)
  have Hh := Lib.hid h
  by_cases hA : aNewF n rows 2 = 0
  · have hc : 3 ≤ n ∧ n ≤ 10 ∧ 1 ≤ rows ∧ rows ≤ 20 := by
      unfold aNewF at hA
      by_cases hc : n < 3 ∨ 10 < n ∨ rows < 1 ∨ 20 < rows ∨ (2 : Int) < 1 ∨ 16 < (2 : Int)
      · rw [if_pos hc] at hA; exact absurd hA (by decide)
      · omega
    obtain ⟨a, rfl⟩ : ∃ a : Nat, n = a := ⟨n.toNat, by omega⟩
    obtain ⟨r, rfl⟩ : ∃ r : Nat, rows = r := ⟨rows.toNat, by omega⟩
    have HN := Lib.hid (fun w' => aNew_yes a r 2 (by omega) (by omega) (by omega) (by omega) (by omega) (by omega) w')
    have HP := Lib.hid (fun w' => pnew_no (a : Int) sp (by omega) w')
    have t1 : decide ((a : Int) < 3) = false := dec_f (by omega)
    have t2 : decide (10 < (a : Int)) = false := dec_f (by omega)
    have t3 : decide ((r : Int) < 1) = false := dec_f (by omega)
    have t4 : decide (20 < (r : Int)) = false := dec_f (by omega)
    clear h hA
    go_enter Try.func3, Try.ntmps3
    go_wp2_with fail
    refine C0.out.mono ?_
    rintro e w1 ⟨rfl, hb1⟩
    have HB1 := Lib.hid hb1
    clear hb1 C0
    go_wp2_with fail
    refine (HN.out w1).mono ?_
    rintro e w2 ⟨rfl, _, hb2⟩
    have HBz := Lib.hid (HB1.out.trans (hb2.mono HB1.out.size))
    clear hb2
    go_wp2_with fail
    refine (HP.out w2).mono ?_
    rintro e w3 ⟨rfl, rfl⟩
    by_cases c5 : sp < 0
    · have t5 := dec_t c5
      clear c5 Hh hc
      go_wp2_with fail
      go_ret
      exact ⟨rfl, HBz.out⟩
    · have t5 := dec_f c5
      have t6 : decide (10 < sp) = true := dec_t (by have := Hh.out; omega)
      clear c5 Hh hc
      go_wp2_with fail
      go_ret
      exact ⟨rfl, HBz.out⟩
  · have HN := Lib.hid (fun w' => aNew_no n rows 2 hA w')
    have HP := Lib.hid (fun w' => pnew_tot n sp w')
    clear h hA
    go_enter Try.func3, Try.ntmps3
    go_wp2_with fail
    refine C0.out.mono ?_
    rintro e w1 ⟨rfl, hb1⟩
    have HB1 := Lib.hid hb1
    clear hb1 C0
    go_wp2_with fail
    refine (HN.out w1).mono ?_
    rintro e w2 ⟨rfl, hb2⟩
    have HB2 := Lib.hid (HB1.out.trans (hb2.mono HB1.out.size))
    clear hb2
    go_wp2_with fail
    refine (HP.out w2).mono ?_
    rintro e w3 ⟨vp, vx, rfl, hb3⟩
    have HBz := Lib.hid (HB2.out.trans (hb3.mono HB2.out.size))
    clear hb3
    by_cases c1 : n < 3
    · have t1 := dec_t c1
      clear c1 Hh
      go_wp2_with fail
      go_ret
      exact ⟨rfl, HBz.out⟩
    · by_cases c2 : 10 < n
      · have t1 := dec_f c1
        have t2 := dec_t c2
        clear c1 c2 Hh
        go_wp2_with fail
        go_ret
        exact ⟨rfl, HBz.out⟩
      · by_cases c3 : rows < 1
        · have t1 := dec_f c1
          have t2 := dec_f c2
          have t3 := dec_t c3
          clear c1 c2 c3 Hh
          go_wp2_with fail
          go_ret
          exact ⟨rfl, HBz.out⟩
        · by_cases c4 : 20 < rows
          · have t1 := dec_f c1
            have t2 := dec_f c2
            have t3 := dec_f c3
            have t4 := dec_t c4
            clear c1 c2 c3 c4 Hh
            go_wp2_with fail
            go_ret
            exact ⟨rfl, HBz.out⟩
          · by_cases c5 : sp < 0
            · have t1 := dec_f c1
              have t2 := dec_f c2
              have t3 := dec_f c3
              have t4 := dec_f c4
              have t5 := dec_t c5
              clear c1 c2 c3 c4 c5 Hh
              go_wp2_with fail
              go_ret
              exact ⟨rfl, HBz.out⟩
            · have t6 : decide (10 < sp) = true := dec_t (by have := Hh.out; omega)
              have t1 := dec_f c1
              have t2 := dec_f c2
              have t3 := dec_f c3
              have t4 := dec_f c4
              have t5 := dec_f c5
              clear c1 c2 c3 c4 c5 Hh
              go_wp2_with fail
              go_ret
              exact ⟨rfl, HBz.out⟩
def PoRel (n rows b E pb gs cs gl cl E2 gc M cc N : Nat) (w : World) (gk : Nat) (v18 v19 : Value) (wr : World) : Prop :=
  ∃ (j o : Nat) (s : Ar.S) (S L : List Int) (cells : List ByteArray), j + gk = N ∧ j ≤ 40 ∧ v19 = iv j ∧ v18 = iv o ∧ o ≤ 2 ∧ S.length ≤ 20 ∧ Tp n rows o s S L cells ∧ TMid (25 * j) b E pb gs cs gl cl E2 gc M cc w s S L cells wr
set_option maxRecDepth 100000 in
set_option maxHeartbeats 8000000 in
theorem topPool_yes (n rows k : Nat) (xs ys : List Int) (h3 : 3 ≤ n) (h10 : n ≤ 10) (h1 : 1 ≤ rows) (h2 : rows ≤ 20) (hk : k ≤ 10) (hwx : ∀ x ∈ xs, (Lit.int .i64 x).wf = true) (v v2 : Value) (w : World) (hv : Row w v (xs.map iv)) (hv2 : Row w v2 (ys.map iv)) :
    Calls Try.prog 3 #[iv n, iv rows, iv k, v, v2] w fun e w' => e = .returned (.bool true) ∧ Below w.heap.size w w' := by
  have C0 := Lib.hid (one_any w)
  have HN := Lib.hid (fun w' => aNew_yes n rows 2 h3 h10 h1 h2 (by omega) (by omega) w')
  have HP := Lib.hid (fun w' => pnew_yes n k (by omega) h10 hk w')
  unfold PoNewPost at HP
  have hm9 : rows * (n - 2) ≤ 20 * 8 := Nat.mul_le_mul h2 (by omega)
  have hm1 : 1 * 1 ≤ rows * (n - 2) := Nat.mul_le_mul h1 (by omega)
  have hmI : (rows : Int) * ((n : Int) - 2) = ((rows * (n - 2) : Nat) : Int) := by rw [Int.natCast_mul, show ((n - 2 : Nat) : Int) = (n : Int) - 2 by omega]
  have hw1 : IntKind.i64.wrap ((n : Int) - 2) = (n : Int) - 2 := IntWalk.i64_in _ (by omega)
  have hw2 : IntKind.i64.wrap ((rows : Int) * ((n : Int) - 2)) = ((rows * (n - 2) : Nat) : Int) := by rw [hmI]; exact IntWalk.i64_in _ (by omega)
  have ht0 := tp_start (k := k) h3 h10 h1 h2
  obtain ⟨M, hM⟩ : ∃ M, M = rows * (n - 2) := ⟨_, rfl⟩
  rw [← hM] at hm9 hm1 hw2 ht0
  have HM := Lib.hid hM
  have HT0 := Lib.hid ht0
  have hsl0 : (Pool.newS n (n + k)).length ≤ 20 := by rw [Pool.newS_len]; omega
  obtain ⟨pw, pwc, rfl, wl1, wl2, wl3⟩ := hv.shape
  rw [List.length_map] at wl1 wl3 ⊢
  obtain ⟨NW, hNW⟩ : ∃ NW, NW = xs.length := ⟨_, rfl⟩
  rw [← hNW] at wl1 wl3 ⊢
  have hws : ∀ y, y < NW → ∃ g off q, pw = some ⟨g, off, none⟩ ∧ w.cell? ⟨g, off + y, none⟩ = some (iv q) ∧ g < w.heap.size ∧ q ≤ 9223372036854775807 := fun y hy => by
    obtain ⟨g, off, q1, q2⟩ := wl3 (by omega)
    have := q2 y hy
    rw [List.getElem?_map, List.getElem?_eq_getElem (by omega)] at this
    exact ⟨g, off, _, q1, this, World.block_lt_of_cell? w _ this, (bounds_i64 (hwx _ (List.getElem_mem (by omega)))).2⟩
  have Hws := Lib.hid hws
  unfold maxLen at wl2
  obtain ⟨pp, pc, rfl, pl1, pl2, pl3⟩ := hv2.shape
  rw [List.length_map] at pl1 pl3 ⊢
  obtain ⟨PL, hPL⟩ : ∃ PL, PL = ys.length := ⟨_, rfl⟩
  rw [← hPL] at pl1 pl3 ⊢
  have hps : ∀ y, y < PL → ∃ g off q, pp = some ⟨g, off, none⟩ ∧ w.cell? ⟨g, off + y, none⟩ = some (iv q) ∧ g < w.heap.size := fun y hy => by
    obtain ⟨g, off, q1, q2⟩ := pl3 (by omega)
    have := q2 y hy
    rw [List.getElem?_map, List.getElem?_eq_getElem (by omega)] at this
    exact ⟨g, off, _, q1, this, World.block_lt_of_cell? w _ this⟩
  have Hps := Lib.hid hps
  unfold maxLen at pl2
  have hPL9 : PL ≤ 9223372036854775807 := by omega
  have hNW9 : NW ≤ 9223372036854775807 := by omega
  have d1 : decide ((n : Int) < 3) = false := dec_f (by omega)
  have d2 : decide (10 < (n : Int)) = false := dec_f (by omega)
  have d3 : decide ((rows : Int) < 1) = false := dec_f (by omega)
  have d4 : decide (20 < (rows : Int)) = false := dec_f (by omega)
  have d5 : decide ((k : Int) < 0) = false := dec_f (by omega)
  have d6 : decide (10 < (k : Int)) = false := dec_f (by omega)
  clear hmI hM hv hv2 hws hps wl3 pl3 hNW hPL hwx ht0
  go_enter Try.func3, Try.ntmps3
  go_wp2_with fail
  refine C0.out.mono ?_
  rintro e w1 ⟨rfl, hb1⟩
  have HB1 := Lib.hid hb1
  clear hb1 C0
  go_wp2_with fail
  refine (HN.out w1).mono ?_
  rintro e w2' ⟨rfl, hA, hb2⟩
  obtain ⟨b, hb⟩ : ∃ b, b = w1.heap.size := ⟨_, rfl⟩
  obtain ⟨E, hE⟩ : ∃ E, E = w2'.heap.size := ⟨_, rfl⟩
  have hbE : b < E := by obtain ⟨_, _, _, _, _, _, hat, _⟩ := hA; rw [hE, hb]; exact hat.lt
  have hbw : w.heap.size ≤ b := by rw [hb]; exact HB1.out.size
  have HA2 : Hid (AryOk (fun p => b ≤ p ∧ p < E) 0 w2' b (Ar.s0 n rows 2)) := Lib.hid (by rw [hb]; exact hA.wide (fun k hk h => ⟨h, by rw [hE]; exact hk⟩))
  have HB2 := Lib.hid (HB1.out.trans (hb2.mono HB1.out.size))
  have HE := Lib.hid hE
  rw [← hb]
  clear hA hb2 hb hE HB1 HN
  go_wp2_with fail
  refine (HP.out w2').mono ?_
  rintro e w3' ⟨gs, cs, gl, cl, rfl, hP3, hb3⟩
  rw [← HE.out] at hP3 ⊢
  have HP3 := Lib.hid hP3
  have HB3 := Lib.hid (HB2.out.trans (hb3.mono HB2.out.size))
  have HA3 := Lib.hid (HA2.out.below hb3)
  obtain ⟨E2, hE2⟩ : ∃ E2, E2 = w3'.heap.size := ⟨_, rfl⟩
  have hlow : E < E2 ∧ gs < E2 ∧ gl < E2 := by
    refine ⟨?_, ?_, ?_⟩
    · rw [hE2]; exact (Array.getElem?_eq_some_iff.1 hP3.blk).1
    · rw [hE2]; exact (hP3.own1.lt gs rfl).2
    · rw [hE2]; exact (hP3.own2.lt gl rfl).2
  have mk := make_strsTp M (by omega) w3'
  have hown := made_strsTp M (by omega) (by omega) w3'
  rw [← czz_0] at hown
  have hb4 : Below w3'.heap.size w3' (w3'.alloc (.cells (madeCells #[.string ⟨#[]⟩] M) 9)) := (Below.refl _ _).alloc (Nat.le_refl _) _
  have hz4 : w3'.heap.size + 1 = (w3'.alloc (.cells (madeCells #[.string ⟨#[]⟩] M) 9)).heap.size := by simp
  obtain ⟨w4, hw4⟩ : ∃ w4, w4 = w3'.alloc (.cells (madeCells #[.string ⟨#[]⟩] M) 9) := ⟨_, rfl⟩
  rw [← hw4] at mk hown hb4 hz4
  have hTM : TMid 0 b E E gs cs gl cl E2 w3'.heap.size M M w (Ar.s0 n rows 2) (Pool.newS n (n + k)) (Pool.newL n (n + k)) (czz M 0) w4 :=
    ⟨HA3.out.below hb4, HP3.out.below hb4, hlow, by rw [hE2]; exact hown, HB3.out.trans (hb4.mono HB3.out.size), ⟨hbw, hbE, hlow.1, by omega⟩⟩
  obtain ⟨gc, hgc⟩ : ∃ gc, gc = w3'.heap.size := ⟨_, rfl⟩
  rw [← hgc] at mk hTM
  have HTM := Lib.hid hTM
  clear hP3 hb3 HA2 HB2 HP HE HP3 HA3 HB3 hown hb4 hz4 hw4 hTM hlow hE2 hgc hbE hbw
  go_upto_block 0 with (fail)
  clear mk d1 d2 d3 d4 d5 d6 hw1 hw2
  go_cut [] (fun wq => ∃ wk, wk = wq ∧ TMid 0 b E E gs cs gl cl E2 gc M M w (Ar.s0 n rows 2) (Pool.newS n (n + k)) (Pool.newL n (n + k)) (czz M M) wk)
  case first => as_aux_lemma =>
    go_wp2_with fail
    go_loopg [17] M (fun gk v17 wr => ∃ i : Nat, i + gk = M ∧ v17 = iv i ∧ TMid 0 b E E gs cs gl cl E2 gc M M w (Ar.s0 n rows 2) (Pool.newS n (n + k)) (Pool.newL n (n + k)) (czz M i) wr)
    case atStart => exact ⟨0, by omega, rfl, HTM.out⟩
    case round =>
      clear HTM
      obtain ⟨i, hi, rfl, hT⟩ := hrel
      have Hi := Lib.hid hi
      have HT := Lib.hid hT
      clear hi hT
      by_cases hlt : i < M
      · have hc := HT.out.cell (czz_len M i) hlt
        have hf : wr.frozen? ⟨gc, i, none⟩ = false := HT.out.own.frozenAt i
        obtain ⟨ob, hob⟩ : ∃ ob, ob = (czz M i).getD i ⟨#[]⟩ := ⟨_, rfl⟩
        rw [← hob] at hc
        have hput := HT.out.put (j := i) (x := Dk.noughts 2)
        rw [czz_set hlt] at hput
        have Hput := Lib.hid (show TMid 0 b E E gs cs gl cl E2 gc M M w (Ar.s0 n rows 2) (Pool.newS n (n + k)) (Pool.newL n (n + k)) (czz M (i + 1)) (wr.setCell ⟨gc, i, none⟩ (.string ⟨#[0, 0]⟩)) from hput)
        have hiI : (i : Int) < (M : Int) := by omega
        clear hob hput
        go_wp2_with fail
        go_roundg (gk - 1)
        case measure => have := Hi.out; omega
        case rel => exact ⟨i + 1, by have := Hi.out; omega, by go_num, Hput.out⟩
      · obtain rfl : i = M := by have := Hi.out; omega
        go_wp2_with fail
        go_meet
        exact ⟨_, rfl, HT.out⟩
  case rest =>
  obtain ⟨w5, hw5, hT5⟩ := hcut
  subst hw5
  rw [czz_full] at hT5
  have HT5 := Lib.hid hT5
  clear hT5 HTM
  go_upto_block 2 with (fail)
  go_cut [] (fun wq => ∃ wk o s S L cells K, wk = wq ∧ K ≤ 2000 ∧ Tp n rows o s S L cells ∧ TMid K b E E gs cs gl cl E2 gc M M w s S L cells wk)
  case first => as_aux_lemma =>
    go_wp2_with fail
    go_loopg [18, 19] NW (fun gk v18 v19 wr => PoRel n rows b E E gs cs gl cl E2 gc M M NW w gk v18 v19 wr)
    case atStart => exact ⟨0, 0, _, _, _, _, by omega, by omega, rfl, rfl, by omega, hsl0, HT0.out, HT5.out⟩
    case round =>
      clear HT0 HT5
      obtain ⟨wO, hwO⟩ : ∃ x : World, x = wr := ⟨_, rfl⟩
      obtain ⟨gO, hgO⟩ : ∃ x : Nat, x = gk := ⟨_, rfl⟩
      subst hwO hgO
      obtain ⟨j, o, s, S, L, cells, hj, hj40, rfl, rfl, ho2, hsl, hT, hTM⟩ := hrel
      have Hj := Lib.hid hj
      have HT := Lib.hid hT
      have HTM := Lib.hid hTM
      clear hj hT hTM
      by_cases hlt : j < NW
      · by_cases h40 : j < 40
        · have b40 : decide ((j : Int) < 40) = true := dec_t (by omega)
          have hjI : (j : Int) < (NW : Int) := by omega
          obtain ⟨gw, ow, x, hpw, hcw, hgw, hx9⟩ := Hws.out j hlt
          have c0 := (HTM.out.bel.cell (p := ⟨gw, ow + j, none⟩) hgw).trans hcw
          have Hpw := Lib.hid hpw
          have Hcw := Lib.hid hcw
          rw [hpw]
          clear hpw hcw
          go_upto_if 124 with (fail)
          go_cut [] (fun wq => ∃ wk s2 cells2, wk = wq ∧ Tp n rows o s2 S L cells2 ∧ TMid (25 * j + 1) b E E gs cs gl cl E2 gc M M w s2 S L cells2 wk)
          case first => as_aux_lemma =>
            by_cases hx0 : 0 ≤ x
            · obtain ⟨q, rfl⟩ : ∃ q : Nat, x = q := ⟨x.toNat, by omega⟩
              obtain ⟨y, hy⟩ : ∃ y, y = q % M := ⟨_, rfl⟩
              have hyM : y < M := by rw [hy]; exact Nat.mod_lt _ (by omega)
              have r1 : (q : Int) % (M : Int) = (y : Int) := by rw [hy]; exact (Int.natCast_emod _ _).symm
              have r2 : (q : Int).tmod (M : Int) = (y : Int) := by rw [Int.tmod_eq_emod_of_nonneg (by omega)]; exact r1
              have r3 : IntKind.i64.wrap (y : Int) = (y : Int) := IntWalk.i64_in _ (by omega)
              have r4 : ((M : Int) == 0) = false := beq_f (by omega)
              have r5 : ¬ (M : Int) = 0 := by omega
              have hyI : (y : Int) < (M : Int) := by omega
              have Hbk := Lib.hid (fun w' => blockT q (by omega) w')
              have hbs : (blkT q).size = 2 := rfl
              obtain ⟨bq, hbq⟩ : ∃ bq, bq = blkT q := ⟨_, rfl⟩
              rw [← hbq] at Hbk hbs
              have htw := tp_write HT.out (y := y) (x := bq) (by rw [← HM.out]; exact hyM) hbs
              have Htw := Lib.hid htw.2
              have Htw1 := Lib.hid htw.1
              clear hx0 hy htw hbq
              go_wp2_with fail
              refine (Hbk.out _).mono ?_
              rintro e w6 ⟨rfl, hb6⟩
              have HTM6 := Lib.hid (HTM.out.below hb6)
              have HW := Lib.hid (aWrite HTM6.out.ary (by omega) (y : Int) (by omega) (by omega) bq (by rw [hbs]; decide))
              rw [Htw1.out, errV_0] at HW
              clear hb6
              go_wp2_with fail
              refine HW.out.mono ?_
              rintro e w7 ⟨rfl, hA7, hK7⟩
              have HTM7 := Lib.hid (HTM6.out.stA hA7 hK7)
              have c7 := (HTM7.out.bel.cell (p := ⟨gw, ow + j, none⟩) hgw).trans Hcw.out
              clear hA7 hK7 HTM6 HW c0
              go_wp2_with fail
              refine (Hbk.out w7).mono ?_
              rintro e w8 ⟨rfl, hb8⟩
              have HTM8 := Lib.hid (HTM7.out.below hb8)
              have hcl := HT.out.kp.len
              rw [← HM.out] at hcl
              have hc8 := HTM8.out.cell hcl hyM
              have hf8 : w8.frozen? ⟨gc, y, none⟩ = false := HTM8.out.own.frozenAt y
              obtain ⟨ob, hob⟩ : ∃ ob, ob = cells.getD y ⟨#[]⟩ := ⟨_, rfl⟩
              rw [← hob] at hc8
              have Hput := Lib.hid (HTM8.out.put (j := y) (x := bq))
              clear hb8 HTM7 hob hcl c7
              go_wp2_with fail
              go_meet
              exact ⟨_, _, _, rfl, Htw.out, Hput.out⟩
            · have t1 := dec_f hx0
              have t2 : x < 0 := by omega
              have HTM2 := Lib.hid (HTM.out.more (K' := 25 * j + 1) (by omega))
              go_wp2_with fail
              go_meet
              exact ⟨_, _, _, rfl, HT.out, HTM2.out⟩
          case rest =>
          obtain ⟨w9, s2, cells2, hw9, hT2, hM2⟩ := hcut
          subst hw9
          have HT2 := Lib.hid hT2
          have HM2 := Lib.hid hM2
          clear hT2 hM2 HT HTM c0 Hcw
          by_cases hjp : j < PL
          · obtain ⟨gf, of, f, hpp, hcf, hgf⟩ := Hps.out j hjp
            have c1 := (HM2.out.bel.cell (p := ⟨gf, of + j, none⟩) hgf).trans hcf
            have Hpp := Lib.hid hpp
            have Hcf := Lib.hid hcf
            have u1 : decide (j < PL) = true := dec_t hjp
            rw [hpp]
            clear hpp hcf
            by_cases hf0 : 0 ≤ f
            · by_cases hfn : f < (n : Int)
              · by_cases hop : o < 2
                · have u2 := dec_t hf0
                  have u3 := dec_t hfn
                  have u4 : decide ((o : Int) < 2) = true := dec_t (by omega)
                  obtain ⟨kf, rfl⟩ : ∃ kf : Nat, f = kf := ⟨f.toNat, by omega⟩
                  have hkn : kf < n := by omega
                  have hll := HT2.out.ll
                  have HSl := Lib.hid (slots_any HM2.out.pool (by rw [hll]; omega))
                  unfold ListPost at HSl
                  rw [hll] at HSl
                  obtain ⟨x1, hx1⟩ : ∃ x1, L[kf]? = some x1 := ⟨L[kf]'(by rw [hll]; exact hkn), List.getElem?_eq_getElem _⟩
                  have Hx1 := Lib.hid hx1
                  have Hll := Lib.hid hll
                  clear hll hx1 hf0 hfn
                  go_wp2_with fail
                  refine HSl.out.mono ?_
                  rintro e w10 ⟨v21, rfl, hO10, hb10⟩
                  obtain ⟨g21, c21, rfl, _, hg21, hc21, hc22, hc23, _⟩ := owns_pos hO10 (by omega)
                  unfold maxLen at hc22
                  have hs1 := hc23 kf hkn
                  rw [List.getElem?_map, Hx1.out] at hs1
                  have hs1' : w10.cell? ⟨g21, kf, none⟩ = some (iv x1) := hs1
                  have HM10 := Lib.hid (HM2.out.below hb10)
                  have c2 := (HM10.out.bel.cell (p := ⟨gf, of + j, none⟩) hgf).trans Hcf.out
                  have hkI : (kf : Int) < (n : Int) := by omega
                  clear hO10 hb10 HSl hc23 hs1 c1 HM2
                  have HM2 := HM10
                  clear HM10
                  by_cases hx1n : x1 = -1
                  · have u5 : decide (x1 < 0) = true := dec_t (by omega)
                    clear hx1n
                    have HM5 := Lib.hid (HM2.out.more (K' := 25 * (j + 1)) (by omega))
                    go_wp2_with fail
                    rw [← Hpw.out, ← Hpp.out]
                    go_roundg (gO - 1)
                    case measure => have := Hj.out; omega
                    case rel => exact ⟨j + 1, o, s2, S, L, cells2, by have := Hj.out; omega, by omega, by go_num, rfl, ho2, hsl, HT2.out, HM5.out⟩
                  · obtain ⟨_, hfl, jd, rfl, hjd, hid⟩ := tp_disk HT2.out Hx1.out hx1n
                    have u5 : decide ((jd : Int) < 0) = false := dec_f (by omega)
                    have HF := Lib.hid (fail_yes HM2.out.pool (by omega) (by rw [Hll.out]; omega) jd 0 hjd (by decide))
                    unfold FailPost at HF
                    have hsb := idx_bd (S.set jd 2) 1
                    by_cases hp : idx (S.set jd 2) 1 < 0
                    · obtain ⟨e1, e2, e3⟩ := tp_none HT2.out hop hkn hfl hjd hid hp
                      rw [e1] at HF
                      have E2' := Lib.hid e2
                      have E3 := Lib.hid e3
                      clear hp hsb e1 e2 e3 hx1n hfl hjd hid
                      go_wp2_with fail
                      refine HF.out.mono ?_
                      rintro e w11 ⟨rfl, hP11, _, _, hK11⟩
                      have HM11 := Lib.hid (HM2.out.stP hP11 hK11)
                      have HFa := Lib.hid (aFail HM11.out.ary (kf : Int))
                      rw [E2'.out, errV_0] at HFa
                      clear hP11 hK11 HF HM2 c2
                      go_wp2_with fail
                      refine HFa.out.mono ?_
                      rintro e w12 ⟨rfl, hA12, hK12⟩
                      have HM12 := Lib.hid ((HM11.out.stA hA12 hK12).more (K' := 25 * (j + 1)) (by omega))
                      clear hA12 hK12 HFa HM11
                      have hwo : IntKind.i64.wrap ((o : Int) + 1) = ((o + 1 : Nat) : Int) := by rw [IntWalk.i64_in _ (by omega)]; omega
                      go_wp2_with fail
                      rw [← Hpw.out, ← Hpp.out]
                      go_roundg (gO - 1)
                      case measure => have := Hj.out; omega
                      case rel => exact ⟨j + 1, o + 1, _, _, _, cells2, by have := Hj.out; omega, by omega, by go_num, rfl, by omega, by rw [List.length_set]; exact hsl, E3.out, HM12.out⟩
                    · obtain ⟨p, hpe⟩ : ∃ p : Nat, idx (S.set jd 2) 1 = p := ⟨(idx (S.set jd 2) 1).toNat, by omega⟩
                      obtain ⟨e1, e2, e3, e4⟩ := tp_spare HT2.out hop hkn hfl hjd hid hpe
                      have hend := fun t ht => tq_end (t := t) HT2.out ht hop hkn hfl hjd hid hpe
                      have hplen : p < S.length := by have := Pool.lt_of_some (Pool.idx_some hpe); rw [List.length_set] at this; exact this
                      rw [e1] at HF
                      have E2' := Lib.hid e2
                      have E3 := Lib.hid e3
                      have E4 := Lib.hid e4
                      have Hend := Lib.hid hend
                      have u6 : decide ((p : Int) < 0) = false := dec_f (by omega)
                      clear hp hsb e1 e2 e3 e4 hx1n hfl hjd hid hend hpe
                      go_wp2_with fail
                      refine HF.out.mono ?_
                      rintro e w11 ⟨rfl, hP11, _, _, hK11⟩
                      have HM11 := Lib.hid (HM2.out.stP hP11 hK11)
                      have HFa := Lib.hid (aFail HM11.out.ary (kf : Int))
                      rw [E2'.out, errV_0] at HFa
                      clear hP11 hK11 HF HM2 c2
                      go_wp2_with fail
                      refine HFa.out.mono ?_
                      rintro e w12 ⟨rfl, hA12, hK12⟩
                      have HM12 := Lib.hid (HM11.out.stA hA12 hK12)
                      have HRa := Lib.hid (aReplace HM12.out.ary (kf : Int))
                      rw [E3.out, errV_0] at HRa
                      clear hA12 hK12 HFa HM11
                      go_wp2_with fail
                      refine HRa.out.mono ?_
                      rintro e w13 ⟨rfl, hA13, hK13⟩
                      have HM13 := Lib.hid (HM12.out.stA hA13 hK13)
                      clear hA13 hK13 HRa HM12
                      obtain ⟨t0, ht0⟩ : ∃ t0, t0 = ((s2.fail (kf : Int)).2.replace (kf : Int)).2 := ⟨_, rfl⟩
                      rw [← ht0] at E4 HM13
                      clear ht0
                      go_wp2_with fail
                      go_loopg [25] rows (fun gk v25 wr => ∃ (r : Nat) (t : Ar.S), r + gk = rows ∧ v25 = iv r ∧ Tq n rows kf r s2 t cells2 ∧ TMid (25 * j + 1 + r) b E E gs cs gl cl E2 gc M M w t ((S.set jd 2).set p 3) (L.set kf (p : Int)) cells2 wr)
                      case atStart => exact ⟨0, t0, by omega, rfl, E4.out, HM13.out⟩
                      case round =>
                        clear HM13 E4
                        obtain ⟨r, t, hr, rfl, hq, hM⟩ := hrel
                        have Hr := Lib.hid hr
                        have HQ := Lib.hid hq
                        have HM14 := Lib.hid hM
                        clear hr hq hM
                        by_cases hrr : r < rows
                        · have hst := tq_step HQ.out hkn hrr
                          have HRb := Lib.hid (aRebuild HM14.out.ary (by omega) (kf : Int))
                          unfold RbPost at HRb
                          obtain ⟨lv, hlv⟩ : ∃ lv : Nat, lv = rows - (r + 1) := ⟨_, rfl⟩
                          have hli : (rows : Int) - ((r : Int) + 1) = (lv : Int) := by omega
                          rw [hst.1] at HRb
                          simp only [hli] at HRb
                          rw [errV_0] at HRb
                          have Hst := Lib.hid hst.2
                          obtain ⟨lr, hlr⟩ : ∃ lr : Nat, lr = rows - r := ⟨_, rfl⟩
                          have y1 : IntKind.i64.wrap ((rows : Int) - (r : Int)) = (lr : Int) := by rw [IntWalk.i64_in _ (by omega)]; omega
                          have y2 : IntKind.i64.wrap ((lr : Int) - 1) = (lv : Int) := by rw [IntWalk.i64_in _ (by omega)]; omega
                          have hrI : (r : Int) < (rows : Int) := by omega
                          clear hst hlv hli hlr
                          go_wp2_with fail
                          refine HRb.out.mono ?_
                          rintro e w15 ⟨rfl, hA15, hK15⟩
                          have HM15 := Lib.hid (HM14.out.stA hA15 hK15)
                          clear hA15 hK15 HRb HM14
                          go_wp2_with fail
                          go_roundg (gk - 1)
                          case measure => have := Hr.out; omega
                          case rel => exact ⟨r + 1, _, by have := Hr.out; omega, by go_num, Hst.out, HM15.out⟩
                        · obtain rfl : r = rows := by have := Hr.out; omega
                          obtain ⟨e3, eT⟩ := Hend.out t HQ.out
                          have HFi := Lib.hid (fill_yes HM14.out.pool (by rw [List.length_set, List.length_set]; omega) p e3)
                          have ET := Lib.hid eT
                          clear e3 eT
                          go_wp2_with fail
                          refine HFi.out.mono ?_
                          rintro e w16 ⟨rfl, hP16, _, _, hK16⟩
                          have HM16 := Lib.hid ((HM14.out.stP hP16 hK16).more (K' := 25 * (j + 1)) (by omega))
                          clear hP16 hK16 HFi HM14
                          go_wp2_with fail
                          rw [← Hpw.out, ← Hpp.out]
                          go_roundg (gO - 1)
                          case measure => have := Hj.out; omega
                          case rel => exact ⟨j + 1, o, _, _, _, cells2, by have := Hj.out; omega, by omega, by go_num, rfl, ho2, by unfold Pool.fill; rw [List.length_set, List.length_set, List.length_set]; exact hsl, ET.out, HM16.out⟩
                · have u2 := dec_t hf0
                  have u3 := dec_t hfn
                  have u4 : decide ((o : Int) < 2) = false := dec_f (by omega)
                  clear hf0 hfn
                  have HM5 := Lib.hid (HM2.out.more (K' := 25 * (j + 1)) (by omega))
                  go_wp2_with fail
                  rw [← Hpw.out, ← Hpp.out]
                  go_roundg (gO - 1)
                  case measure => have := Hj.out; omega
                  case rel => exact ⟨j + 1, o, s2, S, L, cells2, by have := Hj.out; omega, by omega, by go_num, rfl, ho2, hsl, HT2.out, HM5.out⟩
              · have u2 := dec_t hf0
                have u3 := dec_f hfn
                clear hf0 hfn
                have HM5 := Lib.hid (HM2.out.more (K' := 25 * (j + 1)) (by omega))
                go_wp2_with fail
                rw [← Hpw.out, ← Hpp.out]
                go_roundg (gO - 1)
                case measure => have := Hj.out; omega
                case rel => exact ⟨j + 1, o, s2, S, L, cells2, by have := Hj.out; omega, by omega, by go_num, rfl, ho2, hsl, HT2.out, HM5.out⟩
            · have u2 := dec_f hf0
              clear hf0
              have HM5 := Lib.hid (HM2.out.more (K' := 25 * (j + 1)) (by omega))
              go_wp2_with fail
              rw [← Hpw.out, ← Hpp.out]
              go_roundg (gO - 1)
              case measure => have := Hj.out; omega
              case rel => exact ⟨j + 1, o, s2, S, L, cells2, by have := Hj.out; omega, by omega, by go_num, rfl, ho2, hsl, HT2.out, HM5.out⟩
          · have u1 : decide (j < PL) = false := dec_f hjp
            have HM5 := Lib.hid (HM2.out.more (K' := 25 * (j + 1)) (by omega))
            go_wp2_with fail
            rw [← Hpw.out]
            go_roundg (gO - 1)
            case measure => have := Hj.out; omega
            case rel => exact ⟨j + 1, o, s2, S, L, cells2, by have := Hj.out; omega, by omega, by go_num, rfl, ho2, hsl, HT2.out, HM5.out⟩
        · have b40 : decide ((j : Int) < 40) = false := dec_f (by omega)
          have hjI : (j : Int) < (NW : Int) := by omega
          go_wp2_with fail
          go_meet
          exact ⟨_, o, s, S, L, cells, 25 * j, rfl, by omega, HT.out, HTM.out⟩
      · have hjI : ¬ (j : Int) < (NW : Int) := by omega
        go_wp2_with fail
        go_meet
        exact ⟨_, o, s, S, L, cells, 25 * j, rfl, by omega, HT.out, HTM.out⟩
  case rest =>
  obtain ⟨w6, o, s, S, L, cells, K, hw6, hK9, hT6, hM6⟩ := hcut
  subst hw6
  have HT6 := Lib.hid hT6
  have HM6 := Lib.hid hM6
  clear hT6 hM6 HT5 HT0
  go_wp2_with fail
  go_loopg [28] M (fun gk v28 wr => ∃ i : Nat, i + gk = M ∧ v28 = iv i ∧ TMid K b E E gs cs gl cl E2 gc M M w s S L cells wr)
  case atStart => exact ⟨0, by omega, rfl, HM6.out⟩
  case round =>
    clear HM6
    obtain ⟨i, hi, rfl, hM⟩ := hrel
    have Hi := Lib.hid hi
    have HM6 := Lib.hid hM
    clear hi hM
    by_cases hlt : i < M
    · have HRd := Lib.hid (aRead HM6.out.ary (i : Int) (by omega) (by omega))
      rw [Ar.kp_read HT6.out.kp (y := i) (by rw [← HM.out]; exact hlt), errV_0] at HRd
      have hcl := HT6.out.kp.len
      rw [← HM.out] at hcl
      have Hcl := Lib.hid hcl
      obtain ⟨cx, hcx⟩ : ∃ cx, cx = cells.getD i ⟨#[]⟩ := ⟨_, rfl⟩
      rw [← hcx] at HRd
      have Hcx := Lib.hid hcx
      have hsl := strl_eqT cx
      have hiI : (i : Int) < (M : Int) := by omega
      clear hcl hcx
      go_wp2_with fail
      refine HRd.out.mono ?_
      rintro e w7 ⟨rfl, hb7⟩
      have HM7 := Lib.hid (HM6.out.below hb7)
      have hc7 := HM7.out.cell Hcl.out hlt
      rw [← Hcx.out] at hc7
      clear hb7 HRd HM6
      go_wp2_with fail
      go_roundg (gk - 1)
      case measure => have := Hi.out; omega
      case rel => exact ⟨i + 1, by have := Hi.out; omega, by go_num, HM7.out⟩
    · have hiI : ¬ (i : Int) < (M : Int) := by omega
      go_wp2_with fail
      go_ret
      exact ⟨rfl, HM6.out.bel⟩
theorem topPool_walk (n rows sp : Int) (v v2 : Value) (hn : (Lit.int .i64 n).wf = true) (hr : (Lit.int .i64 rows).wf = true) (hs : (Lit.int .i64 sp).wf = true) (w : World) (hv : ∃ xs : List Int, Row w v (xs.map (Value.int .i64)) ∧ ∀ n ∈ xs, (Lit.int .i64 n).wf = true) (hv2 : ∃ xs : List Int, Row w v2 (xs.map (Value.int .i64)) ∧ ∀ n ∈ xs, (Lit.int .i64 n).wf = true) :
    Calls Try.prog 3 #[iv n, iv rows, iv sp, v, v2] w fun e w' => e = .returned (.bool true) ∧ Below w.heap.size w w' := by
  obtain ⟨xs, hx, hwx⟩ := hv
  obtain ⟨ys, hy, _⟩ := hv2
  by_cases h : n < 3 ∨ 10 < n ∨ rows < 1 ∨ 20 < rows ∨ sp < 0 ∨ 10 < sp
  · exact topPool_no n rows sp v v2 h w
  · obtain ⟨a, rfl⟩ : ∃ a : Nat, n = a := ⟨n.toNat, by omega⟩
    obtain ⟨r, rfl⟩ : ∃ r : Nat, rows = r := ⟨rows.toNat, by omega⟩
    obtain ⟨k, rfl⟩ : ∃ k : Nat, sp = k := ⟨sp.toNat, by omega⟩
    exact topPool_yes a r k xs ys (by omega) (by omega) (by omega) (by omega) (by omega) hwx v v2 w hx hy
end Go.Proofs.Ytcldioneiededaa
