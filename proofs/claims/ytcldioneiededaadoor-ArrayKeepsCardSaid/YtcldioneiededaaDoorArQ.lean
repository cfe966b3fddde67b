/- The walk of the law ArrayKeeps: it returns true. -/
import Derived.Test.YtcldioneiededaaDoorArK
import Derived.Test.YtcldioneiededaaDoorArB
import Derived.Test.YtcldioneiededaaDoorSteps
import Derived.Test.YtcldioneiededaaDoorSame
namespace Go.Proofs.YtcldioneiededaaDoor
open Go.ChangeShapes Go.WideShapes Go.ChangeAt Go.RowKit
set_option linter.unusedVariables false
theorem strl_eq (b : ByteArray) : (b.toList == b.toList) = true := by simp
set_option maxRecDepth 100000 in
set_option maxHeartbeats 4000000 in
theorem arrayKeeps_no (n rows size : Int) (v : Value) (h : aNewF n rows size ≠ 0) (w : World) :
    Calls Tryd.prog 6 #[iv n, iv rows, iv size, v] w fun e w' => e = .returned (.bool true) ∧ Below w.heap.size w w' := by
  have HN2 := Lib.hid (fun w' => aNew_no n rows size h w')
  clear h
  have HN1 := Lib.hid (aNew_yes 3 1 1 (by omega) (by omega) (by omega) (by omega) (by omega) (by omega) w)
  obtain ⟨_, _, o1, o2, o3, o4⟩ := Ar.one_kp
  have O1 := Lib.hid o1
  have O2 := Lib.hid o2
  have O3 := Lib.hid o3
  have O4 := Lib.hid o4
  have hsl := strl_eq ⟨#[7]⟩
  clear o1 o2 o3 o4
  go_enter Tryd.func6, Tryd.ntmps6
  go_wp2_with fail
  refine HN1.out.mono ?_
  rintro e w1 ⟨rfl, hA, hB⟩
  have HB1 := Lib.hid hB
  have HA1 := Lib.hid (aWrite hA (by omega) 0 (by omega) (by omega) ⟨#[7]⟩ (by decide))
  rw [O1.out, errV_0] at HA1
  clear hA hB HN1
  go_wp2_with fail
  refine HA1.out.mono ?_
  rintro e w2 ⟨rfl, hA, hK⟩
  have HB2 := Lib.hid (HB1.out.trans (hK.toBelow (B := w.heap.size) HB1.out.size (fun p _ h => h)))
  have HA2 := Lib.hid (aFail hA 0)
  rw [O2.out, errV_0] at HA2
  clear hA hK HA1 HB1
  go_wp2_with fail
  refine HA2.out.mono ?_
  rintro e w3 ⟨rfl, hA, hK⟩
  have HB3 := Lib.hid (HB2.out.trans (hK.toBelow (B := w.heap.size) HB2.out.size (fun p _ h => h)))
  have HA3 := Lib.hid (aFail hA 1)
  rw [O3.out, errV_0] at HA3
  clear hA hK HA2 HB2
  go_wp2_with fail
  refine HA3.out.mono ?_
  rintro e w4 ⟨rfl, hA, hK⟩
  have HB4 := Lib.hid (HB3.out.trans (hK.toBelow (B := w.heap.size) HB3.out.size (fun p _ h => h)))
  have HA4 := Lib.hid (aRead hA 0 (by omega) (by omega))
  rw [O4.out, errV_0] at HA4
  clear hA hK HA3 HB3
  go_wp2_with fail
  refine HA4.out.mono ?_
  rintro e w5 ⟨rfl, hB5⟩
  have HB5 := Lib.hid (HB4.out.trans (hB5.mono HB4.out.size))
  have hz5 := HB5.out.size
  clear hB5 HA4 HB4
  go_wp2_with fail
  refine (HN2.out _).mono ?_
  rintro e w6 ⟨rfl, hB6⟩
  have HB6 := Lib.hid (HB5.out.trans (hB6.mono hz5))
  clear hB6
  go_wp2_with fail
  go_ret
  exact ⟨rfl, HB6.out⟩
def K1Rel (B z : Nat) (w1 : World) (M gk : Nat) (v i : Value) (wr : World) : Prop :=
  ∃ k : Nat, k + gk = M ∧ i = iv k ∧ wr.ownsRow B 9 1 v k (List.replicate k (Value.string (Dk.noughts z))) ∧ Below B w1 wr
/-- the array and the law's own cells -/
structure KMid (n rows size K b E gc cc M : Nat) (w : World) (s : Ar.S) (cells : List ByteArray) (wr : World) : Prop where
  kp : Ar.Kp n rows size s cells
  ary : AryOk (fun p => b ≤ p ∧ p < E) K wr b s
  own : wr.ownsRow E 9 1 (.slice (some ⟨gc, 0, none⟩) M cc) M (cells.map Value.string)
  bel : Below w.heap.size w wr
  bw : w.heap.size ≤ b
  bE : b < E
  Ew : E ≤ wr.heap.size
namespace KMid
variable {n rows size K b E gc cc M : Nat} {w : World} {s s' : Ar.S} {cells : List ByteArray} {wr w' : World}
theorem below (h : KMid n rows size K b E gc cc M w s cells wr) (hb : Below wr.heap.size wr w') : KMid n rows size K b E gc cc M w s cells w' :=
  ⟨h.kp, h.ary.below hb, owns_below h.own hb, h.bel.trans (hb.mono h.bel.size), h.bw, h.bE, Nat.le_trans h.Ew hb.size⟩
theorem more {K' : Nat} (h : KMid n rows size K b E gc cc M w s cells wr) (hK : K ≤ K') : KMid n rows size K' b E gc cc M w s cells wr := { h with ary := h.ary.more hK }
theorem step {K' : Nat} (h : KMid n rows size K b E gc cc M w s cells wr) (hk : Ar.Kp n rows size s' cells) (ha : AryOk (fun p => b ≤ p ∧ p < E) K' w' b s') (hK : Kept (fun p => b ≤ p ∧ p < E) wr w') : KMid n rows size K' b E gc cc M w s' cells w' :=
  ⟨hk, ha, Kept.owns h.own hK (fun g hg hh => by have h1 := (h.own.lt g hg).1; have h2 : g < E := hh.2; omega), h.bel.trans (hK.toBelow (B := w.heap.size) h.bel.size (fun p _ hh => by have h1 := h.bw; have h2 : b ≤ p := hh.1; omega)), h.bw, h.bE, Nat.le_trans h.Ew hK.size⟩
theorem len (h : KMid n rows size K b E gc cc M w s cells wr) : cells.length = M := by have := h.own.1; simpa using this
theorem geb (h : KMid n rows size K b E gc cc M w s cells wr) : E ≤ gc ∧ gc < wr.heap.size := h.own.lt gc rfl
theorem cell (h : KMid n rows size K b E gc cc M w s cells wr) {j : Nat} (hj : j < M) : wr.cell? ⟨gc, j, none⟩ = some (.string (cells.getD j ⟨#[]⟩)) := by
  have hl := h.len
  rw [h.own.cellAt j (by omega), List.getElem?_map, List.getElem?_eq_getElem (by omega), List.getD_eq_getElem?_getD, List.getElem?_eq_getElem (by omega)]; rfl
/-- a cell is another one, and the array has it -/
theorem put {K' j : Nat} {x : ByteArray} (h : KMid n rows size K b E gc cc M w s cells wr) (hk : Ar.Kp n rows size s' (cells.set j x)) (ha : AryOk (fun p => b ≤ p ∧ p < E) K' w' b s') (hK : Kept (fun p => b ≤ p ∧ p < E) wr w') : KMid n rows size K' b E gc cc M w s' (cells.set j x) (w'.setCell ⟨gc, j, none⟩ (.string x)) := by
  have hg := h.geb
  have ho : w'.ownsRow E 9 1 (.slice (some ⟨gc, 0, none⟩) M cc) M (cells.map Value.string) := Kept.owns h.own hK (fun g hg hh => by have h1 := (h.own.lt g hg).1; have h2 : g < E := hh.2; omega)
  have hb : Below w.heap.size w w' := h.bel.trans (hK.toBelow (B := w.heap.size) h.bel.size (fun p _ hh => by have h1 := h.bw; have h2 : b ≤ p := hh.1; omega))
  have hs : Kept (· = gc) w' (w'.setCell ⟨gc, j, none⟩ (.string x)) := (Kept.self gc w').set1 _ _
  refine ⟨hk, ha.kept hs (fun p hp e => by have h1 : p < E := hp.2; have h2 : p = gc := e; omega), ?_, hb.setCell (p := ⟨gc, j, none⟩) (by show w.heap.size ≤ gc; have := h.bw; have := h.bE; omega) _, h.bw, h.bE, ?_⟩
  · rw [List.map_set]; exact (ho.stored j (.string x)).1
  · have := h.Ew; have := hK.size; have := hs.size; omega
end KMid
def KRel (n rows size b E gc cc M N : Nat) (w : World) (gk : Nat) (v16 : Value) (wr : World) : Prop :=
  ∃ (j : Nat) (s : Ar.S) (cells : List ByteArray), j + gk = N ∧ j ≤ 60 ∧ v16 = iv j ∧ KMid n rows size j b E gc cc M w s cells wr
def KEndRel (n rows size b E gc cc M : Nat) (w : World) (s : Ar.S) (cells : List ByteArray) (gk : Nat) (v29 : Value) (wr : World) : Prop :=
  ∃ y : Nat, y + gk = M ∧ v29 = iv y ∧ KMid n rows size 60 b E gc cc M w s cells wr
theorem info_strQ : (Tryd.prog.info? 9).map (fun i => (i.zero, i.size, i.bytes)) = some (some (.string ⟨#[]⟩), 1, 16) := by kernel_rfl
set_option maxRecDepth 100000 in
set_option maxHeartbeats 8000000 in
theorem arrayKeeps_yes (n rows size : Nat) (v : Value) (xss : List (List Int)) (h3 : 3 ≤ n) (h10 : n ≤ 10) (h1 : 1 ≤ rows) (h2 : rows ≤ 20) (h4 : 1 ≤ size) (h16 : size ≤ 16) (w : World) (hx : Rows2 w v xss) (hg : Handle w) :
    Calls Tryd.prog 6 #[iv n, iv rows, iv size, v] w fun e w' => e = .returned (.bool true) ∧ Below w.heap.size w w' := by
  have Hg := Lib.hid hg
  have hz3 := zero_int3
  obtain ⟨us, hus, hlen, hrows⟩ := hx
  obtain ⟨po, co, rfl, hc1, hc2, hcells⟩ := hus.shape
  rw [hlen] at *
  have Hrows := Lib.hid hrows
  have Hcells := Lib.hid hcells
  unfold maxLen at hc2
  have hNN : xss.length ≤ 9223372036854775807 := by omega
  generalize hN : xss.length = N at *
  have HN := Lib.hid hN
  clear hus hrows hcells hN
  clear hg
  have HN2 := Lib.hid (fun w' => aNew_yes n rows size h3 h10 h1 h2 h4 h16 w')
  have hk0 := Ar.kp_start h3 h10 h1 h2 h4 h16
  have HK0 := Lib.hid hk0
  have hm9 : rows * (n - 2) ≤ 20 * 8 := Nat.mul_le_mul h2 (by omega)
  have hm1 : 1 * 1 ≤ rows * (n - 2) := Nat.mul_le_mul h1 (by omega)
  have hmI : (rows : Int) * ((n : Int) - 2) = ((rows * (n - 2) : Nat) : Int) := by rw [Int.natCast_mul, show ((n - 2 : Nat) : Int) = (n : Int) - 2 by omega]
  have hw1 : IntKind.i64.wrap ((n : Int) - 2) = (n : Int) - 2 := IntWalk.i64_in _ (by omega)
  have hw2 : IntKind.i64.wrap ((rows : Int) * ((n : Int) - 2)) = ((rows * (n - 2) : Nat) : Int) := by rw [hmI]; exact IntWalk.i64_in _ (by omega)
  obtain ⟨M, hM⟩ : ∃ M, M = rows * (n - 2) := ⟨_, rfl⟩
  rw [← hM] at hm9 hm1 hw2 HK0
  have HM := Lib.hid hM
  clear hk0 hmI hM
  have HN1 := Lib.hid (aNew_yes 3 1 1 (by omega) (by omega) (by omega) (by omega) (by omega) (by omega) w)
  obtain ⟨_, _, o1, o2, o3, o4⟩ := Ar.one_kp
  have O1 := Lib.hid o1
  have O2 := Lib.hid o2
  have O3 := Lib.hid o3
  have O4 := Lib.hid o4
  have hsl := strl_eq ⟨#[7]⟩
  clear o1 o2 o3 o4
  go_enter Tryd.func6, Tryd.ntmps6
  go_wp2_with fail
  refine HN1.out.mono ?_
  rintro e w1 ⟨rfl, hA, hB⟩
  have HB1 := Lib.hid hB
  have HA1 := Lib.hid (aWrite hA (by omega) 0 (by omega) (by omega) ⟨#[7]⟩ (by decide))
  rw [O1.out, errV_0] at HA1
  clear hA hB HN1
  go_wp2_with fail
  refine HA1.out.mono ?_
  rintro e w2 ⟨rfl, hA, hK⟩
  have HB2 := Lib.hid (HB1.out.trans (hK.toBelow (B := w.heap.size) HB1.out.size (fun p _ h => h)))
  have HA2 := Lib.hid (aFail hA 0)
  rw [O2.out, errV_0] at HA2
  clear hA hK HA1 HB1
  go_wp2_with fail
  refine HA2.out.mono ?_
  rintro e w3 ⟨rfl, hA, hK⟩
  have HB3 := Lib.hid (HB2.out.trans (hK.toBelow (B := w.heap.size) HB2.out.size (fun p _ h => h)))
  have HA3 := Lib.hid (aFail hA 1)
  rw [O3.out, errV_0] at HA3
  clear hA hK HA2 HB2
  go_wp2_with fail
  refine HA3.out.mono ?_
  rintro e w4 ⟨rfl, hA, hK⟩
  have HB4 := Lib.hid (HB3.out.trans (hK.toBelow (B := w.heap.size) HB3.out.size (fun p _ h => h)))
  have HA4 := Lib.hid (aRead hA 0 (by omega) (by omega))
  rw [O4.out, errV_0] at HA4
  clear hA hK HA3 HB3
  go_wp2_with fail
  refine HA4.out.mono ?_
  rintro e w5 ⟨rfl, hB5⟩
  have HB5 := Lib.hid (HB4.out.trans (hB5.mono HB4.out.size))
  have hz5 := HB5.out.size
  clear hB5 HA4 HB4
  go_wp2_with fail
  refine (HN2.out _).mono ?_
  rintro e w6 ⟨rfl, hA, hB6⟩
  obtain ⟨b, hb⟩ : ∃ b, b = w5.heap.size := ⟨_, rfl⟩
  obtain ⟨E, hE⟩ : ∃ E, E = w6.heap.size := ⟨_, rfl⟩
  rw [← hb] at hA hz5 ⊢
  have hbE : b < E := by obtain ⟨_, _, _, _, _, _, hat, _⟩ := hA; rw [hE]; exact hat.lt
  have HA6 : Hid (AryOk (fun p => b ≤ p ∧ p < E) 0 w6 b (Ar.s0 n rows size)) := Lib.hid (hA.wide (fun k hk h => ⟨h, by rw [hE]; exact hk⟩))
  have HB6 := Lib.hid (HB5.out.trans (hB6.mono (by omega)))
  have HE := Lib.hid hE
  have mk := make_bytes size (by omega)
  have cv := fun w' => conv_bytes0 size w'
  clear hA hB6 hb hE HB5
  go_wp2_with fail
  go_loopg [14, 15] M (fun gk v i wr => K1Rel E size w6 M gk v i wr)
  case atStart => exact ⟨0, by omega, rfl, World.ownsRow_nil _ _ _ _, Below.refl _ _⟩
  case round =>
    obtain ⟨k, hk, rfl, hown, hb⟩ := hrel
    have Hk := Lib.hid hk
    have Hown := Lib.hid hown
    have Hb := Lib.hid hb
    have hbz := hb.size
    by_cases hlt : k < M
    · have hsucc : List.replicate k (Value.string (Dk.noughts size)) ++ [Value.string (Dk.noughts size)] = List.replicate (k + 1) (Value.string (Dk.noughts size)) := by
        rw [List.replicate_succ']
      have Hsucc := Lib.hid hsucc
      have hw2 : wr.heap.size + 1 = (wr.alloc (.cells (madeCells #[.int .u8 0] size) 5)).heap.size := by simp
      have Hw2 := Lib.hid hw2
      clear hk hown hb hsucc hw2
      go_wp2_with (at_builtin; refine app1 w6 (wr.alloc (.cells (madeCells #[.int .u8 0] size) 5)) _ 9 40 rfl _ _ rfl E Tryd.underlying40 info_strQ rfl _ _ _ rfl _ rfl Hw2.out (Hown.out.alloc _) rfl ?c1 ?c2 ?c3 ?c4 ?_)
      case c1 => omega
      case c2 => omega
      case c3 => simp; have := HE.out; omega
      case c4 => exact Hb.out.alloc (by have := HE.out; omega) _
      intro v' w1' hown1 hb1 hg1 _
      rw [Hsucc.out] at hown1
      have Hown1 := Lib.hid hown1
      have Hb1 := Lib.hid hb1
      clear hown1 hb1
      go_wp2_with fail
      go_roundg (gk - 1)
      case measure => have := Hk.out; omega
      case rel => exact ⟨k + 1, by have := Hk.out; omega, by go_num, Hown1.out, Hb1.out⟩
    · have hkM : k = M := by omega
      have hEz := HE.out
      subst hkM
      obtain ⟨gc, cc, rfl, hgb, hgz, hmc, hcm, _, _⟩ := owns_pos hown (by omega)
      have hb6 : Below w6.heap.size w6 wr := by rw [← hEz]; exact hb
      have hKM : KMid n rows size 0 b E gc cc k w (Ar.s0 n rows size) (List.replicate k (Dk.noughts size)) wr :=
        ⟨HK0.out, HA6.out.below hb6, by rw [List.map_replicate]; exact hown, HB6.out.trans (hb6.mono HB6.out.size), hz5, hbE, by rw [hEz]; exact hbz⟩
      have HKM := Lib.hid hKM
      unfold maxLen at hcm
      clear hk hown hb hlt hKM HA6 HB6 Hown Hb Hk hbz hgz hb6 HK0
      go_upto_block 2 with (fail)
      go_cut [] (fun wq => ∃ wk s cells, wk = wq ∧ KMid n rows size 60 b E gc cc k w s cells wk)
      case first => as_aux_lemma =>
        go_wp2_with fail
        go_loopg [16] N (fun gk i wr => KRel n rows size b E gc cc k N w gk i wr)
        case atStart => exact ⟨0, _, _, by omega, by omega, rfl, HKM.out⟩
        case round =>
          obtain ⟨wO, hwO⟩ : ∃ x : World, x = wr := ⟨_, rfl⟩
          obtain ⟨gO, hgO⟩ : ∃ x : Nat, x = gk := ⟨_, rfl⟩
          subst hwO hgO
          obtain ⟨j, s, cells, hj, hj60, rfl, hK⟩ := hrel
          clear HKM
          have HKM := Lib.hid hK
          have HWB := Lib.hid hK.bel
          have hEw := hK.Ew
          have hgeb := hK.geb
          clear hK
          have Hj := Lib.hid hj
          by_cases hlt : j < N
          · by_cases hlt60 : j < 60
            · have b60 : decide ((j : Int) < 60) = true := dec_t (by omega)
              obtain ⟨go, oo, hpo, hco⟩ := Hcells.out (by omega)
              obtain ⟨xs, hxs⟩ : ∃ xs, xss[j]? = some xs := ⟨xss[j]'(by rw [HN.out]; exact hlt), List.getElem?_eq_getElem _⟩
              obtain ⟨u, hu, hru, hwf⟩ := Hrows.out j xs hxs
              have hcu := hco j hlt
              rw [hu] at hcu
              obtain ⟨pi, ci, hu2, hi1, hi2, hi3⟩ := hru.shape
              rw [List.length_map] at hu2 hi1 hi3
              rw [hu2] at hcu
              have hlow : go < w.heap.size := World.block_lt_of_cell? w _ hcu
              have fcu : ∀ x y z : Int, (wO.alloc (.cells #[iv x, iv y, iv z] 51)).cell? ⟨go, oo + j, none⟩ = some (.slice pi xs.length ci) := by
                intro x y z
                have h := ((HWB.out.alloc HWB.out.size (.cells #[iv x, iv y, iv z] 51)).cell (p := ⟨go, oo + j, none⟩) hlow)
                exact h.trans hcu
              have hi2' : xs.length ≤ 9223372036854775807 := by unfold maxLen at hi2; omega
              have Hi3 := Lib.hid hi3
              rw [hpo]
              have Hpo := Lib.hid hpo
              clear hj hco hxs hu hru hwf hcu hu2 hi3 hpo
              go_upto_block 4 with (fail)
              go_cut [18] (fun _ wq => ∃ x y z : Int, wq = wO.alloc (.cells #[iv x, iv y, iv z] 51))
              case first => as_aux_lemma =>
                go_wp2_with fail
                go_loopg [18] 3 (fun gq q wq => Step3Rel wO gq q wq)
                case atStart => exact ⟨0, 0, 0, 0, rfl, rfl, rfl⟩
                case round =>
                  obtain ⟨q, x, y, z, hq, rfl, rfl⟩ := hrel
                  have f1 := fcu x y z
                  by_cases hq0 : q < xs.length
                  · obtain ⟨gi, oi, rfl, hci⟩ := Hi3.out (by omega)
                    obtain ⟨u, hz⟩ : ∃ z, xs[q]? = some z := ⟨xs[q], List.getElem?_eq_getElem hq0⟩
                    have hcz := hci q hq0
                    rw [List.getElem?_map, hz] at hcz
                    have hlz : gi < w.heap.size := World.block_lt_of_cell? w _ hcz
                    have f2 : (wO.alloc (.cells #[iv x, iv y, iv z] 51)).cell? ⟨gi, oi + q, none⟩ = some (iv u) :=
                      ((HWB.out.alloc HWB.out.size (.cells #[iv x, iv y, iv z] 51)).cell (p := ⟨gi, oi + q, none⟩) hlz).trans hcz
                    clear hci hz hcz fcu
                    have hq3 : q = 0 ∨ q = 1 ∨ q = 2 ∨ q = 3 := by omega
                    rcases hq3 with rfl | rfl | rfl | rfl
                    · rw [Nat.add_zero] at f2
                      go_wp2_with fail
                      go_roundg 2
                      case measure => omega
                      case rel => exact ⟨1, u, y, z, rfl, rfl, rfl⟩
                    · go_wp2_with fail
                      go_roundg 1
                      case measure => omega
                      case rel => exact ⟨2, x, u, z, rfl, rfl, rfl⟩
                    · go_wp2_with fail
                      go_roundg 0
                      case measure => omega
                      case rel => exact ⟨3, x, y, u, rfl, rfl, rfl⟩
                    · go_wp2_with fail
                      go_meet
                      exact ⟨x, y, z, rfl⟩
                  · clear fcu
                    go_wp2_with fail
                    go_meet
                    exact ⟨x, y, z, rfl⟩
              case rest =>
                obtain ⟨x, y, u, rfl⟩ := hcut
                clear fcu
                obtain ⟨D, hD⟩ : ∃ D : Nat, D = wO.heap.size := ⟨_, rfl⟩
                obtain ⟨wA, hwA⟩ : ∃ W : World, W = wO.alloc (.cells #[iv x, iv y, iv u] 51) := ⟨_, rfl⟩
                have c0 : wA.cell? ⟨D, 0, none⟩ = some (iv x) := by rw [hwA, hD]; simp
                have c1 : wA.cell? ⟨D, 1, none⟩ = some (iv y) := by rw [hwA, hD]; simp
                have c2 : wA.cell? ⟨D, 2, none⟩ = some (iv u) := by rw [hwA, hD]; simp
                have hDE : E ≤ D := by omega
                have hDg : gc < D := by omega
                have HKA : Hid (KMid n rows size j b E gc cc k w s cells wA) := Lib.hid (by rw [hwA]; exact HKM.out.below ((Below.refl wO.heap.size wO).alloc (Nat.le_refl _) _))
                rw [← hwA, ← hD]
                clear hwA hD HKM HWB hgeb
                go_upto_block 6 with (fail)
                go_cut [] (fun wq => ∃ wk s' cells', wk = wq ∧ KMid n rows size (j + 1) b E gc cc k w s' cells' wk ∧ wk.cell? ⟨D, 1, none⟩ = some (iv y))
                case first => as_aux_lemma =>
                  obtain ⟨bx, hbx⟩ : ∃ bx : Bool, bx = decide (x = 0 ∨ x = 1 ∨ x = 2) := ⟨_, rfl⟩
                  have HBx := Lib.hid hbx
                  clear hbx
                  go_upto_if 153 with (fail)
                  go_cut [153] (fun s wq => s = .bool bx ∧ wA = wq)
                  case first => as_aux_lemma =>
                    by_cases h0 : x = 0
                    · have HX := Lib.hid (show bx = true by rw [HBx.out]; simp [h0])
                      have t0 := beq_t h0
                      clear h0
                      go_wp2_with fail
                      go_meet
                      exact ⟨by rw [HX.out, t0], rfl⟩
                    · by_cases h1 : x = 1
                      · have HX := Lib.hid (show bx = true by rw [HBx.out]; simp [h1])
                        have t0 := beq_f h0
                        have t1 := beq_t h1
                        clear h0 h1
                        go_wp2_with fail
                        go_meet
                        exact ⟨by rw [HX.out], rfl⟩
                      · have HX := Lib.hid (show bx = (x == 2) by rw [HBx.out]; simp [h0, h1]; rfl)
                        have t0 := beq_f h0
                        have t1 := beq_f h1
                        clear h0 h1
                        go_wp2_with fail
                        go_meet
                        exact ⟨by rw [HX.out], rfl⟩
                  case rest =>
                  obtain ⟨rfl, rfl⟩ := hcut
                  cases bx with
                  | true =>
                    have HBl := Lib.hid (block_law size h16 u wA)
                    have hDl := World.block_lt_of_cell? _ _ c1
                    go_wp2_with fail
                    refine HBl.out.mono ?_
                    rintro e w7 ⟨q, rfl, hq17, hB7⟩
                    have HK7 := Lib.hid (HKA.out.below hB7)
                    have c17 := (hB7.cell (p := ⟨D, 1, none⟩) hDl).trans c1
                    have hDl7 := World.block_lt_of_cell? _ _ c17
                    clear hB7 c0 c1 c2 HKA
                    by_cases hz : q.size = size
                    · have hne : ((q.size : Int) != (size : Int)) = false := bne_f (by omega)
                      by_cases hy0 : 0 ≤ y
                      · by_cases hyM : y < (k : Int)
                        · obtain ⟨r, rfl⟩ : ∃ r : Nat, y = r := ⟨y.toNat, by omega⟩
                          have hrk : r < k := by omega
                          have hkw := Ar.kp_write HK7.out.kp (y := r) (by rw [← HM.out]; exact hrk) hz
                          have HW := Lib.hid (aWrite HK7.out.ary (by omega) (r : Int) (by omega) (by omega) q (by unfold maxLen; omega))
                          rw [hkw.1, errV_0] at HW
                          have HKw := Lib.hid hkw.2
                          clear hkw hz
                          go_wp2_with fail
                          refine HW.out.mono ?_
                          rintro e w8 ⟨rfl, hA8, hK8⟩
                          have HKp := Lib.hid (HK7.out.put HKw.out hA8 hK8)
                          have hg8 := HK7.out.geb
                          have c18 := hK8.cell c17 (fun h => by have h2 : D < E := h.2; omega)
                          have g8 := hK8.cell (HK7.out.cell hrk) (fun h => by have h2 : gc < E := h.2; omega)
                          have f8 : w8.frozen? ⟨gc, r, none⟩ = false := (hK8.frozen hg8.2 (fun h => by have h2 : gc < E := h.2; omega)).trans (HK7.out.own.frozenAt r)
                          have c19 : (w8.setCell ⟨gc, r, none⟩ (.string q)).cell? ⟨D, 1, none⟩ = some (iv (r : Int)) := ((Kept.self gc w8).set1 r (.string q)).cell c18 (by omega)
                          have C19 := Lib.hid c19
                          obtain ⟨xo, hxo⟩ : ∃ xo, xo = cells.getD r ⟨#[]⟩ := ⟨_, rfl⟩
                          rw [← hxo] at g8
                          clear hA8 hK8 c17 c19 hxo
                          go_wp2_with fail
                          go_meet
                          exact ⟨_, _, _, rfl, HKp.out, C19.out⟩
                        · clear hz
                          go_wp2_with fail
                          rw [← Hpo.out]
                          go_roundg (gO - 1)
                          case measure => have := Hj.out; omega
                          case rel => exact ⟨j + 1, _, _, by have := Hj.out; omega, by omega, by go_num, HK7.out.more (by omega)⟩
                      · clear hz
                        go_wp2_with fail
                        rw [← Hpo.out]
                        go_roundg (gO - 1)
                        case measure => have := Hj.out; omega
                        case rel => exact ⟨j + 1, _, _, by have := Hj.out; omega, by omega, by go_num, HK7.out.more (by omega)⟩
                    · have hne : ((q.size : Int) != (size : Int)) = true := bne_t (by omega)
                      clear hz
                      go_wp2_with fail
                      rw [← Hpo.out]
                      go_roundg (gO - 1)
                      case measure => have := Hj.out; omega
                      case rel => exact ⟨j + 1, _, _, by have := Hj.out; omega, by omega, by go_num, HK7.out.more (by omega)⟩
                  | false =>
                    have hDE2 : ¬ (b ≤ D ∧ D < E) := by omega
                    by_cases hx3 : x = 3
                    · have t3 := beq_t hx3
                      clear hx3
                      go_upto_block 7 with (fail)
                      go_cut [20] (fun v20 wq => ∃ m : Nat, v20 = iv m ∧ (∀ row, row < rows → s.many row ≤ m) ∧ wA = wq)
                      case first => as_aux_lemma =>
                        have HL := Lib.hid (fun r : Int => aLost HKA.out.ary r)
                        have her := HKA.out.kp.er
                        have Her := Lib.hid her
                        have H2 := Lib.hid HKA.out.kp.two
                        clear her c0 c1 c2
                        go_wp2_with fail
                        go_loopg [20, 21, 22, 23] rows (fun gk v20 v21 v22 v23 wr => ∃ r m : Nat, r + gk = rows ∧ v21 = iv r ∧ v20 = iv m ∧ (∀ row, row < r → s.many row ≤ m) ∧ wA = wr)
                        case atStart => exact ⟨0, 0, by omega, rfl, rfl, fun row h => by omega, rfl⟩
                        case round =>
                          obtain ⟨r, m, hr, rfl, rfl, hm, rfl⟩ := hrel
                          have Hr := Lib.hid hr
                          have Hm := Lib.hid hm
                          clear hr hm
                          by_cases hrl : r < rows
                          · have HLr := Lib.hid (HL.out (r : Int))
                            have hh : s.hasRow (r : Int) := ⟨by omega, by rw [Her.out]; omega⟩
                            have e1 : s.lostN (r : Int) = s.many r := by unfold Ar.S.lostN; rw [if_pos hh, Int.toNat_natCast]
                            have e2 : s.rawF (r : Int) = 0 := by unfold Ar.S.rawF; rw [if_pos hh]
                            rw [e1, e2, errV_0] at HLr
                            obtain ⟨mr, hmr⟩ : ∃ mr, mr = s.many r := ⟨_, rfl⟩
                            rw [← hmr] at HLr
                            have Hmr := Lib.hid hmr
                            clear e1 e2 hh hmr
                            by_cases hgt : m < mr
                            · go_wp2_with fail
                              refine HLr.out.mono ?_
                              rintro e w' ⟨rfl, rfl⟩
                              go_wp2_with fail
                              go_roundg (gk - 1)
                              case measure => have := Hr.out; omega
                              case rel => exact ⟨r + 1, mr, by have := Hr.out; omega, by go_num, rfl, fun row h => by
                                by_cases e : row = r
                                · rw [e, Hmr.out]; exact Nat.le_refl _
                                · have := Hm.out row (by omega); omega, rfl⟩
                            · go_wp2_with fail
                              refine HLr.out.mono ?_
                              rintro e w' ⟨rfl, rfl⟩
                              go_wp2_with fail
                              go_roundg (gk - 1)
                              case measure => have := Hr.out; omega
                              case rel => exact ⟨r + 1, m, by have := Hr.out; omega, by go_num, rfl, fun row h => by
                                by_cases e : row = r
                                · rw [e, ← Hmr.out]; omega
                                · exact Hm.out row (by omega), rfl⟩
                          · have hrr : r = rows := by have := Hr.out; omega
                            subst hrr
                            go_wp2_with fail
                            go_meet
                            exact ⟨m, rfl, Hm.out, rfl⟩
                      case rest =>
                      obtain ⟨m, rfl, hm, rfl⟩ := hcut
                      have Hm := Lib.hid hm
                      clear hm
                      by_cases hm2 : m < 2
                      · have hkf := Ar.kp_fail HKA.out.kp (fun row hr => by have := Hm.out row hr; omega) y
                        have HKf := Lib.hid hkf
                        have HF := Lib.hid (aFail HKA.out.ary y)
                        obtain ⟨ef, hef⟩ : ∃ ef, ef = errV (s.fail y).1 := ⟨_, rfl⟩
                        rw [← hef] at HF
                        clear hkf hef
                        go_wp2_with fail
                        refine HF.out.mono ?_
                        rintro e w8 ⟨rfl, hA8, hK8⟩
                        have HK8 := Lib.hid ((HKA.out.step HKf.out hA8 hK8).more (show j ≤ j + 1 by omega))
                        have C8 := Lib.hid (hK8.cell c1 hDE2)
                        clear hA8 hK8
                        go_wp2_with fail
                        go_meet
                        exact ⟨_, _, _, rfl, HK8.out, C8.out⟩
                      · have C8 := Lib.hid c1
                        go_wp2_with fail
                        go_meet
                        exact ⟨_, _, _, rfl, HKA.out.more (by omega), C8.out⟩
                    · have t3 := beq_f hx3
                      by_cases hx4 : x = 4
                      · have t4 := beq_t hx4
                        clear hx3 hx4
                        have HKf := Lib.hid (Ar.kp_replace HKA.out.kp y)
                        have HF := Lib.hid (aReplace HKA.out.ary y)
                        obtain ⟨ef, hef⟩ : ∃ ef, ef = errV (s.replace y).1 := ⟨_, rfl⟩
                        rw [← hef] at HF
                        clear hef
                        go_wp2_with fail
                        refine HF.out.mono ?_
                        rintro e w8 ⟨rfl, hA8, hK8⟩
                        have HK8 := Lib.hid ((HKA.out.step HKf.out hA8 hK8).more (show j ≤ j + 1 by omega))
                        have C8 := Lib.hid (hK8.cell c1 hDE2)
                        clear hA8 hK8
                        go_wp2_with fail
                        go_meet
                        exact ⟨_, _, _, rfl, HK8.out, C8.out⟩
                      · have t4 := beq_f hx4
                        clear hx3 hx4
                        have hkr := Ar.kp_rebuild HKA.out.kp y
                        have HKf := Lib.hid hkr.2
                        have HF := Lib.hid (aRebuild HKA.out.ary (by omega) y)
                        unfold RbPost at HF
                        obtain ⟨rx, hrx⟩ : ∃ rx, rx = (s.rebuild y).1.1 := ⟨_, rfl⟩
                        obtain ⟨re, hre⟩ : ∃ re, re = (s.rebuild y).1.2 := ⟨_, rfl⟩
                        rw [← hrx, ← hre] at HF
                        have hr8 : (re == 8) = false := beq_f (by rw [hre]; exact hkr.1)
                        clear hkr hrx hre
                        obtain ⟨ev9, hev9⟩ : ∃ ev9, ev9 = errV re := ⟨_, rfl⟩
                        rw [← hev9] at HF
                        have Hev9 := Lib.hid hev9
                        clear hev9
                        go_wp2_with fail
                        refine HF.out.mono ?_
                        rintro e w8 ⟨rfl, hA8, hK8⟩
                        have HK8 := Lib.hid (HKA.out.step HKf.out hA8 hK8)
                        have hc8 := hK8.cell c1 hDE2
                        have hD8 := World.block_lt_of_cell? _ _ hc8
                        have HSm := Lib.hid (same_any re 8 w8 (Hg.out.below (Nat.le_refl _) HK8.out.bel))
                        rw [hr8, ← Hev9.out] at HSm
                        clear hA8 hK8 hr8
                        go_wp2_with fail
                        refine HSm.out.mono ?_
                        rintro e w9 ⟨rfl, hB9⟩
                        have HK9 := Lib.hid (HK8.out.below hB9)
                        have C9 := Lib.hid ((hB9.cell (p := ⟨D, 1, none⟩) hD8).trans hc8)
                        clear hB9 hc8
                        go_wp2_with fail
                        go_meet
                        exact ⟨_, _, _, rfl, HK9.out, C9.out⟩
                case rest =>
                  obtain ⟨wk, s', cells', hwk, hK2, c1k⟩ := hcut
                  subst hwk
                  clear HKA c0 c1 c2
                  have HK2 := Lib.hid hK2
                  clear hK2
                  by_cases hy0 : 0 ≤ y
                  · by_cases hyM : y < (k : Int)
                    · obtain ⟨q, rfl⟩ : ∃ q : Nat, y = q := ⟨y.toNat, by omega⟩
                      have hqk : q < k := by omega
                      have hrd := Ar.kp_read HK2.out.kp (y := q) (by rw [← HM.out]; exact hqk)
                      have HRd := Lib.hid (aRead HK2.out.ary (q : Int) (by omega) (by omega))
                      rw [hrd, errV_0] at HRd
                      have hsl2 := strl_eq (cells'.getD q ⟨#[]⟩)
                      obtain ⟨cx, hcx⟩ : ∃ cx, cx = cells'.getD q ⟨#[]⟩ := ⟨_, rfl⟩
                      rw [← hcx] at HRd hsl2
                      have Hcx := Lib.hid hcx
                      clear hrd hcx
                      go_wp2_with fail
                      refine HRd.out.mono ?_
                      rintro e wr2 ⟨rfl, hbr⟩
                      have HK3 := Lib.hid (HK2.out.below hbr)
                      have c1r := (hbr.cell (p := ⟨D, 1, none⟩) (World.block_lt_of_cell? _ _ c1k)).trans c1k
                      have ccr := HK3.out.cell hqk
                      rw [← Hcx.out] at ccr
                      clear hbr c1k
                      go_wp2_with fail
                      rw [← Hpo.out]
                      go_roundg (gO - 1)
                      case measure => have := Hj.out; omega
                      case rel => exact ⟨j + 1, _, _, by have := Hj.out; omega, by omega, by go_num, HK3.out⟩
                    · go_wp2_with fail
                      rw [← Hpo.out]
                      go_roundg (gO - 1)
                      case measure => have := Hj.out; omega
                      case rel => exact ⟨j + 1, _, _, by have := Hj.out; omega, by omega, by go_num, HK2.out⟩
                  · go_wp2_with fail
                    rw [← Hpo.out]
                    go_roundg (gO - 1)
                    case measure => have := Hj.out; omega
                    case rel => exact ⟨j + 1, _, _, by have := Hj.out; omega, by omega, by go_num, HK2.out⟩
            · have hNj : 60 = j := by omega
              have b60 : decide ((j : Int) < 60) = false := dec_f (by omega)
              go_wp2_with fail
              go_meet
              exact ⟨_, s, cells, rfl, HKM.out.more (by omega)⟩
          · have hNj : j = N := by omega
            subst hNj
            go_wp2_with fail
            go_meet
            exact ⟨_, s, cells, rfl, HKM.out.more (by omega)⟩
      case rest =>
        obtain ⟨wF, s, cells, hwF, hK⟩ := hcut
        subst hwF
        have HKF := Lib.hid hK
        clear HKM hK
        go_wp2_with fail
        go_loopg [29, 30, 31] k (fun gk v29 v30 v31 wr => KEndRel n rows size b E gc cc k w s cells gk v29 wr)
        case atStart => exact ⟨0, by omega, rfl, HKF.out⟩
        case round =>
          obtain ⟨q, hq, rfl, hK⟩ := hrel
          have Hq := Lib.hid hq
          have HKr := Lib.hid hK
          clear hq hK
          by_cases hqk : q < k
          · have hrd := Ar.kp_read HKr.out.kp (y := q) (by rw [← HM.out]; exact hqk)
            have HRd := Lib.hid (aRead HKr.out.ary (q : Int) (by omega) (by omega))
            rw [hrd, errV_0] at HRd
            have hsl2 := strl_eq (cells.getD q ⟨#[]⟩)
            obtain ⟨cx, hcx⟩ : ∃ cx, cx = cells.getD q ⟨#[]⟩ := ⟨_, rfl⟩
            rw [← hcx] at HRd hsl2
            have Hcx := Lib.hid hcx
            clear hrd hcx
            go_wp2_with fail
            refine HRd.out.mono ?_
            rintro e wr2 ⟨rfl, hbr⟩
            have HK3 := Lib.hid (HKr.out.below hbr)
            have ccr := HK3.out.cell hqk
            rw [← Hcx.out] at ccr
            clear hbr
            go_wp2_with fail
            go_roundg (gk - 1)
            case measure => have := Hq.out; omega
            case rel => exact ⟨q + 1, by have := Hq.out; omega, by go_num, HK3.out⟩
          · have hqe : q = k := by have := Hq.out; omega
            go_wp2_with fail
            go_ret
            exact ⟨rfl, HKr.out.bel⟩
theorem arrayKeeps_walk (n rows size : Int) (v : Value) (hn : (Lit.int .i64 n).wf = true) (hr : (Lit.int .i64 rows).wf = true) (hs : (Lit.int .i64 size).wf = true) (w : World) (hg : Handle w) (hx : ∃ xss, Rows2 w v xss) :
    Calls Tryd.prog 6 #[iv n, iv rows, iv size, v] w fun e w' => e = .returned (.bool true) ∧ Below w.heap.size w w' := by
  obtain ⟨xss, hx⟩ := hx
  by_cases h : aNewF n rows size = 0
  · have hc : 3 ≤ n ∧ n ≤ 10 ∧ 1 ≤ rows ∧ rows ≤ 20 ∧ 1 ≤ size ∧ size ≤ 16 := by
      unfold aNewF at h
      by_cases hc : n < 3 ∨ 10 < n ∨ rows < 1 ∨ 20 < rows ∨ size < 1 ∨ 16 < size
      · rw [if_pos hc] at h; exact absurd h (by decide)
      · omega
    obtain ⟨m, rfl⟩ : ∃ m : Nat, n = m := ⟨n.toNat, by omega⟩
    obtain ⟨r, rfl⟩ : ∃ r : Nat, rows = r := ⟨rows.toNat, by omega⟩
    obtain ⟨z, rfl⟩ : ∃ z : Nat, size = z := ⟨size.toNat, by omega⟩
    exact arrayKeeps_yes m r z v xss (by omega) (by omega) (by omega) (by omega) (by omega) (by omega) w hx hg
  · exact arrayKeeps_no n rows size v h w
end Go.Proofs.YtcldioneiededaaDoor
