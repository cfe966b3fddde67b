/- The walk of the law DiskPlays: it returns true. -/
import Derived.Test.YtangcjffiooapaaDoorDiskD
import Derived.RegionTactic
namespace Go.Proofs.YtangcjffiooapaaDoor
open Go.ChangeShapes Go.WideShapes Go.ChangeAt Go.RowKit
set_option linter.unusedVariables false
set_option maxRecDepth 100000 in
theorem diskPlays_no (x y : Int) (v : Value) (h : x < 1 ∨ 1 ≤ x ∧ 20 < x ∨ 1 ≤ x ∧ x ≤ 20 ∧ y < 1 ∨ 1 ≤ x ∧ x ≤ 20 ∧ 1 ≤ y ∧ 16 < y) (w : World) (hg : Handle w) :
    Calls Tryd.prog 8 #[iv x, iv y, v] w fun e w' => e = .returned (.bool true) ∧ Below w.heap.size w w' := by
  have Hg := Lib.hid hg
  have Hn := Lib.hid h
  clear hg
  rcases h with h | ⟨h1, h2⟩ | ⟨h1, h2, h3⟩ | ⟨h1, h2, h3, h4⟩
  all_goals
    go_enter Tryd.func8, Tryd.ntmps8
    go_wp2_with fail
    refine (new_no x y Hn.out _).mono ?_
    rintro e w' ⟨rfl, rfl⟩
    go_wp2_with fail
    refine (same_ev 1 1 _ Hg.out).mono ?_
    rintro e w' ⟨rfl, hb⟩
    go_wp2_with fail
    go_ret
    exact ⟨rfl, hb⟩
def DCells (z b : Nat) (w1 : World) (m gk : Nat) (v i : Value) (wr : World) : Prop :=
  ∃ k : Nat, k + gk = m ∧ i = iv k ∧ wr.ownsRow (b + 1) 9 1 v k (List.replicate k (Value.string (Dk.noughts z))) ∧ Below (b + 1) w1 wr
def DRel (w : World) (b g cap m z N gk : Nat) (told fl wri i : Value) (wr : World) : Prop :=
  ∃ (j : Nat) (d : Dk.D) (f : Bool), j + gk = N ∧ j ≤ 60 ∧ i = iv j ∧ told = .bool true ∧ fl = .bool f ∧ f = d.failed ∧ wri = iv d.writes ∧ d.writes ≤ j ∧ DP w b g cap m z d (d.rows.take m) wr
structure StepW (w : World) (b g cap m z : Nat) (d : Dk.D) (L : List ByteArray) (D : Nat) (y u t : Int) (wq : World) : Prop where
  dp : DP w b g cap m z d L wq
  gD : g < D
  c1 : wq.cell? ⟨D, 1, none⟩ = some (iv y)
  c2 : wq.cell? ⟨D, 2, none⟩ = some (iv u)
  c3 : wq.cell? ⟨D, 3, none⟩ = some (iv t)
theorem StepW.below {w : World} {b g cap m z : Nat} {d : Dk.D} {L : List ByteArray} {D : Nat} {y u t : Int} {wq wq' : World} (h : StepW w b g cap m z d L D y u t wq) (hb : Below wq.heap.size wq wq') : StepW w b g cap m z d L D y u t wq' :=
  have hlt := World.block_lt_of_cell? wq _ h.c1
  ⟨h.dp.below hb, h.gD, (hb.cell (p := ⟨D, 1, none⟩) hlt).trans h.c1, (hb.cell (p := ⟨D, 2, none⟩) hlt).trans h.c2, (hb.cell (p := ⟨D, 3, none⟩) hlt).trans h.c3⟩
theorem wrap_byte (t : Int) : ∃ a : UInt8, IntKind.u8.wrap t = (a.toNat : Int) := by
  refine ⟨UInt8.ofNat (t % 256).toNat, ?_⟩
  rw [UInt8.toNat_ofNat', Nat.mod_eq_of_lt (by omega)]
  simp [IntKind.wrap, IntKind.bits, IntKind.signed]; omega
theorem conv_one (w : World) (a : UInt8) : (convert 83 9 (.slice (some ⟨w.heap.size, 0, none⟩) 1 1)).run Tryd.prog (w.alloc (.cells #[.int .u8 a.toNat] 5)).drew = .ok (.string ⟨#[a]⟩) (w.alloc (.cells #[.int .u8 a.toNat] 5)).drew := by
  have h := run_convert_bytes_back (P := Tryd.prog) (w.alloc (.cells #[.int .u8 a.toNat] 5)).drew 83 9 5 ⟨w.heap.size, 0, none⟩ 1 [a] Tryd.underlying83 Tryd.underlying5 Tryd.underlying9 (fun j hj => by
    show (w.alloc (.cells #[.int .u8 a.toNat] 5)).cell? _ = _
    rw [Addr.add_lit, Nat.zero_add, World.cell?_alloc_at _ _ _ _ rfl]
    have hj3 : j = 0 := by simp at hj; omega
    subst hj3; rfl)
  exact h
theorem one_ext (a : UInt8) (q : ByteArray) : ((⟨#[a]⟩ : ByteArray) ++ q.extract 1 q.size).size ≤ q.size + 1 := by
  rw [ByteArray.size_append, ByteArray.size_extract]
  have : (⟨#[a]⟩ : ByteArray).size = 1 := rfl
  omega
theorem strl_same (b : ByteArray) : (b.toList == b.toList) = true := by simp
def FreshRel (w : World) (b g cap m z : Nat) (d : Dk.D) (D : Nat) (y : Int) (gk : Nat) (i : Value) (wr : World) : Prop :=
  ∃ p : Nat, p + gk = m ∧ i = iv p ∧ DP w b g cap m z d (Dk.fresh p z (d.rows.take m)) wr ∧ wr.cell? ⟨D, 1, none⟩ = some (iv y)
theorem replace_post {w : World} {b : Nat} {d : Dk.D} (h : DiskAt w b d) :
    Calls Tryd.prog 48 #[.pointer (some ⟨b, 0, none⟩)] w fun e w' => e = .returned (errV d.replace.1) ∧ DiskAt w' b d.replace.2 ∧ Kept (· = b) w w' ∧ True :=
  (replace_any h).mono fun _ _ ⟨h1, h2, h3⟩ => ⟨h1, h2, h3, trivial⟩
theorem info_str : (Tryd.prog.info? 9).map (fun i => (i.zero, i.size, i.bytes)) = some (some (.string ⟨#[]⟩), 1, 16) := by kernel_rfl
set_option maxRecDepth 100000 in
set_option maxHeartbeats 8000000 in
theorem diskPlays_core (m z : Nat) (h1 : 1 ≤ m) (h2 : m ≤ 20) (h3 : 1 ≤ z) (h4 : z ≤ 16) (v : Value) (xss : List (List Int)) (w : World) (hx : Rows2 w v xss) (hg : Handle w) :
    Calls Tryd.prog 8 #[iv m, iv z, v] w fun e w' => e = .returned (.bool true) ∧ Below w.heap.size w w' := by
  have hz4 := zero_int4
  have Hg := Lib.hid hg
  obtain ⟨us, hus, hlen, hrows⟩ := hx
  obtain ⟨po, co, rfl, hc1, hc2, hcells⟩ := hus.shape
  rw [hlen] at *
  have Hrows := Lib.hid hrows
  have Hcells := Lib.hid hcells
  unfold maxLen at hc2
  have hNN : xss.length ≤ 9223372036854775807 := by omega
  generalize hN : xss.length = N at *
  have HN := Lib.hid hN
  clear hus hrows hcells hN
  clear hg
  go_enter Tryd.func8, Tryd.ntmps8
  go_wp2_with fail
  refine (new_any m z h1 h2 h3 h4 _).mono ?_
  rintro e w1 ⟨rfl, hD, hB, hlt1⟩
  have HD := Lib.hid hD
  have HB := Lib.hid hB
  have HG1 := Lib.hid (Hg.out.below (Nat.le_refl _) hB)
  clear hD hB
  go_wp2_with fail
  refine (same_nil 0 _).mono ?_
  rintro e w2 ⟨rfl, hb⟩
  have HD2 := Lib.hid (HD.out.below hb)
  have HB2 := Lib.hid (HB.out.trans (hb.mono HB.out.size))
  have hlt2 : w.heap.size < w2.heap.size := by have := hb.size; omega
  have mk := make_bytes z (by omega)
  have cv := fun w' => conv_bytes0 z w'
  clear hb HD HB
  go_wp2_with fail
  go_loopg [11, 12] m (fun gk v i wr => DCells z w.heap.size w2 m gk v i wr)
  case atStart => exact ⟨0, by omega, rfl, World.ownsRow_nil _ _ _ _, Below.refl _ _⟩
  case round =>
    obtain ⟨k, hk, rfl, hown, hb⟩ := hrel
    have Hk := Lib.hid hk
    have Hown := Lib.hid hown
    have Hb := Lib.hid hb
    have hbz := hb.size
    by_cases hlt : k < m
    · have hsucc : List.replicate k (Value.string (Dk.noughts z)) ++ [Value.string (Dk.noughts z)] = List.replicate (k + 1) (Value.string (Dk.noughts z)) := by
        rw [List.replicate_succ']
      have Hsucc := Lib.hid hsucc
      have hw2 : wr.heap.size + 1 = (wr.alloc (.cells (madeCells #[.int .u8 0] z) 5)).heap.size := by simp
      have Hw2 := Lib.hid hw2
      clear hk hown hb hsucc hw2
      go_wp2_with (at_builtin; refine app1 w2 (wr.alloc (.cells (madeCells #[.int .u8 0] z) 5)) _ 9 22 rfl _ _ rfl (w.heap.size + 1) Tryd.underlying22 info_str rfl _ _ _ rfl _ rfl Hw2.out (Hown.out.alloc _) rfl ?c1 ?c2 ?c3 ?c4 ?_)
      case c1 => omega
      case c2 => omega
      case c3 => simp; omega
      case c4 => exact Hb.out.alloc (by omega) _
      intro v' w1' hown1 hb1 hg1 _
      rw [Hsucc.out] at hown1
      have Hown1 := Lib.hid hown1
      have Hb1 := Lib.hid hb1
      clear hown1 hb1
      go_wp2_with fail
      go_roundg (gk - 1)
      case measure => have := Hk.out; omega
      case rel => exact ⟨k + 1, by have := Hk.out; omega, by go_num, Hown1.out, Hb1.out⟩
    · obtain rfl : k = m := by omega
      obtain ⟨g, cap, rfl, hgb, hgz, hmc, hcm, _, _⟩ := owns_pos hown (by omega)
      have hDP : DP w w.heap.size g cap k z (Dk.made k z) ((Dk.made k z).rows.take k) wr := by
        refine ⟨HD2.out.kept (Kept.below hb) (by omega), ?_, Nat.le_refl _, rfl, rfl, HB2.out.trans (hb.mono (by omega))⟩
        rw [Dk.made_take h2, List.map_replicate]
        exact hown
      have HDP := Lib.hid hDP
      unfold maxLen at hcm
      clear hk hown hb hlt hDP HD2 HB2 Hown Hb Hk hbz hgz
      go_wp2_with fail
      go_loopg [10, 13, 14, 15] N (fun gk told fl wri i wr => DRel w w.heap.size g cap k z N gk told fl wri i wr)
      case atStart => exact ⟨0, Dk.made k z, false, by omega, by omega, rfl, rfl, rfl, rfl, rfl, by show 0 ≤ 0; omega, HDP.out⟩
      case round =>
        obtain ⟨wO, hwO⟩ : ∃ x : World, x = wr := ⟨_, rfl⟩
        obtain ⟨gO, hgO⟩ : ∃ x : Nat, x = gk := ⟨_, rfl⟩
        subst hwO hgO
        obtain ⟨j, d, f0, hj, hj60, rfl, rfl, rfl, hf0, rfl, hwj, hDP⟩ := hrel
        have Hf0 := Lib.hid hf0
        clear hf0
        clear HDP
        have HDP := Lib.hid hDP
        have HWB := Lib.hid hDP.bel
        have hg1 := hDP.blk
        clear hDP
        have Hj := Lib.hid hj
        by_cases hlt : j < N
        · by_cases hlt60 : j < 60
          · have b60 : decide ((j : Int) < 60) = true := dec_t (by omega)
            obtain ⟨go, oo, hpo, hco⟩ := Hcells.out (by omega)
            obtain ⟨xs, hxs⟩ : ∃ xs, xss[j]? = some xs := ⟨xss[j]'(by rw [HN.out]; exact hlt), List.getElem?_eq_getElem _⟩
            obtain ⟨u, hu, hru, hwf⟩ := Hrows.out j xs hxs
            have hcu := hco j hlt
            rw [hu] at hcu
            obtain ⟨pi, ci, hu2, hi1, hi2, hi3⟩ := hru.shape
            rw [List.length_map] at hu2 hi1 hi3
            rw [hu2] at hcu
            have hlow : go < w.heap.size := World.block_lt_of_cell? w _ hcu
            have fcu : ∀ x y z t : Int, (wO.alloc (.cells #[iv x, iv y, iv z, iv t] 84)).cell? ⟨go, oo + j, none⟩ = some (.slice pi xs.length ci) := by
              intro x y z t
              have h := ((HWB.out.alloc HWB.out.size (.cells #[iv x, iv y, iv z, iv t] 84)).cell (p := ⟨go, oo + j, none⟩) hlow)
              exact h.trans hcu
            have hi2' : xs.length ≤ 9223372036854775807 := by unfold maxLen at hi2; omega
            have Hi3 := Lib.hid hi3
            rw [hpo]
            have Hpo := Lib.hid hpo
            clear hj hco hxs hu hru hwf hcu hu2 hi3 hpo
            go_upto_block 4 with (fail)
            go_cut [17] (fun _ wq => ∃ x y z t : Int, wq = wO.alloc (.cells #[iv x, iv y, iv z, iv t] 84))
            case first => as_aux_lemma =>
              go_wp2_with fail
              go_loopg [17] 4 (fun gq q wq => Step4Rel wO gq q wq)
              case atStart => exact ⟨0, 0, 0, 0, 0, rfl, rfl, rfl⟩
              case round =>
                obtain ⟨q, x, y, z, t, hq, rfl, rfl⟩ := hrel
                have f1 := fcu x y z t
                by_cases hq0 : q < xs.length
                · obtain ⟨gi, oi, rfl, hci⟩ := Hi3.out (by omega)
                  obtain ⟨u, hz⟩ : ∃ z, xs[q]? = some z := ⟨xs[q], List.getElem?_eq_getElem hq0⟩
                  have hcz := hci q hq0
                  rw [List.getElem?_map, hz] at hcz
                  have hlz : gi < w.heap.size := World.block_lt_of_cell? w _ hcz
                  have f2 : (wO.alloc (.cells #[iv x, iv y, iv z, iv t] 84)).cell? ⟨gi, oi + q, none⟩ = some (iv u) :=
                    ((HWB.out.alloc HWB.out.size (.cells #[iv x, iv y, iv z, iv t] 84)).cell (p := ⟨gi, oi + q, none⟩) hlz).trans hcz
                  clear hci hz hcz fcu
                  have hq3 : q = 0 ∨ q = 1 ∨ q = 2 ∨ q = 3 ∨ q = 4 := by omega
                  rcases hq3 with rfl | rfl | rfl | rfl | rfl
                  · rw [Nat.add_zero] at f2
                    go_wp2_with fail
                    go_roundg 3
                    case measure => omega
                    case rel => exact ⟨1, u, y, z, t, rfl, rfl, rfl⟩
                  · go_wp2_with fail
                    go_roundg 2
                    case measure => omega
                    case rel => exact ⟨2, x, u, z, t, rfl, rfl, rfl⟩
                  · go_wp2_with fail
                    go_roundg 1
                    case measure => omega
                    case rel => exact ⟨3, x, y, u, t, rfl, rfl, rfl⟩
                  · go_wp2_with fail
                    go_roundg 0
                    case measure => omega
                    case rel => exact ⟨4, x, y, z, u, rfl, rfl, rfl⟩
                  · go_wp2_with fail
                    go_meet
                    exact ⟨x, y, z, t, rfl⟩
                · clear fcu
                  go_wp2_with fail
                  go_meet
                  exact ⟨x, y, z, t, rfl⟩
            case rest =>
              obtain ⟨x, y, u, t, rfl⟩ := hcut
              clear fcu
              obtain ⟨D, hD⟩ : ∃ D : Nat, D = wO.heap.size := ⟨_, rfl⟩
              obtain ⟨wA, hwA⟩ : ∃ W : World, W = wO.alloc (.cells #[iv x, iv y, iv u, iv t] 84) := ⟨_, rfl⟩
              have c0 : wA.cell? ⟨D, 0, none⟩ = some (iv x) := by rw [hwA, hD]; simp
              have HSW : Hid (StepW w w.heap.size g cap k z d (d.rows.take k) D y u t wA) := Lib.hid (by
                refine ⟨?_, by omega, ?_, ?_, ?_⟩
                · rw [hwA]; exact HDP.out.below ((Below.refl wO.heap.size wO).alloc (Nat.le_refl _) _)
                · rw [hwA, hD]; simp
                · rw [hwA, hD]; simp
                · rw [hwA, hD]; simp)
              rw [← hwA, ← hD]
              clear hwA hD HDP HWB
              obtain ⟨r0, hr0⟩ : ∃ r0 : Int, r0 = d.ready y := ⟨_, rfl⟩
              have HR0 := Lib.hid hr0
              have hdm := HSW.out.dp.many
              have hdz := HSW.out.dp.size
              have Hdm := Lib.hid hdm
              have Hdz := Lib.hid hdz
              clear hr0 hdm hdz
              have c1A := HSW.out.c1
              go_upto_if 97 with (fail)
              go_cut [7] (fun e wq => e = iv r0 ∧ wA = wq)
              case first => as_aux_lemma =>
                have hv := Dk.ready_val d y
                rw [Hdm.out, ← HR0.out] at hv
                have Hv := Lib.hid hv
                clear hv
                cases f0 with
                | true =>
                  have E := Lib.hid (show r0 = 6 by rw [Hv.out, if_pos Hf0.out.symm])
                  go_wp2_with fail
                  go_meet
                  exact ⟨by rw [E.out], rfl⟩
                | false =>
                  have E := Lib.hid (show r0 = if y < 0 ∨ (k : Int) ≤ y then 1 else 0 by rw [Hv.out, ← Hf0.out]; rfl)
                  by_cases hy : y < 0
                  · have E2 := Lib.hid (show r0 = 1 by rw [E.out, if_pos (.inl hy)])
                    go_wp2_with fail
                    go_meet
                    exact ⟨by rw [E2.out], rfl⟩
                  · by_cases hy2 : (k : Int) ≤ y
                    · have E2 := Lib.hid (show r0 = 1 by rw [E.out, if_pos (.inr hy2)])
                      go_wp2_with fail
                      go_meet
                      exact ⟨by rw [E2.out], rfl⟩
                    · have E2 := Lib.hid (show r0 = 0 by rw [E.out, if_neg (by omega)])
                      go_wp2_with fail
                      go_meet
                      exact ⟨by rw [E2.out], rfl⟩
              case rest =>
                obtain ⟨rfl, rfl⟩ := hcut
                go_upto_block 6 with (fail)
                go_cut [10, 13, 14] (fun told fl wri wq => told = .bool true ∧ ∃ wk d' f', wk = wq ∧ fl = .bool f' ∧ f' = d'.failed ∧ wri = iv d'.writes ∧ d'.writes ≤ j + 1 ∧ DP w w.heap.size g cap k z d' (d'.rows.take k) wk ∧ wk.cell? ⟨D, 1, none⟩ = some (iv y))
                case first => as_aux_lemma =>
                  obtain ⟨bx, hbx⟩ : ∃ bx : Bool, bx = decide (x = 0 ∨ x = 1) := ⟨_, rfl⟩
                  have HBx := Lib.hid hbx
                  clear hbx
                  go_upto_if 109 with (fail)
                  go_cut [109] (fun s wq => s = .bool bx ∧ wA = wq)
                  case first => as_aux_lemma =>
                    by_cases h0 : x = 0
                    · have HX := Lib.hid (show bx = true by rw [HBx.out]; simp [h0])
                      have t0 := beq_t h0
                      clear h0
                      go_wp2_with fail
                      go_meet
                      exact ⟨by rw [HX.out, t0], rfl⟩
                    · have HX := Lib.hid (show bx = (x == 1) by rw [HBx.out]; simp [h0]; rfl)
                      have t0 := beq_f h0
                      clear h0
                      go_wp2_with fail
                      go_meet
                      exact ⟨by rw [HX.out], rfl⟩
                  case rest =>
                  obtain ⟨rfl, rfl⟩ := hcut
                  cases bx with
                  | true =>
                    have c2A := HSW.out.c2
                    obtain ⟨bu, hbu⟩ : ∃ bu : Bool, bu = decide (0 ≤ u ∧ u ≤ 20) := ⟨_, rfl⟩
                    have HBu := Lib.hid hbu
                    clear hbu
                    go_upto_region 32 with (fail)
                    go_cut [119] (fun s wq => s = .bool bu ∧ wA = wq)
                    case first => as_aux_lemma =>
                      by_cases hu : 0 ≤ u
                      · have HX := Lib.hid (show bu = decide (u ≤ 20) by rw [HBu.out]; simp [hu])
                        go_wp2_with fail
                        go_meet
                        exact ⟨by rw [HX.out], rfl⟩
                      · have HX := Lib.hid (show bu = false by rw [HBu.out]; simp [hu])
                        go_wp2_with fail
                        go_meet
                        exact ⟨by rw [HX.out], rfl⟩
                    case rest =>
                    obtain ⟨rfl, rfl⟩ := hcut
                    go_upto_if 119 with (fail)
                    go_cut [18] (fun s wq => ∃ q : ByteArray, s = .string q ∧ (q.size : Int) = (if bu then u else 0) ∧ q.size ≤ 20 ∧ ∃ wk, wk = wq ∧ StepW w w.heap.size g cap k z d (d.rows.take k) D y u t wk)
                    case first => as_aux_lemma =>
                      cases bu with
                      | true =>
                        have hu := of_decide_eq_true HBu.out.symm
                        obtain ⟨n, rfl⟩ : ∃ n : Nat, u = n := ⟨u.toNat, by omega⟩
                        have hn : n ≤ 20 := by omega
                        have mk := make_bytes n (by omega)
                        have cv := fun w' => conv_bytes0 n w'
                        clear hu
                        go_wp2_with fail
                        go_meet
                        exact ⟨_, rfl, by rw [Dk.noughts_size]; rfl, by rw [Dk.noughts_size]; exact hn, _, rfl, HSW.out.below ((Below.refl _ _).alloc (Nat.le_refl _) _)⟩
                      | false =>
                        go_wp2_with fail
                        go_meet
                        exact ⟨_, rfl, rfl, by decide, _, rfl, HSW.out⟩
                    case rest =>
                    obtain ⟨q, rfl, hqs, hq20, wk, rfl, hSW⟩ := hcut
                    have HSW2 := Lib.hid hSW
                    have Hqs := Lib.hid hqs
                    have c2k := hSW.c2
                    have c3k := hSW.c3
                    have c1k := hSW.c1
                    clear hSW HSW hqs c0 c2A c1A
                    go_upto_if 127 with (fail)
                    go_cut [18] (fun s wq => ∃ q : ByteArray, s = .string q ∧ q.size ≤ 40 ∧ ∃ wk, wk = wq ∧ StepW w w.heap.size g cap k z d (d.rows.take k) D y u t wk)
                    case first => as_aux_lemma =>
                      by_cases huz : u = z
                      · obtain ⟨a, ha⟩ := wrap_byte t
                        have tz : (u == (z : Int)) = true := beq_t huz
                        have hbu : bu = true := by rw [HBu.out]; exact decide_eq_true (by omega)
                        have hqz : q.size = z := by have h := Hqs.out; rw [hbu] at h; simp at h; omega
                        have hq1 : 1 ≤ (q.size : Int) := by omega
                        have cv1 := conv_one wk a
                        clear hbu hqz huz
                        go_wp2_with fail
                        go_region
                        go_wp2_with fail
                        go_meet
                        exact ⟨_, rfl, by have := one_ext a q; omega, _, rfl, HSW2.out.below (((Below.refl _ _).alloc (Nat.le_refl _) _).drew)⟩
                      · have tz : (u == (z : Int)) = false := beq_f huz
                        go_wp2_with fail
                        go_meet
                        exact ⟨q, rfl, by omega, _, rfl, HSW2.out⟩
                    case rest =>
                      obtain ⟨q, rfl, hq40, wk, rfl, hSW⟩ := hcut
                      clear HSW2 c2k c3k c1k hq20 Hqs HBu
                      have HSW3 := Lib.hid hSW
                      have c1s := hSW.c1
                      have hgD : D ≠ g := by have := hSW.gD; omega
                      have hbD : D ≠ w.heap.size := by have := hSW.gD; omega
                      have hwv := Dk.write_val d y q
                      rw [← HR0.out, Hdz.out] at hwv
                      have Hwv := Lib.hid hwv
                      clear hSW hwv
                      by_cases hr : r0 = 0
                      · have hin := Dk.D.ready_in (show d.ready y = 0 by rw [← HR0.out]; exact hr)
                        rw [Hdm.out] at hin
                        obtain ⟨r, rfl⟩ : ∃ r : Nat, y = r := ⟨y.toNat, by omega⟩
                        have hrk : r < k := by omega
                        subst hr
                        clear hin
                        by_cases hs : q.size = z
                        · have HE := Lib.hid (show (d.write r q).1 = 0 by rw [Hwv.out, if_neg (by simp [hs])])
                          have hd : ((q.size : Int) != (z : Int)) = false := bne_f (by omega)
                          have fc := HSW3.out.dp.cell hrk
                          have ff := HSW3.out.dp.frozen
                          have HDS := Lib.hid (HSW3.out.dp.setL r q)
                          have c1t : (wk.setCell ⟨g, r, none⟩ (.string q)).cell? ⟨D, 1, none⟩ = some (iv r) := ((Kept.refl (· = g) wk).setCell (p := ⟨g, r, none⟩) (fun _ => rfl) (.string q)).cell c1s hgD
                          clear hs
                          go_wp2_with fail
                          refine (write_any HDS.out.disk r q (by unfold maxLen; omega) (by omega)).mono ?_
                          rintro e w2 ⟨he, hD2, hK2, _⟩
                          rw [HE.out] at he
                          subst he
                          have HDP2 := Lib.hid (HDS.out.disked hD2 hK2 (by rw [(Dk.write_many d _ q).1]; exact Hdm.out) (by rw [(Dk.write_many d _ q).2.1]; exact Hdz.out))
                          have HG2 := Lib.hid (Hg.out.below (Nat.le_refl _) HDP2.out.bel)
                          have c1w := hK2.cell c1t hbD
                          have hDw := World.block_lt_of_cell? _ _ c1w
                          clear hD2 hK2
                          go_wp2_with fail
                          refine (same_eq 0 _ HG2.out).mono ?_
                          rintro e w3 ⟨rfl, hb⟩
                          have HDP3 := Lib.hid (HDP2.out.below hb)
                          have c1e := (hb.cell (p := ⟨D, 1, none⟩) hDw).trans c1w
                          clear hb
                          go_wp2_with fail
                          go_meet
                          obtain ⟨_, _, hw3, hw4⟩ := Dk.write_rows HE.out
                          refine ⟨rfl, _, (d.write r q).2, _, rfl, rfl, Hf0.out.trans (Dk.write_many d r q).2.2.symm, ?_, by rw [hw4]; omega, ?_, c1e⟩
                          · rw [hw4]; go_num
                          · rw [hw3, Int.toNat_natCast, List.take_set]; exact HDP3.out
                        · have HE := Lib.hid (show (d.write r q).1 = 3 by rw [Hwv.out, if_pos ⟨rfl, hs⟩])
                          have hd : ((q.size : Int) != (z : Int)) = true := bne_t (by omega)
                          have HDS := Lib.hid HSW3.out.dp
                          clear hs
                          go_wp2_with fail
                          refine (write_any HDS.out.disk r q (by unfold maxLen; omega) (by omega)).mono ?_
                          rintro e w2 ⟨he, hD2, hK2, _⟩
                          rw [HE.out] at he
                          subst he
                          have HDP2 := Lib.hid (HDS.out.disked hD2 hK2 (by rw [(Dk.write_many d _ q).1]; exact Hdm.out) (by rw [(Dk.write_many d _ q).2.1]; exact Hdz.out))
                          have HG2 := Lib.hid (Hg.out.below (Nat.le_refl _) HDP2.out.bel)
                          have c1w := hK2.cell c1s hbD
                          have hDw := World.block_lt_of_cell? _ _ c1w
                          clear hD2 hK2
                          go_wp2_with fail
                          refine (same_eq 3 _ HG2.out).mono ?_
                          rintro e w3 ⟨rfl, hb⟩
                          have HDP3 := Lib.hid (HDP2.out.below hb)
                          have c1e := (hb.cell (p := ⟨D, 1, none⟩) hDw).trans c1w
                          clear hb
                          go_wp2_with fail
                          go_meet
                          have hwn := Dk.write_not (d := d) (row := r) (s := q) (by rw [HE.out]; decide)
                          rw [hwn] at HDP3
                          exact ⟨rfl, _, d, _, rfl, rfl, Hf0.out, rfl, by omega, HDP3.out, c1e⟩
                      · have HE := Lib.hid (show (d.write y q).1 = r0 by rw [Hwv.out, if_neg (by simp [hr])])
                        have hr1 := beq_f hr
                        have Hr := Lib.hid hr
                        have HDS := Lib.hid HSW3.out.dp
                        clear hr
                        go_wp2_with fail
                        refine (write_any HDS.out.disk y q (by unfold maxLen; omega) (by omega)).mono ?_
                        rintro e w2 ⟨he, hD2, hK2, _⟩
                        rw [HE.out] at he
                        subst he
                        have HDP2 := Lib.hid (HDS.out.disked hD2 hK2 (by rw [(Dk.write_many d _ q).1]; exact Hdm.out) (by rw [(Dk.write_many d _ q).2.1]; exact Hdz.out))
                        have HG2 := Lib.hid (Hg.out.below (Nat.le_refl _) HDP2.out.bel)
                        have c1w := hK2.cell c1s hbD
                        have hDw := World.block_lt_of_cell? _ _ c1w
                        clear hD2 hK2
                        go_wp2_with fail
                        refine (same_eq r0 _ HG2.out).mono ?_
                        rintro e w3 ⟨rfl, hb⟩
                        have HDP3 := Lib.hid (HDP2.out.below hb)
                        have c1e := (hb.cell (p := ⟨D, 1, none⟩) hDw).trans c1w
                        clear hb
                        go_wp2_with fail
                        go_meet
                        have hwn := Dk.write_not (d := d) (row := y) (s := q) (by rw [HE.out]; exact Hr.out)
                        rw [hwn] at HDP3
                        exact ⟨rfl, _, d, _, rfl, rfl, Hf0.out, rfl, by omega, HDP3.out, c1e⟩
                  | false =>
                    have hne := of_decide_eq_false HBx.out.symm
                    have hsw : x = 2 ∨ x = 3 ∨ (x ≠ 2 ∧ x ≠ 3) := by omega
                    rcases hsw with h | h | ⟨h3, h4⟩
                    · subst h
                      have hbD : D ≠ w.heap.size := by have := HSW.out.gD; have := HSW.out.dp.blk; omega
                      have HDS := Lib.hid HSW.out.dp
                      obtain ⟨m1, m2, m3, m4, m5⟩ := Dk.fail_many d
                      have M1 := Lib.hid m1
                      have M2 := Lib.hid m2
                      have M3 := Lib.hid m3
                      have M4 := Lib.hid m4
                      have M5 := Lib.hid m5
                      clear m1 m2 m3 m4 m5 hne
                      cases f0 with
                      | true =>
                        have HE := Lib.hid (show d.fail.1 = 6 by unfold Dk.D.fail; rw [if_pos Hf0.out.symm])
                        go_wp2_with fail
                        refine (fail_any HDS.out.disk).mono ?_
                        rintro e w2 ⟨he, hD2, hK2, _⟩
                        rw [HE.out] at he
                        subst he
                        have HDP2 := Lib.hid (HDS.out.disked hD2 hK2 (by rw [M1.out]; exact Hdm.out) (by rw [M2.out]; exact Hdz.out))
                        have HG2 := Lib.hid (Hg.out.below (Nat.le_refl _) HDP2.out.bel)
                        have c1w := hK2.cell c1A hbD
                        have hDw := World.block_lt_of_cell? _ _ c1w
                        clear hD2 hK2
                        go_wp2_with fail
                        refine (same_eq 6 _ HG2.out).mono ?_
                        rintro e w3 ⟨rfl, hb⟩
                        have HDP3 := Lib.hid (HDP2.out.below hb)
                        have c1e := (hb.cell (p := ⟨D, 1, none⟩) hDw).trans c1w
                        clear hb
                        go_wp2_with fail
                        go_meet
                        exact ⟨rfl, _, d.fail.2, _, rfl, rfl, M3.out.symm, by rw [M4.out], by rw [M4.out]; omega, by rw [M5.out]; exact HDP3.out, c1e⟩
                      | false =>
                        have HE := Lib.hid (show d.fail.1 = 0 by unfold Dk.D.fail; rw [← Hf0.out]; rfl)
                        go_wp2_with fail
                        refine (fail_any HDS.out.disk).mono ?_
                        rintro e w2 ⟨he, hD2, hK2, _⟩
                        rw [HE.out] at he
                        subst he
                        have HDP2 := Lib.hid (HDS.out.disked hD2 hK2 (by rw [M1.out]; exact Hdm.out) (by rw [M2.out]; exact Hdz.out))
                        have HG2 := Lib.hid (Hg.out.below (Nat.le_refl _) HDP2.out.bel)
                        have c1w := hK2.cell c1A hbD
                        have hDw := World.block_lt_of_cell? _ _ c1w
                        clear hD2 hK2
                        go_wp2_with fail
                        refine (same_eq 0 _ HG2.out).mono ?_
                        rintro e w3 ⟨rfl, hb⟩
                        have HDP3 := Lib.hid (HDP2.out.below hb)
                        have c1e := (hb.cell (p := ⟨D, 1, none⟩) hDw).trans c1w
                        clear hb
                        go_wp2_with fail
                        go_meet
                        exact ⟨rfl, _, d.fail.2, _, rfl, rfl, M3.out.symm, by rw [M4.out], by rw [M4.out]; omega, by rw [M5.out]; exact HDP3.out, c1e⟩
                    · subst h
                      have hgD : D ≠ g := by have := HSW.out.gD; omega
                      have hbD : D ≠ w.heap.size := by have := HSW.out.gD; have := HSW.out.dp.blk; omega
                      obtain ⟨m1, m2, m3, m4⟩ := Dk.replace_many d
                      have M1 := Lib.hid m1
                      have M2 := Lib.hid m2
                      have M3 := Lib.hid m3
                      have M4 := Lib.hid m4
                      clear m1 m2 m3 m4 hne
                      cases f0 with
                      | false =>
                        have HDS := Lib.hid HSW.out.dp
                        have HX := Lib.hid (show d.replace = (6, d) by unfold Dk.D.replace; rw [← Hf0.out]; rfl)
                        have HE := Lib.hid (show d.replace.1 = 6 by rw [HX.out])
                        go_wp2_with fail
                        refine (replace_post HDS.out.disk).mono ?_
                        rintro e w2 ⟨he, hD2, hK2, _⟩
                        rw [HE.out] at he
                        subst he
                        have HDP2 := Lib.hid (HDS.out.disked hD2 hK2 (by rw [M1.out]; exact Hdm.out) (by rw [M2.out]; exact Hdz.out))
                        have HG2 := Lib.hid (Hg.out.below (Nat.le_refl _) HDP2.out.bel)
                        have c1w := hK2.cell c1A hbD
                        have hDw := World.block_lt_of_cell? _ _ c1w
                        clear hD2 hK2
                        go_wp2_with fail
                        refine (same_eq 6 _ HG2.out).mono ?_
                        rintro e w3 ⟨rfl, hb⟩
                        have HDP3 := Lib.hid (HDP2.out.below hb)
                        have c1e := (hb.cell (p := ⟨D, 1, none⟩) hDw).trans c1w
                        clear hb
                        go_wp2_with fail
                        go_meet
                        rw [HX.out] at HDP3
                        exact ⟨rfl, _, d, _, rfl, rfl, Hf0.out, rfl, by omega, HDP3.out, c1e⟩
                      | true =>
                        have HX := Lib.hid (show d.replace = (0, Dk.D.blank { d with failed := false }) by unfold Dk.D.replace; rw [if_pos Hf0.out.symm])
                        have HE := Lib.hid (show d.replace.1 = 0 by rw [HX.out])
                        have HDS0 := Lib.hid HSW.out.dp
                        go_wp2_with fail
                        go_loopg [19] k (fun gq i wq => FreshRel w w.heap.size g cap k z d D y gq i wq)
                        case atStart => exact ⟨0, by omega, rfl, by rw [Dk.fresh_zero]; exact HDS0.out, c1A⟩
                        case round =>
                          obtain ⟨p, hp, rfl, hDP, c1p⟩ := hrel
                          have Hp := Lib.hid hp
                          have HDS := Lib.hid hDP
                          by_cases hpk : p < k
                          · have fc := hDP.cell hpk
                            have ff := hDP.frozen
                            have hlg := hDP.blk
                            have hl := hDP.len
                            have Hl := Lib.hid hl
                            have HDT := Lib.hid (hDP.setL p (Dk.noughts z))
                            have c1t : (wr.setCell ⟨g, p, none⟩ (.string (Dk.noughts z))).cell? ⟨D, 1, none⟩ = some (iv y) := ((Kept.refl (· = g) wr).setCell (p := ⟨g, p, none⟩) (fun _ => rfl) (.string (Dk.noughts z))).cell c1p hgD
                            have hDl := World.block_lt_of_cell? _ _ c1t
                            have H1t := Lib.hid c1t
                            clear hp hDP hl c1t
                            go_wp2_with fail
                            go_roundg (gk - 1)
                            case measure => have := Hp.out; omega
                            case rel =>
                              refine ⟨p + 1, by have := Hp.out; omega, by go_num, ?_, ?_⟩
                              · rw [← Dk.fresh_succ (by have := Hl.out; rw [Dk.fresh_len] at this; omega)]
                                exact HDT.out.below ((Below.refl _ _).alloc (Nat.le_refl _) _)
                              · exact (((Below.refl (wr.setCell ⟨g, p, none⟩ (.string (Dk.noughts z))).heap.size _).alloc (Nat.le_refl _) _).cell (p := ⟨D, 1, none⟩) hDl).trans H1t.out
                          · have hpk2 : p = k := by omega
                            subst hpk2
                            have c1A := c1p
                            clear hp hDP
                            go_wp2_with fail
                            refine (replace_post HDS.out.disk).mono ?_
                            rintro e w2 ⟨he, hD2, hK2, _⟩
                            rw [HE.out] at he
                            subst he
                            have HDP2 := Lib.hid (HDS.out.disked hD2 hK2 (by rw [M1.out]; exact Hdm.out) (by rw [M2.out]; exact Hdz.out))
                            have HG2 := Lib.hid (Hg.out.below (Nat.le_refl _) HDP2.out.bel)
                            have c1w := hK2.cell c1A hbD
                            have hDw := World.block_lt_of_cell? _ _ c1w
                            clear hD2 hK2
                            go_wp2_with fail
                            refine (same_eq 0 _ HG2.out).mono ?_
                            rintro e w3 ⟨rfl, hb⟩
                            have HDP3 := Lib.hid (HDP2.out.below hb)
                            have c1e := (hb.cell (p := ⟨D, 1, none⟩) hDw).trans c1w
                            clear hb
                            go_wp2_with fail
                            go_meet
                            refine ⟨rfl, _, d.replace.2, _, rfl, rfl, M3.out.symm, by rw [M4.out], by rw [M4.out]; omega, ?_, c1e⟩
                            have hr : d.replace.2.rows.take p = Dk.fresh p z (d.rows.take p) := by
                              rw [HX.out]
                              show (Dk.fresh d.many d.size d.rows).take p = _
                              rw [Hdm.out, Hdz.out, Dk.fresh_take (by have := HDS0.out.disk.len; omega)]
                            rw [hr]
                            exact HDP3.out
                    · have t2 := beq_f h3
                      have t3 := beq_f h4
                      clear h3 h4
                      go_wp2_with fail
                      go_meet
                      exact ⟨rfl, _, d, _, rfl, rfl, Hf0.out, rfl, by omega, HSW.out.dp, c1A⟩
                case rest =>
                  obtain ⟨rfl, wk, d', f', rfl, rfl, hf', rfl, hw', hDP, c1⟩ := hcut
                  have Hf' := Lib.hid hf'
                  clear hf'
                  clear HSW c0 c1A HR0 Hdm Hdz
                  have HDP := Lib.hid hDP
                  have HWB := Lib.hid hDP.bel
                  have hdm := Lib.hid hDP.many
                  have hDk := World.block_lt_of_cell? wk _ c1
                  have hg2 := hDP.blk
                  have hdl := hDP.disk.len
                  have Hdl := Lib.hid hdl
                  clear hDP hdl
                  obtain ⟨q, hq⟩ : ∃ q, q = d'.read y := ⟨_, rfl⟩
                  obtain ⟨rb, re⟩ := q
                  have Hq := Lib.hid hq
                  clear hq
                  go_upto_if 186 with (fail)
                  go_cut [7, 20] (fun e s wq => e = iv re ∧ s = .string rb ∧ wk = wq)
                  case first => as_aux_lemma =>
                    have hv := Dk.ready_val d' y
                    rw [hdm.out] at hv
                    have Hv := Lib.hid hv
                    have hq := Hq.out
                    unfold Dk.D.read at hq
                    clear hv
                    cases f' with
                    | true =>
                      have e6 : d'.ready y = 6 := by rw [Hv.out, if_pos Hf'.out.symm]
                      rw [e6, if_neg (by decide)] at hq
                      injection hq with hq1 hq2
                      have HQ1 := Lib.hid hq1
                      have HQ2 := Lib.hid hq2
                      clear e6 hq1 hq2
                      go_wp2_with fail
                      go_meet
                      exact ⟨by rw [HQ2.out], by rw [HQ1.out], rfl⟩
                    | false =>
                      have E := Lib.hid (show d'.ready y = if y < 0 ∨ (k : Int) ≤ y then 1 else 0 by rw [Hv.out, ← Hf'.out]; rfl)
                      by_cases hy : y < 0 ∨ (k : Int) ≤ y
                      · have e6 : d'.ready y = 1 := by rw [E.out, if_pos hy]
                        rw [e6, if_neg (by decide)] at hq
                        injection hq with hq1 hq2
                        have HQ1 := Lib.hid hq1
                        have HQ2 := Lib.hid hq2
                        clear e6 hq1 hq2
                        by_cases hy2 : y < 0
                        · clear hy
                          go_wp2_with fail
                          go_meet
                          exact ⟨by rw [HQ2.out], by rw [HQ1.out], rfl⟩
                        · have hy3 : (k : Int) ≤ y := by omega
                          clear hy
                          go_wp2_with fail
                          go_meet
                          exact ⟨by rw [HQ2.out], by rw [HQ1.out], rfl⟩
                      · have e6 : d'.ready y = 0 := by rw [E.out, if_neg hy]
                        rw [if_pos e6] at hq
                        injection hq with hq1 hq2
                        have HQ1 := Lib.hid hq1
                        have HQ2 := Lib.hid hq2
                        clear e6 hq1 hq2
                        obtain ⟨p, rfl⟩ : ∃ p : Nat, y = p := ⟨y.toNat, by omega⟩
                        have hp : p < k := by omega
                        have fc := HDP.out.cell hp
                        have hL : (d'.rows.take k).getD p ⟨#[]⟩ = d'.rows.getD p ⟨#[]⟩ := by
                          rw [List.getD_eq_getElem?_getD, List.getElem?_take, if_pos hp, ← List.getD_eq_getElem?_getD]
                        rw [hL] at fc
                        have HQ1' := Lib.hid (show rb = d'.rows.getD p ⟨#[]⟩ from HQ1.out)
                        clear hy hL
                        go_wp2_with fail
                        go_meet
                        exact ⟨by rw [HQ2.out], by rw [HQ1'.out, List.getD_eq_getElem?_getD], rfl⟩
                  case rest =>
                    obtain ⟨rfl, rfl, rfl⟩ := hcut
                    have hrs := strl_same rb
                    go_wp2_with fail
                    refine (read_any HDP.out.disk y).mono ?_
                    rw [← Hq.out]
                    rintro e w' ⟨rfl, rfl⟩
                    have HGk := Lib.hid (Hg.out.below (Nat.le_refl _) HWB.out)
                    go_wp2_with fail
                    refine (same_eq re _ HGk.out).mono ?_
                    rintro e wE ⟨rfl, hb⟩
                    have HDE := Lib.hid (HDP.out.below hb)
                    clear hb HDP HWB
                    have Hworks := Lib.hid (works_any HDE.out.disk)
                    have Hwrites := Lib.hid (writes_any HDE.out.disk)
                    have hnn : ((d'.writes : Int) != (d'.writes : Int)) = false := bne_f rfl
                    rw [← Hf'.out] at Hworks
                    generalize hww : d'.writes = ww at *
                    have Hww := Lib.hid hww
                    have hfn : ((!f') != (!f')) = false := by cases f' <;> rfl
                    clear hww
                    go_wp2_with fail
                    refine Hworks.out.mono ?_
                    rintro e w' ⟨rfl, rfl⟩
                    go_wp2_with fail
                    refine Hwrites.out.mono ?_
                    rintro e w' ⟨rfl, rfl⟩
                    go_wp2_with fail
                    rw [show (some ({ block := go, off := oo, spot := none } : Addr)) = po from Hpo.out.symm]
                    go_roundg (gO - 1)
                    case measure => have := Hj.out; omega
                    case rel => exact ⟨j + 1, d', f', by have := Hj.out; omega, by omega, by go_num, rfl, rfl, Hf'.out, by rw [Hww.out], by rw [Hww.out]; omega, HDE.out⟩
          · go_wp2_with fail
            go_ret
            exact ⟨rfl, HWB.out⟩
        · go_wp2_with fail
          go_ret
          exact ⟨rfl, HWB.out⟩
theorem diskPlays_walk (x y : Int) (v : Value) (hx : (Lit.int .i64 x).wf = true) (hy : (Lit.int .i64 y).wf = true) (w : World) (hg : Handle w) (hv : ∃ xss, Rows2 w v xss) :
    Calls Tryd.prog 8 #[iv x, iv y, v] w fun e w' => e = .returned (.bool true) ∧ Below w.heap.size w w' := by
  obtain ⟨xss, hxs⟩ := hv
  by_cases h : 1 ≤ x ∧ x ≤ 20 ∧ 1 ≤ y ∧ y ≤ 16
  · obtain ⟨m, rfl⟩ : ∃ m : Nat, x = m := ⟨x.toNat, by omega⟩
    obtain ⟨z, rfl⟩ : ∃ z : Nat, y = z := ⟨y.toNat, by omega⟩
    exact diskPlays_core m z (by omega) (by omega) (by omega) (by omega) v xss w hxs hg
  · exact diskPlays_no x y v (by omega) w hg
end Go.Proofs.YtangcjffiooapaaDoor
