/- The walk of desk.line. -/
import Derived.Test.YtneebcniofolmaaGreatDoorSesN
import Derived.Test.YtneebcniofolmaaGreatDoorSesD
namespace Go.Proofs.YtneebcniofolmaaGreatDoor
open Go.ChangeShapes Go.WideShapes Go.ChangeAt Go.RowKit
set_option linter.unusedVariables false
set_option maxHeartbeats 4000000
set_option maxRecDepth 100000
/-- what desk.line hands back -/
def LnPost (F : Nat → Prop) (K b : Nat) (s : Ar.S) (l : List UInt8) (w : World) (e : Ending) (w' : World) : Prop :=
  match Ru.parse l with
  | none => e = .returned (.tuple #[strB [], .iface 88 (.agg #[ev 2])]) ∧ AryOk F K w' b s ∧ Kept F w w'
  | some (k, v, x) => DeskPost F K b (Ru.run1 s k v x) w e w'
theorem LnPost.no {F : Nat → Prop} {K b : Nat} {s : Ar.S} {l : List UInt8} {w : World} {e : Ending} {w' : World} (h : Ru.parse l = none) (he : e = .returned (.tuple #[strB [], .iface 88 (.agg #[ev 2])])) (hA : AryOk F K w' b s) (hk : Kept F w w') : LnPost F K b s l w e w' := by
  unfold LnPost; rw [h]; exact ⟨he, hA, hk⟩
theorem LnPost.yes {F : Nat → Prop} {K b : Nat} {s : Ar.S} {l : List UInt8} {w : World} {e : Ending} {w' : World} {k : Ru.Wd} {v : List Nat} {x : List UInt8} (h : Ru.parse l = some (k, v, x)) (hp : DeskPost F K b (Ru.run1 s k v x) w e w') : LnPost F K b s l w e w' := by
  unfold LnPost; rw [h]; exact hp
theorem words_at {W0 W3 : World} (l : List UInt8) (hw : wW W0 8 = W3) : (Instr.lookup 114 (.map (some W0.heap.size)) (.string ⟨l.toArray⟩) true).run Tryz.prog W3 = .ok (.tuple #[match Ru.wd l with | some k => wordV k | none => .agg #[.int .i64 0, .bool false], .bool (Ru.wd l).isSome]) W3 := by
  subst hw
  exact word_look _ _ l (wW_heap W0 8)
theorem words_at2 {W0 W3 : World} (l : List UInt8) (o : Obj) (hw : wW W0 8 = W3) : (Instr.lookup 114 (.map (some W0.heap.size)) (.string ⟨l.toArray⟩) true).run Tryz.prog (W3.alloc o) = .ok (.tuple #[match Ru.wd l with | some k => wordV k | none => .agg #[.int .i64 0, .bool false], .bool (Ru.wd l).isSome]) (W3.alloc o) := by
  subst hw
  refine word_look _ _ l ?_
  rw [heap_alloc_old _ _ (by rw [wW_size]; omega)]
  exact wW_heap W0 8
theorem wcell {w2 W0 W3 : World} {g j : Nat} {v : Value} (h : w2.cell? ⟨g, j, none⟩ = some v) (hb : Below w2.heap.size w2 W0) (hw : wW W0 8 = W3) : W3.cell? ⟨g, j, none⟩ = some v := by
  subst hw
  exact (Kept.new (fun _ => False) (hb.trans ((wW_below W0 8).mono hb.size))).cell h (fun h => h)
theorem wbelow {w2 W0 W3 : World} (hb : Below w2.heap.size w2 W0) (hw : wW W0 8 = W3) : Below w2.heap.size w2 W3 := by
  subst hw
  exact hb.trans ((wW_below W0 8).mono hb.size)
theorem below_cell0 {w2 W3 : World} {g j : Nat} {v : Value} (hb : Below w2.heap.size w2 W3) (h : w2.cell? ⟨g, j, none⟩ = some v) : W3.cell? ⟨g, j, none⟩ = some v := (Kept.new (fun _ => False) hb).cell h (fun h => h)
theorem boxed_w {W0 W3 : World} {q : Nat} {u : Array Value} {T : TypeId} (hb : W0.heap[q]? = some (.cells u T (0, 0))) (hw : wW W0 8 = W3) : W3.heap[q]? = some (.cells u T (0, 0)) := by
  subst hw
  rw [(wW_below W0 8).block q (Array.getElem?_eq_some_iff.1 hb).1]; exact hb
/-- the numbers of a line that are read so far -/
def LRel (r : List (List UInt8)) (M N : Nat) (wN : World) (gk : Nat) (v46 : Value) (wr : World) : Prop :=
  ∃ (i : Nat) (vs : List Nat), i + gk = M ∧ v46 = iv i ∧ Ru.nums i r = some vs ∧ wr.heap[N]? = some (.cells #[iv (vs.getD 0 0 : Nat), iv (vs.getD 1 0 : Nat)] 116 (0, 0)) ∧ Kept (· = N) wN wr
theorem dline {F : Nat → Prop} {K : Nat} {w : World} {b : Nat} {s : Ar.S} (h : AryOk F K w b s) (hK : K < 900000) (hFw : ∀ k, F k → k < w.heap.size) (hFg : ∀ k, F k → 10 ≤ k) (hE : Env w) (hl : Ar.S.Like 5 4 2 s) (l : List UInt8) (hs : l.length ≤ 5000) :
    Calls Tryz.prog 39 #[.agg #[.pointer (some ⟨b, 0, none⟩)], strB l] w (LnPost F (K + 4) b s l w) := by
  obtain ⟨w0, r, hcut⟩ : ∃ w0 r, Ru.cut 32 l = w0 :: r := by
    cases hq : Ru.cut 32 l with
    | nil => exact absurd hq (Ru.cut_ne 32 l)
    | cons a b => exact ⟨a, b, rfl⟩
  obtain ⟨wB, hwB⟩ : ∃ wB, wB = w.alloc (.cells #[.pointer (some ⟨b, 0, none⟩)] 42) := ⟨_, rfl⟩
  have hbB : Below w.heap.size w wB := by rw [hwB]; exact (Below.refl _ _).alloc (Nat.le_refl _) _
  have hcB : wB.cell? ⟨w.heap.size, 0, none⟩ = some (.pointer (some ⟨b, 0, none⟩)) := by rw [hwB, World.cell?_alloc_at _ _ _ _ rfl]; rfl
  have HS := Lib.hid (split_words l (by omega) wB (hE.new hbB))
  have HcB := Lib.hid hcB
  have HwB := Lib.hid hwB
  have HbB := Lib.hid hbB
  have Hcut := Lib.hid hcut
  have hzB := hbB.size
  have HA := Lib.hid (h.below hbB)
  have HE := Lib.hid hE
  have HFw := Lib.hid hFw
  have HFg := Lib.hid hFg
  have hsm : ∀ x ∈ Ru.cut 32 l, x.length ≤ 5000 := fun x hx => Nat.le_trans (Ru.cut_small 32 l x hx) hs
  rw [hcut] at hsm HS
  have Hsm := Lib.hid hsm
  have hrl : r.length ≤ 5000 := by
    have h1 := Ru.cut_len 32 l
    have h2 := List.count_le_length (a := (32 : UInt8)) (l := l)
    rw [hcut, List.length_cons] at h1
    omega
  clear hwB hbB hcB hcut h hFw hFg hE hsm
  unfold strB
  go_enter Tryz.func39, Tryz.ntmps39
  go_wp2_with fail
  rw [← HwB.out]
  refine HS.out.mono ?_
  rintro e w2 ⟨v, rfl, hO, hb2⟩
  obtain ⟨g, cap, rfl, hgb, hgz, hgc, hg2⟩ := Txts.of_owns hO rfl (by simp)
  have Hg := Lib.hid hg2
  have HB2 := Lib.hid (HbB.out.trans (hb2.mono hzB))
  have HA2 := Lib.hid (HA.out.below hb2)
  have HcB2 := Lib.hid ((Kept.new (fun _ => False) hb2).cell HcB.out (fun h => h))
  have hz2 := hb2.size
  have g0 := hg2 0 w0 rfl
  have Hg0 := Lib.hid g0
  have hlk := @words_at
  have hlk2 := @words_at2
  obtain ⟨M, hM⟩ : ∃ M : Nat, M = match Ru.wd w0 with | some k => k.many | none => 0 := ⟨_, rfl⟩
  obtain ⟨Bk, hBk⟩ : ∃ Bk : Bool, Bk = match Ru.wd w0 with | some k => k.blk | none => false := ⟨_, rfl⟩
  obtain ⟨Is, hIs⟩ : ∃ Is : Bool, Is = (Ru.wd w0).isSome := ⟨_, rfl⟩
  have hV : (match Ru.wd w0 with | some k => wordV k | none => .agg #[.int .i64 0, .bool false]) = Value.agg #[iv M, .bool Bk] := by
    rw [hM, hBk]
    cases Ru.wd w0 <;> rfl
  have HL1 : Hid (∀ W0 W3 G, wW W0 8 = W3 → W0.heap.size = G → (Instr.lookup 114 (.map (some G)) (.string ⟨w0.toArray⟩) true).run Tryz.prog W3 = .ok (.tuple #[Value.agg #[iv M, .bool Bk], .bool Is]) W3) := Lib.hid (fun W0 W3 G hw hG => by rw [← hG, hlk w0 hw, hV, hIs])
  have HL2 : Hid (∀ W0 W3 o G, wW W0 8 = W3 → W0.heap.size = G → (Instr.lookup 114 (.map (some G)) (.string ⟨w0.toArray⟩) true).run Tryz.prog (W3.alloc o) = .ok (.tuple #[Value.agg #[iv M, .bool Bk], .bool Is]) (W3.alloc o)) := Lib.hid (fun W0 W3 o G hw hG => by rw [← hG, hlk2 w0 o hw, hV, hIs])
  have HM := Lib.hid hM
  have HBk := Lib.hid hBk
  have HIs := Lib.hid hIs
  clear hO hb2 hg2 hlk hlk2 hV hM hBk hIs
  obtain ⟨n, hn⟩ : ∃ n, n = (w0 :: r).length := ⟨_, rfl⟩
  rw [← hn] at hgc ⊢
  have hn1 : 1 ≤ n := by rw [hn, List.length_cons]; omega
  have hn9 : n ≤ 5001 := by rw [hn, List.length_cons]; omega
  have h0n : (0 : Int) < (n : Int) := by omega
  have h0n2 : 0 < n := by omega
  have Hn := Lib.hid hn
  clear hn hrl
  go_upto_region 2 with (fail)
  go_cut [7, 8] (fun z7 z8 wq => ∃ q : Nat, z7 = .pointer (some ⟨q, 0, none⟩) ∧ z8 = .bool Is ∧ wq.heap[q]? = some (.cells #[iv M, .bool Bk] 112 (0, 0)) ∧ w2.heap.size ≤ q ∧ Below w2.heap.size w2 wq)
  case first =>
    go_region_with (go_at_call 58; refine (wants_any _).mono ?_; rintro e w3 ⟨rfl, hw3⟩; (first | (have lk1 := HL1.out _ _ w2.heap.size hw3 rfl; have lk2 := fun o => HL2.out _ _ o w2.heap.size hw3 rfl) | (have lk1 := HL1.out _ _ (w2.heap.size + 1) hw3 (by simp); have lk2 := fun o => HL2.out _ _ o (w2.heap.size + 1) hw3 (by simp))); have HB3 := Lib.hid (wbelow (w2 := w2) (by first | exact (Below.refl _ _).drew | exact (Below.refl _ _).drew.alloc (Nat.le_refl _) _ | exact ((Below.refl _ _).alloc (Nat.le_refl _) _).drew) hw3); have c3 := below_cell0 HB3.out g0; have c4 : ∀ o, (w3.alloc o).cell? ⟨g, 0, none⟩ = some (.string ⟨w0.toArray⟩) := fun o => (Kept.new (fun _ => False) ((Below.refl _ _).alloc (Nat.le_refl _) o)).cell c3 (fun h => h); (try (have hq : w3.heap[w2.heap.size]? = some (.cells #[iv 0, .bool false] 112 (0, 0)) := boxed_w (heap_alloc_new w2.drew (.cells #[iv 0, .bool false] 112)) hw3; have b0 : w3.cell? ⟨w2.heap.size, 0, none⟩ = some (iv 0) := (by {rw [cell_of_row _ _ _ _ _ _ hq]; rfl}); have b1 : w3.cell? ⟨w2.heap.size, 1, none⟩ = some (.bool false) := (by {rw [cell_of_row _ _ _ _ _ _ hq]; rfl}); have bf : ∀ j, w3.frozen? ⟨w2.heap.size, j, none⟩ = false := fun j => frozen_of_row _ _ _ _ _ hq; have Hq := Lib.hid hq; clear hq)); have Hw3 := Lib.hid hw3; clear hw3)
    all_goals
      clear c3 c4 lk1 lk2
      go_wp2_with fail
      go_meet
      first
      | exact ⟨w2.heap.size, rfl, rfl, by rw [heap_setCell_same _ _ _ _ _ _ (heap_setCell_same _ _ _ _ _ _ Hq.out)]; rfl, Nat.le_refl _, (HB3.out.setCell (Nat.le_refl _) _).setCell (Nat.le_refl _) _⟩
      | exact ⟨w3.heap.size, rfl, rfl, heap_alloc_new w3 _, HB3.out.size, HB3.out.alloc HB3.out.size _⟩
  case rest =>
    obtain ⟨q, rfl, rfl, hblk, hq2, hB⟩ := hcut
    have hz2' := HB2.out.size
    have HBc := Lib.hid (HB2.out.trans (hB.mono hz2'))
    have HKc := Lib.hid (Kept.new F HBc.out)
    have HAc := Lib.hid (HA2.out.below hB)
    have HEc := Lib.hid (HE.out.new HBc.out)
    have un := HEc.out.un
    have q0 : wc.cell? ⟨q, 0, none⟩ = some (iv M) := by rw [cell_of_row _ _ _ _ _ _ hblk]; rfl
    have q1 : wc.cell? ⟨q, 1, none⟩ = some (.bool Bk) := by rw [cell_of_row _ _ _ _ _ _ hblk]; rfl
    have HcBc := Lib.hid (below_cell0 hB HcB2.out)
    have Hgc : Hid (∀ j x, (w0 :: r)[j]? = some x → wc.cell? ⟨g, j, none⟩ = some (.string ⟨x.toArray⟩)) := Lib.hid (fun j x hx => below_cell0 hB (Hg.out j x hx))
    have hzc : q < wc.heap.size := (Array.getElem?_eq_some_iff.1 hblk).1
    have hM2 : M ≤ 2 := by
      rw [HM.out]
      cases Ru.wd w0 with
      | none => decide
      | some k => cases k <;> decide
    have wM : IntKind.i64.wrap ((M : Int) + 1) = ((M + 1 : Nat) : Int) := by rw [IntWalk.i64_in _ (by omega)]; omega
    have wM2 : IntKind.i64.wrap (((M + 1 : Nat) : Int) + 1) = ((M + 2 : Nat) : Int) := by rw [IntWalk.i64_in _ (by omega)]; omega
    have wM3 : IntKind.i64.wrap ((M : Int) + 1 + 1) = ((M + 2 : Nat) : Int) := by rw [IntWalk.i64_in _ (by omega)]; omega
    obtain ⟨T, hT⟩ : ∃ T : Nat, T = M + 1 + (if Bk then 1 else 0) := ⟨_, rfl⟩
    have HT := Lib.hid hT
    clear hblk hB g0 HB2 HA2 HcB2 Hg HL1 HL2 hT
    go_upto_if 31 with (fail)
    go_cut [9] (fun z wq => z = iv T ∧ wc = wq)
    case first =>
      cases Bk with
      | true =>
        have hT : T = M + 2 := by rw [HT.out, if_pos rfl]
        go_wp2_with fail
        go_meet
        exact ⟨by rw [hT]; exact congrArg (Value.int .i64) (by omega), rfl⟩
      | false =>
        have hT : T = M + 1 := by rw [HT.out, if_neg (by decide)]
        go_wp2_with fail
        go_meet
        exact ⟨by rw [hT]; rfl, rfl⟩
    case rest =>
      obtain ⟨rfl, rfl⟩ := hcut
      obtain ⟨C, hC⟩ : ∃ C : Bool, C = (!Is || decide ((n : Int) ≠ (T : Int))) := ⟨_, rfl⟩
      have HC := Lib.hid hC
      clear hC wM wM2 wM3
      go_upto_region 6 with (fail)
      go_cut [41] (fun z wq => z = .bool C ∧ wc = wq)
      case first =>
        cases Is with
        | true =>
          by_cases hnT : (n : Int) = (T : Int)
          · have hC : C = false := by rw [HC.out]; simp [hnT]
            have hnT2 : n = T := by omega
            go_wp2_with fail
            go_meet
            exact ⟨by rw [hC], rfl⟩
          · have hC : C = true := by rw [HC.out]; simp; omega
            have hnT2 : ¬ n = T := by omega
            go_wp2_with fail
            go_meet
            exact ⟨by rw [hC]; exact congrArg Value.bool (by rw [bne_iff_ne]; exact hnT), rfl⟩
        | false =>
          have hC : C = true := by rw [HC.out]; rfl
          go_wp2_with fail
          go_meet
          exact ⟨by rw [hC], rfl⟩
      case rest =>
        obtain ⟨rfl, rfl⟩ := hcut
        cases C with
        | true =>
          have Hp : Hid (Ru.parse l = none) := Lib.hid (by
            cases hw : Ru.wd w0 with
            | none => exact Ru.parse_unknown Hcut.out hw
            | some k =>
              refine Ru.parse_long Hcut.out hw ?_
              have h1 := HC.out
              have h2 := HIs.out
              have h3 := HT.out
              have h4 := HM.out
              have h5 := HBk.out
              have h6 := Hn.out
              rw [hw] at h2 h4 h5
              rw [h2] at h1
              simp at h1 h4 h5
              rw [List.length_cons] at h6
              rw [← h4, ← h5]
              omega)
          go_wp2_with fail
          go_quiet (fail)
          go_wp2_with fail
          go_ret2
          exact LnPost.no Hp.out rfl ((HAc.out.kept ((Kept.refl (fun _ => False) _).drewN _) (fun _ _ h => h)).more (by omega)) (HKc.out.drewN _)
        | false =>
          obtain ⟨k, hk⟩ : ∃ k, Ru.wd w0 = some k := by
            cases hw : Ru.wd w0 with
            | none =>
              have h1 := HC.out
              have h2 := HIs.out
              rw [hw] at h2
              rw [h2] at h1
              exact absurd h1 (by simp)
            | some k => exact ⟨k, rfl⟩
          have hMk : M = k.many := by have h := HM.out; rw [hk] at h; exact h
          have hBk : Bk = k.blk := by have h := HBk.out; rw [hk] at h; exact h
          have hnT : n = M + 1 + (if Bk then 1 else 0) := by
            have h1 := HC.out
            have h3 := HT.out
            have h4 : ¬ ((n : Int) ≠ (T : Int)) := fun h => by
              rw [decide_eq_true h] at h1
              simp at h1
            omega
          have hrl : r.length = M + (if Bk then 1 else 0) := by have h := Hn.out; rw [List.length_cons] at h; omega
          have HK := Lib.hid hk
          have HMk := Lib.hid hMk
          have HBk2 := Lib.hid hBk
          have HnT := Lib.hid hnT
          have Hrl := Lib.hid hrl
          have hnM : M + 1 ≤ n := by omega
          obtain ⟨wN, hwN⟩ : ∃ wN, wN = wc.alloc (.cells #[.int .i64 0, .int .i64 0] 116) := ⟨_, rfl⟩
          have hbN : Below wc.heap.size wc wN := by rw [hwN]; exact (Below.refl _ _).alloc (Nat.le_refl _) _
          have hN0 : wN.heap[wc.heap.size]? = some (.cells #[.int .i64 0, .int .i64 0] 116 (0, 0)) := by rw [hwN]; exact heap_alloc_new _ _
          have HwN := Lib.hid hwN
          have HbN := Lib.hid hbN
          have HN0 := Lib.hid hN0
          have Hun := Lib.hid un
          have Hq0 := Lib.hid (below_cell0 hbN q0)
          have Hq1 := Lib.hid (below_cell0 hbN q1)
          have HcBN := Lib.hid (below_cell0 hbN HcBc.out)
          have HgN : Hid (∀ j x, (w0 :: r)[j]? = some x → wN.cell? ⟨g, j, none⟩ = some (.string ⟨x.toArray⟩)) := Lib.hid (fun j x hx => below_cell0 hbN (Hgc.out j x hx))
          have HBN := Lib.hid (HBc.out.trans (hbN.mono HBc.out.size))
          have HAN := Lib.hid (HAc.out.below hbN)
          have hgc2 : g < wc.heap.size := World.block_lt_of_cell? wc _ (Hgc.out 0 w0 rfl)
          have hzN : wc.heap.size < wN.heap.size := (Array.getElem?_eq_some_iff.1 hN0).1
          have hzw : w.heap.size ≤ wc.heap.size := HBc.out.size
          have hwB9 : w.heap.size < wc.heap.size := World.block_lt_of_cell? wc _ HcBc.out
          clear hk hMk hBk hnT hrl hwN hbN hN0 un
          go_wp2_with fail
          rw [← HwN.out]
          clear q0 q1
          obtain ⟨N, hN⟩ : ∃ N, N = wc.heap.size := ⟨_, rfl⟩
          rw [← hN] at HN0 hgc2 hzN hzw hwB9 hzc ⊢
          clear hN
          go_loopg [11, 12, 13, 46] M (fun gk v11 v12 v13 v46 wr => LRel r M N wN gk v46 wr)
          case atStart => exact ⟨0, [], by omega, rfl, rfl, HN0.out, Kept.refl _ _⟩
          case round =>
            obtain ⟨i, vs, hi, rfl, hvs, hNr, hkr⟩ := hrel
            have Hi := Lib.hid hi
            have Hvs := Lib.hid hvs
            have HNr := Lib.hid hNr
            have Hkr := Lib.hid hkr
            have hzr := hkr.size
            have hlen := Ru.nums_len i r vs hvs
            have hvl := Ru.nums_lt i r vs hvs
            have HB9 : Hid (Below w.heap.size w wr) := Lib.hid (HBN.out.trans (hkr.toBelow (by omega) (fun x _ e => by rw [e]; omega)))
            have HA9 : Hid (AryOk F K wr b s) := Lib.hid (HAN.out.kept hkr (fun x hx e => by have := HFw.out x hx; omega))
            have HE9 : Hid (Env wr) := Lib.hid (HE.out.new HB9.out)
            have Hg9 : Hid (∀ j x, (w0 :: r)[j]? = some x → wr.cell? ⟨g, j, none⟩ = some (.string ⟨x.toArray⟩)) := Lib.hid (fun j x hx => hkr.cell (HgN.out j x hx) (by omega))
            have u9 := HE9.out.un
            have p0 : wr.cell? ⟨q, 0, none⟩ = some (iv M) := hkr.cell Hq0.out (by omega)
            have p1 : wr.cell? ⟨q, 1, none⟩ = some (.bool Bk) := hkr.cell Hq1.out (by omega)
            have HcB9 := Lib.hid (hkr.cell HcBN.out (by omega))
            have Hlen := Lib.hid hlen
            have Hvl := Lib.hid hvl
            clear hi hvs hNr hkr hlen hvl
            by_cases hlt : i < M
            · obtain ⟨x, hx⟩ : ∃ x, r[i]? = some x := ⟨r[i]'(by rw [Hrl.out]; omega), List.getElem?_eq_getElem _⟩
              have cx := Hg9.out (i + 1) x (by rw [List.getElem?_cons_succ]; exact hx)
              have hxl := Hsm.out x (List.mem_cons_of_mem _ (List.mem_of_getElem? hx))
              have Hx := Lib.hid hx
              have hw1 : IntKind.i64.wrap ((i : Int) + 1) = ((i + 1 : Nat) : Int) := by rw [IntWalk.i64_in _ (by omega)]; omega
              have hin : i + 1 < n := by omega
              have hinI : (i : Int) + 1 < (n : Int) := by omega
              have hi0 : (0 : Int) ≤ (i : Int) + 1 := by omega
              clear hx
              cases hnum : Ru.num x with
              | none =>
                have HN := number_any x (by omega) wr HE9.out
                unfold NumPost at HN
                rw [hnum] at HN
                simp only [Option.isSome_none] at HN
                have HNh := Lib.hid HN
                have Hp : Hid (Ru.parse l = none) := Lib.hid (Ru.parse_badnum Hcut.out HK.out (Ru.nums_fail i r x Hx.out hnum _ (by rw [← HMk.out]; exact hlt)))
                clear HN hnum
                go_wp2_with fail
                refine HNh.out.mono ?_
                rintro e w4 ⟨y, rfl, hy, hb4⟩
                have u4 := below_cell0 hb4 u9
                have Hb4 := Lib.hid hb4
                clear hb4 hy u9
                go_wp2_with fail
                go_quiet (fail)
                go_wp2_with fail
                go_ret2
                exact LnPost.no Hp.out rfl (((HA9.out.below Hb4.out).kept ((Kept.refl (fun _ => False) _).drewN _) (fun _ _ h => h)).more (by omega)) ((Kept.new F (HB9.out.trans (Hb4.out.mono HB9.out.size))).drewN _)
              | some y0 =>
                have HN := number_any x (by omega) wr HE9.out
                unfold NumPost at HN
                rw [hnum] at HN
                simp only [Option.isSome_some] at HN
                have HNh := Lib.hid HN
                have Hnx : Hid (Ru.nums (i + 1) r = some (vs ++ [y0])) := Lib.hid (Ru.nums_step i r vs x y0 Hvs.out Hx.out hnum)
                have hi2 : i < 2 := by omega
                have hi2I : (i : Int) < 2 := by omega
                have hi0I : (0 : Int) ≤ (i : Int) := by omega
                obtain ⟨z, hz⟩ : ∃ z, (#[iv (vs.getD 0 0 : Nat), iv (vs.getD 1 0 : Nat)] : Array Value)[i]? = some z := ⟨_, Array.getElem?_eq_getElem (by simpa using hi2)⟩
                clear HN hnum
                go_wp2_with fail
                refine HNh.out.mono ?_
                rintro e w4 ⟨y, rfl, hy, hb4⟩
                obtain rfl := hy y0 rfl
                have h4 : w4.heap[N]? = some (.cells #[iv (vs.getD 0 0 : Nat), iv (vs.getD 1 0 : Nat)] 116 (0, 0)) := by rw [hb4.block N (Array.getElem?_eq_some_iff.1 HNr.out).1]; exact HNr.out
                have c4 : w4.cell? ⟨N, i, none⟩ = some z := by rw [cell_of_row _ _ _ _ _ _ h4]; exact hz
                have f4 : w4.frozen? ⟨N, i, none⟩ = false := frozen_of_row _ _ _ _ _ h4
                have H4 := Lib.hid h4
                have Hb4 := Lib.hid hb4
                have Hz := Lib.hid hz
                clear hb4 hy h4 hz
                go_wp2_with fail
                go_roundg (gk - 1)
                case measure => have := Hi.out; omega
                case rel =>
                  refine ⟨i + 1, vs ++ [y0], by have := Hi.out; omega, by go_num, Hnx.out, ?_, ?_⟩
                  · rw [heap_setCell_same _ _ _ _ _ _ H4.out]
                    have h1 := Hlen.out
                    match vs, i, h1, hi2 with
                    | [], 0, _, _ => rfl
                    | [a], 1, _, _ => rfl
                  · exact (Hkr.out.also (Kept.new _ Hb4.out)).set1 _ _
            · obtain rfl : i = M := by have := Hi.out; omega
              have hv0 := Ru.getD_lt Hvl.out 0
              have hv1 := Ru.getD_lt Hvl.out 1
              have n0 : wr.cell? ⟨N, 0, none⟩ = some (iv (vs.getD 0 0 : Nat)) := by rw [cell_of_row _ _ _ _ _ _ HNr.out]; rfl
              have n1 : wr.cell? ⟨N, 1, none⟩ = some (iv (vs.getD 1 0 : Nat)) := by rw [cell_of_row _ _ _ _ _ _ HNr.out]; rfl
              have Hn0 := Lib.hid n0
              have Hn1 := Lib.hid n1
              have Hu9 := Lib.hid u9
              clear n0 n1
              go_upto_if 67 with (fail)
              go_cut [14] (fun z wq => ∃ x : List UInt8, z = .string ⟨x.toArray⟩ ∧ Ru.parse l = some (k, vs, x) ∧ x.length ≤ 2 ∧ (Bk = false → x = []) ∧ Below wr.heap.size wr wq)
              case first =>
                cases Bk with
                | true =>
                  have hT : T = i + 2 := by have h := HT.out; rw [if_pos rfl] at h; exact h
                  have hn2 : n = i + 2 := by have h := HnT.out; rw [if_pos rfl] at h; exact h
                  have hr2 : r.length = i + 1 := by have h := Hrl.out; rw [if_pos rfl] at h; exact h
                  obtain ⟨x, hx⟩ : ∃ x, r[i]? = some x := ⟨r[i]'(by omega), List.getElem?_eq_getElem _⟩
                  have hlast : (w0 :: r).getLastD [] = x := by
                    have hne : r ≠ [] := fun e => by rw [e] at hx; cases hx
                    rw [List.getLastD_cons]
                    obtain ⟨b9, y9, hb9⟩ : ∃ b9 y9, r = b9 ++ [y9] := ⟨_, _, (List.dropLast_concat_getLast hne).symm⟩
                    rw [hb9] at hx hr2 ⊢
                    rw [List.length_append] at hr2
                    simp at hr2
                    rw [List.getElem?_append_right (by omega), hr2, Nat.sub_self] at hx
                    have := Option.some.inj hx
                    rw [← this]
                    simp
                  have cx := Hg9.out (i + 1) x (by rw [List.getElem?_cons_succ]; exact hx)
                  have hxl := Hsm.out x (List.mem_cons_of_mem _ (List.mem_of_getElem? hx))
                  have hw1 : IntKind.i64.wrap ((T : Int) - 1) = ((i + 1 : Nat) : Int) := by rw [hT, IntWalk.i64_in _ (by omega)]; omega
                  have hin : i + 1 < n := by omega
                  have hinI : (i : Int) + 1 < (n : Int) := by omega
                  have hi0 : (0 : Int) ≤ (i : Int) + 1 := by omega
                  have HBl := Lib.hid (block_any x (by omega) wr)
                  have Hlast := Lib.hid hlast
                  have Hr2 : Hid (r.length = k.many + (if k.blk then 1 else 0)) := Lib.hid (by rw [← HBk2.out, ← HMk.out]; exact Hrl.out)
                  clear hT hn2 hr2 hx hlast
                  cases hu : Ru.unhex x with
                  | none =>
                    have Hp : Hid (Ru.parse l = none) := Lib.hid (Ru.parse_badhex Hcut.out HK.out HBk2.out.symm (by rw [Hlast.out]; exact hu))
                    unfold UnhPost at HBl
                    rw [hu] at HBl
                    simp only [Option.isSome_none] at HBl
                    clear hu
                    go_wp2_with fail
                    refine HBl.out.mono ?_
                    rintro e w4 ⟨⟨y, rfl, hy⟩, hb4⟩
                    have u4 := below_cell0 hb4 u9
                    have Hb4 := Lib.hid hb4
                    clear hb4 hy u9
                    go_wp2_with fail
                    go_quiet (fail)
                    go_wp2_with fail
                    go_ret2
                    exact LnPost.no Hp.out rfl (((HA9.out.below Hb4.out).kept ((Kept.refl (fun _ => False) _).drewN _) (fun _ _ h => h)).more (by omega)) ((Kept.new F (HB9.out.trans (Hb4.out.mono HB9.out.size))).drewN _)
                  | some y0 =>
                    have Hp : Hid (Ru.parse l = some (k, vs, y0)) := Lib.hid (Ru.parse_good Hcut.out HK.out Hr2.out (by rw [← HMk.out]; exact Hvs.out) HBk2.out.symm (by rw [Hlast.out]; exact hu))
                    have Hy := Lib.hid (Ru.unhex_len hu)
                    unfold UnhPost at HBl
                    rw [hu] at HBl
                    simp only [Option.isSome_some] at HBl
                    clear hu
                    go_wp2_with fail
                    refine HBl.out.mono ?_
                    rintro e w4 ⟨⟨y, rfl, hy⟩, hb4⟩
                    obtain rfl := hy y0 rfl
                    have Hb4 := Lib.hid hb4
                    clear hb4 hy
                    go_wp2_with fail
                    go_meet
                    exact ⟨y0, rfl, Hp.out, by rw [Hy.out]; omega, (fun h => by cases h), Hb4.out⟩
                | false =>
                  have Hr2 : Hid (r.length = k.many + (if k.blk then 1 else 0)) := Lib.hid (by rw [← HBk2.out, ← HMk.out]; exact Hrl.out)
                  have Hp : Hid (Ru.parse l = some (k, vs, [])) := Lib.hid (Ru.parse_plain Hcut.out HK.out Hr2.out (by rw [← HMk.out]; exact Hvs.out) HBk2.out.symm)
                  go_wp2_with fail
                  go_meet
                  exact ⟨[], rfl, Hp.out, by simp, fun _ => rfl, Below.refl _ _⟩
              case rest =>
                obtain ⟨x, rfl, hpar, hx2, hxb, hbq⟩ := hcut
                have Hpar := Lib.hid hpar
                have hzq := hbq.size
                have e0 : w0 = k.txt := Ru.wd_some HK.out
                have d0 := below_cell0 hbq HcB9.out
                have d1 := below_cell0 hbq (Hg9.out 0 w0 rfl)
                have d2 := below_cell0 hbq Hn0.out
                have d3 := below_cell0 hbq Hn1.out
                have HBq := Lib.hid (HB9.out.trans (hbq.mono HB9.out.size))
                have HAq := Lib.hid (HA9.out.below hbq)
                have HD : Hid (∀ m, Calls Tryz.prog 61 #[.agg #[.pointer (some ⟨b, 0, none⟩)], .string ⟨w0.toArray⟩, .agg #[iv (vs.getD 0 0 : Nat), iv (vs.getD 1 0 : Nat)], .string ⟨x.toArray⟩] (wc.drewN m) (DeskPost F (K + 4) b (Ru.run1 s k vs x) (wc.drewN m))) := Lib.hid (fun m => by
                  rw [e0]
                  have hzm : (wc.drewN m).heap.size = wc.heap.size := rfl
                  have hEm : Env (wc.drewN m) := (HE.out.new HBq.out).drewN m
                  refine do_any (HAq.out.kept ((Kept.refl (fun _ => False) _).drewN _) (fun _ _ h => h)) hK (fun p hp => by have := HFw.out p hp; have := HBq.out.size; omega) (fun w' hk => (hEm.kept hk (fun p hp hF => by have := HFg.out p hF; omega)).hd) hl k vs x hv0 hv1 (by omega) (fun hks => ?_)
                  subst hks
                  have h1 := Hlen.out
                  rw [HMk.out] at h1
                  exact ⟨List.eq_nil_of_length_eq_zero h1, hxb HBk2.out⟩)
                obtain ⟨v0, hv0e⟩ : ∃ v0 : Int, v0 = ((vs.getD 0 0 : Nat) : Int) := ⟨_, rfl⟩
                obtain ⟨v1, hv1e⟩ : ∃ v1 : Int, v1 = ((vs.getD 1 0 : Nat) : Int) := ⟨_, rfl⟩
                rw [← hv0e, ← hv1e] at HD
                rw [← hv0e] at d2
                rw [← hv1e] at d3
                obtain ⟨rr, hrr⟩ : ∃ rr, rr = Ru.run1 s k vs x := ⟨_, rfl⟩
                rw [← hrr] at HD
                have Hrr := Lib.hid hrr
                clear hpar hx2 hxb hbq e0 hv0e hv1e hrr hv0 hv1
                go_wp2_with fail
                have HD1 : Hid (Calls Tryz.prog 61 #[.agg #[.pointer (some ⟨b, 0, none⟩)], .string ⟨w0.toArray⟩, .agg #[iv v0, iv v1], .string ⟨x.toArray⟩] wc.drew (DeskPost F (K + 4) b rr wc.drew)) := Lib.hid (HD.out 1)
                have HnF : Hid (∀ x, w.heap.size ≤ x → ¬ F x) := Lib.hid (fun x hx hF => by have := HFw.out x hF; omega)
                have D0 : Hid (wc.drew.cell? ⟨w.heap.size, 0, none⟩ = some (.pointer (some ⟨b, 0, none⟩))) := Lib.hid d0
                have D1 : Hid (wc.drew.cell? ⟨g, 0, none⟩ = some (.string ⟨w0.toArray⟩)) := Lib.hid d1
                have D2 : Hid (wc.drew.cell? ⟨N, 0, none⟩ = some (iv v0)) := Lib.hid d2
                have D3 : Hid (wc.drew.cell? ⟨N, 1, none⟩ = some (iv v1)) := Lib.hid d3
                have hgw : w.heap.size ≤ g := by omega
                have hNw : w.heap.size ≤ N := by omega
                have HKq : Hid (Kept F w wc.drew) := Lib.hid ((Kept.new F HBq.out).also ((Kept.refl F _).drewN 1))
                clear HD
                go_region_held3 (fun w' => w'.cell? ⟨w.heap.size, 0, none⟩ = some (.pointer (some ⟨b, 0, none⟩)) ∧ w'.cell? ⟨g, 0, none⟩ = some (.string ⟨w0.toArray⟩) ∧ w'.cell? ⟨N, 0, none⟩ = some (iv v0) ∧ w'.cell? ⟨N, 1, none⟩ = some (iv v1))
                  (first | exact ⟨d0, d1, d2, d3⟩ | exact K1 | go_keep)
                  ((go_at_call 61; refine HD1.out.mono ?_; rintro e w5 ⟨rfl, hA5, hk5⟩; have K1 := And.intro (hk5.cell D0.out (HnF.out _ (Nat.le_refl _))) (And.intro (hk5.cell D1.out (HnF.out _ hgw)) (And.intro (hk5.cell D2.out (HnF.out _ hNw)) (hk5.cell D3.out (HnF.out _ hNw)))); have HA5 := Lib.hid hA5; have HK5 := Lib.hid (HKq.out.also hk5); clear hA5 hk5))
                go_wp2_with fail
                go_ret2
                exact LnPost.yes Hpar.out ⟨by rw [← Hrr.out]; rfl, by rw [← Hrr.out]; exact HA5.out, HK5.out⟩
end Go.Proofs.YtneebcniofolmaaGreatDoor
