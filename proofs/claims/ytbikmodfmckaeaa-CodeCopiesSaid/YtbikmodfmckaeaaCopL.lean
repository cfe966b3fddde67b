/- The walk of the law CodeCopies: it returns true. -/
import Derived.Test.YtbikmodfmckaeaaCodG
import Derived.Test.YtbikmodfmckaeaaCodP
namespace Go.Proofs.Ytbikmodfmckaeaa
open Go.ChangeShapes Go.WideShapes Go.ChangeAt Go.RowKit
set_option linter.unusedVariables false
def mk1 (m a : Nat) : List Bool := (List.range (m + 1)).map (fun i => decide (i ≠ a))
theorem mk1_len (m a : Nat) : (mk1 m a).length = m + 1 := by unfold mk1; simp
theorem mk1_at {m a i : Nat} (h : i < m + 1) : los (mk1 m a) i = decide (i ≠ a) := by
  unfold los mk1
  rw [List.getD_eq_getElem?_getD, List.getElem?_map, List.getElem?_range h]; rfl
theorem hx_mk1 {m a : Nat} (ha : a < m + 1) : hx (mk1 m a) (m + 1) = [a] := by
  have key : ∀ n, n ≤ m + 1 → hx (mk1 m a) n = if a < n then [a] else [] := by
    intro n
    induction n with
    | zero => intro _; rfl
    | succ n ih =>
      intro hn
      have h := ih (by omega)
      by_cases e : n = a
      · subst e
        rw [hx_yes (by rw [mk1_at (by omega)]; simp), h, if_neg (by omega), if_pos (by omega)]; rfl
      · rw [hx_no (by rw [mk1_at (by omega)]; simp [e]), h]
        by_cases c : a < n
        · rw [if_pos c, if_pos (by omega)]
        · rw [if_neg c, if_neg (by omega)]
  rw [key _ (Nat.le_refl _), if_pos ha]
def pt1 (m a : Nat) (s : ByteArray) : List ByteArray := (List.replicate (m + 1) ⟨#[]⟩).set a s
theorem pt1_len (m a : Nat) (s : ByteArray) : (pt1 m a s).length = m + 1 := by unfold pt1; simp
theorem copies {m at' : Nat} {b : ByteArray} (hat : at' < m) (hm : m ≤ 11) (hb : b.size ≤ 16) :
    decF 1 (1 + m) (pt1 m (at' + 1) (cPart 1 [b] (1 + at'))) (mk1 m (at' + 1)) = 0 ∧ decR 1 (1 + m) (pt1 m (at' + 1) (cPart 1 [b] (1 + at'))) (mk1 m (at' + 1)) = [b] := by
  have hh : hx (mk1 m (at' + 1)) (1 + m) = [at' + 1] := by rw [Nat.add_comm 1 m]; exact hx_mk1 (by omega)
  have hv : hvS (pt1 m (at' + 1) (cPart 1 [b] (1 + at'))) (mk1 m (at' + 1)) (1 + m) = [cPart 1 [b] (1 + at')] := by
    unfold hvS
    rw [hh, List.map_cons, List.map_nil, List.getD_eq_getElem?_getD]
    unfold pt1
    rw [List.getElem?_set_self (by simp; omega)]; rfl
  have hk : 1 ≤ (hx (mk1 m (at' + 1)) (1 + m)).length := by rw [hh]; exact Nat.le_refl _
  have hsz : (cPart 1 [b] (1 + at')).size = b.size := cPart_size _ _ _
  constructor
  · unfold decF
    rw [hv, if_neg (by omega), if_neg (by
      show ¬ blkF [cPart 1 [b] (1 + at')] ≠ 0
      unfold blkF
      simp only [List.all_cons, List.all_nil, Bool.and_true, beq_self_eq_true, if_true]
      rw [hsz, if_neg (by omega)]; simp), if_neg (by rw [dN_full hk (by omega)]; omega)]
  · refine dec_right hk (by omega) rfl (Nat.le_refl _) (fun s hs => by simp at hs; rw [hs]; rfl) (fun i hi => ?_)
    obtain rfl : i = 0 := by omega
    rw [hv, hh]
    show some _ = some _
    congr 2
    show 1 + at' = at' + 1
    omega
theorem info_boolC : (Try.prog.info? 4).map (fun i => (i.zero, i.size, i.bytes)) = some (some (.bool false), 1, 1) := by kernel_rfl
theorem make_boolsC (n : Nat) (h : n ≤ 1000000) (w : World) : (Instr.makeSlice 50 (.int .i64 (n : Int)) (.int .i64 (n : Int))).run Try.prog w = .ok (.slice (some ⟨w.heap.size, 0, none⟩) n n) (w.alloc (.cells (madeCells #[.bool false] n) 4)) :=
  run_make_row' 50 4 (.bool false) 1 Try.underlying50 info_boolC rfl .i64 .i64 n (by omega) (by omega) w
theorem make_strsC (n : Nat) (h : n ≤ 1000000) (w : World) : (Instr.makeSlice 47 (.int .i64 (n : Int)) (.int .i64 (n : Int))).run Try.prog w = .ok (.slice (some ⟨w.heap.size, 0, none⟩) n n) (w.alloc (.cells (madeCells #[.string ⟨#[]⟩] n) 9)) :=
  run_make_row' 47 9 (.string ⟨#[]⟩) 16 Try.underlying47 info_strS rfl .i64 .i64 n (by omega) (by omega) w
theorem made_owns {E : TypeId} {z : Value} (hz : z.cells = #[z]) (n : Nat) (hn : n ≤ 1000000) (w : World) : OwnR (w.alloc (.cells (madeCells #[z] n) E)) w.heap.size E (.slice (some ⟨w.heap.size, 0, none⟩) n n) (List.replicate n z) := by
  have hl : (madeCells #[z] n).toList = List.replicate n z := toList_madeCells_one _ _
  have hs : (madeCells #[z] n).size = n := by rw [← Array.length_toList, hl, List.length_replicate]
  refine .inr ⟨w.heap.size, 0, n, _, by rw [List.length_replicate], Nat.le_refl _, heap_alloc_new w _, by rw [List.length_replicate]; exact Nat.le_refl _, by unfold maxLen; omega, by rw [hs]; omega, fun j hj => ?_⟩
  rw [Nat.zero_add, ← Array.getElem?_toList, hl]
/-- the marks when k of them are set -/
def mkk (m a k : Nat) : List Value := (List.range (m + 1)).map (fun i => .bool (decide (i < k) && decide (i ≠ a)))
theorem mkk_zero (m a : Nat) : mkk m a 0 = List.replicate (m + 1) (.bool false) := by
  unfold mkk
  apply List.ext_getElem?
  intro i
  rw [List.getElem?_map, List.getElem?_replicate]
  by_cases h : i < m + 1
  · rw [List.getElem?_range h, if_pos h]; rfl
  · rw [List.getElem?_eq_none (by rw [List.length_range]; omega), if_neg h]; rfl
theorem mkk_set {m a k : Nat} : (mkk m a k).set k (.bool (decide (k ≠ a))) = mkk m a (k + 1) := by
  unfold mkk
  apply List.ext_getElem?
  intro i
  rw [List.getElem?_set, List.length_map, List.length_range, List.getElem?_map, List.getElem?_map]
  by_cases h : i < m + 1
  · rw [List.getElem?_range h]
    by_cases e : k = i
    · subst e
      rw [if_pos rfl, if_pos h]
      simp
    · rw [if_neg e]
      have : decide (i < k) = decide (i < k + 1) := by
        by_cases c : i < k
        · rw [dec_t c, dec_t (by omega)]
        · rw [dec_f c, dec_f (by omega)]
      simp [this]
  · rw [List.getElem?_eq_none (by rw [List.length_range]; omega)]
    split
    · rw [if_neg (by omega)]; rfl
    · rfl
theorem mkk_full (m a : Nat) : mkk m a (m + 1) = (mk1 m a).map Value.bool := by
  unfold mkk mk1
  rw [List.map_map]
  refine List.map_congr_left (fun i hi => ?_)
  rw [dec_t (List.mem_range.1 hi)]; rfl
theorem mkk_len (m a k : Nat) : (mkk m a k).length = m + 1 := by unfold mkk; simp
def CoRel (m a : Nat) (w : World) (gl gk : Nat) (v11 : Value) (w0 wr : World) : Prop :=
  ∃ k : Nat, k + gk = m + 1 ∧ v11 = iv k ∧ OwnR wr gl 4 (.slice (some ⟨gl, 0, none⟩) (m + 1) (m + 1)) (mkk m a k) ∧ Kept (fun x => x = gl) w0 wr
theorem encF_one (m : Int) (b : ByteArray) : encF 1 m [b] = if m < 0 ∨ 11 < m ∨ 16 < b.size then 1 else 0 := by
  unfold encF codF
  by_cases h : m < 0 ∨ 11 < m
  · rw [if_pos (show (1 : Int) < 1 ∨ m < 0 ∨ (12 : Int) < 1 ∨ 12 - 1 < m by omega), if_pos (by decide), if_pos (by omega)]
  · rw [if_neg (show ¬ ((1 : Int) < 1 ∨ m < 0 ∨ (12 : Int) < 1 ∨ 12 - 1 < m) by omega), if_neg (by simp), if_neg (by simp)]
    unfold blkF
    simp only [List.all_cons, List.all_nil, Bool.and_true, beq_self_eq_true, if_true]
    by_cases h2 : 16 < b.size
    · rw [if_pos h2, if_pos (by omega)]
    · rw [if_neg h2, if_neg (by omega)]
theorem one_strs (w : World) (b : ByteArray) : Strs (w.alloc (.cells #[.string b] 9)) (.slice (some ⟨w.heap.size, 0, none⟩) 1 1) [b] := by
  refine ⟨some ⟨w.heap.size, 0, none⟩, 1, rfl, Nat.le_refl _, by decide, (fun h => by cases h), fun _ => ⟨w.heap.size, 0, rfl, fun j hj => ?_⟩⟩
  rw [cell_of_row _ _ _ _ _ _ (heap_alloc_new w _), Nat.zero_add]
  have : j = 0 := by simp at hj; omega
  subst this; rfl
set_option maxRecDepth 100000 in
set_option maxHeartbeats 4000000 in
theorem codeCopies_walk (m : Int) (b : ByteArray) (a : Int) (hm : (Lit.int .i64 m).wf = true) (hb : b.size ≤ maxLen) (ha : (Lit.int .i64 a).wf = true) (w : World) :
    Calls Try.prog 6 #[iv m, .string b, iv a] w fun e w' => e = .returned (.bool true) ∧ Below w.heap.size w w' := by
  have hmb := bounds_i64 hm
  have hab := bounds_i64 ha
  unfold maxLen at hb
  have HB0 : Hid (Below w.heap.size w (w.alloc (.cells #[.string b] 9))) := Lib.hid ((Below.refl _ _).alloc (Nat.le_refl _) _)
  have HEn := Lib.hid (encode_tot 1 m [b] _ _ (one_strs w b))
  unfold CencPost at HEn
  obtain ⟨F, hF⟩ : ∃ F, F = encF 1 m [b] := ⟨_, rfl⟩
  rw [← hF] at HEn
  have hFe : F = if m < 0 ∨ 11 < m ∨ 16 < b.size then 1 else 0 := by rw [hF, encF_one]
  by_cases hbad : m < 0 ∨ 11 < m ∨ 16 < b.size
  · have hF1 : F = 1 := by rw [hFe, if_pos hbad]
    subst hF1
    rw [errV_ne (by decide : (1 : Int) ≠ 0)] at HEn
    clear hF hFe hm ha
    go_enter Try.func6, Try.ntmps6
    go_wp2_with fail
    refine HEn.out.mono ?_
    rintro e w1 ⟨v1, rfl, _, hb1⟩
    have HB1 := Lib.hid (HB0.out.trans (hb1.mono (by simp)))
    clear hb1 HEn HB0
    by_cases h1 : m < 0
    · clear hbad
      go_wp2_with fail
      go_ret
      exact ⟨rfl, HB1.out⟩
    · by_cases h2 : 11 < m
      · clear hbad
        go_wp2_with fail
        go_ret
        exact ⟨rfl, HB1.out⟩
      · have h3 : (16 : Int) < (b.size : Int) := by omega
        clear hbad
        go_wp2_with fail
        go_ret
        exact ⟨rfl, HB1.out⟩
  · have hF0 : F = 0 := by rw [hFe, if_neg hbad]
    obtain ⟨mn, rfl⟩ : ∃ n : Nat, m = n := ⟨m.toNat, by omega⟩
    have hmn : mn ≤ 11 := by omega
    have hbs : b.size ≤ 16 := by omega
    have hV : encV 1 (mn : Int) [b] = encR 1 mn [b] := by unfold encV; rw [← hF, if_pos hF0]; rfl
    rw [hV] at HEn
    subst hF0
    rw [errV_0] at HEn
    clear hF hFe hbad hV hm ha
    go_enter Try.func6, Try.ntmps6
    go_wp2_with fail
    refine HEn.out.mono ?_
    rintro e w1 ⟨v1, rfl, hO1, hb1⟩
    have HB1 := Lib.hid (HB0.out.trans (hb1.mono (by simp)))
    have hz1 := HB1.out.size
    obtain ⟨p1, c1, hv1, hc1, hc2⟩ := OwnR.shape hO1
    rw [List.length_map, encR_len] at hv1 hc1
    subst hv1
    unfold maxLen at hc2
    have HO1 := Lib.hid hO1
    clear hb1 HEn HB0 hO1
    have t0 : ((mn : Int) != (mn : Int)) = false := bne_f rfl
    have t00 : ((mn : Int) == (mn : Int)) = true := beq_t rfl
    by_cases hin : 0 ≤ a ∧ a < mn
    · obtain ⟨an, rfl⟩ : ∃ n : Nat, a = n := ⟨a.toNat, by omega⟩
      have han : an < mn := by omega
      clear hin
      obtain ⟨g1, o1, cc, hve, hg1, hg1s, _, _, hcell, _⟩ := OwnR.at0 HO1.out (by rw [List.length_map, encR_len]; omega)
      rw [List.length_map, encR_len] at hve
      injection hve with e1 e2 e3
      subst e1
      have d1 : w1.cell? ⟨g1, o1 + an, none⟩ = some (.string (cPart 1 [b] (1 + an))) := by
        have h := hcell an (by rw [List.length_map, encR_len]; exact han)
        rw [List.getElem?_map, encR_get [b] han] at h; exact h
      have mkS := make_strsC (mn + 1) (by omega) w1
      have hoS := made_owns (E := 9) (z := .string ⟨#[]⟩) rfl (mn + 1) (by omega) w1
      obtain ⟨w2, hw2⟩ : ∃ w2, w2 = w1.alloc (.cells (madeCells #[.string ⟨#[]⟩] (mn + 1)) 9) := ⟨_, rfl⟩
      obtain ⟨gs, hgs⟩ : ∃ g, g = w1.heap.size := ⟨_, rfl⟩
      have hb2 : Below w1.heap.size w1 w2 := by rw [hw2]; exact (Below.refl _ _).alloc (Nat.le_refl _) _
      have hsz2 : w2.heap.size = gs + 1 := by rw [hw2, hgs]; simp
      rw [← hw2, ← hgs] at mkS hoS
      have mkB := make_boolsC (mn + 1) (by omega) w2
      have hoB := made_owns (E := 4) (z := .bool false) rfl (mn + 1) (by omega) w2
      obtain ⟨w3, hw3⟩ : ∃ w3, w3 = w2.alloc (.cells (madeCells #[.bool false] (mn + 1)) 4) := ⟨_, rfl⟩
      obtain ⟨gl, hgl⟩ : ∃ g, g = w2.heap.size := ⟨_, rfl⟩
      have hb3 : Below w2.heap.size w2 w3 := by rw [hw3]; exact (Below.refl _ _).alloc (Nat.le_refl _) _
      rw [← hw3, ← hgl] at mkB hoB
      have HS3 := Lib.hid (OwnR.below hoS hb3)
      rw [← mkk_zero mn (an + 1)] at hoB
      have HL3 := Lib.hid hoB
      have HB3 := Lib.hid ((HB1.out.trans (hb2.mono hz1)).trans (hb3.mono (by omega)))
      have d3 := (hb3.cell (p := ⟨g1, o1 + an, none⟩) (by show g1 < _; omega)).trans ((hb2.cell (p := ⟨g1, o1 + an, none⟩) hg1s).trans d1)
      have D3 := Lib.hid d3
      have hgsl : gs < gl := by omega
      have hg1l : g1 < gs := by omega
      have hwgs : w.heap.size ≤ gs := by omega
      have hm1 : IntKind.i64.wrap ((mn : Int) + 1) = ((mn + 1 : Nat) : Int) := (IntWalk.i64_in _ (by omega)).trans (by omega)
      have hm2 : ((mn + 1 : Nat) : Int) = (mn : Int) + 1 := by omega
      rw [hm2] at mkS mkB
      clear hcell d1 hb2 hb3 hoS hoB hw2 hw3 hgs hgl d3 e2 e3 hm2 HO1 hm1
      go_wp2_with fail
      go_loopg [11] (mn + 1) (fun gk v11 wr => CoRel mn (an + 1) w gl gk v11 w3 wr)
      case atStart => exact ⟨0, by omega, rfl, HL3.out, Kept.refl _ _⟩
      case round =>
        clear HL3 mkS mkB
        obtain ⟨k, hk, rfl, hL, hK⟩ := hrel
        have Hk := Lib.hid hk
        have HL := Lib.hid hL
        have HK := Lib.hid hK
        clear hk hL hK
        by_cases hkn : k < mn + 1
        · obtain ⟨_, hgs, hq1, _, _, hcc, hfz⟩ := OwnR.cells HL.out (by rw [mkk_len]; omega)
          clear hq1
          have d0 : wr.cell? ⟨gl, k, none⟩ = some (.bool (decide (k < k) && decide (k ≠ an + 1))) := by
            have h := hcc k hkn
            rw [Nat.zero_add] at h
            rw [h]; unfold mkk
            rw [List.getElem?_map, List.getElem?_range hkn]; rfl
          have f0 := hfz k
          have hL2 := OwnR.setAt HL.out (k := k) (by rw [mkk_len]; exact hkn) (.bool (decide (k ≠ an + 1)))
          rw [mkk_set, Nat.zero_add] at hL2
          have hK2 := HK.out.set1 k (.bool (decide (k ≠ an + 1)))
          by_cases hka : k = an + 1
          · rw [dec_f (fun h => h hka)] at hL2 hK2
            have HL2 := Lib.hid hL2
            have HK2 := Lib.hid hK2
            have te : ((k : Int) != (an : Int) + 1) = false := bne_f (by omega)
            clear hcc hfz hL2 hK2 hka
            go_wp2_with fail
            go_roundg (gk - 1)
            case measure => have := Hk.out; omega
            case rel => exact ⟨k + 1, by have := Hk.out; omega, by go_num, HL2.out, HK2.out⟩
          · rw [dec_t hka] at hL2 hK2
            have HL2 := Lib.hid hL2
            have HK2 := Lib.hid hK2
            have te : ((k : Int) != (an : Int) + 1) = true := bne_t (by omega)
            clear hcc hfz hL2 hK2 hka
            go_wp2_with fail
            go_roundg (gk - 1)
            case measure => have := Hk.out; omega
            case rel => exact ⟨k + 1, by have := Hk.out; omega, by go_num, HL2.out, HK2.out⟩
        · have hkn' : k = mn + 1 := by have := Hk.out; omega
          subst hkn'
          rw [mkk_full] at HL
          have hS := OwnR.kept HS3.out HK.out (fun g hg e => by injection hg with hg; have h1 : gs = g := hg; omega)
          obtain ⟨_, hgss, hq1, _, _, hcc, hfz⟩ := OwnR.cells hS (by simp)
          clear hq1
          have d1 := HK.out.cell D3.out (by show ¬ g1 = gl; omega)
          have d2 : wr.cell? ⟨gs, an + 1, none⟩ = some (.string ⟨#[]⟩) := by
            have h := hcc (an + 1) (by omega)
            rw [Nat.zero_add] at h
            rw [h, List.getElem?_replicate, if_pos (by omega)]
          have f2 := hfz (an + 1)
          obtain ⟨p0, hp0⟩ : ∃ p, p = cPart 1 [b] (1 + an) := ⟨_, rfl⟩
          rw [← hp0] at d1
          have hS2 := OwnR.setAt hS (k := an + 1) (by simp; omega) (.string p0)
          have hpt : (List.replicate (mn + 1) (Value.string ⟨#[]⟩)).set (an + 1) (.string p0) = (pt1 mn (an + 1) p0).map Value.string := by unfold pt1; rw [List.map_set, List.map_replicate]
          rw [hpt, Nat.zero_add] at hS2
          have hks : Kept (fun x => x = gs) wr (wr.setCell ⟨gs, an + 1, none⟩ (.string p0)) := (Kept.self gs wr).set1 _ _
          have hL2 := OwnR.kept HL.out hks (fun g hg e => by injection hg with hg; have h1 : gl = g := hg; omega)
          have HB4 : Hid (Below w.heap.size w (wr.setCell ⟨gs, an + 1, none⟩ (.string p0))) := Lib.hid ((HB3.out.trans (HK.out.toBelow HB3.out.size (fun x _ e => by rw [e]; omega))).setCell (p := ⟨gs, an + 1, none⟩) hwgs _)
          obtain ⟨hcF, hcR⟩ := copies (b := b) han hmn hbs
          have hDe := decode_any 1 mn (Nat.le_refl _) (by omega) (pt1 mn (an + 1) p0) (mk1 mn (an + 1)) (by rw [pt1_len]; omega) (by rw [mk1_len]; omega) _ _ _ (OwnR.row hS2) (OwnR.row hL2)
          unfold DecPost at hDe
          rw [hp0, hcF, hcR, if_pos rfl, errV_0, ← hp0, show ((1 : Nat) : Int) = 1 from rfl] at hDe
          have HDe := Lib.hid hDe
          have hz4 := HB4.out.size
          clear hS hcc hfz hp0 hS2 hpt hks hL2 hcF hcR hDe HL HK
          go_wp2_with fail
          refine HDe.out.mono ?_
          rintro e w5 ⟨v5, rfl, hO5, hb5⟩
          have HB5 := Lib.hid (HB4.out.trans (hb5.mono hz4))
          obtain ⟨g5, o5, c5, hv5, _, _, _, _, hc5, _⟩ := OwnR.at0 hO5 (by simp)
          have d5 : w5.cell? ⟨g5, o5, none⟩ = some (.string b) := by have h := hc5 0 (by simp); rw [Nat.add_zero] at h; exact h
          have hv5' : v5 = .slice (some ⟨g5, o5, none⟩) 1 c5 := hv5
          subst hv5'
          clear hb5 hO5 hv5 hc5 HDe HB4
          go_wp2_with fail
          go_ret
          exact ⟨rfl, HB5.out⟩
    · have hna : a < 0 ∨ (mn : Int) ≤ a := by omega
      clear hin
      rcases hna with h | h
      · go_wp2_with fail
        go_ret
        exact ⟨rfl, HB1.out⟩
      · have h' : ¬ a < 0 := by omega
        go_wp2_with fail
        go_ret
        exact ⟨rfl, HB1.out⟩
end Go.Proofs.Ytbikmodfmckaeaa
