/- The walk of the reference's Line: any line but a scrub. -/
import Derived.Test.YtneebcniofolmaaGreatDoorSesX
namespace Go.Proofs.YtneebcniofolmaaGreatDoor
open Go.ChangeShapes Go.WideShapes Go.ChangeAt Go.RowKit
set_option linter.unusedVariables false
set_option maxHeartbeats 4000000
set_option maxRecDepth 100000
theorem ne_forms {a c : List UInt8} (h : a ≠ c) : ((ByteArray.mk a.toArray).toList == (ByteArray.mk c.toArray).toList) = false ∧ (a == c) = false ∧ ¬ a = c := by
  refine ⟨?_, by simpa using h, h⟩
  rw [Lib.toList_data, Lib.toList_data]
  simpa using h
theorem eq_forms {a c : List UInt8} (h : a = c) : ((ByteArray.mk a.toArray).toList == (ByteArray.mk c.toArray).toList) = true ∧ (a == c) = true := by
  subst h
  exact ⟨by simp, by simp⟩
/-- does a block stand behind? -/
def wblk (w0 : List UInt8) : Bool := match Ru.wd w0 with
  | some k => k.blk
  | none => false
theorem wblk_some {w0 : List UInt8} {k : Ru.Wd} (h : Ru.wd w0 = some k) : wblk w0 = k.blk := by unfold wblk; rw [h]
theorem wblk_yes {w0 : List UInt8} (h : wblk w0 = true) : w0 = Ru.Wd.write.txt ∨ w0 = Ru.Wd.poke.txt := by
  unfold wblk at h
  cases hw : Ru.wd w0 with
  | none => rw [hw] at h; cases h
  | some k =>
    rw [hw] at h
    have := Ru.wd_some hw
    cases k <;> first | (exact .inl this) | (exact .inr this) | (exact absurd h (by decide))
theorem wblk_no {w0 : List UInt8} (h : wblk w0 = false) : w0 ≠ Ru.Wd.write.txt ∧ w0 ≠ Ru.Wd.poke.txt := by
  constructor
  · intro e; rw [e, wblk_some (Ru.wd_txt .write)] at h; cases h
  · intro e; rw [e, wblk_some (Ru.wd_txt .poke)] at h; cases h
section
variable {l w0 : List UInt8} {r : List (List UInt8)}
theorem parse_nonum (hc : Ru.cut 32 l = w0 :: r) {i : Nat} {x : List UInt8} (hx : r[i]? = some x) (hn : Ru.num x = none) (hi : i + (if wblk w0 then 1 else 0) < r.length) : Ru.parse l = none := by
  cases hw : Ru.wd w0 with
  | none => exact Ru.parse_unknown hc hw
  | some k =>
    rw [wblk_some hw] at hi
    by_cases h : r.length ≠ k.many + (if k.blk then 1 else 0)
    · exact Ru.parse_long hc hw h
    · exact Ru.parse_badnum hc hw (Ru.nums_fail i r x hx hn _ (by omega))
theorem parse_nohex (hc : Ru.cut 32 l = w0 :: r) (hb : wblk w0 = true) (hu : Ru.unhex ((w0 :: r).getLastD []) = none) : Ru.parse l = none := by
  cases hw : Ru.wd w0 with
  | none => exact Ru.parse_unknown hc hw
  | some k => exact Ru.parse_badhex hc hw (by rw [← wblk_some hw]; exact hb) hu
theorem parse_nolen (hc : Ru.cut 32 l = w0 :: r) (h : ∀ k, Ru.wd w0 = some k → r.length ≠ k.many + (if k.blk then 1 else 0)) : Ru.parse l = none := by
  cases hw : Ru.wd w0 with
  | none => exact Ru.parse_unknown hc hw
  | some k => exact Ru.parse_long hc hw (h k hw)
end
/-- numbers of a part of some words -/
theorem nums_take : ∀ (m : Nat) (a b : List (List UInt8)), m ≤ a.length → Ru.nums m (a ++ b) = Ru.nums m a
  | 0, _, _, _ => rfl
  | m + 1, [], b, h => by simp at h
  | m + 1, x :: a, b, h => by
    show Ru.nums (m + 1) (x :: (a ++ b)) = _
    cases hn : Ru.num x with
    | none => rw [Ru.nums_cons_no hn, Ru.nums_cons_no hn]
    | some v => rw [Ru.nums_cons hn, Ru.nums_cons hn, nums_take m a b (by simpa using h)]
/-- the words that should be numbers -/
def nwords (w0 : List UInt8) (r : List (List UInt8)) : List (List UInt8) := if wblk w0 then r.dropLast else r
theorem nwords_at {w0 : List UInt8} {r : List (List UInt8)} {i : Nat} {x : List UInt8} (h : (nwords w0 r)[i]? = some x) : r[i]? = some x ∧ i + (if wblk w0 then 1 else 0) < r.length := by
  unfold nwords at h
  cases hb : wblk w0 with
  | false =>
    rw [hb, if_neg (by decide)] at h
    exact ⟨h, by have := (List.getElem?_eq_some_iff.1 h).1; rw [if_neg (by decide)]; exact this⟩
  | true =>
    rw [hb, if_pos rfl] at h
    have h1 := (List.getElem?_eq_some_iff.1 h).1
    rw [List.length_dropLast] at h1
    rw [List.getElem?_dropLast, if_pos h1] at h
    exact ⟨h, by rw [if_pos rfl]; omega⟩
theorem nwords_nums {w0 : List UInt8} {r : List (List UInt8)} (m : Nat) (h : m ≤ (nwords w0 r).length) : Ru.nums m r = Ru.nums m (nwords w0 r) := by
  unfold nwords at h ⊢
  split at h
  · rename_i hb
    rw [if_pos hb]
    by_cases hr : r = []
    · subst hr; rfl
    · conv => lhs; rw [← List.dropLast_concat_getLast hr]
      exact nums_take m _ _ h
  · rename_i hb
    rw [if_neg hb]
theorem ints_of_owns {w : World} {B n : Nat} {v : Value} {xs : List Value} (h : w.ownsRow B 3 1 v n xs) (h0 : 0 < n) : ∃ g cap, v = .slice (some ⟨g, 0, none⟩) n cap ∧ B ≤ g ∧ g < w.heap.size ∧ ∀ j x, xs[j]? = some x → w.cell? ⟨g, j, none⟩ = some x := by
  have hl : xs.length = n := by simpa using h.1
  rcases h.2 with ⟨rfl, h1⟩ | ⟨g, cap, cur, rfl, hb, hg, hnc, hcm, hcs, ht⟩
  · omega
  · refine ⟨g, cap, rfl, hb, (Array.getElem?_eq_some_iff.1 hg).1, fun j x hj => ?_⟩
    have hjl := (List.getElem?_eq_some_iff.1 hj).1
    rw [h.cellAt j (by omega), hj]
theorem nwords_len (w0 : List UInt8) (r : List (List UInt8)) : (nwords w0 r).length = r.length - (if wblk w0 then 1 else 0) := by
  unfold nwords
  split
  · rw [List.length_dropLast]
  · rfl
theorem parse_nocount {l w0 : List UInt8} {r : List (List UInt8)} (hc : Ru.cut 32 l = w0 :: r) (h : ∀ k, Ru.wd w0 = some k → (nwords w0 r).length ≠ k.many) : Ru.parse l = none :=
  parse_nolen hc fun k hk e => h k hk (by rw [nwords_len, wblk_some hk, e]; omega)
theorem parse_count {l w0 : List UInt8} {r : List (List UInt8)} {k : Ru.Wd} {vs : List Nat} {X : ByteArray} (hc : Ru.cut 32 l = w0 :: r) (hw : Ru.wd w0 = some k) (hi : (nwords w0 r).length = k.many) (hn : Ru.nums k.many (nwords w0 r) = some vs)
    (hX : if wblk w0 then r ≠ [] ∧ true = (Ru.unhex ((w0 :: r).getLastD [])).isSome ∧ ∀ y, Ru.unhex ((w0 :: r).getLastD []) = some y → X = ⟨y.toArray⟩ else true = true ∧ X = ⟨#[]⟩) : Ru.parse l = some (k, vs, X.data.toList) := by
  have hn2 : Ru.nums k.many r = some vs := by rw [nwords_nums k.many (Nat.le_of_eq hi.symm)]; exact hn
  rw [nwords_len, wblk_some hw] at hi
  rw [wblk_some hw] at hX
  cases hb : k.blk with
  | true =>
    rw [hb, if_pos rfl] at hX hi
    obtain ⟨h0, h1, h2⟩ := hX
    obtain ⟨y, hy⟩ := Option.isSome_iff_exists.1 h1.symm
    rw [h2 y hy]
    have hp : 0 < r.length := List.length_pos_iff.2 h0
    exact Ru.parse_good hc hw (by rw [hb, if_pos rfl]; omega) hn2 hb hy
  | false =>
    rw [hb, if_neg (by decide)] at hX hi
    rw [hX.2]
    exact Ru.parse_plain hc hw (by rw [hb, if_neg (by decide)]; omega) hn2 hb
/-- the words of a line, in memory, from the second on -/
def RLRel (w0 : List UInt8) (r : List (List UInt8)) (w : World) (gk : Nat) (v15 v16 : Value) (wr : World) : Prop :=
  ∃ (i : Nat) (vs : List Nat), i + gk = (nwords w0 r).length ∧ v16 = iv i ∧ Ru.nums i (nwords w0 r) = some vs ∧ wr.ownsRow w.heap.size 3 1 v15 i (vs.map fun v => iv (v : Nat)) ∧ Below w.heap.size w wr
section
variable {F : Nat → Prop} {w : World} {b : Nat} {s : Ar.S}
theorem rline_words (h : RAryOk F w b s) (hFw : ∀ k, F k → k < w.heap.size) (hl : Ar.S.Like 5 4 2 s) (l : List UInt8) (hs : l.length ≤ 5000) (w0 : List UInt8) (r : List (List UInt8)) (hcut : Ru.cut 32 l = w0 :: r) (hns : ¬ (w0 = Ru.Wd.scrub.txt ∧ r = [])) :
    Calls Tryz.prog 9 #[.pointer (some ⟨b, 0, none⟩), .string ⟨l.toArray⟩] w (RLPost F b (Ru.line s l) w) := by
  have HCut := Lib.hid (rcut_any l 32 (by omega) w)
  unfold CutPost at HCut
  have hsm : ∀ x ∈ Ru.cut 32 l, x.length ≤ 5000 := fun x hx => Nat.le_trans (Ru.cut_small 32 l x hx) hs
  have hrl : r.length ≤ 5000 := by
    have h1 := Ru.cut_len 32 l
    have h2 := List.count_le_length (a := (32 : UInt8)) (l := l)
    rw [hcut, List.length_cons] at h1
    omega
  rw [hcut] at HCut hsm
  have Hsm := Lib.hid hsm
  have HA := Lib.hid h
  have HFw := Lib.hid hFw
  have Hcut := Lib.hid hcut
  have Hns := Lib.hid hns
  clear h hcut hns hsm hFw
  go_enter Tryz.func9, Tryz.ntmps9
  go_wp2_with fail
  refine HCut.out.mono ?_
  rintro e w2 ⟨vv, rfl, hO, hb2⟩
  obtain ⟨g, cap, rfl, hgb, hgz, hgc, hg2⟩ := Txts.of_owns hO rfl (by simp)
  have k0 := hg2 0 _ rfl
  have Hg2 := Lib.hid hg2
  have HA2 := Lib.hid (HA.out.below hb2)
  have HK2 := Lib.hid (Kept.new F hb2)
  have HB2 := Lib.hid hb2
  have hzw2 := hb2.size
  obtain ⟨m, hm⟩ : ∃ m, m = r.length := ⟨_, rfl⟩
  rw [List.length_cons] at hgc ⊢
  rw [← hm] at hrl hgc ⊢
  have Hm := Lib.hid hm
  clear hO hb2 hg2 hm
  go_upto_region 2 with (fail)
  go_cut [33] (fun z wq => z = .bool false ∧ w2 = wq)
  case first => as_aux_lemma =>
    by_cases h0 : w0 = [115, 99, 114, 117, 98]
    · have hm0 : ¬ m = 0 := fun e => Hns.out ⟨h0, List.eq_nil_of_length_eq_zero (by rw [← Hm.out]; exact e)⟩
      have hm1 : ¬ m + 1 = 1 := by omega
      have hm2 : ¬ (m : Int) + 1 = 1 := by omega
      have hm3 : ¬ (m : Int) = 0 := by omega
      obtain ⟨n1, n2⟩ := eq_forms h0
      subst h0
      go_wp2_with fail
      go_meet
      exact ⟨congrArg Value.bool (by rw [beq_eq_false_iff_ne]; omega), rfl⟩
    · obtain ⟨n1, n2, n3⟩ := ne_forms h0
      go_wp2_with fail
      go_meet
      exact ⟨rfl, rfl⟩
  case rest =>
    obtain ⟨rfl, rfl⟩ := hcut
    go_upto_region 19 with (fail)
    go_cut [14] (fun z wq => ∃ p c, z = .slice p m c ∧ (0 < m → p = some ⟨g, 1, none⟩) ∧ m ≤ c ∧ w2 = wq)
    case first => as_aux_lemma =>
      by_cases hc1 : cap = 1
      · have hm0 : m = 0 := by omega
        subst hc1 hm0
        go_wp2_with fail
        go_meet
        exact ⟨_, _, rfl, fun h => by omega, by omega, rfl⟩
      · have hcI : (1 : Int) ≤ (m : Int) + 1 := by omega
        go_wp2_with fail
        go_meet
        exact ⟨_, _, rfl, fun h => by simp, by omega, rfl⟩
    case rest =>
      obtain ⟨p, c9, rfl, hp9, hc9, rfl⟩ := hcut
      obtain ⟨W, hW⟩ : ∃ W, W = wblk w0 := ⟨_, rfl⟩
      have HW := Lib.hid hW
      have Hp9 := Lib.hid hp9
      clear hW hp9
      go_upto_region 20 with (fail)
      go_cut [78] (fun z wq => z = .bool W ∧ w2 = wq)
      case first => as_aux_lemma =>
        cases W with
        | true =>
          rcases wblk_yes HW.out.symm with h0 | h0
          · unfold Ru.Wd.txt at h0
            obtain ⟨n1, n2⟩ := eq_forms h0
            subst h0
            go_wp2_with fail
            go_meet
            exact ⟨rfl, rfl⟩
          · unfold Ru.Wd.txt at h0
            obtain ⟨n1, n2⟩ := eq_forms h0
            subst h0
            go_wp2_with fail
            go_meet
            exact ⟨rfl, rfl⟩
        | false =>
          obtain ⟨h0, h1⟩ := wblk_no HW.out.symm
          unfold Ru.Wd.txt at h0 h1
          obtain ⟨n1, n2, n3⟩ := ne_forms h0
          obtain ⟨m1, m2, m3⟩ := ne_forms h1
          go_wp2_with fail
          go_meet
          exact ⟨rfl, rfl⟩
      case rest =>
        obtain ⟨rfl, rfl⟩ := hcut
        have hcell : ∀ j x, r[j]? = some x → w2.cell? ⟨g, 1 + j, none⟩ = some (.string ⟨x.toArray⟩) := fun j x hx => by
          rw [Nat.add_comm]; exact Hg2.out (j + 1) x (by rw [List.getElem?_cons_succ]; exact hx)
        have Hcell := Lib.hid hcell
        obtain ⟨M, hM⟩ : ∃ M, M = (nwords w0 r).length := ⟨_, rfl⟩
        have hMm : M ≤ m := by rw [hM, Hm.out]; unfold nwords; split <;> simp
        have HM := Lib.hid hM
        clear hcell hM
        go_upto_if 78 with (fail)
        go_cut [12, 13, 14] (fun z12 z13 z14 wq => ∃ (X : ByteArray) (B : Bool) (c : Nat), z12 = .string X ∧ z13 = .bool B ∧ z14 = .slice p M c ∧ M ≤ c ∧ Below w2.heap.size w2 wq ∧ (B = true → X.size ≤ 100) ∧
          (if wblk w0 then r ≠ [] ∧ B = (Ru.unhex ((w0 :: r).getLastD [])).isSome ∧ ∀ y, Ru.unhex ((w0 :: r).getLastD []) = some y → X = ⟨y.toArray⟩ else B = true ∧ X = ⟨#[]⟩))
        case first =>
          cases W with
          | false => as_aux_lemma =>
            have hmM : m = M := by rw [HM.out, Hm.out]; unfold nwords; rw [← HW.out, if_neg (by decide)]
            subst hmM
            go_wp2_with fail
            go_meet
            exact ⟨_, true, _, rfl, rfl, rfl, hc9, Below.refl _ _, fun _ => (by show (0 : Nat) ≤ 100; omega), by rw [← HW.out, if_neg (by decide)]; exact ⟨rfl, rfl⟩⟩
          | true =>
            by_cases hm0 : m = 0
            · as_aux_lemma =>
              have Hpar : Hid (Ru.parse l = none) := Lib.hid (parse_nolen Hcut.out (fun k hk => by
                rw [← Hm.out, hm0]
                have h1 := wblk_some hk
                rw [← HW.out] at h1
                rw [← h1, if_pos rfl]; omega))
              subst hm0
              go_wp2_with fail
              go_ret
              exact ⟨by rw [line_bad Hpar.out]; rfl, by rw [line_bad Hpar.out]; exact HA2.out, HK2.out⟩
            · as_aux_lemma =>
              have hM1 : m = M + 1 := by
                have h1 := HM.out
                have h2 := Hm.out
                unfold nwords at h1
                rw [← HW.out, if_pos rfl, List.length_dropLast] at h1
                omega
              have hr0 : r ≠ [] := fun e => hm0 (by rw [Hm.out, e]; rfl)
              obtain ⟨x, hx⟩ : ∃ x, r[M]? = some x := ⟨r[M]'(by rw [← Hm.out]; omega), List.getElem?_eq_getElem _⟩
              have hlast : (w0 :: r).getLastD [] = x := by
                rw [List.getLastD_cons]
                obtain ⟨b9, y9, hb9⟩ : ∃ b9 y9, r = b9 ++ [y9] := ⟨_, _, (List.dropLast_concat_getLast hr0).symm⟩
                have hml := Hm.out
                rw [hb9] at hx hml ⊢
                rw [List.length_append] at hml
                simp at hml
                rw [List.getElem?_append_right (by omega), show M - b9.length = 0 by omega] at hx
                have := Option.some.inj hx
                rw [← this]
                simp
              obtain rfl := Hp9.out (by omega)
              have cx := Hcell.out M x hx
              have hxl := Hsm.out x (List.mem_cons_of_mem _ (List.mem_of_getElem? hx))
              have hw1 : IntKind.i64.wrap ((m : Int) - 1) = (M : Int) := by rw [IntWalk.i64_in _ (by omega)]; omega
              have hMI : (M : Int) < (m : Int) := by omega
              have hMN : M < m := by omega
              have hMc : M ≤ c9 := by omega
              have hMcI : (M : Int) ≤ (c9 : Int) := by omega
              have HU : Hid (∀ W, Calls Tryz.prog 21 #[.string ⟨x.toArray⟩] W (UnhPost x W)) := Lib.hid (fun W => by
                by_cases h4 : x.length = 4
                · match x, h4 with
                  | [a, b, c, d], _ => exact rblock_yes a b c d W
                · exact rblock_no x (by omega) h4 W)
              have Hlast := Lib.hid hlast
              have Hr0 := Lib.hid hr0
              have hm0I : ¬ (m : Int) = 0 := by omega
              clear hx hlast hr0 hM1
              go_wp2_with fail
              refine (HU.out _).mono ?_
              rintro e w3 ⟨⟨y, rfl, hy⟩, hb3⟩
              have hyz : (Ru.unhex x).isSome = true → y.size ≤ 100 := fun hsome => by
                obtain ⟨z, hz⟩ := Option.isSome_iff_exists.1 hsome
                rw [hy z hz]
                have := Ru.unhex_len hz
                show z.length ≤ 100
                omega
              have Hy := Lib.hid hy
              have Hyz := Lib.hid hyz
              have Hb3 := Lib.hid hb3
              clear hy hb3 hyz
              go_wp2_with fail
              go_meet
              exact ⟨y, _, c9, rfl, rfl, rfl, hMc, Hb3.out, Hyz.out, by rw [← HW.out, if_pos rfl, Hlast.out]; exact ⟨Hr0.out, rfl, Hy.out⟩⟩
        case rest =>
          obtain ⟨X, B, c, rfl, rfl, rfl, hMc, hb3, hX, hcond⟩ := hcut
          have HBc := Lib.hid (HB2.out.trans (hb3.mono hzw2))
          have HAc := Lib.hid (HA2.out.below hb3)
          have HKc := Lib.hid (HK2.out.also (Kept.new F hb3))
          have Hcellc : Hid (∀ j x, r[j]? = some x → wc.cell? ⟨g, 1 + j, none⟩ = some (.string ⟨x.toArray⟩)) := Lib.hid (fun j x hx => below_cell0 hb3 (Hcell.out j x hx))
          have Hk0 := Lib.hid (below_cell0 hb3 k0)
          have Hcond := Lib.hid hcond
          have HXs := Lib.hid hX
          have hzc := HBc.out.size
          clear hb3 k0 hcond hX
          go_wp2_with fail
          go_loopg [15, 16, 17, 18] M (fun gk v15 v16 v17 v18 wr => RLRel w0 r wc gk v15 v16 wr)
          case atStart => exact ⟨0, [], by rw [← HM.out]; omega, rfl, rfl, World.ownsRow_nil _ _ _ _, Below.refl _ _⟩
          case round =>
            obtain ⟨i, vs, hi, rfl, hvs, hO, hB⟩ := hrel
            rw [← HM.out] at hi
            have Hi := Lib.hid hi
            have Hvs := Lib.hid hvs
            have HO := Lib.hid hO
            have HBr := Lib.hid hB
            have hlen := Ru.nums_len i _ vs hvs
            have hvl := Ru.nums_lt i _ vs hvs
            have HBw := Lib.hid (HBc.out.trans (hB.mono hzc))
            have HAr := Lib.hid (HAc.out.below hB)
            have HKr := Lib.hid (HKc.out.also (Kept.new F hB))
            have kr := below_cell0 hB Hk0.out
            have hzr := hB.size
            have Hlen := Lib.hid hlen
            have Hvl := Lib.hid hvl
            clear hi hvs hO hB hlen hvl
            by_cases hlt : i < M
            · obtain ⟨x, hx⟩ : ∃ x, (nwords w0 r)[i]? = some x := ⟨(nwords w0 r)[i]'(by rw [← HM.out]; exact hlt), List.getElem?_eq_getElem _⟩
              have hxr := nwords_at hx
              obtain rfl := Hp9.out (by omega)
              have cx := below_cell0 HBr.out (Hcellc.out i x hxr.1)
              have hxl := Hsm.out x (List.mem_cons_of_mem _ (List.mem_of_getElem? hxr.1))
              have hltI : (i : Int) < (M : Int) := by omega
              have hw1 : IntKind.i64.wrap ((i : Int) + 1) = (i : Int) + 1 := IntWalk.i64_in _ (by omega)
              have HN := rnumber_any x (by omega) wr
              unfold NumPost at HN
              have Hx := Lib.hid hx
              have Hxr := Lib.hid hxr
              clear hx hxr
              cases hnum : Ru.num x with
              | none => as_aux_lemma =>
                have Hpar : Hid (Ru.parse l = none) := Lib.hid (parse_nonum Hcut.out Hxr.out.1 hnum Hxr.out.2)
                rw [hnum] at HN
                simp only [Option.isSome_none] at HN
                have HNh := Lib.hid HN
                clear HN hnum
                go_wp2_with fail
                refine HNh.out.mono ?_
                rintro e w4 ⟨y, rfl, hy, hb4⟩
                have HA4 := Lib.hid (HAr.out.below hb4)
                have HK4 := Lib.hid (HKr.out.also (Kept.new F hb4))
                clear hb4 hy
                go_wp2_with fail
                go_ret
                exact ⟨by rw [line_bad Hpar.out]; rfl, by rw [line_bad Hpar.out]; exact HA4.out, HK4.out⟩
              | some y0 => as_aux_lemma =>
                rw [hnum] at HN
                simp only [Option.isSome_some] at HN
                have HNh := Lib.hid HN
                have Hnx : Hid (Ru.nums (i + 1) (nwords w0 r) = some (vs ++ [y0])) := Lib.hid (Ru.nums_step i _ vs x y0 Hvs.out Hx.out hnum)
                have hi9 : i + 1 ≤ 1000000 := by omega
                clear HN hnum
                go_wp2_with fail
                refine HNh.out.mono ?_
                rintro e w4 ⟨y, rfl, hy, hb4⟩
                obtain rfl := hy y0 rfl
                have HO4 : Hid (w4.ownsRow wc.heap.size 3 1 u15 i (vs.map fun v => iv (v : Nat))) := Lib.hid (owns_below HO.out hb4)
                have HB4 := Lib.hid (HBr.out.trans (hb4.mono hzr))
                have hz4 := HB4.out.size
                clear hb4 hy
                go_wp2_with (at_builtin; refine app1 wc w4 _ 3 30 rfl _ _ rfl wc.heap.size Tryz.underlying30 info_int rfl _ i _ rfl _ rfl rfl HO4.out rfl hi9 (by decide) hz4 HB4.out ?_)
                intro v8 w8 hown8 hb8 _ _
                have HO8 : Hid (w8.ownsRow wc.heap.size 3 1 v8 (i + 1) ((vs ++ [y0]).map fun v => iv (v : Nat))) := Lib.hid (by rw [List.map_append]; exact hown8)
                have HB8 := Lib.hid hb8
                clear hown8 hb8
                go_wp2_with fail
                go_roundg (gk - 1)
                case measure => have := Hi.out; omega
                case rel => exact ⟨i + 1, vs ++ [y0], by rw [← HM.out]; have := Hi.out; omega, by go_num, Hnx.out, HO8.out, HB8.out⟩
            · have hiM : i = M := by have := Hi.out; omega
              have Hcnt : Hid ((nwords w0 r).length = i) := Lib.hid (by rw [hiM]; exact HM.out.symm)
              obtain ⟨hrow, hrl⟩ := row_of_owns HO.out
              obtain ⟨p5, c5, hs5, hc5, _⟩ := hrow.shape
              rw [hrl] at hs5 hc5
              subst hs5
              subst hiM
              clear hrow hrl
              cases B with
              | false => as_aux_lemma =>
                have Hpar : Hid (Ru.parse l = none) := Lib.hid (by
                  have hc := Hcond.out
                  by_cases hb : wblk w0 = true
                  · rw [if_pos hb] at hc
                    refine parse_nohex Hcut.out hb ?_
                    have h2 := hc.2.1
                    cases hu : Ru.unhex ((w0 :: r).getLastD []) with
                    | none => rfl
                    | some y => rw [hu] at h2; cases h2
                  · rw [if_neg hb] at hc; cases hc.1)
                go_wp2_with fail
                go_ret
                exact ⟨by rw [line_bad Hpar.out]; rfl, by rw [line_bad Hpar.out]; exact HAr.out, HKr.out⟩
              | true =>
                cases hk : Ru.wd w0 with
                | none => as_aux_lemma =>
                  have Hpar : Hid (Ru.parse l = none) := Lib.hid (Ru.parse_unknown Hcut.out hk)
                  have ea := Ru.wd_none hk .poke
                  unfold Ru.Wd.txt at ea
                  obtain ⟨a1, a2, a3⟩ := ne_forms ea
                  have eb := Ru.wd_none hk .read
                  unfold Ru.Wd.txt at eb
                  obtain ⟨b1, b2, b3⟩ := ne_forms eb
                  have ec := Ru.wd_none hk .write
                  unfold Ru.Wd.txt at ec
                  obtain ⟨c1, c2, c3⟩ := ne_forms ec
                  have ed := Ru.wd_none hk .fail
                  unfold Ru.Wd.txt at ed
                  obtain ⟨d1, d2, d3⟩ := ne_forms ed
                  have ee := Ru.wd_none hk .replace
                  unfold Ru.Wd.txt at ee
                  obtain ⟨e1, e2, e3⟩ := ne_forms ee
                  have ef := Ru.wd_none hk .rebuild
                  unfold Ru.Wd.txt at ef
                  obtain ⟨f1, f2, f3⟩ := ne_forms ef
                  have eg := Ru.wd_none hk .lost
                  unfold Ru.Wd.txt at eg
                  obtain ⟨g1, g2, g3⟩ := ne_forms eg
                  clear hk
                  by_cases hi1 : i = 1
                  · subst hi1
                    go_wp2_with fail
                    go_ret
                    exact ⟨by rw [line_bad Hpar.out]; rfl, by rw [line_bad Hpar.out]; exact HAr.out, HKr.out⟩
                  · have hi1I : ¬ (i : Int) = 1 := by omega
                    go_wp2_with fail
                    go_ret
                    exact ⟨by rw [line_bad Hpar.out]; rfl, by rw [line_bad Hpar.out]; exact HAr.out, HKr.out⟩
                | some k =>
                  obtain rfl : w0 = k.txt := Ru.wd_some hk
                  clear hk
                  cases k with
                  | read => as_aux_lemma =>
                    have hk0 := Ru.wd_txt Ru.Wd.read
                    have Hnc : Hid (¬ i = 1 → Ru.parse l = none) := Lib.hid (fun hi1 => parse_nocount Hcut.out (fun k hk => by
                      rw [hk0] at hk
                      obtain rfl := Option.some.inj hk
                      rw [Hcnt.out]; exact hi1))
                    by_cases hi1 : i = 1
                    · subst hi1
                      obtain ⟨v, rfl⟩ : ∃ v, vs = [v] := by
                        match vs, Hlen.out with
                        | [v], _ => exact ⟨v, rfl⟩
                      have hv : v < 10000 := Hvl.out v (by simp)
                      obtain ⟨g5, cc5, hv5, hb5, hz5, hcl5⟩ := ints_of_owns HO.out (by omega)
                      injection hv5 with q1 q2 q3
                      subst q1 q3
                      have n0 := hcl5 0 _ rfl
                      have Hln : Hid (Ru.line s l = (Ru.told (Ru.run1 s Ru.Wd.read [v] X.data.toList).1, (Ru.run1 s Ru.Wd.read [v] X.data.toList).2)) := Lib.hid (Ru.line_of (parse_count Hcut.out hk0 Hcnt.out Hvs.out Hcond.out))
                      have Her := Lib.hid (Ru.run1_err s Ru.Wd.read [v] X.data.toList)
                      have hXs := HXs.out rfl
                      unfold Ru.Wd.txt at kr
                      clear hcl5 hk0
                      have E : Ru.run1 s .read [v] X.data.toList = ((Ru.hex (s.read (v : Int)).1.data.toList, (s.read (v : Int)).2), s) := rfl
                      rw [E] at Hln Her
                      have hz := Ar.S.read_size HAr.out.1 (v : Int)
                      have hz2 := hl.2.2
                      have HP := Lib.hid (rRead HAr.out (v : Int) (by omega) (by omega))
                      clear E
                      obtain ⟨R, hR⟩ : ∃ R, R = s.read (v : Int) := ⟨_, rfl⟩
                      rw [← hR] at HP Hln Her hz
                      clear hR
                      have HX := Lib.hid (fun W => rhex_any R.1 (by omega) W)
                      obtain ⟨o, ho⟩ : ∃ o, o = Ru.hex R.1.data.toList := ⟨_, rfl⟩
                      rw [← ho] at HX Hln
                      clear ho
                      have HT := Lib.hid (fun W => rtold_any R.2 Her.out.1 Her.out.2 o W)
                      go_wp2_with fail
                      refine HP.out.mono ?_
                      rintro e w5 ⟨rfl, hb5⟩
                      have HA5 := Lib.hid (HAr.out.below hb5)
                      have HK5 := Lib.hid (HKr.out.also (Kept.new F hb5))
                      clear hb5
                      go_wp2_with fail
                      refine (HX.out _).mono ?_
                      rintro e w7 ⟨rfl, nd, hw7⟩
                      have hk7 : Kept (fun _ => False) w5 w7 := by rw [← hw7]; exact (Kept.refl (fun _ => False) _).drewN nd
                      have HA7 := Lib.hid (HA5.out.kept hk7 (fun _ _ h => h))
                      have HK7 : Hid (Kept F w w7) := Lib.hid (by rw [← hw7]; exact HK5.out.also ((Kept.refl F _).drewN nd))
                      clear hw7 hk7
                      go_wp2_with fail
                      refine (HT.out _).mono ?_
                      rintro e w6 ⟨rfl, hb6⟩
                      have HA6 := Lib.hid (HA7.out.below hb6)
                      have HK6 := Lib.hid (HK7.out.also (Kept.new F hb6))
                      clear hb6
                      go_wp2_with fail
                      go_ret
                      exact ⟨by rw [Hln.out]; rfl, by rw [Hln.out]; exact HA6.out, HK6.out⟩
                    · have hi1I : ¬ (i : Int) = 1 := by omega
                      have Hpar : Hid (Ru.parse l = none) := Lib.hid (Hnc.out hi1)
                      unfold Ru.Wd.txt at kr
                      go_wp2_with fail
                      go_ret
                      exact ⟨by rw [line_bad Hpar.out]; rfl, by rw [line_bad Hpar.out]; exact HAr.out, HKr.out⟩
                  | write => as_aux_lemma =>
                    have hk0 := Ru.wd_txt Ru.Wd.write
                    have Hnc : Hid (¬ i = 1 → Ru.parse l = none) := Lib.hid (fun hi1 => parse_nocount Hcut.out (fun k hk => by
                      rw [hk0] at hk
                      obtain rfl := Option.some.inj hk
                      rw [Hcnt.out]; exact hi1))
                    by_cases hi1 : i = 1
                    · subst hi1
                      obtain ⟨v, rfl⟩ : ∃ v, vs = [v] := by
                        match vs, Hlen.out with
                        | [v], _ => exact ⟨v, rfl⟩
                      have hv : v < 10000 := Hvl.out v (by simp)
                      obtain ⟨g5, cc5, hv5, hb5, hz5, hcl5⟩ := ints_of_owns HO.out (by omega)
                      injection hv5 with q1 q2 q3
                      subst q1 q3
                      have n0 := hcl5 0 _ rfl
                      have Hln : Hid (Ru.line s l = (Ru.told (Ru.run1 s Ru.Wd.write [v] X.data.toList).1, (Ru.run1 s Ru.Wd.write [v] X.data.toList).2)) := Lib.hid (Ru.line_of (parse_count Hcut.out hk0 Hcnt.out Hvs.out Hcond.out))
                      have Her := Lib.hid (Ru.run1_err s Ru.Wd.write [v] X.data.toList)
                      have hXs := HXs.out rfl
                      unfold Ru.Wd.txt at kr
                      clear hcl5 hk0
                      have hXX : (⟨X.data.toList.toArray⟩ : ByteArray) = X := by simp
                      have E : Ru.run1 s Ru.Wd.write [v] X.data.toList = ((Ru.ok, (s.write (v : Int) X).1), (s.write (v : Int) X).2) := by
                        show ((Ru.ok, (s.write (v : Int) ⟨X.data.toList.toArray⟩).1), (s.write (v : Int) ⟨X.data.toList.toArray⟩).2) = _; rw [hXX]
                      rw [E] at Hln Her
                      have HP := Lib.hid (rWrite HAr.out (v : Int) (by omega) (by omega) X (by unfold maxLen; omega))
                      clear E
                      obtain ⟨R, hR⟩ : ∃ R, R = s.write (v : Int) X := ⟨_, rfl⟩
                      rw [← hR] at HP Hln Her
                      clear hR
                      have HT : Hid (∀ W, Calls Tryz.prog 23 #[iv R.1, .string ⟨#[111, 107]⟩] W fun x w' => x = .returned (strB (Ru.told (Ru.ok, R.1))) ∧ Below W.heap.size W w') := Lib.hid (fun W => rtold_any R.1 Her.out.1 Her.out.2 Ru.ok W)
                      go_wp2_with fail
                      refine HP.out.mono ?_
                      rintro e w5 ⟨rfl, hA5, hk5⟩
                      have HA5 := Lib.hid hA5
                      have HK5 := Lib.hid (HKr.out.also hk5)
                      clear hA5 hk5
                      go_wp2_with fail
                      refine (HT.out _).mono ?_
                      rintro e w6 ⟨rfl, hb6⟩
                      have HA6 := Lib.hid (HA5.out.below hb6)
                      have HK6 := Lib.hid (HK5.out.also (Kept.new F hb6))
                      clear hb6
                      go_wp2_with fail
                      go_ret
                      exact ⟨by rw [Hln.out]; rfl, by rw [Hln.out]; exact HA6.out, HK6.out⟩
                    · have hi1I : ¬ (i : Int) = 1 := by omega
                      have Hpar : Hid (Ru.parse l = none) := Lib.hid (Hnc.out hi1)
                      unfold Ru.Wd.txt at kr
                      go_wp2_with fail
                      go_ret
                      exact ⟨by rw [line_bad Hpar.out]; rfl, by rw [line_bad Hpar.out]; exact HAr.out, HKr.out⟩
                  | fail => as_aux_lemma =>
                    have hk0 := Ru.wd_txt Ru.Wd.fail
                    have Hnc : Hid (¬ i = 1 → Ru.parse l = none) := Lib.hid (fun hi1 => parse_nocount Hcut.out (fun k hk => by
                      rw [hk0] at hk
                      obtain rfl := Option.some.inj hk
                      rw [Hcnt.out]; exact hi1))
                    by_cases hi1 : i = 1
                    · subst hi1
                      obtain ⟨v, rfl⟩ : ∃ v, vs = [v] := by
                        match vs, Hlen.out with
                        | [v], _ => exact ⟨v, rfl⟩
                      have hv : v < 10000 := Hvl.out v (by simp)
                      obtain ⟨g5, cc5, hv5, hb5, hz5, hcl5⟩ := ints_of_owns HO.out (by omega)
                      injection hv5 with q1 q2 q3
                      subst q1 q3
                      have n0 := hcl5 0 _ rfl
                      have Hln : Hid (Ru.line s l = (Ru.told (Ru.run1 s Ru.Wd.fail [v] X.data.toList).1, (Ru.run1 s Ru.Wd.fail [v] X.data.toList).2)) := Lib.hid (Ru.line_of (parse_count Hcut.out hk0 Hcnt.out Hvs.out Hcond.out))
                      have Her := Lib.hid (Ru.run1_err s Ru.Wd.fail [v] X.data.toList)
                      have hXs := HXs.out rfl
                      unfold Ru.Wd.txt at kr
                      clear hcl5 hk0
                      have E : Ru.run1 s Ru.Wd.fail [v] X.data.toList = ((Ru.ok, (s.fail (v : Int)).1), (s.fail (v : Int)).2) := by
                        rfl
                      rw [E] at Hln Her
                      have HP := Lib.hid (rFail HAr.out (v : Int))
                      clear E
                      obtain ⟨R, hR⟩ : ∃ R, R = s.fail (v : Int) := ⟨_, rfl⟩
                      rw [← hR] at HP Hln Her
                      clear hR
                      have HT : Hid (∀ W, Calls Tryz.prog 23 #[iv R.1, .string ⟨#[111, 107]⟩] W fun x w' => x = .returned (strB (Ru.told (Ru.ok, R.1))) ∧ Below W.heap.size W w') := Lib.hid (fun W => rtold_any R.1 Her.out.1 Her.out.2 Ru.ok W)
                      go_wp2_with fail
                      refine HP.out.mono ?_
                      rintro e w5 ⟨rfl, hA5, hk5⟩
                      have HA5 := Lib.hid hA5
                      have HK5 := Lib.hid (HKr.out.also hk5)
                      clear hA5 hk5
                      go_wp2_with fail
                      refine (HT.out _).mono ?_
                      rintro e w6 ⟨rfl, hb6⟩
                      have HA6 := Lib.hid (HA5.out.below hb6)
                      have HK6 := Lib.hid (HK5.out.also (Kept.new F hb6))
                      clear hb6
                      go_wp2_with fail
                      go_ret
                      exact ⟨by rw [Hln.out]; rfl, by rw [Hln.out]; exact HA6.out, HK6.out⟩
                    · have hi1I : ¬ (i : Int) = 1 := by omega
                      have Hpar : Hid (Ru.parse l = none) := Lib.hid (Hnc.out hi1)
                      unfold Ru.Wd.txt at kr
                      go_wp2_with fail
                      go_ret
                      exact ⟨by rw [line_bad Hpar.out]; rfl, by rw [line_bad Hpar.out]; exact HAr.out, HKr.out⟩
                  | replace => as_aux_lemma =>
                    have hk0 := Ru.wd_txt Ru.Wd.replace
                    have Hnc : Hid (¬ i = 1 → Ru.parse l = none) := Lib.hid (fun hi1 => parse_nocount Hcut.out (fun k hk => by
                      rw [hk0] at hk
                      obtain rfl := Option.some.inj hk
                      rw [Hcnt.out]; exact hi1))
                    by_cases hi1 : i = 1
                    · subst hi1
                      obtain ⟨v, rfl⟩ : ∃ v, vs = [v] := by
                        match vs, Hlen.out with
                        | [v], _ => exact ⟨v, rfl⟩
                      have hv : v < 10000 := Hvl.out v (by simp)
                      obtain ⟨g5, cc5, hv5, hb5, hz5, hcl5⟩ := ints_of_owns HO.out (by omega)
                      injection hv5 with q1 q2 q3
                      subst q1 q3
                      have n0 := hcl5 0 _ rfl
                      have Hln : Hid (Ru.line s l = (Ru.told (Ru.run1 s Ru.Wd.replace [v] X.data.toList).1, (Ru.run1 s Ru.Wd.replace [v] X.data.toList).2)) := Lib.hid (Ru.line_of (parse_count Hcut.out hk0 Hcnt.out Hvs.out Hcond.out))
                      have Her := Lib.hid (Ru.run1_err s Ru.Wd.replace [v] X.data.toList)
                      have hXs := HXs.out rfl
                      unfold Ru.Wd.txt at kr
                      clear hcl5 hk0
                      have E : Ru.run1 s Ru.Wd.replace [v] X.data.toList = ((Ru.ok, (s.replace (v : Int)).1), (s.replace (v : Int)).2) := by
                        rfl
                      rw [E] at Hln Her
                      have HP := Lib.hid (rReplace HAr.out (v : Int))
                      clear E
                      obtain ⟨R, hR⟩ : ∃ R, R = s.replace (v : Int) := ⟨_, rfl⟩
                      rw [← hR] at HP Hln Her
                      clear hR
                      have HT : Hid (∀ W, Calls Tryz.prog 23 #[iv R.1, .string ⟨#[111, 107]⟩] W fun x w' => x = .returned (strB (Ru.told (Ru.ok, R.1))) ∧ Below W.heap.size W w') := Lib.hid (fun W => rtold_any R.1 Her.out.1 Her.out.2 Ru.ok W)
                      go_wp2_with fail
                      refine HP.out.mono ?_
                      rintro e w5 ⟨rfl, hA5, hk5⟩
                      have HA5 := Lib.hid hA5
                      have HK5 := Lib.hid (HKr.out.also hk5)
                      clear hA5 hk5
                      go_wp2_with fail
                      refine (HT.out _).mono ?_
                      rintro e w6 ⟨rfl, hb6⟩
                      have HA6 := Lib.hid (HA5.out.below hb6)
                      have HK6 := Lib.hid (HK5.out.also (Kept.new F hb6))
                      clear hb6
                      go_wp2_with fail
                      go_ret
                      exact ⟨by rw [Hln.out]; rfl, by rw [Hln.out]; exact HA6.out, HK6.out⟩
                    · have hi1I : ¬ (i : Int) = 1 := by omega
                      have Hpar : Hid (Ru.parse l = none) := Lib.hid (Hnc.out hi1)
                      unfold Ru.Wd.txt at kr
                      go_wp2_with fail
                      go_ret
                      exact ⟨by rw [line_bad Hpar.out]; rfl, by rw [line_bad Hpar.out]; exact HAr.out, HKr.out⟩
                  | poke => as_aux_lemma =>
                    have hk0 := Ru.wd_txt .poke
                    have Hnc : Hid (¬ i = 2 → Ru.parse l = none) := Lib.hid (fun hi1 => parse_nocount Hcut.out (fun k hk => by
                      rw [hk0] at hk
                      obtain rfl := Option.some.inj hk
                      rw [Hcnt.out]; exact hi1))
                    by_cases hi2 : i = 2
                    · subst hi2
                      obtain ⟨v0, v1, rfl⟩ : ∃ v0 v1, vs = [v0, v1] := by
                        match vs, Hlen.out with
                        | [v0, v1], _ => exact ⟨v0, v1, rfl⟩
                      obtain ⟨g5, cc5, hv5, hb5, hz5, hcl5⟩ := ints_of_owns HO.out (by omega)
                      injection hv5 with q1 q2 q3
                      subst q1 q3
                      have d0 : wr.cell? ⟨g5, 0, none⟩ = some (iv v0) := hcl5 0 _ rfl
                      have d1 : wr.cell? ⟨g5, 1, none⟩ = some (iv v1) := hcl5 1 _ rfl
                      have Hln : Hid (Ru.line s l = (Ru.told (Ru.run1 s .poke [v0, v1] X.data.toList).1, (Ru.run1 s .poke [v0, v1] X.data.toList).2)) := Lib.hid (Ru.line_of (parse_count Hcut.out hk0 Hcnt.out Hvs.out Hcond.out))
                      have Her := Lib.hid (Ru.run1_err s .poke [v0, v1] X.data.toList)
                      have hXs := HXs.out rfl
                      have hXX : (⟨X.data.toList.toArray⟩ : ByteArray) = X := by simp
                      have E : Ru.run1 s .poke [v0, v1] X.data.toList = ((Ru.ok, (s.poke (v0 : Int) (v1 : Int) X).1), (s.poke (v0 : Int) (v1 : Int) X).2) := by
                        show ((Ru.ok, (s.poke (v0 : Int) (v1 : Int) ⟨X.data.toList.toArray⟩).1), (s.poke (v0 : Int) (v1 : Int) ⟨X.data.toList.toArray⟩).2) = _
                        rw [hXX]
                      rw [E] at Hln Her
                      have HP : Hid (Calls Tryz.prog 24 #[.pointer (some ⟨b, 0, none⟩), iv v0, iv v1, .string X] wr.drew (RPost F b (s.poke (v0 : Int) (v1 : Int) X).1 (s.poke (v0 : Int) (v1 : Int) X).2 wr.drew)) := Lib.hid (rPoke (HAr.out.kept ((Kept.refl (fun _ => False) _).drewN 1) (fun _ _ h => h)) (v0 : Int) (v1 : Int) X (by unfold maxLen; omega))
                      clear E hXX
                      obtain ⟨R, hR⟩ : ∃ R, R = s.poke (v0 : Int) (v1 : Int) X := ⟨_, rfl⟩
                      rw [← hR] at HP Hln Her
                      clear hR
                      have HT : Hid (∀ W, Calls Tryz.prog 23 #[iv R.1, .string ⟨#[111, 107]⟩] W fun x w' => x = .returned (strB (Ru.told (Ru.ok, R.1))) ∧ Below W.heap.size W w') := Lib.hid (fun W => rtold_any R.1 Her.out.1 Her.out.2 Ru.ok W)
                      have HnF : Hid (¬ F g5) := Lib.hid (fun hF => by have := HFw.out g5 hF; omega)
                      have D0 : Hid (wr.drew.cell? ⟨g5, 0, none⟩ = some (iv v0)) := Lib.hid d0
                      have D1 : Hid (wr.drew.cell? ⟨g5, 1, none⟩ = some (iv v1)) := Lib.hid d1
                      have HKq : Hid (Kept F w wr.drew) := Lib.hid (HKr.out.also ((Kept.refl F _).drewN 1))
                      unfold Ru.Wd.txt at kr
                      clear hcl5 hk0 Hnc
                      go_wp2_with fail
                      go_region_held3 (fun w' => w'.cell? ⟨g5, 0, none⟩ = some (iv v0) ∧ w'.cell? ⟨g5, 1, none⟩ = some (iv v1))
                        (first | exact ⟨d0, d1⟩ | exact K2 | exact K1 | go_keep)
                        (first | (go_at_call 24; refine HP.out.mono ?_; rintro e w5 ⟨rfl, hA5, hk5⟩; have K1 := And.intro (hk5.cell D0.out HnF.out) (hk5.cell D1.out HnF.out); have HA5 := Lib.hid hA5; have HK5 := Lib.hid (HKq.out.also hk5); clear hA5 hk5) | (go_at_call 23; refine (HT.out _).mono ?_; rintro e w6 ⟨rfl, hb6⟩; have K2 := And.intro ((Kept.new (fun _ => False) hb6).cell K1.1 (fun h => h)) ((Kept.new (fun _ => False) hb6).cell K1.2 (fun h => h)); have HA6 := Lib.hid (HA5.out.below hb6); have HK6 := Lib.hid (HK5.out.also (Kept.new F hb6)); clear hb6))
                      go_wp2_with fail
                      go_ret
                      exact ⟨by rw [Hln.out]; rfl, by rw [Hln.out]; exact HA6.out, HK6.out⟩
                    · have hi1I : ¬ (i : Int) = 2 := by omega
                      have Hpar : Hid (Ru.parse l = none) := Lib.hid (Hnc.out hi2)
                      unfold Ru.Wd.txt at kr
                      go_wp2_with fail
                      go_ret
                      exact ⟨by rw [line_bad Hpar.out]; rfl, by rw [line_bad Hpar.out]; exact HAr.out, HKr.out⟩
                  | rebuild => as_aux_lemma =>
                    have hk0 := Ru.wd_txt Ru.Wd.rebuild
                    have Hnc : Hid (¬ i = 1 → Ru.parse l = none) := Lib.hid (fun hi1 => parse_nocount Hcut.out (fun k hk => by
                      rw [hk0] at hk
                      obtain rfl := Option.some.inj hk
                      rw [Hcnt.out]; exact hi1))
                    by_cases hi1 : i = 1
                    · subst hi1
                      obtain ⟨v, rfl⟩ : ∃ v, vs = [v] := by
                        match vs, Hlen.out with
                        | [v], _ => exact ⟨v, rfl⟩
                      have hv : v < 10000 := Hvl.out v (by simp)
                      obtain ⟨g5, cc5, hv5, hb5, hz5, hcl5⟩ := ints_of_owns HO.out (by omega)
                      injection hv5 with q1 q2 q3
                      subst q1 q3
                      have n0 := hcl5 0 _ rfl
                      have Hln : Hid (Ru.line s l = (Ru.told (Ru.run1 s Ru.Wd.rebuild [v] X.data.toList).1, (Ru.run1 s Ru.Wd.rebuild [v] X.data.toList).2)) := Lib.hid (Ru.line_of (parse_count Hcut.out hk0 Hcnt.out Hvs.out Hcond.out))
                      have Her := Lib.hid (Ru.run1_err s Ru.Wd.rebuild [v] X.data.toList)
                      have hXs := HXs.out rfl
                      unfold Ru.Wd.txt at kr
                      clear hcl5 hk0
                      have E : Ru.run1 s .rebuild [v] X.data.toList = ((Lib.decDigits (s.rebuild (v : Int)).1.1.toNat, (s.rebuild (v : Int)).1.2), (s.rebuild (v : Int)).2) := rfl
                      rw [E] at Hln Her
                      have hz := Ar.S.rebuild_bd HAr.out.1 (v : Int)
                      have hz2 := hl.2.1
                      have HP := rRebuild HAr.out (v : Int)
                      clear E
                      obtain ⟨R, hR⟩ : ∃ R, R = s.rebuild (v : Int) := ⟨_, rfl⟩
                      rw [← hR] at HP Hln Her hz
                      clear hR
                      obtain ⟨⟨y, e0⟩, t⟩ := R
                      dsimp only at hz Hln Her
                      obtain ⟨z, rfl⟩ : ∃ z : Nat, y = z := ⟨y.toNat, by omega⟩
                      rw [Int.toNat_natCast] at Hln
                      unfold RRbPost at HP
                      dsimp only at HP
                      have HPh := Lib.hid HP
                      clear HP
                      have HX := Lib.hid (fun W => digits_any (n := z) (by omega) W)
                      obtain ⟨o, ho⟩ : ∃ o, o = Lib.decDigits z := ⟨_, rfl⟩
                      rw [← ho] at HX Hln
                      clear ho
                      have HT := Lib.hid (fun W => rtold_any e0 Her.out.1 Her.out.2 o W)
                      go_wp2_with fail
                      refine HPh.out.mono ?_
                      rintro e w5 ⟨rfl, hA5, hk5⟩
                      have HA5 := Lib.hid hA5
                      have HK5 := Lib.hid (HKr.out.also hk5)
                      clear hA5 hk5
                      go_wp2_with fail
                      refine (HX.out _).mono ?_
                      rintro e w7 ⟨rfl, hb7⟩
                      have HA7 := Lib.hid (HA5.out.below hb7)
                      have HK7 := Lib.hid (HK5.out.also (Kept.new F hb7))
                      clear hb7
                      go_wp2_with fail
                      refine (HT.out _).mono ?_
                      rintro e w6 ⟨rfl, hb6⟩
                      have HA6 := Lib.hid (HA7.out.below hb6)
                      have HK6 := Lib.hid (HK7.out.also (Kept.new F hb6))
                      clear hb6
                      go_wp2_with fail
                      go_ret
                      exact ⟨by rw [Hln.out]; rfl, by rw [Hln.out]; exact HA6.out, HK6.out⟩
                    · have hi1I : ¬ (i : Int) = 1 := by omega
                      have Hpar : Hid (Ru.parse l = none) := Lib.hid (Hnc.out hi1)
                      unfold Ru.Wd.txt at kr
                      go_wp2_with fail
                      go_ret
                      exact ⟨by rw [line_bad Hpar.out]; rfl, by rw [line_bad Hpar.out]; exact HAr.out, HKr.out⟩
                  | lost => as_aux_lemma =>
                    have hk0 := Ru.wd_txt Ru.Wd.lost
                    have Hnc : Hid (¬ i = 1 → Ru.parse l = none) := Lib.hid (fun hi1 => parse_nocount Hcut.out (fun k hk => by
                      rw [hk0] at hk
                      obtain rfl := Option.some.inj hk
                      rw [Hcnt.out]; exact hi1))
                    by_cases hi1 : i = 1
                    · subst hi1
                      obtain ⟨v, rfl⟩ : ∃ v, vs = [v] := by
                        match vs, Hlen.out with
                        | [v], _ => exact ⟨v, rfl⟩
                      have hv : v < 10000 := Hvl.out v (by simp)
                      obtain ⟨g5, cc5, hv5, hb5, hz5, hcl5⟩ := ints_of_owns HO.out (by omega)
                      injection hv5 with q1 q2 q3
                      subst q1 q3
                      have n0 := hcl5 0 _ rfl
                      have Hln : Hid (Ru.line s l = (Ru.told (Ru.run1 s Ru.Wd.lost [v] X.data.toList).1, (Ru.run1 s Ru.Wd.lost [v] X.data.toList).2)) := Lib.hid (Ru.line_of (parse_count Hcut.out hk0 Hcnt.out Hvs.out Hcond.out))
                      have Her := Lib.hid (Ru.run1_err s Ru.Wd.lost [v] X.data.toList)
                      have hXs := HXs.out rfl
                      unfold Ru.Wd.txt at kr
                      clear hcl5 hk0
                      have E : Ru.run1 s .lost [v] X.data.toList = ((Lib.decDigits (s.lostN (v : Int)), s.rawF (v : Int)), s) := rfl
                      rw [E] at Hln Her
                      clear E
                      have HAq : Hid (∀ nq, RAryOk F (wr.drewN nq) b s) := Lib.hid (fun nq => HAr.out.kept ((Kept.refl (fun _ => False) _).drewN nq) (fun _ _ h => h))
                      have HKq : Hid (∀ nq, Kept F w (wr.drewN nq)) := Lib.hid (fun nq => HKr.out.also ((Kept.refl F _).drewN nq))
                      have hr4 := hl.2.1
                      have hn5 := hl.1
                      have cR := HAr.out.r
                      rw [hr4] at cR
                      by_cases hv4 : v < 4
                      · have hrow : s.hasRow (v : Int) := ⟨by omega, by omega⟩
                        have e1 : s.lostN (v : Int) = s.many v := by unfold Ar.S.lostN; rw [if_pos hrow, Int.toNat_natCast]
                        have e2 : s.rawF (v : Int) = 0 := by unfold Ar.S.rawF; rw [if_pos hrow]
                        have hz := s.lostN_le (v : Int)
                        rw [e1, e2] at Hln
                        rw [e1] at hz
                        have HP := Lib.hid (fun nq => rLost (HAr.out.kept ((Kept.refl (fun _ => False) _).drewN nq) (fun _ _ h => h)) v (by omega))
                        obtain ⟨z, hz0⟩ : ∃ z, z = s.many v := ⟨_, rfl⟩
                        rw [← hz0] at HP Hln hz
                        clear hz0 e1 e2 hrow
                        have HX := Lib.hid (fun W => digits_any (n := z) (by omega) W)
                        have Hln2 : Hid (Ru.line s l = (Lib.decDigits z, s)) := Lib.hid (by rw [Hln.out]; rfl)
                        clear Hln
                        have hvI : ¬ (4 : Int) ≤ (v : Int) := by omega
                        go_wp2_with (go_quiet (fail))
                        refine (HP.out _).mono ?_
                        rintro e w5 ⟨rfl, rfl⟩
                        go_wp2_with fail
                        refine (HX.out _).mono ?_
                        rintro e w6 ⟨rfl, hb6⟩
                        have HA6 := Lib.hid ((HAq.out _).below hb6)
                        have HK6 := Lib.hid ((HKq.out _).also (Kept.new F hb6))
                        clear hb6
                        go_wp2_with fail
                        go_ret
                        exact ⟨by rw [Hln2.out]; rfl, by rw [Hln2.out]; exact HA6.out, HK6.out⟩
                      · have hvI : (4 : Int) ≤ (v : Int) := by omega
                        have e2 : s.rawF (v : Int) = 1 := by unfold Ar.S.rawF; rw [if_neg (fun h => by have := h.2; omega)]
                        rw [e2] at Hln
                        have Hln2 : Hid (Ru.line s l = (Ru.name 1, s)) := Lib.hid (by rw [Hln.out]; rfl)
                        clear Hln e2
                        have HX := Lib.hid (fun W => rname_any 1 (by decide) (by decide) W)
                        go_wp2_with (go_quiet (fail))
                        refine (HX.out _).mono ?_
                        rintro e w6 ⟨rfl, hb6⟩
                        have HA6 := Lib.hid ((HAq.out _).below hb6)
                        have HK6 := Lib.hid ((HKq.out _).also (Kept.new F hb6))
                        clear hb6
                        go_wp2_with fail
                        go_ret
                        exact ⟨by rw [Hln2.out]; rfl, by rw [Hln2.out]; exact HA6.out, HK6.out⟩
                    · have hi1I : ¬ (i : Int) = 1 := by omega
                      have Hpar : Hid (Ru.parse l = none) := Lib.hid (Hnc.out hi1)
                      unfold Ru.Wd.txt at kr
                      go_wp2_with fail
                      go_ret
                      exact ⟨by rw [line_bad Hpar.out]; rfl, by rw [line_bad Hpar.out]; exact HAr.out, HKr.out⟩
                  | scrub => as_aux_lemma =>
                    have Hpar : Hid (Ru.parse l = none) := Lib.hid (parse_nocount Hcut.out (fun k hk => by
                      rw [Ru.wd_txt] at hk
                      obtain rfl := Option.some.inj hk
                      show (nwords Ru.Wd.scrub.txt r).length ≠ 0
                      rw [nwords_len, wblk_some (Ru.wd_txt .scrub)]
                      intro e
                      exact Hns.out ⟨rfl, List.eq_nil_of_length_eq_zero (by rw [show Ru.Wd.scrub.blk = false from rfl, if_neg (by decide)] at e; omega)⟩))
                    unfold Ru.Wd.txt at kr
                    by_cases hi1 : i = 1
                    · subst hi1
                      go_wp2_with fail
                      go_ret
                      exact ⟨by rw [line_bad Hpar.out]; rfl, by rw [line_bad Hpar.out]; exact HAr.out, HKr.out⟩
                    · have hi1I : ¬ (i : Int) = 1 := by omega
                      go_wp2_with fail
                      go_ret
                      exact ⟨by rw [line_bad Hpar.out]; rfl, by rw [line_bad Hpar.out]; exact HAr.out, HKr.out⟩
end
end Go.Proofs.YtneebcniofolmaaGreatDoor
