/- The walk of pq.Heal. -/
import Derived.Test.YtcldioneiededaaPqJ
namespace Go.Proofs.Ytcldioneiededaa
open Go.ChangeShapes Go.WideShapes Go.ChangeAt Go.RowKit
set_option linter.unusedVariables false
namespace Gv
/-- the parts that are not lost, of the first m -/
def have' (ps : List ByteArray) (ls : List Bool) : Nat → List ByteArray
  | 0 => []
  | m + 1 => if lo ls m then have' ps ls m else have' ps ls m ++ [ps.getD m ⟨#[]⟩]
def healF (ps : List ByteArray) (ls : List Bool) : Int :=
  if manyB ps.length = false then 1 else if ls.length ≠ ps.length then 3 else if (have' ps ls ps.length).length + 2 < ps.length then 8 else blkF (have' ps ls ps.length)
theorem have_mem {ps : List ByteArray} {ls : List Bool} {i : Nat} : ∀ m, i < m → lo ls i = false → ps.getD i ⟨#[]⟩ ∈ have' ps ls m
  | 0, h, _ => by omega
  | m + 1, h, h0 => by
    unfold have'
    by_cases e : i = m
    · subst e; rw [if_neg (by rw [h0]; decide)]; exact List.mem_append.2 (.inr (by simp))
    · have ih := have_mem (ps := ps) m (by omega) h0
      split
      · exact ih
      · exact List.mem_append.2 (.inl ih)
theorem have_len (ps : List ByteArray) (ls : List Bool) : ∀ m, (have' ps ls m).length + (goneL ls m).length = m
  | 0 => rfl
  | m + 1 => by
    have ih := have_len ps ls m
    rw [gone_succ]
    unfold have'
    by_cases h : lo ls m = true
    · rw [if_pos h, if_pos h, List.length_append, List.length_singleton]; omega
    · rw [if_neg h, if_neg h, List.length_append, List.length_singleton]; omega
theorem gone_mono (ls : List Bool) {k m : Nat} (h : k ≤ m) : (goneL ls k).length ≤ (goneL ls m).length := by
  induction m with
  | zero => obtain rfl : k = 0 := by omega
            exact Nat.le_refl _
  | succ m ih =>
    by_cases e : k = m + 1
    · subst e; exact Nat.le_refl _
    · have := ih (by omega)
      rw [gone_succ]
      split
      · rw [List.length_append]; omega
      · exact this
theorem have_len0 (ps : List ByteArray) (ls : List Bool) (m : Nat) : (have' ps ls m).length ≤ m := by have := have_len ps ls m; omega
theorem have_ex {ps : List ByteArray} {ls : List Bool} : ∀ m, 0 < (have' ps ls m).length → ∃ i, i < m ∧ lo ls i = false
  | 0, h => by simp [have'] at h
  | m + 1, h => by
    by_cases e : lo ls m = true
    · unfold have' at h
      rw [if_pos e] at h
      obtain ⟨i, h1, h2⟩ := have_ex m h
      exact ⟨i, by omega, h2⟩
    · exact ⟨m, by omega, by simpa using e⟩
end Gv
def HvRel (ps : List ByteArray) (ls : List Bool) (w : World) (n gk : Nat) (v6 i : Value) (wr : World) : Prop :=
  ∃ k : Nat, k + gk = n ∧ i = iv k ∧ wr.ownsRow w.heap.size 9 1 v6 (Gv.have' ps ls k).length ((Gv.have' ps ls k).map Value.string) ∧ Below w.heap.size w wr
def HealQ (ps : List ByteArray) (ls : List Bool) (w : World) (e : Ending) (w' : World) : Prop :=
  (Gv.healF ps ls = 0 → ∃ v, e = .returned (.tuple #[v, .nilIface]) ∧ OwnR w' w.heap.size 9 v ((Gv.heal ps ls).map Value.string)) ∧ (Gv.healF ps ls ≠ 0 → e = .returned (.tuple #[.slice none 0 0, errV (Gv.healF ps ls)])) ∧ Below w.heap.size w w'
theorem info_strL : (Try.prog.info? 9).map (fun i => (i.zero, i.size, i.bytes)) = some (some (.string ⟨#[]⟩), 1, 16) := by kernel_rfl
set_option maxRecDepth 100000 in
set_option maxHeartbeats 2000000 in
theorem Heal_any (ps : List ByteArray) (ls : List Bool) (hll : ls.length = ps.length) (h3 : 3 ≤ ps.length) (h12 : ps.length ≤ 12) (v vl : Value) (w : World) (hv : Strs w v ps) (hl : BoolR w vl ls) :
    Calls Try.prog 21 #[v, vl] w (HealQ ps ls w) := by
  have HV := Lib.hid hv
  have HL := Lib.hid hl
  obtain ⟨gv, ov, cv, rfl, v1, v2, v3⟩ := Row.pos hv (by rw [List.length_map]; omega)
  obtain ⟨gl, ol, cl, rfl, l1, l2, l3⟩ := Row.pos hl (by rw [List.length_map]; omega)
  rw [List.length_map] at v1 l1
  simp only [List.length_map] at HV HL ⊢
  have hzl := World.block_lt_of_cell? w _ (l3 0 (by rw [List.length_map]; omega) |>.trans (List.getElem?_eq_getElem (by rw [List.length_map]; omega)))
  have hzv := World.block_lt_of_cell? w _ (v3 0 (by rw [List.length_map]; omega) |>.trans (List.getElem?_eq_getElem (by rw [List.length_map]; omega)))
  rw [hll] at HL l1 ⊢
  obtain ⟨n, hn⟩ : ∃ n, n = ps.length := ⟨_, rfl⟩
  rw [← hn] at h3 h12 hll v1 l1 HV HL ⊢
  have hcs : ∀ j, j < n → w.cell? ⟨gv, ov + j, none⟩ = some (.string (ps.getD j ⟨#[]⟩)) := by
    intro j hj
    have := v3 j (by rw [List.length_map]; omega)
    rw [this, List.getElem?_map, List.getElem?_eq_getElem (by omega), List.getD_eq_getElem?_getD, List.getElem?_eq_getElem (by omega)]; rfl
  have hcl : ∀ j, j < n → w.cell? ⟨gl, ol + j, none⟩ = some (.bool (Gv.lo ls j)) := by
    intro j hj
    have := l3 j (by rw [List.length_map]; omega)
    rw [this, List.getElem?_map, List.getElem?_eq_getElem (by omega)]
    unfold Gv.lo
    rw [List.getD_eq_getElem?_getD, List.getElem?_eq_getElem (by omega)]; rfl
  have hmany : manyB (n : Int) = true := by unfold manyB; rw [dec_t (by omega), dec_t (by omega)]; rfl
  have HM := Lib.hid (many_any (n : Int) w)
  rw [hmany] at HM
  have hF : Gv.healF ps ls = if (Gv.have' ps ls n).length + 2 < n then 8 else blkF (Gv.have' ps ls n) := by
    unfold Gv.healF
    rw [← hn, hmany, if_neg (by decide), if_neg (by rw [hll]; simp)]
  have HF := Lib.hid hF
  have Hcs := Lib.hid hcs
  have Hcl := Lib.hid hcl
  have Hn := Lib.hid hn
  have Hll := Lib.hid hll
  obtain ⟨i0, hi, hi1, hi2, hi3⟩ := info_parts info_strL
  have HI := Lib.hid hi
  have hw2 : IntKind.i64.wrap ((n : Int) - 2) = (n : Int) - 2 := IntWalk.i64_in _ (by omega)
  unfold maxLen at v2 l2
  clear hv hl v3 l3 hcs hcl hn hll hmany hF hi
  go_enter Try.func21, Try.ntmps21
  go_wp2_with fail
  refine HM.out.mono ?_
  rintro e w' ⟨rfl, rfl⟩
  go_wp2_with fail
  go_loopg [6, 7, 8, 25] n (fun gk v6 v7 v8 v25 wr => HvRel ps ls w n gk v6 v25 wr)
  case atStart => exact ⟨0, by omega, rfl, World.ownsRow_nil _ _ _ _, Below.refl _ _⟩
  case round =>
    obtain ⟨k, hk, rfl, hO, hB⟩ := hrel
    have Hk := Lib.hid hk
    have HO := Lib.hid hO
    have HB := Lib.hid hB
    have hzr := hB.size
    clear hk hO hB
    by_cases hlt : k < n
    · have c0 := (HB.out.cell (p := ⟨gv, ov + k, none⟩) hzv).trans (Hcs.out k hlt)
      have c1 := (HB.out.cell (p := ⟨gl, ol + k, none⟩) hzl).trans (Hcl.out k hlt)
      have hstep : Gv.have' ps ls (k + 1) = if Gv.lo ls k then Gv.have' ps ls k else Gv.have' ps ls k ++ [ps.getD k ⟨#[]⟩] := rfl
      have Hst := Lib.hid hstep
      have hlen := Gv.have_len0 ps ls k
      generalize ps.getD k ⟨#[]⟩ = x at *
      cases hb : Gv.lo ls k with
      | true =>
        rw [hb] at c1 Hst
        clear hstep hb
        go_wp2_with fail
        go_roundg (gk - 1)
        case measure => have := Hk.out; omega
        case rel => exact ⟨k + 1, by have := Hk.out; omega, by go_num, by rw [Hst.out]; exact HO.out, HB.out⟩
      | false =>
        rw [hb] at c1 Hst
        have hi := HI.out
        have HOa := Lib.hid (HO.out.alloc (.cells #[.string x] 9))
        clear hstep hb
        go_wp2_with (at_builtin; refine wpList_append_own _ rfl _ _ 32 rfl w.heap.size 9 i0 (.string ⟨#[]⟩) 1 16 Try.underlying32 hi hi1 hi2 hi3 rfl (by decide) _ (Gv.have' ps ls k).length _ rfl HOa.out ⟨wr.heap.size, 0, none⟩ 1 1 [.string x] rfl rfl ?n1 ?n2 ?n3 ?n4 ?n5 ?_)
        all_goals first | (intro v9 w9 hown9 hgr9 _) | skip
        case n1 => exact cell_one_new _ _ _
        case n2 => intro u hu; rw [List.mem_singleton] at hu; subst hu; rfl
        case n3 => unfold maxLen; omega
        case n4 => omega
        case n5 => simp; omega
        have HB9 := Lib.hid ((HB.out.alloc hzr (.cells #[.string x] 9)).grown hgr9 (by simp; omega) (fun g e => (HO.out.lt g e).1))
        have HO9 : Hid (w9.ownsRow w.heap.size 9 1 v9 (Gv.have' ps ls (k + 1)).length ((Gv.have' ps ls (k + 1)).map Value.string)) := Lib.hid (by
          rw [Hst.out]
          show w9.ownsRow _ _ _ _ (Gv.have' ps ls k ++ [x]).length ((Gv.have' ps ls k ++ [x]).map Value.string)
          rw [List.length_append, List.length_singleton, List.map_append]; exact hown9)
        clear hown9 hgr9 hi HOa
        go_wp2_with fail
        go_roundg (gk - 1)
        case measure => have := Hk.out; omega
        case rel => exact ⟨k + 1, by have := Hk.out; omega, by go_num, HO9.out, HB9.out⟩
    · have hkn : k = n := by have := Hk.out; omega
      rw [hkn] at HO
      obtain ⟨hv, hhv⟩ : ∃ hv, hv = Gv.have' ps ls n := ⟨_, rfl⟩
      rw [← hhv] at HO HF
      have Hhv := Lib.hid hhv
      have hlen : hv.length ≤ n := by rw [hhv]; exact Gv.have_len0 _ _ _
      obtain ⟨p6, c6, hv6, _⟩ := (row_of_owns HO.out).1.shape
      rw [List.length_map] at hv6
      subst hv6
      have HBl := Lib.hid (blocks_any hv _ wr (row_of_owns HO.out).1)
      obtain ⟨m, hm⟩ : ∃ m, m = hv.length := ⟨_, rfl⟩
      rw [← hm] at HF hlen HBl ⊢
      have Hm := Lib.hid hm
      clear Hk hhv hm hkn
      by_cases h8 : m + 2 < n
      · have hF : Gv.healF ps ls = 8 := by rw [HF.out, if_pos h8]
        have h8I : (m : Int) < (n : Int) - 2 := by omega
        have HF8 := Lib.hid hF
        clear hF h8 HBl HF
        go_wp2_with fail
        go_ret2
        exact ⟨fun h => absurd (HF8.out.symm.trans h) (by decide), fun _ => (by rw [HF8.out]; rfl), HB.out⟩
      · have hF : Gv.healF ps ls = blkF hv := by rw [HF.out, if_neg h8]
        have h8I : (n : Int) - 2 ≤ (m : Int) := by omega
        have HF8 := Lib.hid hF
        clear hF HF
        by_cases hbz : blkF hv = 0
        · have hz := blkF_zero hbz
          have hm1 : 1 ≤ m := by omega
          rw [hbz] at HBl
          have hex := Gv.have_ex (ps := ps) (ls := ls) n (by rw [← Hhv.out, ← Hm.out]; exact hm1)
          have hsz : ∀ i, i < n → Gv.lo ls i = false → (ps.getD i ⟨#[]⟩).size = size0 hv := by
            intro i hi h0
            have h := Gv.have_mem (ps := ps) n hi h0
            rw [← Hhv.out] at h
            exact hz.1 _ h
          have hg2 : (Gv.goneL ls (n - 2)).length ≤ 2 := by
            have h1 := Gv.have_len ps ls n
            have h2 := Gv.gone_mono ls (show n - 2 ≤ n by omega)
            rw [← Hhv.out, ← Hm.out] at h1
            omega
          have hV := HV.out.below HB.out
          have hL := Row.below HL.out HB.out
          have HHl := Lib.hid (heal_any ps ls (size0 hv) (by rw [← Hn.out]; exact h3) (by rw [← Hn.out]; omega) (by rw [← Hn.out]; exact Hll.out) (by rw [← Hn.out]; exact hsz) (by have := hz.2; omega) (by rw [← Hn.out]; exact hex) (by rw [← Hn.out]; exact hg2) _ _ wr hV hL)
          have Hbz := Lib.hid hbz
          clear hz hex hsz hg2 hV hL hbz h8
          go_wp2_with fail
          refine HBl.out.mono ?_
          rintro e w' ⟨he, rfl⟩
          obtain rfl : e = .returned .nilIface := he
          go_wp2_with fail
          refine HHl.out.mono ?_
          rintro e w9 ⟨v9, rfl, hO9, hb9⟩
          have HO9 := Lib.hid (hO9.mono hzr)
          have HB9 := Lib.hid (HB.out.trans (hb9.mono hzr))
          clear hO9 hb9
          go_wp2_with fail
          go_ret2
          exact ⟨fun _ => ⟨_, rfl, HO9.out⟩, fun h => absurd (HF8.out.trans Hbz.out) h, HB9.out⟩
        · rw [errV_ne hbz] at HBl
          have Hbz := Lib.hid hbz
          clear hbz h8
          go_wp2_with fail
          refine HBl.out.mono ?_
          rintro e w' ⟨rfl, rfl⟩
          go_wp2_with fail
          go_ret2
          exact ⟨fun h => absurd (HF8.out.symm.trans h) Hbz.out, fun _ => (by rw [HF8.out, errV_ne Hbz.out]; rfl), HB.out⟩
end Go.Proofs.Ytcldioneiededaa
