/- The methods of the array of disks: Raw, Lost, Read. · The methods of the array of disks: Poke, Write. -/
import Derived.Test.YtneebcniofolmaaGreatDoorAryZ
import Derived.Test.YtneebcniofolmaaGreatDoorBlk
namespace Go.Proofs.YtneebcniofolmaaGreatDoor
open Go.ChangeShapes Go.WideShapes Go.ChangeAt Go.RowKit
set_option linter.unusedVariables false
variable {F : Nat → Prop} {K : Nat} {w : World} {b : Nat} {s : Ar.S}
namespace Ar.S
def rawF (s : S) (row : Int) : Int := if s.hasRow row then 0 else 1
def rawP (s : S) (row : Int) : List ByteArray := if s.hasRow row then s.parts row.toNat else []
def rawM (s : S) (row : Int) : List Bool := if s.hasRow row then s.marks row.toNat else []
def lostN (s : S) (row : Int) : Nat := if s.hasRow row then s.many row.toNat else 0
def manyTo (s : S) (row k : Nat) : Nat := ((List.range k).filter (fun d => s.lost d row)).length
theorem manyTo_succ (s : S) (row k : Nat) : s.manyTo row (k + 1) = if s.lost k row then s.manyTo row k + 1 else s.manyTo row k := by
  unfold manyTo
  rw [List.range_succ, List.filter_append, List.length_append]
  cases h : s.lost k row <;> simp [h]
theorem manyTo_le (s : S) (row k : Nat) : s.manyTo row k ≤ k := by
  unfold manyTo
  have := List.length_filter_le (fun d => s.lost d row) (List.range k)
  rw [List.length_range] at this; exact this
end Ar.S
def PartsS (s : Ar.S) (row : Nat) (w : World) (e : Ending) (w' : World) : Prop :=
  ∃ v1 v2 v3, e = .returned (.tuple #[v1, v2, v3, .nilIface]) ∧ w'.ownsRow w.heap.size 9 1 v1 s.n ((s.parts row).map Value.string) ∧ w'.ownsRow w.heap.size 4 1 v2 s.n ((s.marks row).map Value.bool) ∧ w'.ownsRow w.heap.size 3 1 v3 s.n (ordN s.n row s.n) ∧ Below w.heap.size w w'
theorem aparts_s {g c : Nat} {mb db : Nat → Nat} {ms : Nat → Dk.D} (hA : AryAt w b g c mb db s.n s.rows s.size ms s.bt) (ho : s.Ok) (hS : ArySee K s ms) {k : Nat} (hk : k < s.rows) :
    Calls Tryz.prog 101 #[.pointer (some ⟨b, 0, none⟩), iv k] w (PartsS s k w) := by
  have hn := ho.n3
  have HP := aparts_any hA ho.n3 ho.n10 (fun d hd => by have := ho.bt d hd; have := ho.r20; omega) k hk ho.r20 hS.mn
  unfold PartsPost at HP
  rw [hS.tabs hk (by omega), hS.tabb (by omega)] at HP
  exact HP
def RawPost (s : Ar.S) (row : Int) (w : World) (e : Ending) (w' : World) : Prop :=
  ∃ v1 v2, e = .returned (.tuple #[v1, v2, errV (s.rawF row)]) ∧ w'.ownsRow w.heap.size 9 1 v1 (s.rawP row).length ((s.rawP row).map Value.string) ∧ w'.ownsRow w.heap.size 4 1 v2 (s.rawM row).length ((s.rawM row).map Value.bool) ∧ Below w.heap.size w w'
set_option maxRecDepth 100000 in
theorem aRaw (h : AryOk F K w b s) (row : Int) :
    Calls Tryz.prog 148 #[.pointer (some ⟨b, 0, none⟩), iv row] w (RawPost s row w) := by
  obtain ⟨ho, g, c, mb, db, ms, hA, hI, hS⟩ := h
  have HH := Lib.hid (ahasRow_any hA row)
  rw [hasB_row] at HH
  unfold RawPost Ar.S.rawF Ar.S.rawP Ar.S.rawM
  by_cases hr : s.hasRow row
  · obtain ⟨k, rfl, hk⟩ := Ar.S.hasRow_nat hr
    rw [dec_t hr] at HH
    rw [if_pos hr, if_pos hr, if_pos hr, Int.toNat_natCast]
    have hn := ho.n3
    have HP := Lib.hid (aparts_s hA ho hS hk)
    clear hA hI hS hr
    go_enter Tryz.func148, Tryz.ntmps148
    go_wp2_with fail
    refine HH.out.mono ?_
    rintro e w' ⟨rfl, rfl⟩
    go_wp2_with fail
    refine HP.out.mono ?_
    rintro e w1 ⟨v1, v2, v3, rfl, hP, hL, hO, hB⟩
    have HP1 := Lib.hid hP
    have HL1 := Lib.hid hL
    have HB1 := Lib.hid hB
    clear hP hL hO hB
    go_wp2_with fail
    exact bodyPost_ret (v := .tuple #[v1, v2, .nilIface]) (by simp [results, Tryz.results148, go_sem]) rfl ⟨_, _, rfl, by rw [s.parts_len]; exact HP1.out, by rw [s.marks_len]; exact HL1.out, HB1.out⟩
  · rw [dec_f hr] at HH
    rw [if_neg hr, if_neg hr, if_neg hr]
    clear hA hI hS hr
    go_enter Tryz.func148, Tryz.ntmps148
    go_wp2_with fail
    refine HH.out.mono ?_
    rintro e w' ⟨rfl, rfl⟩
    go_wp2_with fail
    exact bodyPost_ret (v := .tuple #[.slice none 0 0, .slice none 0 0, ev 1]) (by simp [results, Tryz.results148, go_sem]) rfl ⟨_, _, rfl, World.ownsRow_nil _ _ _ _, World.ownsRow_nil _ _ _ _, Below.refl _ _⟩
def LostRel (s : Ar.S) (row : Nat) (w : World) (gk : Nat) (v6 v18 : Value) (wr : World) : Prop :=
  ∃ k : Nat, k + gk = s.n ∧ v18 = iv k ∧ v6 = iv (s.manyTo row k) ∧ w = wr
set_option maxRecDepth 100000 in
theorem aLost (h : AryOk F K w b s) (row : Int) :
    Calls Tryz.prog 86 #[.pointer (some ⟨b, 0, none⟩), iv row] w fun e w' => e = .returned (.tuple #[iv (s.lostN row), errV (s.rawF row)]) ∧ w = w' := by
  obtain ⟨ho, g, c, mb, db, ms, hA, hI, hS⟩ := h
  have HH := Lib.hid (ahasRow_any hA row)
  rw [hasB_row] at HH
  unfold Ar.S.rawF Ar.S.lostN
  by_cases hr : s.hasRow row
  · obtain ⟨q, rfl, hk⟩ := Ar.S.hasRow_nat hr
    rw [dec_t hr] at HH
    rw [if_pos hr, if_pos hr, Int.toNat_natCast]
    have hn := ho.n3
    have hn10 := ho.n10
    have hq20 := ho.r20
    have hAL : ∀ d, d < s.n → Calls Tryz.prog 99 #[.pointer (some ⟨b, 0, none⟩), iv d, iv q] w fun e w' => e = .returned (.bool (s.lost d q)) ∧ w = w' := fun d hd => by
      rw [← hS.lostB hd]
      exact alost_any hA hd q (by have := ho.bt d hd; omega) (by omega)
    have HAL := Lib.hid hAL
    have c0 := hA.c0
    have hc1 := hA.cap.1
    have hc2 := hA.cap.2
    unfold maxLen at hc2
    have hmn : s.many q = s.manyTo q s.n := rfl
    rw [hmn]
    obtain ⟨n, hn0⟩ : ∃ n, n = s.n := ⟨_, rfl⟩
    rw [← hn0] at c0 hc1 hn hn10 ⊢
    have Hn := Lib.hid hn0
    clear hA hI hS hr hAL hn0 hmn
    go_enter Tryz.func86, Tryz.ntmps86
    go_wp2_with fail
    refine HH.out.mono ?_
    rintro e w' ⟨rfl, rfl⟩
    go_wp2_with fail
    go_loopg [6, 7, 18] n (fun gk v6 v7 v18 wr => LostRel s q w gk v6 v18 wr)
    case atStart => exact ⟨0, by rw [← Hn.out]; omega, rfl, rfl, rfl⟩
    case round =>
      obtain ⟨k, hk', rfl, rfl, rfl⟩ := hrel
      rw [← Hn.out] at hk'
      have Hk := Lib.hid hk'
      have hmt := s.manyTo_le q k
      have hsu := s.manyTo_succ q k
      by_cases hlt : k < n
      · have HA1 := Lib.hid (HAL.out k (by rw [← Hn.out]; exact hlt))
        clear hk'
        generalize s.lost k q = f at *
        cases f with
        | true =>
          rw [if_pos rfl] at hsu
          have Hsu := Lib.hid hsu
          generalize s.manyTo q k = mk at *
          clear hsu
          go_wp2_with fail
          refine HA1.out.mono ?_
          rintro e w' ⟨rfl, rfl⟩
          go_wp2_with fail
          go_roundg (gk - 1)
          case measure => have := Hk.out; omega
          case rel => exact ⟨k + 1, by rw [← Hn.out]; have := Hk.out; omega, by go_num, by rw [Hsu.out]; go_num, rfl⟩
        | false =>
          rw [if_neg (by decide)] at hsu
          have Hsu := Lib.hid hsu
          generalize s.manyTo q k = mk at *
          clear hsu
          go_wp2_with fail
          refine HA1.out.mono ?_
          rintro e w' ⟨rfl, rfl⟩
          go_wp2_with fail
          go_roundg (gk - 1)
          case measure => have := Hk.out; omega
          case rel => exact ⟨k + 1, by rw [← Hn.out]; have := Hk.out; omega, by go_num, by rw [Hsu.out], rfl⟩
      · have hkn : k = n := by omega
        clear hk' hsu
        subst hkn
        go_wp2_with fail
        go_ret2
        exact ⟨rfl, rfl⟩
  · rw [dec_f hr] at HH
    rw [if_neg hr, if_neg hr]
    clear hA hI hS hr
    go_enter Tryz.func86, Tryz.ntmps86
    go_wp2_with fail
    refine HH.out.mono ?_
    rintro e w' ⟨rfl, rfl⟩
    go_wp2_with fail
    go_ret2
    exact ⟨rfl, rfl⟩
/-- Heal at the parts of a row -/
def HealPost' (s : Ar.S) (row : Nat) (w : World) (e : Ending) (w' : World) : Prop :=
  (¬ 2 < s.many row → ∃ v, e = .returned (.tuple #[v, .nilIface]) ∧ OwnR w' w.heap.size 9 v ((s.heal row).map Value.string)) ∧ (2 < s.many row → e = .returned (.tuple #[.slice none 0 0, ev 8])) ∧ Below w.heap.size w w'
theorem aheal (ho : s.Ok) {row : Nat} (hr : row < s.rows) {v vl : Value} {w : World} (hv : Strs w v (s.parts row)) (hl : BoolR w vl (s.marks row)) :
    Calls Tryz.prog 102 #[v, vl] w (HealPost' s row w) := by
  have h3 := ho.n3
  have h10 := ho.n10
  refine (Heal_any (s.parts row) (s.marks row) (by rw [s.parts_len, s.marks_len]) (by rw [s.parts_len]; omega) (by rw [s.parts_len]; omega) v vl w hv hl).mono ?_
  rintro e w' ⟨h1, h2, h4⟩
  rw [Ar.S.healF_eq ho hr] at h1 h2
  refine ⟨fun hm => ?_, fun hm => ?_, h4⟩
  · rw [if_neg hm] at h1
    exact h1 rfl
  · rw [if_pos hm] at h2
    exact h2 (by decide)
set_option maxRecDepth 100000 in
theorem aRead (h : AryOk F K w b s) (x : Int) (hx : x ≤ 9223372036854775807) (hx0 : -9223372036854775808 ≤ x) :
    Calls Tryz.prog 79 #[.pointer (some ⟨b, 0, none⟩), iv x] w fun e w' => e = .returned (.tuple #[.string (s.read x).1, errV (s.read x).2]) ∧ Below w.heap.size w w' := by
  obtain ⟨ho, g, c, mb, db, ms, hA, hI, hS⟩ := h
  have HSp := Lib.hid (aspot_any hA ho.n3 ho.n10 ho.r20 x hx hx0)
  unfold Ar.S.read
  by_cases hb : s.hasBlock x
  · obtain ⟨y, rfl, hy⟩ := Ar.S.hasBlock_nat hb
    rw [if_pos hb, Int.toNat_natCast]
    have Hb := Lib.hid hb
    have hn := ho.n3
    have hn10 := ho.n10
    have hrow := Ar.S.row_lt ho hy
    have hr20 := ho.r20
    have hj : y % (s.n - 2) < s.n := by have := Nat.mod_lt y (show s.n - 2 > 0 by omega); omega
    have hd : Ar.dk s.n (y / (s.n - 2)) (y % (s.n - 2)) < s.n := Ar.dk_lt (by omega)
    have HA := Lib.hid hA
    have HS := Lib.hid hS
    have Ho := Lib.hid ho
    obtain ⟨o, ho9⟩ : ∃ o, o = s.readAt y := ⟨_, rfl⟩
    rw [← ho9]
    unfold Ar.S.readAt at ho9
    obtain ⟨r, hr⟩ : ∃ r, r = y / (s.n - 2) := ⟨_, rfl⟩
    obtain ⟨j, hj0⟩ : ∃ j, j = y % (s.n - 2) := ⟨_, rfl⟩
    obtain ⟨d, hd0⟩ : ∃ d, d = Ar.dk s.n r j := ⟨_, rfl⟩
    rw [← hr, ← hj0, ← hd0] at hd
    rw [← hr, ← hj0, ← hd0] at ho9
    have HO9 := Lib.hid ho9
    clear ho9
    rw [← hr] at hrow
    rw [← hj0] at hj
    have Hr := Lib.hid hr
    have Hj := Lib.hid hj0
    have Hd := Lib.hid hd0
    clear hr hj0 hd0 hb hA hS ho hI
    go_enter Tryz.func79, Tryz.ntmps79
    go_wp2_with fail
    refine HSp.out.mono ?_
    rintro e w1 ⟨he, _, hB1⟩
    have he2 := he Hb.out
    rw [Int.toNat_natCast, ← Hr.out, ← Hj.out, ← Hd.out] at he2
    clear he
    subst he2
    have HB1 := Lib.hid hB1
    have hz1 := hB1.size
    clear hB1
    go_wp2_with fail
    obtain ⟨wA, hwA⟩ : ∃ wA, wA = w1.alloc (.cells #[iv d, iv r] 163) := ⟨_, rfl⟩
    have hBA : Below w1.heap.size w1 wA := by rw [hwA]; exact (Below.refl _ _).alloc (Nat.le_refl _) _
    have hAA : wA.heap[w1.heap.size]? = some (.cells #[iv d, iv r] 163 (0, 0)) := by rw [hwA]; exact heap_alloc_new _ _
    rw [← hwA]
    have s0 : wA.cell? ⟨w1.heap.size, 0, none⟩ = some (iv d) := by rw [cell_of_row _ _ _ _ _ _ hAA]; rfl
    have s1 : wA.cell? ⟨w1.heap.size, 1, none⟩ = some (iv r) := by rw [cell_of_row _ _ _ _ _ _ hAA]; rfl
    have HBA := Lib.hid (HB1.out.trans (hBA.mono hz1))
    have HAA := Lib.hid (HA.out.below HBA.out)
    have HL := Lib.hid (alost_any HAA.out hd r (by have := Ho.out.bt d hd; omega) (by omega))
    rw [HS.out.lostB hd] at HL
    have c0 := HAA.out.c0
    have c1 := HAA.out.lst d hd
    have c2 := HAA.out.m0 hd
    have hc1 := HAA.out.cap.1
    have hc2 := HAA.out.cap.2
    unfold maxLen at hc2
    have hzA := HBA.out.size
    clear hwA hBA hAA
    obtain ⟨f, hf⟩ : ∃ f, f = s.lost d r := ⟨_, rfl⟩
    rw [← hf] at HL HO9
    have Hf := Lib.hid hf
    clear hf
    cases f with
    | false =>
      have hcl := HS.out.cl d r hd hrow Hf.out.symm
      have hfl : (ms d).failed = false := by rw [HS.out.fl d hd]; exact (Ar.S.lost_lt Hf.out.symm).1
      have hr0 : (ms d).ready (r : Int) = 0 := by
        unfold Dk.D.ready
        rw [hfl, HS.out.mn d hd, if_neg (by decide), if_neg (by omega)]
      have hrd : (ms d).read (r : Int) = (s.c d r, 0) := by
        unfold Dk.D.read
        rw [if_pos hr0, Int.toNat_natCast, hcl]
      have HR : Hid (∀ k, Calls Tryz.prog 100 #[.pointer (some ⟨db d, 0, none⟩), iv r] (wA.drewN k) fun e w' => e = .returned (.tuple #[.string (s.c d r), .nilIface]) ∧ wA.drewN k = w') := Lib.hid (fun k => by
        have h := read_any ((HAA.out.below (bdrew (Below.refl _ _) k)).dsk d hd) (r : Int)
        rw [hrd] at h
        exact h)
      have ho9 : o = (s.c d r, 0) := by rw [HO9.out, if_pos rfl]
      obtain ⟨x, hx9⟩ : ∃ x, x = s.c d r := ⟨_, rfl⟩
      rw [← hx9] at ho9 HR
      subst ho9
      clear hcl hfl hr0 hrd HO9 hx9
      refine HL.out.mono ?_
      rintro e w' ⟨rfl, rfl⟩
      go_wp2_with fail
      go_quiet ((go_at_call 100; exact quiet_left (HR.out _)))
      go_wp2_with fail
      go_ret2
      exact ⟨rfl, bdrew HBA.out _⟩
    | true =>
      have HP := Lib.hid (aparts_s HAA.out Ho.out HS.out hrow)
      refine HL.out.mono ?_
      rintro e w' ⟨rfl, rfl⟩
      go_wp2_with fail
      refine HP.out.mono ?_
      rintro e w2 ⟨v1, v2, v3, rfl, hP, hL, hO, hB2⟩
      have HB2 := Lib.hid (HBA.out.trans (hB2.mono hzA))
      have HHe := Lib.hid (aheal Ho.out hrow (v := v1) (vl := v2) (row_of_owns hP).1 (row_of_owns hL).1)
      have d0 := (HA.out.below HB2.out).c0
      have hz2 := HB2.out.size
      clear hP hL hO hB2 c0 c1 c2 s0 s1 HP HL
      go_wp2_with fail
      refine HHe.out.mono ?_
      rintro e w3 ⟨hy1, hn1, hB3⟩
      have HB3 := Lib.hid (HB2.out.trans (hB3.mono hz2))
      clear hB3
      by_cases hm : 2 < s.many r
      · have he := hn1 hm
        subst he
        have ho9 : o = (⟨#[]⟩, 8) := by rw [HO9.out, if_neg (by decide), if_pos hm]
        subst ho9
        clear hy1 hn1 hm
        go_wp2_with fail
        go_ret2
        exact ⟨rfl, HB3.out⟩
      · obtain ⟨vh, he, hOh⟩ := hy1 hm
        subst he
        have ho9 : o = ((s.heal r).getD j ⟨#[]⟩, 0) := by rw [HO9.out, if_neg (by decide), if_neg hm]
        have hlen : (s.heal r).length = s.n := by have := (Ar.S.heal_cw Ho.out hrow hm).len; omega
        obtain ⟨gh, oh, ch, rfl, _, _, hh1, hh2, hh3, _⟩ := hOh.at0 (by rw [List.length_map]; omega)
        rw [List.length_map, hlen] at hh1 hh3 ⊢
        have e0 := hh3 j hj
        rw [List.getElem?_map, List.getElem?_eq_getElem (by omega)] at e0
        have e1 : (s.heal r)[j]'(by omega) = (s.heal r).getD j ⟨#[]⟩ := by rw [List.getD_eq_getElem?_getD, List.getElem?_eq_getElem (by omega)]; rfl
        rw [e1] at e0
        have e0' : w3.cell? ⟨gh, oh + j, none⟩ = some (.string ((s.heal r).getD j ⟨#[]⟩)) := e0
        have k0 := (HA.out.below HB3.out).c0
        unfold maxLen at hh2
        have q1 : (y : Int) % ((s.n : Int) - 2) = (j : Int) := by rw [Hj.out, show (s.n : Int) - 2 = ((s.n - 2 : Nat) : Int) by omega]; exact (Int.natCast_emod _ _).symm
        have q0 : ¬ ((s.n : Int) - 2 = 0) := by omega
        obtain ⟨x, hx9⟩ : ∃ x, x = (s.heal r).getD j ⟨#[]⟩ := ⟨_, rfl⟩
        rw [← hx9] at ho9 e0'
        subst ho9
        clear hy1 hn1 hm hOh hh3 e0 e1 d0 HO9 hx9 hlen
        go_wp2_with fail
        go_ret2
        exact ⟨rfl, HB3.out⟩
  · rw [if_neg hb]
    have Hb := Lib.hid hb
    clear hA hI hS ho hb
    go_enter Tryz.func79, Tryz.ntmps79
    go_wp2_with fail
    refine HSp.out.mono ?_
    rintro e w1 ⟨_, he, hB1⟩
    have he2 := he Hb.out
    clear he
    subst he2
    have HB1 := Lib.hid hB1
    have hz1 := hB1.size
    clear hB1
    go_wp2_with fail
    go_ret2
    exact ⟨rfl, HB1.out.alloc hz1 _⟩
end Go.Proofs.YtneebcniofolmaaGreatDoor
namespace Go.Proofs.YtneebcniofolmaaGreatDoor
open Go.ChangeShapes Go.WideShapes Go.ChangeAt Go.RowKit
set_option linter.unusedVariables false
variable {F : Nat → Prop} {K : Nat} {w : World} {b : Nat} {s : Ar.S}
set_option maxRecDepth 100000 in
theorem aPoke (h : AryOk F K w b s) (hK : K < 1000000) (d row : Int) (x : ByteArray) (hx : x.size ≤ maxLen) :
    Calls Tryz.prog 84 #[.pointer (some ⟨b, 0, none⟩), iv d, iv row, .string x] w (AryPost F (K + 1) b (errV (s.poke d row x).1) (s.poke d row x).2 w) := by
  have HOK := Lib.hid (h.more (K' := K + 1) (by omega))
  have hx9 := hx
  unfold maxLen at hx9
  obtain ⟨ho, g, c, mb, db, ms, hA, hI, hS⟩ := h
  have HH := Lib.hid (ahas_any hA d)
  have HR := Lib.hid (ahasRow_any hA row)
  rw [hasB_has] at HH
  rw [hasB_row] at HR
  unfold Ar.S.poke
  by_cases hd : s.has d
  · obtain ⟨k, rfl, hk⟩ := Ar.S.has_nat hd
    rw [dec_t hd] at HH
    by_cases hr : s.hasRow row
    · obtain ⟨q, rfl, hq⟩ := Ar.S.hasRow_nat hr
      rw [dec_t hr] at HR
      rw [if_pos ⟨hd, hr⟩, Int.toNat_natCast, Int.toNat_natCast]
      have c2 := hA.c2
      by_cases hz : x.size = s.size
      · rw [if_pos hz]
        have hne : ((x.size : Int) != (s.size : Int)) = false := bne_f (by omega)
        have HL := Lib.hid (alost_any hA hk q (by have := ho.bt k hk; have := ho.r20; omega) (by have := ho.r20; omega))
        rw [hS.lostB hk] at HL
        have c0 := hA.c0
        have c1 := hA.lst k hk
        have c3 := hA.m0 hk
        have hc1 := hA.cap.1
        have hc2 := hA.cap.2
        unfold maxLen at hc2
        cases hf : s.lost k q with
        | true =>
          rw [hf] at HL
          rw [if_pos rfl]
          clear hA hI hS hd hr hz hf
          go_enter Tryz.func84, Tryz.ntmps84
          go_wp2_with fail
          refine HH.out.mono ?_
          rintro e w' ⟨rfl, rfl⟩
          go_wp2_with fail
          refine HR.out.mono ?_
          rintro e w' ⟨rfl, rfl⟩
          go_wp2_with fail
          refine HL.out.mono ?_
          rintro e w' ⟨rfl, rfl⟩
          go_wp2_with fail
          go_ret
          exact ⟨rfl, HOK.out, Kept.refl F w⟩
        | false =>
          rw [hf] at HL
          rw [if_neg (by decide)]
          have hw := hS.wrote hk (Ar.S.lost_lt hf).1 hq ho.r20 hz
          have HW := Lib.hid (write_any (hA.dsk k hk) (q : Int) x hx (by have := hS.wr k hk; omega))
          have hok := Ar.S.setC_ok ho k q hz
          have HS1 := Lib.hid hw.1
          have HE := Lib.hid hw.2
          have Hok := Lib.hid hok
          have HA := Lib.hid hA
          have HI := Lib.hid hI
          clear hA hI hS hd hr hz hf hw hok
          go_enter Tryz.func84, Tryz.ntmps84
          go_wp2_with fail
          refine HH.out.mono ?_
          rintro e w' ⟨rfl, rfl⟩
          go_wp2_with fail
          refine HR.out.mono ?_
          rintro e w' ⟨rfl, rfl⟩
          go_wp2_with fail
          refine HL.out.mono ?_
          rintro e w' ⟨rfl, rfl⟩
          go_wp2_with fail
          refine HW.out.mono ?_
          rintro e w1 ⟨he, hD, hK1, _⟩
          rw [HE.out] at he
          subst he
          have HD := Lib.hid hD
          have HK1 := Lib.hid hK1
          clear hD hK1
          go_wp2_with fail
          go_ret
          exact ⟨rfl, ⟨Hok.out, g, c, mb, db, _, HA.out.turnD hk HK1.out HD.out, HI.out, HS1.out⟩, HK1.out.mono (fun p _ e => by rw [e]; exact (HI.out.2.2 k hk).2)⟩
      · rw [if_neg hz]
        have hne : ((x.size : Int) != (s.size : Int)) = true := bne_t (by omega)
        clear hA hI hS hd hr hz
        go_enter Tryz.func84, Tryz.ntmps84
        go_wp2_with fail
        refine HH.out.mono ?_
        rintro e w' ⟨rfl, rfl⟩
        go_wp2_with fail
        refine HR.out.mono ?_
        rintro e w' ⟨rfl, rfl⟩
        go_wp2_with fail
        go_ret
        exact ⟨rfl, HOK.out, Kept.refl F w⟩
    · rw [dec_f hr] at HR
      rw [if_neg (fun h => hr h.2)]
      clear hA hI hS hd hr
      go_enter Tryz.func84, Tryz.ntmps84
      go_wp2_with fail
      refine HH.out.mono ?_
      rintro e w' ⟨rfl, rfl⟩
      go_wp2_with fail
      refine HR.out.mono ?_
      rintro e w' ⟨rfl, rfl⟩
      go_wp2_with fail
      go_ret
      exact ⟨rfl, HOK.out, Kept.refl F w⟩
  · rw [dec_f hd] at HH
    rw [if_neg (fun h => hd h.1)]
    clear hA hI hS hd
    go_enter Tryz.func84, Tryz.ntmps84
    go_wp2_with fail
    refine HH.out.mono ?_
    rintro e w' ⟨rfl, rfl⟩
    go_wp2_with fail
    go_ret
    exact ⟨rfl, HOK.out, Kept.refl F w⟩
/-- the first i parts of a row are written -/
def putMs (s : Ar.S) (ms : Nat → Dk.D) (r : Nat) (l : List ByteArray) (i d : Nat) : Dk.D := if Ar.ix s.n r d < i ∧ s.lost d r = false then ((ms d).write (r : Int) (l.getD (Ar.ix s.n r d) ⟨#[]⟩)).2 else ms d
theorem putMs_lost {ms : Nat → Dk.D} {r : Nat} {l : List ByteArray} {i d : Nat} (ho : s.Ok) (hd : d < s.n) (hi : i < s.n) (hl : s.lost (Ar.dk s.n r i) r = true) : putMs s ms r l (i + 1) d = putMs s ms r l i d := by
  unfold putMs
  by_cases h1 : Ar.ix s.n r d < i ∧ s.lost d r = false
  · rw [if_pos h1, if_pos ⟨by omega, h1.2⟩]
  · rw [if_neg h1, if_neg]
    intro h2
    refine h1 ⟨?_, h2.2⟩
    have : Ar.ix s.n r d ≠ i := fun e => by
      have := Ar.dk_ix (row := r) ho.n3 ho.n10 hd
      rw [e] at this
      rw [this, h2.2] at hl; cases hl
    omega
theorem putMs_not {ms : Nat → Dk.D} {r : Nat} {l : List ByteArray} {i d : Nat} (ho : s.Ok) (hd : d < s.n) (hi : i < s.n) (hl : s.lost (Ar.dk s.n r i) r = false) : putMs s ms r l (i + 1) d = Ar.up (putMs s ms r l i) (Ar.dk s.n r i) ((ms (Ar.dk s.n r i)).write (r : Int) (l.getD i ⟨#[]⟩)).2 d := by
  by_cases e : d = Ar.dk s.n r i
  · subst e
    rw [Ar.up_self]
    unfold putMs
    rw [Ar.ix_dk ho.n3 ho.n10 hi, if_pos ⟨by omega, hl⟩]
  · rw [Ar.up_ne _ _ e]
    have : Ar.ix s.n r d ≠ i := fun e2 => e (by rw [← e2, Ar.dk_ix ho.n3 ho.n10 hd])
    unfold putMs
    by_cases h1 : Ar.ix s.n r d < i ∧ s.lost d r = false
    · rw [if_pos h1, if_pos ⟨by omega, h1.2⟩]
    · rw [if_neg h1, if_neg (fun h2 => h1 ⟨by omega, h2.2⟩)]
theorem putMs_see {ms : Nat → Dk.D} {r : Nat} {l : List ByteArray} (h : ArySee K s ms) (ho : s.Ok) (hr : r < s.rows) (hl : Gv.Cw s.size (s.n - 2) l) : ArySee (K + 1) (s.putRow r l) (putMs s ms r l s.n) := by
  have h3 := ho.n3
  have hsz : ∀ d, d < s.n → (l.getD (Ar.ix s.n r d) ⟨#[]⟩).size = s.size := fun d hd => by
    refine hl.sz (by omega) _ (Gv.getD_mem ?_)
    have := Ar.ix_lt (n := s.n) (row := r) (d := d) (by omega)
    rw [hl.len]; omega
  have e : ∀ d, d < s.n → putMs s ms r l s.n d = if s.lost d r = false then { ms d with rows := (ms d).rows.set r (l.getD (Ar.ix s.n r d) ⟨#[]⟩), writes := (ms d).writes + 1 } else ms d := fun d hd => by
    unfold putMs
    have := Ar.ix_lt (n := s.n) (row := r) (d := d) (by omega)
    by_cases hlo : s.lost d r = false
    · rw [if_pos ⟨this, hlo⟩, if_pos hlo, h.write_eq hd (Ar.S.lost_lt hlo).1 hr (hsz d hd)]
    · rw [if_neg (fun h => hlo h.2), if_neg hlo]
  refine ⟨fun d hd => ?_, fun d hd => ?_, fun d hd => ?_, fun d hd => ?_, fun d hd => ?_, fun d r' hd hr' hlo => ?_⟩
  · rw [e d hd]; split <;> exact h.mn d hd
  · rw [e d hd]; split <;> exact h.sz d hd
  · rw [e d hd]
    split
    · show ((ms d).rows.set r _).length = 20
      rw [List.length_set]; exact h.ln d hd
    · exact h.ln d hd
  · rw [e d hd]; split <;> exact h.fl d hd
  · rw [e d hd]
    have := h.wr d hd
    split
    · show (ms d).writes + 1 ≤ K + 1; omega
    · omega
  · have hlo2 : s.lost d r' = false := hlo
    replace hlo := hlo2
    replace hr' : r' < s.rows := hr'
    replace hd : d < s.n := hd
    have hr20 := ho.r20
    show (putMs s ms r l s.n d).rows.getD r' ⟨#[]⟩ = if r' = r then l.getD (Ar.ix s.n r d) ⟨#[]⟩ else s.c d r'
    rw [e d hd]
    by_cases e1 : r' = r
    · subst e1
      rw [if_pos rfl, if_pos hlo]
      show ((ms d).rows.set r' _).getD r' ⟨#[]⟩ = _
      rw [Gv.set_getD (by rw [h.ln d hd]; omega), if_pos rfl]
    · rw [if_neg e1]
      split
      · show ((ms d).rows.set r _).getD r' ⟨#[]⟩ = _
        rw [Gv.set_getD (by rw [h.ln d hd]; omega), if_neg e1]
        exact h.cl d r' hd hr' hlo
      · exact h.cl d r' hd hr' hlo
end Go.Proofs.YtneebcniofolmaaGreatDoor
