/- The array of disks: Write. -/
import Derived.Test.YtneebcniofolmaaGreatDoorAryU
namespace Go.Proofs.YtneebcniofolmaaGreatDoor
open Go.ChangeShapes Go.WideShapes Go.ChangeAt Go.RowKit
set_option linter.unusedVariables false
variable {F : Nat → Prop} {K : Nat} {w : World} {b : Nat} {s : Ar.S}
def WrRel (s : Ar.S) (ms : Nat → Dk.D) (b g c : Nat) (mb db : Nat → Nat) (r : Nat) (l : List ByteArray) (T : Nat → Prop) (w4 : World) (gk : Nat) (v80 : Value) (wr : World) : Prop :=
  ∃ i : Nat, i + gk = s.n ∧ v80 = iv i ∧ AryAt wr b g c mb db s.n s.rows s.size (putMs s ms r l i) s.bt ∧ Kept T w4 wr
/-- what is read, while disks turn -/
structure WrSee (s : Ar.S) (r : Nat) (l : List ByteArray) (S gh oh go gl : Nat) (w : World) : Prop where
  sp : w.cell? ⟨S, 1, none⟩ = some (iv r)
  hl : ∀ i, i < s.n → w.cell? ⟨gh, oh + i, none⟩ = some (.string (l.getD i ⟨#[]⟩))
  od : ∀ i, i < s.n → w.cell? ⟨go, i, none⟩ = some (iv (Ar.dk s.n r i))
  mr : ∀ i, i < s.n → w.cell? ⟨gl, i, none⟩ = some (.bool (s.lost (Ar.dk s.n r i) r))
theorem WrSee.kept {T : Nat → Prop} {r : Nat} {l : List ByteArray} {S gh oh go gl : Nat} {w w1 : World} (h : WrSee s r l S gh oh go gl w) (hk : Kept T w w1) (h1 : ¬ T S) (h2 : ¬ T gh) (h3 : ¬ T go) (h4 : ¬ T gl) : WrSee s r l S gh oh go gl w1 :=
  ⟨hk.cell h.sp h1, fun i hi => hk.cell (h.hl i hi) h2, fun i hi => hk.cell (h.od i hi) h3, fun i hi => hk.cell (h.mr i hi) h4⟩
set_option maxRecDepth 100000 in
set_option maxHeartbeats 2000000 in
theorem aWrite (h : AryOk F K w b s) (hK : K < 1000000) (x : Int) (hx : x ≤ 9223372036854775807) (hx0 : -9223372036854775808 ≤ x) (q : ByteArray) (hq : q.size ≤ maxLen) :
    Calls Tryz.prog 81 #[.pointer (some ⟨b, 0, none⟩), iv x, .string q] w (AryPost F (K + 1) b (errV (s.write x q).1) (s.write x q).2 w) := by
  have HOK := Lib.hid (h.more (K' := K + 1) (by omega))
  have hq9 := hq
  unfold maxLen at hq9
  obtain ⟨ho, g, c, mb, db, ms, hA, hI, hS⟩ := h
  have HSp := Lib.hid (aspot_any hA ho.n3 ho.n10 ho.r20 x hx hx0)
  obtain ⟨res, hres⟩ : ∃ res, res = s.write x q := ⟨_, rfl⟩
  rw [← hres]
  unfold Ar.S.write at hres
  by_cases hb : s.hasBlock x
  · obtain ⟨y, rfl, hy⟩ := Ar.S.hasBlock_nat hb
    rw [if_pos hb, Int.toNat_natCast] at hres
    have Hb := Lib.hid hb
    have hn := ho.n3
    have hn10 := ho.n10
    have hrow := Ar.S.row_lt ho hy
    have hr20 := ho.r20
    have hj : y % (s.n - 2) < s.n - 2 := Nat.mod_lt y (by omega)
    have HA := Lib.hid hA
    have HI := Lib.hid hI
    have HS := Lib.hid hS
    have Ho := Lib.hid ho
    obtain ⟨r, hr⟩ : ∃ r, r = y / (s.n - 2) := ⟨_, rfl⟩
    obtain ⟨j, hj0⟩ : ∃ j, j = y % (s.n - 2) := ⟨_, rfl⟩
    obtain ⟨d, hd0⟩ : ∃ d, d = Ar.dk s.n r j := ⟨_, rfl⟩
    rw [← hr, ← hj0] at hres
    rw [← hr] at hrow
    rw [← hj0] at hj
    have Hr := Lib.hid hr
    have Hj := Lib.hid hj0
    have Hd := Lib.hid hd0
    have Hres := Lib.hid hres
    clear hr hj0 hd0 hb hA hS ho hI hres
    go_enter Tryz.func81, Tryz.ntmps81
    go_wp2_with fail
    refine HSp.out.mono ?_
    rintro e w1 ⟨he, _, hB1⟩
    have he2 := he Hb.out
    rw [Int.toNat_natCast, ← Hr.out, ← Hj.out, ← Hd.out] at he2
    clear he
    subst he2
    have HB1 := Lib.hid hB1
    have hz1 := hB1.size
    clear hB1
    obtain ⟨S, hS0⟩ : ∃ S, S = w1.heap.size := ⟨_, rfl⟩
    obtain ⟨wA, hwA⟩ : ∃ wA, wA = w1.alloc (.cells #[iv d, iv r] 163) := ⟨_, rfl⟩
    have hBA : Below w1.heap.size w1 wA := by rw [hwA]; exact (Below.refl _ _).alloc (Nat.le_refl _) _
    have hAA : wA.heap[S]? = some (.cells #[iv d, iv r] 163 (0, 0)) := by rw [hwA, hS0]; exact heap_alloc_new _ _
    have s0 : wA.cell? ⟨S, 0, none⟩ = some (iv d) := by rw [cell_of_row _ _ _ _ _ _ hAA]; rfl
    have s1 : wA.cell? ⟨S, 1, none⟩ = some (iv r) := by rw [cell_of_row _ _ _ _ _ _ hAA]; rfl
    have HBA := Lib.hid (HB1.out.trans (hBA.mono hz1))
    have HAA := Lib.hid (HA.out.below HBA.out)
    have c2 : (w1.alloc (.cells #[iv d, iv r] 163)).cell? ⟨b, 2, none⟩ = some (iv s.size) := by rw [← hwA]; exact HAA.out.c2
    have hzA := HBA.out.size
    have hSz : S < wA.heap.size := (Array.getElem?_eq_some_iff.1 hAA).1
    have hSw : w.heap.size ≤ S := by omega
    have HP := Lib.hid (aparts_s HAA.out Ho.out HS.out hrow)
    have HwA := Lib.hid hwA
    have HS0 := Lib.hid hS0
    clear hwA hBA hAA hS0
    by_cases hz : q.size = s.size
    · have hne : ((q.size : Int) != (s.size : Int)) = false := bne_f (by omega)
      have hz9 := hz
      have Hz := Lib.hid hz
      clear hz hz9
      have hres := Hres.out
      rw [if_pos Hz.out] at hres
      have Hres := Lib.hid hres
      clear hres
      go_wp2_with fail
      rw [← HwA.out, ← HS0.out]
      refine HP.out.mono ?_
      rintro e w2 ⟨v1, v2, v3, rfl, hP, hL, hO, hB2⟩
      have HHe := Lib.hid (aheal Ho.out hrow (v := v1) (vl := v2) (row_of_owns hP).1 (row_of_owns hL).1)
      obtain ⟨go, co, rfl, ho1, ho2, ho3, ho4, ho5, _⟩ := owns_pos hO (by omega)
      obtain ⟨gl, cl, rfl, hl1, hl2, hl3, hl4, hl5, _⟩ := owns_pos hL (by omega)
      have s2 := (hB2.cell (p := ⟨S, 1, none⟩) hSz).trans s1
      have hSz2 := Nat.lt_of_lt_of_le hSz hB2.size
      have od : ∀ i, i < s.n → w2.cell? ⟨go, i, none⟩ = some (iv (Ar.dk s.n r i)) := fun i hi => (ho5 i hi).trans (ordN_get hi)
      have mk : ∀ i, i < s.n → w2.cell? ⟨gl, i, none⟩ = some (.bool (s.lost (Ar.dk s.n r i) r)) := fun i hi => (hl5 i hi).trans (by
        unfold Ar.S.marks
        rw [List.getElem?_map, List.getElem?_map, List.getElem?_range hi]; rfl)
      have HB2 := Lib.hid (HBA.out.trans (hB2.mono hzA))
      have Hod := Lib.hid od
      have Hmk := Lib.hid mk
      have hz2 := HB2.out.size
      unfold maxLen at ho4 hl4
      clear hP hL hO hB2 s0 s1 HP c2 ho5 hl5 od mk
      go_wp2_with fail
      refine HHe.out.mono ?_
      rintro e w3 ⟨hy1, hn1, hB3⟩
      by_cases hm : 2 < s.many r
      · have HB3 := Lib.hid (HB2.out.trans (hB3.mono hz2))
        have he := hn1 hm
        subst he
        have hres : res = (8, s) := by rw [Hres.out, if_pos hm]
        subst hres
        clear hy1 hn1 hm hB3
        go_wp2_with fail
        go_ret
        exact ⟨rfl, HOK.out.below HB3.out, Kept.new F HB3.out⟩
      · obtain ⟨vh, he, hOh⟩ := hy1 hm
        subst he
        have hres : res = (0, s.putRow r (s.turned r j q)) := by rw [Hres.out, if_neg hm]
        have hcw := Ar.S.heal_cw Ho.out hrow hm
        have hlen : (s.heal r).length = s.n := by have := hcw.len; omega
        have htc := Ar.S.turned_cw Ho.out (j := j) hrow hm Hz.out
        have hput := putMs_see HS.out Ho.out hrow htc
        have hput2 := Ar.S.putRow_ok Ho.out (row := r) htc
        have hsz : ∀ y ∈ s.heal r, y.size = s.size := hcw.sz (by omega)
        have htu : s.turned r j q = ((s.heal r).take (s.n - 2)).set j q ++ [Gv.P (((s.heal r).take (s.n - 2)).set j q), Gv.Q (((s.heal r).take (s.n - 2)).set j q)] := rfl
        obtain ⟨gh, oh, ch, rfl, hh0, hhz, hh1, hh2, hh3, hh4⟩ := hOh.at0 (by rw [List.length_map]; omega)
        rw [List.length_map, hlen] at hh1 hh3
        rw [List.length_map, hlen] at hOh ⊢
        have s3 := (hB3.cell (p := ⟨S, 1, none⟩) hSz2).trans s2
        have HB3 := Lib.hid (HB2.out.trans (hB3.mono hz2))
        have od3 : ∀ i, i < s.n → w3.cell? ⟨go, i, none⟩ = some (iv (Ar.dk s.n r i)) := fun i hi => (hB3.cell (p := ⟨go, i, none⟩) ho2).trans (Hod.out i hi)
        have mk3 : ∀ i, i < s.n → w3.cell? ⟨gl, i, none⟩ = some (.bool (s.lost (Ar.dk s.n r i) r)) := fun i hi => (hB3.cell (p := ⟨gl, i, none⟩) hl2).trans (Hmk.out i hi)
        have Hres := Lib.hid hres
        have Hput := Lib.hid hput
        have Hput2 := Lib.hid hput2
        have Htc := Lib.hid htc
        have Htu := Lib.hid htu
        have hj9 := hj
        have e0 := hh3 j (by omega)
        rw [List.getElem?_map, List.getElem?_eq_getElem (by omega)] at e0
        obtain ⟨xj, hxj⟩ : ∃ xj, xj = (s.heal r)[j]'(by omega) := ⟨_, rfl⟩
        have e0' : w3.cell? ⟨gh, oh + j, none⟩ = some (.string xj) := by rw [hxj]; exact e0
        have f0 := hh4 (oh + j)
        have HOh := Lib.hid hOh
        have q1 : (y : Int) % ((s.n : Int) - 2) = (j : Int) := by rw [Hj.out, show (s.n : Int) - 2 = ((s.n - 2 : Nat) : Int) by omega]; exact (Int.natCast_emod _ _).symm
        have q0 : ¬ ((s.n : Int) - 2 = 0) := by omega
        have hw3 : IntKind.i64.wrap ((s.n : Int) - 2) = (s.n : Int) - 2 := IntWalk.i64_in _ (by omega)
        have Hod3 := Lib.hid od3
        have Hmk3 := Lib.hid mk3
        have Hlen := Lib.hid hlen
        have Hsz := Lib.hid hsz
        unfold maxLen at hh2
        obtain ⟨k, hk⟩ : ∃ k, k = s.n - 2 := ⟨_, rfl⟩
        obtain ⟨ds, hds⟩ : ∃ ds, ds = ((s.heal r).take (s.n - 2)).set j q := ⟨_, rfl⟩
        obtain ⟨wX, hwX⟩ : ∃ wX, wX = w3.setCell ⟨gh, oh + j, none⟩ (.string q) := ⟨_, rfl⟩
        have hO1 := hOh.setStr (k := j) (by omega) q
        rw [← hwX] at hO1
        have hrw := row_head (OwnR.row hO1) (k := s.n - 2) (by rw [List.length_map, List.length_set]; omega)
        rw [← List.map_take, List.take_set, ← hds, ← hk] at hrw
        have hdl : ds.length = s.n - 2 := by rw [hds, List.length_set, List.length_take]; omega
        have hdz : ∀ y ∈ ds, y.size = s.size := fun y hy => by
          rw [hds] at hy
          rcases List.mem_or_eq_of_mem_set hy with h4 | h4
          · exact hsz y (List.mem_of_mem_take h4)
          · rw [h4]; exact Hz.out
        have hz0 : size0 ds = s.size := Gv.size0_of hdz (by omega)
        have HOf := Lib.hid (of_any ds (fun y hy => by rw [hdz y hy, hz0]) (by have := Ho.out.z16; omega) (by omega) _ wX hrw)
        have HO1 := Lib.hid hO1
        have Hk := Lib.hid hk
        have Hds := Lib.hid hds
        have Hdl := Lib.hid hdl
        have hkX : Kept (· = gh) w3 wX := by rw [hwX]; exact (Kept.self gh w3).set1 _ _
        have HkX := Lib.hid hkX
        have HwX := Lib.hid hwX
        clear hy1 hn1 hm hB3 hOh hh3 hres hput hput2 htc htu hcw e0 od3 mk3 Hod Hmk hxj hlen hsz hh4 HHe hk hds hO1 hrw hdl hdz hz0 hwX hkX
        go_wp2_with fail
        rw [← HwX.out, ← Hk.out]
        refine HOf.out.mono ?_
        rintro e w4 ⟨rfl, hB4⟩
        have hzX := HkX.out.size
        have hzh4 : gh < w4.heap.size := by have := hB4.size; omega
        have hO4 := HO1.out.below hB4
        obtain ⟨g9, o9, c9, hv9, _, _, _, _, hc9, hf9⟩ := hO4.at0 (by rw [List.length_map, List.length_set, Hlen.out]; omega)
        injection hv9 with z1 z2 z3
        injection z1 with z1
        injection z1 with z4 z5
        subst z4 z5
        have hm9 : ∀ i, i < s.n → ∃ v, w4.cell? ⟨gh, oh + i, none⟩ = some v := fun i hi => ⟨_, (hc9 i (by rw [List.length_map, List.length_set, Hlen.out]; exact hi)).trans (List.getElem?_eq_getElem (by rw [List.length_map, List.length_set, Hlen.out]; exact hi))⟩
        obtain ⟨u1, t1⟩ := hm9 (s.n - 2) (by omega)
        obtain ⟨u2, t2⟩ := hm9 (s.n - 2 + 1) (by omega)
        have s4 := (hB4.cell (p := ⟨S, 1, none⟩) (by show S < wX.heap.size; omega)).trans (HkX.out.cell s3 (fun e => by have e : S = gh := e; omega))
        have HO4 := Lib.hid hO4
        have HB4 := Lib.hid hB4
        obtain ⟨wB, hwB⟩ : ∃ wB, wB = (w4.setCell ⟨gh, oh + (s.n - 2), none⟩ (.string (Gv.P ds))).setCell ⟨gh, oh + (s.n - 2 + 1), none⟩ (.string (Gv.Q ds)) := ⟨_, rfl⟩
        have hkB : Kept (· = gh) w4 wB := by rw [hwB]; exact ((Kept.self gh w4).set1 _ _).set1 _ _
        have hOB : OwnR wB w2.heap.size 9 (.slice (some ⟨gh, oh, none⟩) s.n ch) ((s.turned r j q).map Value.string) := by
          have h1 := (hO4.setStr (k := s.n - 2) (by rw [List.length_set, Hlen.out]; omega) (Gv.P ds)).setStr (k := s.n - 2 + 1) (by rw [List.length_set, List.length_set, Hlen.out]; omega) (Gv.Q ds)
          rw [← hwB, ← set_take _ (s.n - 2) j q hj, ← Hds.out, ends_set (n := s.n) Hdl.out Hlen.out (by omega)] at h1
          rw [Htu.out, ← Hds.out]
          exact h1
        have htl : (s.turned r j q).length = s.n := by have := Htc.out.len; omega
        have hcB : ∀ i, i < s.n → wB.cell? ⟨gh, oh + i, none⟩ = some (.string ((s.turned r j q).getD i ⟨#[]⟩)) := fun i hi => by
          obtain ⟨g8, o8, c8, hv8, _, _, _, _, hc8, _⟩ := hOB.at0 (by rw [List.length_map, htl]; omega)
          injection hv8 with y1 y2 y3
          injection y1 with y1
          injection y1 with y4 y5
          subst y4 y5
          rw [hc8 i (by rw [List.length_map, htl]; exact hi), List.getElem?_map, List.getElem?_eq_getElem (by omega), List.getD_eq_getElem?_getD, List.getElem?_eq_getElem (by omega)]; rfl
        have hgo : go ≠ gh := by omega
        have hgl : gl ≠ gh := by omega
        have hSg : S ≠ gh := by omega
        have hw3z : w2.heap.size ≤ w3.heap.size := by omega
        have HSee : Hid (WrSee s r (s.turned r j q) S gh oh go gl wB) := Lib.hid (by
          refine ⟨hkB.cell s4 hSg, hcB, fun i hi => ?_, fun i hi => ?_⟩
          · exact hkB.cell ((hB4.cell (p := ⟨go, i, none⟩) (by show go < wX.heap.size; omega)).trans (HkX.out.cell (Hod3.out i hi) hgo)) hgo
          · exact hkB.cell ((hB4.cell (p := ⟨gl, i, none⟩) (by show gl < wX.heap.size; omega)).trans (HkX.out.cell (Hmk3.out i hi) hgl)) hgl)
        have hwB9 : Below w.heap.size w wB := by
          refine Kept.toBelow (T := fun p => w.heap.size ≤ p) ?_ (Nat.le_refl _) (fun p _ h => h)
          refine ((((Kept.below HB3.out).also (HkX.out.mono (fun p _ e => ?_))).also (Kept.new _ hB4)).also (hkB.mono (fun p _ e => ?_)))
          · rw [e]; omega
          · rw [e]; omega
        have HwB9 := Lib.hid hwB9
        have HAB : Hid (AryAt wB b g c mb db s.n s.rows s.size (putMs s ms r (s.turned r j q) 0) s.bt) := Lib.hid ((HA.out.below hwB9).ext (fun d _ => (by unfold putMs; rw [if_neg (fun h => by omega)])) (fun _ _ => rfl))
        have HwB := Lib.hid hwB
        obtain ⟨l, hl⟩ : ∃ l, l = s.turned r j q := ⟨_, rfl⟩
        rw [← hl] at HSee HAB Htc
        have Hl := Lib.hid hl
        have hbw := HA.out.lt
        have hgw := HA.out.ltg (by omega)
        clear hB4 hO4 z2 z3 hc9 hm9 hkB hOB htl hcB hwB9 hwB hl Hod3 Hmk3
        go_wp2_with fail
        rw [← HwB.out]
        go_loopg [14, 15, 16, 80] s.n (fun gk v14 v15 v16 v80 wr => WrRel s ms b g c mb db r l (fun p => p < w.heap.size ∧ F p) wB gk v80 wr)
        case atStart => exact ⟨0, by omega, rfl, HAB.out, Kept.refl _ _⟩
        case round =>
          obtain ⟨i, hi, rfl, hAr, hKr⟩ := hrel
          have Hi := Lib.hid hi
          have HAr := Lib.hid hAr
          have HKr := Lib.hid hKr
          have hsee := HSee.out.kept hKr (fun h => by omega) (fun h => by omega) (fun h => by omega) (fun h => by omega)
          clear hi hAr hKr
          by_cases hlt : i < s.n
          · have s5 := hsee.sp
            have o5 := hsee.od i hlt
            have m5 := hsee.mr i hlt
            have l5 := hsee.hl i hlt
            have hd5 : Ar.dk s.n r i < s.n := Ar.dk_lt (by omega)
            have hix : Ar.ix s.n r (Ar.dk s.n r i) = i := Ar.ix_dk (by omega) (by omega) hlt
            have hpn : s.lost (Ar.dk s.n r i) r = true → AryAt wr b g c mb db s.n s.rows s.size (putMs s ms r l (i + 1)) s.bt := fun hlo => HAr.out.ext (fun d hd => putMs_lost Ho.out hd hlt hlo) (fun _ _ => rfl)
            have hpl : s.lost (Ar.dk s.n r i) r = false → ∀ d, d < s.n → putMs s ms r l (i + 1) d = Ar.up (putMs s ms r l i) (Ar.dk s.n r i) ((ms (Ar.dk s.n r i)).write (r : Int) (l.getD i ⟨#[]⟩)).2 d := fun hlo d hd => putMs_not Ho.out hd hlt hlo
            have hms : putMs s ms r l i (Ar.dk s.n r i) = ms (Ar.dk s.n r i) := by unfold putMs; rw [hix, if_neg (fun h => by omega)]
            have hxz : (l.getD i ⟨#[]⟩).size = s.size := Htc.out.sz (by omega) _ (Gv.getD_mem (by rw [Htc.out.len]; omega))
            have Hpn := Lib.hid hpn
            have Hpl := Lib.hid hpl
            clear hpn hpl hix hsee
            generalize Ar.dk s.n r i = d at *
            cases hf : s.lost d r with
            | true =>
              rw [hf] at m5
              have hN := Lib.hid (Hpn.out hf)
              clear hf hms hxz
              go_wp2_with fail
              go_roundg (gk - 1)
              case measure => have := Hi.out; omega
              case rel => exact ⟨i + 1, by have := Hi.out; omega, by go_num, hN.out, HKr.out⟩
            | false =>
              rw [hf] at m5
              have hwq := HS.out.write_eq hd5 (Ar.S.lost_lt hf).1 hrow hxz
              have hN := Lib.hid (Hpl.out hf)
              have hwz := HS.out.wr d hd5
              have hx16 := Ho.out.z16
              have HE : Hid (((ms d).write (r : Int) (l.getD i ⟨#[]⟩)).1 = 0) := Lib.hid (by rw [hwq])
              clear hf Hpn Hpl hwq
              generalize l.getD i ⟨#[]⟩ = x at *
              have Hms := Lib.hid hms
              have Hxz := Lib.hid hxz
              clear hms hxz
              go_wp2_with fail
              have c5 := HAr.out.c0
              have c6 := HAr.out.lst d hd5
              have c7 := HAr.out.m0 hd5
              have k1 := HAr.out.cap.1
              have k2 := HAr.out.cap.2
              unfold maxLen at k2
              go_still_tail 16, (by kernel_rfl)
              change wpList _ _ _ _ _ wr.drew
              obtain ⟨wE, hwE⟩ : ∃ wE, wE = wr.drew := ⟨_, rfl⟩
              have hbE : Below wr.heap.size wr wE := by rw [hwE]; exact (Below.refl _ _).drew
              have HAE := Lib.hid (HAr.out.below hbE)
              have HKE := Lib.hid (HKr.out.also (Kept.new _ hbE))
              have HDE := HAE.out.dsk d hd5
              rw [Hms.out] at HDE
              have HW := Lib.hid (write_any HDE (r : Int) x (by unfold maxLen; rw [Hxz.out]; omega) (by omega))
              rw [← hwE]
              clear hwE hbE HDE c5 c6 c7 s5 o5 m5 l5
              go_wp2_with fail
              refine HW.out.mono ?_
              rintro e wG ⟨he, hD, hK1, _⟩
              rw [HE.out, errV_0] at he
              subst he
              have HN2 := Lib.hid ((HAE.out.turnD hd5 hK1 hD).ext hN.out (fun _ _ => rfl))
              have HKG := Lib.hid (HKE.out.also (hK1.mono (fun p _ e => by rw [e]; exact ⟨HA.out.ltd hd5, (HI.out.2.2 d hd5).2⟩)))
              clear hD hK1
              go_wp2_with fail
              go_roundg (gk - 1)
              case measure => have := Hi.out; omega
              case rel => exact ⟨i + 1, by have := Hi.out; omega, by go_num, HN2.out, HKG.out⟩
          · have hin : i = s.n := by have := Hi.out; omega
            clear hsee
            go_wp2_with fail
            go_ret
            have h1 := HAr.out
            rw [hin, Hl.out] at h1
            rw [Hres.out]
            exact ⟨rfl, ⟨Hput2.out, g, c, mb, db, _, h1, HI.out, Hput.out⟩, ((Kept.new F HwB9.out).also (HKr.out.mono (fun p _ h => h.2)))⟩
    · have hne : ((q.size : Int) != (s.size : Int)) = true := bne_t (by omega)
      have hres : res = (3, s) := by rw [Hres.out, if_neg hz]
      subst hres
      clear hz HP
      go_wp2_with fail
      go_ret
      exact ⟨rfl, HOK.out.below (by rw [← HwA.out]; exact HBA.out), Kept.new F (by rw [← HwA.out]; exact HBA.out)⟩
  · have hres2 : res = (1, s) := by rw [hres, if_neg hb]
    subst hres2
    have Hb := Lib.hid hb
    clear hA hI hS ho hb hres
    go_enter Tryz.func81, Tryz.ntmps81
    go_wp2_with fail
    refine HSp.out.mono ?_
    rintro e w1 ⟨_, he, hB1⟩
    have he2 := he Hb.out
    clear he
    subst he2
    have HB1 := Lib.hid hB1
    have hz1 := hB1.size
    clear hB1
    go_wp2_with fail
    go_ret
    exact ⟨rfl, HOK.out.below (HB1.out.alloc hz1 _), Kept.new F (HB1.out.alloc hz1 _)⟩
end Go.Proofs.YtneebcniofolmaaGreatDoor
