/- The walk of code.Right; two lists of texts of one's own held side by side. -/
import Derived.Test.YtbikmodfmckaeaaDoorCodG
import Derived.Deep.RegionHeld3
namespace Go.Proofs.YtbikmodfmckaeaaDoor
open Go.ChangeShapes Go.WideShapes Go.ChangeAt Go.RowKit
set_option linter.unusedVariables false
theorem equal_strs (xs ys : List ByteArray) (va vb : Value) (w : World) (ha : Strs w va xs) (hb : Strs w vb ys) :
    Calls Tryd.prog 82 #[va, vb] w fun e w' => e = .returned (.bool (decide (xs = ys))) ∧ Below w.heap.size w w' := by
  obtain ⟨p, c, rfl, hl, hc⟩ := ha.get
  obtain ⟨p', c', rfl, hl', hc'⟩ := hb.get
  by_cases hne : xs.length = ys.length
  · cases xs with
    | nil =>
      have hy : ys = [] := List.eq_nil_of_length_eq_zero hne.symm
      subst hy
      refine (Tryd.slices_Equal_string_empty p p' c 0 c' w (by omega)).mono ?_
      rintro e w' ⟨rfl, rfl⟩
      exact ⟨rfl, Below.refl _ _⟩
    | cons x xt =>
      cases ys with
      | nil => simp at hne
      | cons y yt =>
        obtain ⟨g, o, rfl, _, _⟩ := hc 0 x rfl
        obtain ⟨g', o', rfl, _, _⟩ := hc' 0 y rfl
        refine (Tryd.slices_Equal_string g o (x :: xt).length c g' o' (y :: yt).length c' (x :: xt) (y :: yt) w (Nat.le_refl _) (Nat.le_refl _) hl hl' (fun j hj => ?_) (fun j hj => ?_)).mono ?_
        · obtain ⟨s, hs⟩ : ∃ s, (x :: xt)[j]? = some s := ⟨_, List.getElem?_eq_getElem hj⟩
          obtain ⟨_, _, e, h, _⟩ := hc j s hs
          injection e with e; injection e with e1 e2; subst e1 e2
          rw [h, List.getD_eq_getElem?_getD, hs]; rfl
        · obtain ⟨s, hs⟩ : ∃ s, (y :: yt)[j]? = some s := ⟨_, List.getElem?_eq_getElem hj⟩
          obtain ⟨_, _, e, h, _⟩ := hc' j s hs
          injection e with e; injection e with e1 e2; subst e1 e2
          rw [h, List.getD_eq_getElem?_getD, hs]; rfl
        · rintro e w' ⟨rfl, q, rfl⟩
          rw [List.take_length, List.take_length]
          exact ⟨rfl, bdrew (Below.refl _ _) q⟩
  · refine (Tryd.slices_Equal_string_lens p p' xs.length c ys.length c' w hne).mono ?_
    rintro e w' ⟨rfl, rfl⟩
    rw [dec_f (fun e => hne (by rw [e]))]
    exact ⟨rfl, Below.refl _ _⟩
def rightF (k m : Int) (ps : List ByteArray) : Int := if codF k m ≠ 0 then codF k m else if (ps.length : Int) ≠ k + m then 3 else blkF ps
def rightB (k m : Int) (ps : List ByteArray) : Bool := decide (rightF k m ps = 0 ∧ encR k.toNat m.toNat (ps.take k.toNat) = ps.drop k.toNat)
theorem Strs.drop {w : World} {g o n c k : Nat} {ls : List ByteArray} (h : Strs w (.slice (some ⟨g, o, none⟩) n c) ls) (hk : k ≤ ls.length) : Strs w (.slice (some ⟨g, o + k, none⟩) (n - k) (c - k)) (ls.drop k) := by
  obtain ⟨p, cap, hv, h1, h2, h3, h4⟩ := h
  injection hv with e1 e2 e3
  subst e1 e3
  rw [List.length_map] at *
  refine ⟨some ⟨g, o + k, none⟩, c - k, by rw [List.length_map, List.length_drop, e2], by rw [List.length_map, List.length_drop]; omega, by omega, (fun h => by cases h), fun h0 => ?_⟩
  rw [List.length_map, List.length_drop] at h0
  obtain ⟨g', o', hp, hc⟩ := h4 (by omega)
  injection hp with hp
  injection hp with e4 e5
  subst e4 e5
  refine ⟨g, o + k, rfl, fun j hj => ?_⟩
  rw [List.length_map, List.length_drop] at hj
  rw [Nat.add_assoc, hc (k + j) (by omega), List.getElem?_map, List.getElem?_map, List.getElem?_drop]
def RightPost (k m : Int) (ps : List ByteArray) (w : World) (e : Ending) (w' : World) : Prop := e = .returned (.tuple #[.bool (rightB k m ps), errV (rightF k m ps)]) ∧ Below w.heap.size w w'
set_option maxRecDepth 100000 in
set_option maxHeartbeats 1000000 in
theorem right_tot (k m : Int) (hkb : -9223372036854775808 ≤ k ∧ k ≤ 9223372036854775807) (hmb : -9223372036854775808 ≤ m ∧ m ≤ 9223372036854775807) (ps : List ByteArray) (v : Value) (w : World) (hv : Strs w v ps) :
    Calls Tryd.prog 45 #[iv k, iv m, v] w (RightPost k m ps w) := by
  have HV := Lib.hid hv
  obtain ⟨p, cap, rfl, hl9, _⟩ := hv.get
  unfold RightPost
  obtain ⟨F, hF⟩ : ∃ F, F = rightF k m ps := ⟨_, rfl⟩
  obtain ⟨V, hV⟩ : ∃ V, V = rightB k m ps := ⟨_, rfl⟩
  rw [← hF, ← hV]
  have hVn : F ≠ 0 → V = false := fun h => by rw [hV]; unfold rightB; rw [dec_f (fun hc => h (by rw [hF]; exact hc.1))]
  have HC := Lib.hid (ccheck_any k m w)
  obtain ⟨C, hC⟩ : ∃ C, C = codF k m := ⟨_, rfl⟩
  rw [← hC] at HC
  obtain ⟨n9, hn9⟩ : ∃ n, n = ps.length := ⟨_, rfl⟩
  rw [← hn9] at HV hl9 ⊢
  by_cases hC0 : C = 0
  · have hk := codF_0 (hC.symm.trans hC0)
    obtain ⟨kn, rfl⟩ : ∃ n : Nat, k = n := ⟨k.toNat, by omega⟩
    obtain ⟨mn, rfl⟩ : ∃ n : Nat, m = n := ⟨m.toNat, by omega⟩
    subst hC0
    rw [errV_0] at HC
    have hw : IntKind.i64.wrap ((kn : Int) + (mn : Int)) = (kn : Int) + (mn : Int) := IntWalk.i64_in _ (by omega)
    by_cases hlk : (n9 : Int) = (kn : Int) + (mn : Int)
    · have hFe : F = blkF ps := by rw [hF]; unfold rightF; rw [← hC, if_neg (by simp), if_neg (by rw [← hn9]; simp [hlk])]
      have HBk := Lib.hid (blocks_any ps _ w HV.out)
      have t1 : ((n9 : Int) != (kn : Int) + (mn : Int)) = false := bne_f hlk
      have t2 : ((n9 : Int) == (kn : Int) + (mn : Int)) = true := beq_t hlk
      by_cases hF0 : F = 0
      · have hb := blkF_zero (hFe.symm.trans hF0)
        have hVe : V = decide (encR kn mn (ps.take kn) = ps.drop kn) := by
          rw [hV]; unfold rightB
          rw [← hF]
          by_cases hh : encR kn mn (ps.take kn) = ps.drop kn
          · rw [dec_t hh]; exact dec_t ⟨hF0, hh⟩
          · rw [dec_f hh]; exact dec_f (fun hc => hh hc.2)
        obtain ⟨g, o, rfl⟩ : ∃ g o, p = some ⟨g, o, none⟩ := by
          obtain ⟨s, hs⟩ : ∃ s, ps[0]? = some s := ⟨ps[0]'(by omega), List.getElem?_eq_getElem _⟩
          obtain ⟨pq, cq, hvq, _, hcq⟩ := HV.out.get
          injection hvq with e1 _ _
          obtain ⟨g, o, hp, _⟩ := hcq 0 s hs
          exact ⟨g, o, e1.trans hp⟩
        have hcap : n9 ≤ cap ∧ cap ≤ 9223372036854775807 := by
          obtain ⟨p', c', hvq, h1, h2, _⟩ := HV.out.shape
          injection hvq with _ _ e3
          rw [List.length_map, ← hn9] at h1
          unfold maxLen at h2
          omega
        have hhd := HV.out.head (k := kn) (by rw [← hn9]; omega)
        have htl := HV.out.drop (k := kn) (by rw [← hn9]; omega)
        have hsz0 : size0 (ps.take kn) = size0 ps := by
          cases ps with
          | nil => rw [List.take_nil]
          | cons a t =>
            obtain ⟨k', rfl⟩ : ∃ k', kn = k' + 1 := ⟨kn - 1, by omega⟩
            rfl
        have HEn := Lib.hid (fun W (h : Below w.heap.size w W) => cencode_any kn mn (by omega) (by omega) (ps.take kn) (by rw [List.length_take, ← hn9]; omega) (fun s hs => by rw [hsz0]; exact hb.1 s (List.mem_of_mem_take hs)) (by rw [hsz0]; exact hb.2) (.slice (some ⟨g, o, none⟩) kn cap) W (hhd.below h))
        unfold EnPost at HEn
        have HTl := Lib.hid htl
        have HVe := Lib.hid hVe
        rw [← hFe, hF0, errV_0] at HBk
        subst hF0
        have hle1 : kn ≤ n9 := by omega
        clear hF hV hVn hC hlk hFe hb hhd htl hsz0 hVe hv hn9
        rw [errV_0]
        go_enter Tryd.func45, Tryd.ntmps45
        go_wp2_with fail
        refine HC.out.mono ?_
        rintro e w' ⟨rfl, rfl⟩
        go_wp2_with fail
        refine HBk.out.mono ?_
        rintro e w' ⟨rfl, rfl⟩
        have HEq := Lib.hid (fun (W1 W2 : World) (v3 : Value) (h : Below w.heap.size w W1) (ho : OwnR W2 W1.heap.size 9 v3 ((encR kn mn (ps.take kn)).map Value.string)) (hb : Below W1.heap.size W1 W2) =>
          equal_strs (encR kn mn (ps.take kn)) (ps.drop kn) v3 (.slice (some ⟨g, o + kn, none⟩) (n9 - kn) (cap - kn)) W2 (OwnR.row ho) ((HTl.out.below h).below hb))
        clear HC HBk
        have hkc : kn ≤ cap := by omega
        by_cases hck : cap = kn
        · have hn0 : n9 = kn := by omega
          have hdn : ps.drop kn = [] := List.drop_of_length_le (by have := HV.out.get; obtain ⟨_, _, hv, _⟩ := this; injection hv with _ e2 _; omega)
          have HEq2 := Lib.hid (fun (W1 W2 : World) (v3 : Value) (ho : OwnR W2 W1.heap.size 9 v3 ((encR kn mn (ps.take kn)).map Value.string)) =>
            equal_strs (encR kn mn (ps.take kn)) [] v3 (.slice (some ⟨g, o, none⟩) 0 0) W2 (OwnR.row ho) ⟨_, 0, rfl, Nat.le_refl _, Nat.zero_le _, (fun h => by cases h), fun h => by simp at h⟩)
          have HVe2 : Hid (V = decide (encR kn mn (ps.take kn) = [])) := Lib.hid (HVe.out.trans (decide_eq_decide.2 (by rw [hdn])))
          clear HEq HTl HVe hdn
          subst hck
          subst hn0
          go_wp2_with fail
          go_region_held3 (fun _ => True)
            (trivial)
            (first
              | (go_at_call 79; (with_reducible refine (HEn.out _ ?_).mono ?_); exact bdrew (Below.refl w.heap.size w) _; rintro e wA ⟨v3, rfl, hO3, hbA⟩; have HBA := Lib.hid ((bdrew (Below.refl w.heap.size w) _).trans hbA); have hzA := HBA.out.size; have HE3 := Lib.hid (HEq2.out _ _ _ hO3); clear hO3 hbA)
              | (go_at_call 82; (with_reducible refine HE3.out.mono ?_); rintro e wB ⟨rfl, hbB⟩; have HBB := Lib.hid (HBA.out.trans (hbB.mono hzA)); clear hbB))
          go_wp2_with fail
          go_ret2
          exact ⟨by rw [HVe2.out]; rfl, HBB.out⟩
        · go_wp2_with fail
          go_region_held3 (fun _ => True)
            (trivial)
            (first
              | (go_at_call 79; (with_reducible refine (HEn.out _ ?_).mono ?_); exact bdrew (Below.refl w.heap.size w) _; rintro e wA ⟨v3, rfl, hO3, hbA⟩; have HBA := Lib.hid ((bdrew (Below.refl w.heap.size w) _).trans hbA); have hzA := HBA.out.size; have HE3 := Lib.hid (HEq.out _ _ _ (bdrew (Below.refl w.heap.size w) _) hO3 hbA); clear hO3 hbA)
              | (go_at_call 82; (with_reducible refine HE3.out.mono ?_); rintro e wB ⟨rfl, hbB⟩; have HBB := Lib.hid (HBA.out.trans (hbB.mono hzA)); clear hbB))
          go_wp2_with fail
          go_ret2
          exact ⟨by rw [HVe.out]; rfl, HBB.out⟩
      · have HVn := Lib.hid (hVn hF0)
        rw [← hFe, errV_ne hF0] at HBk
        rw [errV_ne hF0]
        clear hF hV hVn hC hk hlk hFe hF0 hv HV hl9 hn9
        go_enter Tryd.func45, Tryd.ntmps45
        go_wp2_with fail
        refine HC.out.mono ?_
        rintro e w' ⟨rfl, rfl⟩
        go_wp2_with fail
        refine HBk.out.mono ?_
        rintro e w' ⟨rfl, rfl⟩
        go_wp2_with fail
        go_ret2
        exact ⟨by rw [HVn.out]; rfl, Below.refl _ _⟩
    · have hFe : F = 3 := by rw [hF]; unfold rightF; rw [← hC, if_neg (by simp), if_pos (by rw [← hn9]; exact hlk)]
      have HVn := Lib.hid (hVn (by rw [hFe]; decide))
      have t1 : ((n9 : Int) != (kn : Int) + (mn : Int)) = true := bne_t hlk
      have t2 : ((n9 : Int) == (kn : Int) + (mn : Int)) = false := beq_f hlk
      rw [hFe]
      clear hF hV hVn hC hlk hFe hv HV hl9 hn9
      go_enter Tryd.func45, Tryd.ntmps45
      go_wp2_with fail
      refine HC.out.mono ?_
      rintro e w' ⟨rfl, rfl⟩
      go_wp2_with fail
      go_ret2
      exact ⟨by rw [HVn.out]; rfl, Below.refl _ _⟩
  · have hFe : F = C := by rw [hF]; unfold rightF; rw [← hC, if_pos hC0]
    have HVn := Lib.hid (hVn (by rw [hFe]; exact hC0))
    rw [errV_ne hC0] at HC
    rw [hFe, errV_ne hC0]
    clear hF hV hVn hC hFe hv HV hl9 hn9 hC0
    go_enter Tryd.func45, Tryd.ntmps45
    go_wp2_with fail
    refine HC.out.mono ?_
    rintro e w' ⟨rfl, rfl⟩
    go_wp2_with fail
    go_ret2
    exact ⟨by rw [HVn.out]; rfl, Below.refl _ _⟩
end Go.Proofs.YtbikmodfmckaeaaDoor
