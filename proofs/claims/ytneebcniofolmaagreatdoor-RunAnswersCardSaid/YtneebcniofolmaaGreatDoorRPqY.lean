/- The walk of the references' Heal. -/
import Derived.Test.YtneebcniofolmaaGreatDoorRPqV
import Derived.Deep.RegionWith
namespace Go.Proofs.YtneebcniofolmaaGreatDoor
open Go.ChangeShapes Go.WideShapes Go.ChangeAt Go.RowKit
set_option linter.unusedVariables false
def RHlRel1 (ps : List ByteArray) (ls : List Bool) (w : World) (n gk : Nat) (v6 i : Value) (wr : World) : Prop :=
  ∃ k : Nat, k + gk = n ∧ i = iv k ∧ v6 = iv (Gv.lastSz ps ls k) ∧ wr = w
def tks (os : List ByteArray) (k : Nat) : List Value := (os.take k).map Value.string
def RHlRel2 (os : List ByteArray) (ls : List Bool) (w : World) (n kk gk : Nat) (v8 v9 i : Value) (wr : World) : Prop :=
  ∃ k : Nat, k + gk = n ∧ i = iv k ∧ wr.ownsRow w.heap.size 9 1 v8 k (tks os k) ∧
    wr.ownsRow w.heap.size 3 1 v9 (Gv.goneL ls (min k kk)).length ((Gv.goneL ls (min k kk)).map (fun j => iv (j : Nat))) ∧ (∀ g, v8.ownBlock = some g → v9.ownBlock ≠ some g) ∧ Below w.heap.size w wr
theorem take_str (os : List ByteArray) (k : Nat) (h : k < os.length) : tks os k ++ [.string (os.getD k ⟨#[]⟩)] = tks os (k + 1) := by
  unfold tks
  rw [List.take_add_one, List.getElem?_eq_getElem h, List.map_append, List.getD_eq_getElem?_getD, List.getElem?_eq_getElem h]; rfl
/-- what heals stands in place of the first kk -/
def RHMid (w : World) (n kk : Nat) (v8 : Value) (hd os : List ByteArray) (wk : World) : Prop :=
  OwnR wk w.heap.size 9 v8 ((hd ++ os.drop kk).map Value.string) ∧ Below w.heap.size w wk
theorem own_at {w : World} {base g n cap : Nat} {l : List ByteArray} (h : OwnR w base 9 (.slice (some ⟨g, 0, none⟩) n cap) (l.map Value.string)) {j : Nat} (hj : j < l.length) :
    (∃ s0 : ByteArray, w.cell? ⟨g, j, none⟩ = some (.string s0)) ∧ w.frozen? ⟨g, j, none⟩ = false := by
  obtain ⟨gx, ox, cx, hvx, _, _, _, _, hcx, hfx⟩ := h.at0 (by rw [List.length_map]; omega)
  injection hvx with e1 e2 e3
  injection e1 with e1
  injection e1 with e4 e5
  subst e4 e5
  have hc := hcx j (by rw [List.length_map]; omega)
  rw [Nat.zero_add] at hc
  exact ⟨⟨l[j], by rw [hc, List.getElem?_map, List.getElem?_eq_getElem hj]; rfl⟩, hfx j⟩
theorem mix2d_any (a b : ByteArray) (x y : UInt8) (hs : b.size = a.size) (hn : a.size ≤ 900000) (w : World) :
    Calls Tryz.prog 67 #[.slice (some ⟨w.heap.size, 0, none⟩) 2 2, .slice (some ⟨w.heap.size + 1, 0, none⟩) 2 2] (((w.alloc (.cells #[.string a, .string b] 9)).alloc (.cells #[bv x, bv y] 5)).drew) (Mix2Post a b x y w) := by
  have hb1 : Below w.heap.size w (w.alloc (.cells #[.string a, .string b] 9)) := (Below.refl _ _).alloc (Nat.le_refl _) _
  have hz : (w.alloc (.cells #[.string a, .string b] 9)).heap.size = w.heap.size + 1 := by simp
  have hb2 : Below (w.alloc (.cells #[.string a, .string b] 9)).heap.size (w.alloc (.cells #[.string a, .string b] 9)) ((w.alloc (.cells #[.string a, .string b] 9)).alloc (.cells #[bv x, bv y] 5)) := (Below.refl _ _).alloc (Nat.le_refl _) _
  have r1 : Strs ((w.alloc (.cells #[.string a, .string b] 9)).alloc (.cells #[bv x, bv y] 5)) (.slice (some ⟨w.heap.size, 0, none⟩) 2 2) [a, b] := Row.below (alloc_row w [.string a, .string b] _ (by simp [maxLen])) hb2
  have r2 : RowB ((w.alloc (.cells #[.string a, .string b] 9)).alloc (.cells #[bv x, bv y] 5)) (.slice (some ⟨w.heap.size + 1, 0, none⟩) 2 2) [x, y] := by
    have h := alloc_row (w.alloc (.cells #[.string a, .string b] 9)) [bv x, bv y] 5 (by simp [maxLen])
    rw [hz] at h; exact h
  have hall : ∀ s ∈ [a, b], s.size = size0 [a, b] := by
    intro s hs'; simp at hs'
    rcases hs' with rfl | rfl
    · rfl
    · exact hs
  have hd := (Below.refl ((w.alloc (.cells #[.string a, .string b] 9)).alloc (.cells #[bv x, bv y] 5)).heap.size ((w.alloc (.cells #[.string a, .string b] 9)).alloc (.cells #[bv x, bv y] 5))).drew
  refine (rmix_any [a, b] [x, y] hall hn (by simp) _ _ _ (Row.below r1 hd) (Row.below r2 hd)).mono ?_
  rintro e w' ⟨rfl, hb⟩
  exact ⟨rfl, ((hb1.trans (hb2.mono (by omega))).trans (hd.mono (by simp; omega))).trans (hb.mono (by simp; omega))⟩
theorem mix11d_any (a b : ByteArray) (hs : b.size = a.size) (hn : a.size ≤ 900000) (w : World) :
    Calls Tryz.prog 67 #[.slice (some ⟨w.heap.size, 0, none⟩) 2 2, .slice (some ⟨w.heap.size + 1, 0, none⟩) 2 2] (((w.alloc (.cells #[.string a, .string b] 9)).alloc (.cells #[.int .u8 1, .int .u8 1] 5)).drew) fun e w' => e = .returned (.string (Gv.plusS a b)) ∧ Below w.heap.size w w' := by
  have h := mix2d_any a b 1 1 hs hn w
  unfold Mix2Post at h
  rw [Gv.mix_11] at h
  exact h
theorem mix2e_any (a b : ByteArray) (x y : UInt8) (hs : b.size = a.size) (hn : a.size ≤ 900000) (w : World) :
    Calls Tryz.prog 67 #[.slice (some ⟨w.heap.size + 1, 0, none⟩) 2 2, .slice (some ⟨w.heap.size, 0, none⟩) 2 2] (((w.alloc (.cells #[bv x, bv y] 5)).alloc (.cells #[.string a, .string b] 9)).drew) (Mix2Post a b x y w) := by
  have hb1 : Below w.heap.size w (w.alloc (.cells #[bv x, bv y] 5)) := (Below.refl _ _).alloc (Nat.le_refl _) _
  have hz : (w.alloc (.cells #[bv x, bv y] 5)).heap.size = w.heap.size + 1 := by simp
  have hb2 : Below (w.alloc (.cells #[bv x, bv y] 5)).heap.size (w.alloc (.cells #[bv x, bv y] 5)) ((w.alloc (.cells #[bv x, bv y] 5)).alloc (.cells #[.string a, .string b] 9)) := (Below.refl _ _).alloc (Nat.le_refl _) _
  have r2 : RowB ((w.alloc (.cells #[bv x, bv y] 5)).alloc (.cells #[.string a, .string b] 9)) (.slice (some ⟨w.heap.size, 0, none⟩) 2 2) [x, y] := Row.below (alloc_row w [bv x, bv y] _ (by simp [maxLen])) hb2
  have r1 : Strs ((w.alloc (.cells #[bv x, bv y] 5)).alloc (.cells #[.string a, .string b] 9)) (.slice (some ⟨w.heap.size + 1, 0, none⟩) 2 2) [a, b] := by
    have h := alloc_row (w.alloc (.cells #[bv x, bv y] 5)) [.string a, .string b] 9 (by simp [maxLen])
    rw [hz] at h; exact h
  have hall : ∀ s ∈ [a, b], s.size = size0 [a, b] := by
    intro s hs'; simp at hs'
    rcases hs' with rfl | rfl
    · rfl
    · exact hs
  have hd := (Below.refl ((w.alloc (.cells #[bv x, bv y] 5)).alloc (.cells #[.string a, .string b] 9)).heap.size ((w.alloc (.cells #[bv x, bv y] 5)).alloc (.cells #[.string a, .string b] 9))).drew
  refine (rmix_any [a, b] [x, y] hall hn (by simp) _ _ _ (Row.below r1 hd) (Row.below r2 hd)).mono ?_
  rintro e w' ⟨rfl, hb⟩
  exact ⟨rfl, ((hb1.trans (hb2.mono (by omega))).trans (hd.mono (by simp; omega))).trans (hb.mono (by simp; omega))⟩
theorem mix11e_any (a b : ByteArray) (hs : b.size = a.size) (hn : a.size ≤ 900000) (w : World) :
    Calls Tryz.prog 67 #[.slice (some ⟨w.heap.size + 1, 0, none⟩) 2 2, .slice (some ⟨w.heap.size, 0, none⟩) 2 2] (((w.alloc (.cells #[.int .u8 1, .int .u8 1] 5)).alloc (.cells #[.string a, .string b] 9)).drew) fun e w' => e = .returned (.string (Gv.plusS a b)) ∧ Below w.heap.size w w' := by
  have h := mix2e_any a b 1 1 hs hn w
  unfold Mix2Post at h
  rw [Gv.mix_11] at h
  exact h
theorem set_other {w : World} {g a b : Nat} {x v : Value} (h : w.cell? ⟨g, b, none⟩ = some v) (hn : a ≠ b) : (w.setCell ⟨g, a, none⟩ x).cell? ⟨g, b, none⟩ = some v :=
  (World.cell?_setCell_other w _ _ x (fun e => hn (by injection e))).trans h
theorem two_lists {α : Type} (l : List α) (h : l.length ≤ 2) : l = [] ∨ (∃ a, l = [a]) ∨ ∃ a b, l = [a, b] := by
  match l, h with
  | [], _ => exact .inl rfl
  | [a], _ => exact .inr (.inl ⟨a, rfl⟩)
  | [a, b], _ => exact .inr (.inr ⟨a, b, rfl⟩)
  | a :: b :: c :: t, h => simp at h
set_option maxRecDepth 100000 in
set_option maxHeartbeats 2000000 in
theorem rheal_any (ps : List ByteArray) (ls : List Bool) (sz : Nat) (h3 : 3 ≤ ps.length) (h12 : ps.length ≤ 250) (hll : ls.length = ps.length) (hsz : ∀ i, i < ps.length → Gv.lo ls i = false → (ps.getD i ⟨#[]⟩).size = sz) (hsz9 : sz ≤ 900000)
    (hex : ∃ i, i < ps.length ∧ Gv.lo ls i = false) (h2 : (Gv.goneL ls ps.length).length ≤ 2) (v vl : Value) (w : World) (hv : Strs w v ps) (hl : BoolR w vl ls) :
    Calls Tryz.prog 45 #[v, vl] w (HealPost ps ls w) := by
  obtain ⟨gv, ov, cv, rfl, v1, v2, v3⟩ := Row.pos hv (by rw [List.length_map]; omega)
  obtain ⟨gl, ol, cl, rfl, l1, l2, l3⟩ := Row.pos hl (by rw [List.length_map]; omega)
  rw [List.length_map] at v1 l1
  simp only [List.length_map]
  have hzl := World.block_lt_of_cell? w _ (l3 0 (by rw [List.length_map]; omega) |>.trans (List.getElem?_eq_getElem (by rw [List.length_map]; omega)))
  have hzv := World.block_lt_of_cell? w _ (v3 0 (by rw [List.length_map]; omega) |>.trans (List.getElem?_eq_getElem (by rw [List.length_map]; omega)))
  rw [hll] at l1 ⊢
  obtain ⟨n, hn⟩ : ∃ n, n = ps.length := ⟨_, rfl⟩
  rw [← hn] at h3 h12 hll hsz hex h2 v1 l1 ⊢
  have hcs : ∀ j, j < n → w.cell? ⟨gv, ov + j, none⟩ = some (.string (ps.getD j ⟨#[]⟩)) := by
    intro j hj
    have := v3 j (by rw [List.length_map]; omega)
    rw [this, List.getElem?_map, List.getElem?_eq_getElem (by omega), List.getD_eq_getElem?_getD, List.getElem?_eq_getElem (by omega)]; rfl
  have hcl : ∀ j, j < n → w.cell? ⟨gl, ol + j, none⟩ = some (.bool (Gv.lo ls j)) := by
    intro j hj
    have := l3 j (by rw [List.length_map]; omega)
    rw [this, List.getElem?_map, List.getElem?_eq_getElem (by omega)]
    unfold Gv.lo
    rw [List.getD_eq_getElem?_getD, List.getElem?_eq_getElem (by omega)]; rfl
  have hls : Gv.lastSz ps ls n = sz := Gv.lastSz_eq _ (fun i hi h => hsz i hi h) hex
  obtain ⟨os, hos⟩ : ∃ os, os = Gv.outs ps ls sz n := ⟨_, rfl⟩
  have hol : os.length = n := by rw [hos, Gv.outs_len]; exact hn.symm
  have hosz : ∀ s ∈ os, s.size = sz := by
    intro s hs
    rw [hos] at hs
    unfold Gv.outs at hs
    obtain ⟨i, hi, rfl⟩ := List.mem_map.1 hs
    rw [List.mem_range, ← hn] at hi
    by_cases hlo : Gv.lo ls i = true
    · rw [if_pos ⟨hi, hlo⟩]; exact Gv.zer_size sz
    · rw [if_neg (fun h => hlo h.2)]; exact hsz i hi (by simpa using hlo)
  have hosy : ∀ j, j < n → Gv.lo ls j = true → os.getD j ⟨#[]⟩ = Gv.zer sz := fun j hj h => by
    rw [hos, Gv.outs_at _ _ _ _ (by omega), if_pos ⟨hj, h⟩]
  have hosn : ∀ j, j < n → Gv.lo ls j = false → os.getD j ⟨#[]⟩ = ps.getD j ⟨#[]⟩ := fun j hj h => by
    rw [hos, Gv.outs_at _ _ _ _ (by omega), if_neg (by rw [h]; simp)]
  have Hcs := Lib.hid hcs
  have Hcl := Lib.hid hcl
  have Hn := Lib.hid hn
  have H2 := Lib.hid h2
  have Hls := Lib.hid hls
  have Hos := Lib.hid hos
  have Hol := Lib.hid hol
  have Hosz := Lib.hid hosz
  have Hosy := Lib.hid hosy
  have Hosn := Lib.hid hosn
  have hw2 : IntKind.i64.wrap ((n : Int) - 2) = ((n - 2 : Nat) : Int) := (IntWalk.i64_in _ (by omega)).trans (by omega)
  obtain ⟨kk, hkk⟩ : ∃ kk, kk = n - 2 := ⟨_, rfl⟩
  rw [← hkk] at hw2
  have Hkn := Lib.hid (show kk + 2 = n by omega)
  have hkn1 : kk < n := by omega
  have hk1 : 1 ≤ kk := by omega
  have mk := fun W => make_bytesV sz (by omega) W
  have HMk := Lib.hid mk
  unfold maxLen at v2 l2
  clear hv hl v3 l3 hcs hcl hsz hex h2 hll hkk hn hls hos hol hosz hosy hosn mk
  go_enter Tryz.func45, Tryz.ntmps45
  go_wp2_with fail
  go_loopg [6, 7] n (fun gk v6 v7 wr => RHlRel1 ps ls w n gk v6 v7 wr)
  case atStart => exact ⟨0, by omega, rfl, rfl, rfl⟩
  case round =>
    obtain ⟨wO, hwO⟩ : ∃ x : World, x = wr := ⟨_, rfl⟩
    obtain ⟨gO, hgO⟩ : ∃ x : Nat, x = gk := ⟨_, rfl⟩
    subst hwO hgO
    obtain ⟨k, hk, rfl, rfl, hwr⟩ := hrel
    subst hwr
    have Hk := Lib.hid hk
    clear hk
    by_cases hlt : k < n
    · have c0 := Hcs.out k hlt
      have c1 := Hcl.out k hlt
      have hstep : Gv.lastSz ps ls (k + 1) = if Gv.lo ls k then Gv.lastSz ps ls k else (ps.getD k ⟨#[]⟩).size := rfl
      have Hst := Lib.hid hstep
      generalize ps.getD k ⟨#[]⟩ = x at *
      cases hb : Gv.lo ls k with
      | true =>
        rw [hb] at c1 Hst
        clear hstep hb
        go_wp2_with fail
        go_roundg (gO - 1)
        case measure => have := Hk.out; omega
        case rel => exact ⟨k + 1, by have := Hk.out; omega, by go_num, by rw [Hst.out]; rfl, rfl⟩
      | false =>
        rw [hb] at c1 Hst
        clear hstep hb
        go_wp2_with fail
        go_roundg (gO - 1)
        case measure => have := Hk.out; omega
        case rel => exact ⟨k + 1, by have := Hk.out; omega, by go_num, by rw [Hst.out]; rfl, rfl⟩
    · have hkn2 : k = n := by have := Hk.out; omega
      have hls : Gv.lastSz ps ls k = sz := by rw [hkn2]; exact Hls.out
      rw [hls]
      clear hlt Hk hls
      subst hkn2
      go_wp2_with fail
      go_loopg [8, 9, 10] k (fun gk v8 v9 v10 wr' => RHlRel2 os ls wO k kk gk v8 v9 v10 wr')
      case atStart => exact ⟨0, by omega, rfl, World.ownsRow_nil _ _ _ _, by rw [Nat.zero_min]; exact World.ownsRow_nil _ _ _ _, (fun g h => by cases h), Below.refl _ _⟩
      case round =>
        obtain ⟨q, hq, rfl, hO, hG, hap, hB⟩ := hrel
        have Hq := Lib.hid hq
        have HO := Lib.hid hO
        have HG := Lib.hid hG
        have HAp := Lib.hid hap
        have HB := Lib.hid hB
        have hz := hB.size
        clear hq hO hG hap hB
        by_cases hlt : q < k
        · have c0 := (HB.out.cell (p := ⟨gv, ov + q, none⟩) hzv).trans (Hcs.out q hlt)
          have c1 := (HB.out.cell (p := ⟨gl, ol + q, none⟩) hzl).trans (Hcl.out q hlt)
          have hu := take_str os q (by rw [Hol.out]; exact hlt)
          have Hu := Lib.hid hu
          have hq9 : q + 1 ≤ 1000000 := by omega
          have hgl250 : (Gv.goneL ls (min q kk)).length ≤ 250 := by
            have : (Gv.goneL ls (min q kk)).length ≤ min q kk := by
              unfold Gv.goneL
              exact Nat.le_trans (List.length_filter_le _ _) (by rw [List.length_range]; exact Nat.le_refl _)
            omega
          have hg9 : (Gv.goneL ls (min q kk)).length + 1 ≤ 1000000 := by omega
          clear hu
          cases hb : Gv.lo ls q with
          | false =>
            rw [hb] at c1
            have ho := Hosn.out q hlt hb
            have hg : Gv.goneL ls (min (q + 1) kk) = Gv.goneL ls (min q kk) := by
              by_cases h : q < kk
              · rw [Nat.min_eq_left (by omega), Nat.min_eq_left (by omega), Gv.gone_succ, hb]; rfl
              · rw [Nat.min_eq_right (by omega), Nat.min_eq_right (by omega)]
            have Hg := Lib.hid hg
            rw [ho] at Hu
            generalize ps.getD q ⟨#[]⟩ = x at *
            clear ho hg hb
            go_wp2_with (at_builtin; refine app1 wO wr (.string x) 9 23 rfl _ _ rfl wO.heap.size Tryz.underlying23 info_strL rfl _ q _ rfl _ rfl rfl HO.out rfl hq9 (by decide) hz HB.out ?_)
            intro v8' w8 hown8 hb8 hgr8 hat8
            rw [Hu.out] at hown8
            have HG8 := Lib.hid (Kept.owns HG.out (Kept.grown hgr8) (fun g hg e => HAp.out g e.symm hg))
            have HAp8 : Hid (∀ g, v8'.ownBlock = some g → u9.ownBlock ≠ some g) := Lib.hid (fun g hg e => by
              rcases hat8 with h | h
              · rw [h] at hg; exact HAp.out g hg e
              · rw [h] at hg
                have h1 := Option.some.inj hg
                have h2 := (HG.out.lt g e).2
                omega)
            have HO8 := Lib.hid hown8
            have HB8 := Lib.hid hb8
            clear hown8 hb8 hgr8 hat8 HO HG HAp HB
            go_wp2_with fail
            go_roundg (gk - 1)
            case measure => have := Hq.out; omega
            case rel => exact ⟨q + 1, by have := Hq.out; omega, by go_num, HO8.out, by rw [Hg.out]; exact HG8.out, HAp8.out, HB8.out⟩
          | true =>
            rw [hb] at c1
            have ho := Hosy.out q hlt hb
            rw [ho] at Hu
            have mk := HMk.out wr
            obtain ⟨wm, hwm⟩ : ∃ wm, wm = wr.alloc (.cells (madeCells #[.int .u8 0] sz) 5) := ⟨_, rfl⟩
            have cv := conv_ownB (wr.alloc (.cells (madeCells #[.int .u8 0] sz) 5)) wr.heap.size _ _ (owns_made sz (by omega) wr)
            have hzr : (⟨(Gv.tab sz (fun _ => 0)).toArray⟩ : ByteArray) = Gv.zer sz := rfl
            have hbm : Below wr.heap.size wr wm := by rw [hwm]; exact (Below.refl _ _).alloc (Nat.le_refl _) _
            rw [hzr] at cv
            rw [← hwm] at mk cv
            have HOm := Lib.hid (owns_below HO.out hbm)
            have HGm := Lib.hid (owns_below HG.out hbm)
            have HBm := Lib.hid (HB.out.trans (hbm.mono HB.out.size))
            have hzm := HBm.out.size
            obtain ⟨zs, hzs⟩ : ∃ zs, zs = Gv.zer sz := ⟨_, rfl⟩
            rw [← hzs] at cv Hu
            clear hwm hbm hzr hzs ho HO HG HB
            go_wp2_with (at_builtin; refine app1 wO wm (.string zs) 9 23 rfl _ _ rfl wO.heap.size Tryz.underlying23 info_strL rfl _ q _ rfl _ rfl rfl HOm.out rfl hq9 (by decide) hzm HBm.out ?_)
            intro v8' w8 hown8 hb8 hgr8 hat8
            rw [Hu.out] at hown8
            have HG8 := Lib.hid (Kept.owns HGm.out (Kept.grown hgr8) (fun g hg e => HAp.out g e.symm hg))
            have HAp8 : Hid (∀ g, v8'.ownBlock = some g → u9.ownBlock ≠ some g) := Lib.hid (fun g hg e => by
              rcases hat8 with h | h
              · rw [h] at hg; exact HAp.out g hg e
              · rw [h] at hg
                have h1 := Option.some.inj hg
                have h2 := (HGm.out.lt g e).2
                omega)
            have HO8 := Lib.hid hown8
            have HB8 := Lib.hid hb8
            have hz8 := hb8.size
            clear hown8 hb8 hgr8 hat8 HOm HGm HAp HBm mk cv
            by_cases hqk : q < kk
            · have hg : Gv.goneL ls (min (q + 1) kk) = Gv.goneL ls (min q kk) ++ [q] := by
                rw [Nat.min_eq_left (by omega), Nat.min_eq_left (by omega), Gv.gone_succ, hb]; rfl
              have Hg := Lib.hid hg
              clear hg hb
              go_wp2_with (at_builtin; refine app1 wO w8 (iv q) 3 30 rfl _ _ rfl wO.heap.size Tryz.underlying30 info_intH rfl _ (Gv.goneL ls (min q kk)).length _ rfl _ rfl rfl HG8.out rfl hg9 (by decide) hz8 HB8.out ?_)
              intro v9' w9 hown9 hb9 hgr9 hat9
              have HO9 := Lib.hid (Kept.owns HO8.out (Kept.grown hgr9) (fun g hg e => HAp8.out g hg e.symm))
              have HAp9 : Hid (∀ g, v8'.ownBlock = some g → v9'.ownBlock ≠ some g) := Lib.hid (fun g hg e => by
                rcases hat9 with h | h
                · rw [h] at e; exact HAp8.out g hg e
                · rw [h] at e
                  have h1 := Option.some.inj e
                  have h2 := (HO8.out.lt g hg).2
                  omega)
              have HG9 : Hid (w9.ownsRow wO.heap.size 3 1 v9' (Gv.goneL ls (min (q + 1) kk)).length ((Gv.goneL ls (min (q + 1) kk)).map (fun j => iv (j : Nat)))) := Lib.hid (by
                rw [Hg.out, List.length_append, List.length_singleton, List.map_append]; exact hown9)
              have HB9 := Lib.hid hb9
              clear hown9 hb9 hgr9 hat9 HO8 HG8 HAp8 HB8
              go_wp2_with fail
              go_roundg (gk - 1)
              case measure => have := Hq.out; omega
              case rel => exact ⟨q + 1, by have := Hq.out; omega, by go_num, HO9.out, HG9.out, HAp9.out, HB9.out⟩
            · have hg : Gv.goneL ls (min (q + 1) kk) = Gv.goneL ls (min q kk) := by
                rw [Nat.min_eq_right (by omega), Nat.min_eq_right (by omega)]
              have Hg := Lib.hid hg
              clear hg hb
              go_wp2_with fail
              go_roundg (gk - 1)
              case measure => have := Hq.out; omega
              case rel => exact ⟨q + 1, by have := Hq.out; omega, by go_num, HO8.out, by rw [Hg.out]; exact HG8.out, HAp8.out, HB8.out⟩
        · have hqn : q = k := by have := Hq.out; omega
          have hmin : min q kk = kk := by omega
          unfold tks at HO
          rw [hqn, List.take_of_length_le (by rw [Hol.out]; exact Nat.le_refl _)] at HO
          rw [hmin] at HG
          obtain ⟨gn, hgn⟩ : ∃ gn, gn = Gv.goneL ls kk := ⟨_, rfl⟩
          rw [← hgn] at HG
          have hgm : ∀ j ∈ gn, j < kk ∧ Gv.lo ls j = true := fun j hj => by rw [hgn] at hj; exact Gv.gone_mem.1 hj
          have hnd : gn.Nodup := by rw [hgn]; exact Gv.gone_nodup _ _
          have hg2 : gn.length ≤ 2 := by rw [hgn]; exact Nat.le_trans (Gv.gone_mono ls (by omega)) H2.out
          have hol := Hol.out
          have hosz := Hosz.out
          obtain ⟨g8, c8, hv8, hgb8, hgs8, hc81, hc82, hcc8, _⟩ := owns_pos HO.out (by omega)
          have HO8 := Lib.hid (OwnR.of_owns HO.out)
          have HR9 := Lib.hid (row_of_owns HG.out).1
          have HAp9 : Hid (∀ g, u9.ownBlock = some g → g ≠ g8) := Lib.hid (fun g hg e => HAp.out g8 (by rw [hv8]; rfl) (by rw [hg, e]))
          obtain ⟨p9, c9, hv9, _⟩ := HR9.out
          rw [List.length_map] at hv9
          subst hv8 hv9
          obtain ⟨gl9, hgl9⟩ : ∃ x, x = gn.length := ⟨_, rfl⟩
          rw [← hgl9] at HR9 HAp9 HG hg2 ⊢
          have Hgl9 := Lib.hid hgl9
          have cell : ∀ j, j < k → wr.cell? ⟨g8, j, none⟩ = some (.string (os.getD j ⟨#[]⟩)) := by
            intro j hj
            rw [hcc8 j hj, List.getElem?_map, List.getElem?_eq_getElem (by omega), List.getD_eq_getElem?_getD, List.getElem?_eq_getElem (by omega)]; rfl
          have k0 := cell kk (by omega)
          have k1 := cell (kk + 1) (by have := Hkn.out; omega)
          have m0 := (HB.out.cell (p := ⟨gl, ol + kk, none⟩) hzl).trans (Hcl.out kk (by omega))
          have hps : (os.getD kk ⟨#[]⟩).size = sz := hosz _ (Gv.getD_mem (by omega))
          have hqs : (os.getD (kk + 1) ⟨#[]⟩).size = sz := hosz _ (Gv.getD_mem (by have := Hkn.out; omega))
          obtain ⟨p0, hp0⟩ : ∃ p0, p0 = os.getD kk ⟨#[]⟩ := ⟨_, rfl⟩
          obtain ⟨q0, hq0⟩ : ∃ q0, q0 = os.getD (kk + 1) ⟨#[]⟩ := ⟨_, rfl⟩
          obtain ⟨b0, hb0⟩ : ∃ b0, b0 = Gv.lo ls kk := ⟨_, rfl⟩
          obtain ⟨b1, hb1⟩ : ∃ b1, b1 = Gv.lo ls (kk + 1) := ⟨_, rfl⟩
          have hb01 : gl9 = 1 → b0 = true → b1 = false := by
            intro h1 h2
            have h := H2.out
            rw [← Hkn.out, Gv.gone_succ, Gv.gone_succ, ← hb0, ← hb1, ← hgn, h2] at h
            rw [hgl9] at h1
            cases hb1' : b1 with
            | false => rfl
            | true =>
              rw [hb1', if_pos rfl, if_pos rfl, List.length_append, List.length_append, h1] at h
              exact absurd h (by simp)
          rw [← hp0] at k0 hps
          rw [← hq0] at k1 hqs
          rw [← hb0] at m0
          have Hp0 := Lib.hid hp0
          have Hq0 := Lib.hid hq0
          have Hb0 := Lib.hid hb0
          have Hb1 := Lib.hid hb1
          have Hgn := Lib.hid hgn
          have Hb01 := Lib.hid hb01
          have Hgm := Lib.hid hgm
          have Hnd := Lib.hid hnd
          obtain ⟨hd, hhd⟩ : ∃ hd, hd = Gv.healed (os.take kk) gn p0 q0 b0 b1 := ⟨_, rfl⟩
          have hdl : hd.length = kk := by rw [hhd, Gv.healed_len, List.length_take]; omega
          have htl : (os.take kk).length = kk := by rw [List.length_take]; omega
          have hts : ∀ s ∈ os.take kk, s.size = sz := fun s hs => hosz s (List.mem_of_mem_take hs)
          have hds : ∀ s ∈ hd, s.size = sz := by rw [hhd]; exact Gv.healed_sz hts (by rw [htl]; exact hk1) _ _ _ _ _
          have hs0 : size0 (os.take kk) = sz := Gv.size0_of hts (by omega)
          have hT : OwnR wr wO.heap.size 9 (.slice (some ⟨g8, 0, none⟩) kk c8) ((os.take kk).map Value.string) := by
            rw [List.map_take]; exact HO8.out.head0 (by rw [List.length_map]; omega)
          have hPQ : ∀ W, Below wr.heap.size wr W → Calls Tryz.prog 49 #[.slice (some ⟨g8, 0, none⟩) kk c8] W (OfPost (os.take kk) W) := fun W hW =>
            rpq_any (os.take kk) (fun s hs => by rw [hs0]; exact hts s hs) (by omega) (by omega) _ W (hT.below hW).row
          have hPs : (Gv.P (os.take kk)).size = sz := by rw [Gv.P_size, hs0]
          have hQs : (Gv.Q (os.take kk)).size = sz := by rw [Gv.Q_size, hs0]
          obtain ⟨P, hP⟩ : ∃ P, P = Gv.P (os.take kk) := ⟨_, rfl⟩
          obtain ⟨Q, hQ⟩ : ∃ Q, Q = Gv.Q (os.take kk) := ⟨_, rfl⟩
          unfold OfPost at hPQ
          rw [← hP, ← hQ] at hPQ
          have HPQ := Lib.hid hPQ
          rw [← hP] at hPs
          rw [← hQ] at hQs
          have HP := Lib.hid hP
          have HQ := Lib.hid hQ
          have Hds := Lib.hid hds
          have Hhd := Lib.hid hhd
          have Hdl := Lib.hid hdl
          have hA : IntKind.i64.wrap ((kk : Int) + 1) = ((kk + 1 : Nat) : Int) := (IntWalk.i64_in _ (by omega)).trans (by omega)
          have hA2 : (kk : Int) + 1 < (k : Int) := by have := Hkn.out; omega
          have hA3 : (0 : Int) ≤ (kk : Int) + 1 := by omega
          have hkI : (kk : Int) < (k : Int) := by omega
          have hkI2 : ((kk + 1 : Nat) : Int) < (k : Int) := by have := Hkn.out; omega
          have hkI3 : (kk : Int) ≤ (c8 : Int) := by omega
          have hqI : ¬ ((q : Int) < (k : Int)) := by omega
          have hgl2 : gl < wr.heap.size := Nat.lt_of_lt_of_le hzl HB.out.size
          obtain ⟨bt, hbt⟩ : ∃ b, b = (decide (gl9 = 1) && !b0) := ⟨_, rfl⟩
          have Hbt := Lib.hid hbt
          clear hcc8 cell hp0 hq0 hb0 hb1 hgn hb01 hgm hnd hhd hdl htl hts hds hs0 hT hP hQ hPQ hbt HO HG HAp hgl9 hol hosz hmin hqn hlt
          go_upto_region 18 with (fail)
          go_cut [85] (fun z wq => z = .bool bt ∧ wr = wq)
          case first => as_aux_lemma =>
            by_cases h1 : gl9 = 1
            · have h2 : bt = !b0 := by rw [Hbt.out, dec_t h1]; rfl
              subst h1 h2
              go_wp2_with fail
              go_meet
              exact ⟨rfl, rfl⟩
            · have h2 : bt = false := by rw [Hbt.out, dec_f h1]; rfl
              have t1 : ((gl9 : Int) == 1) = false := beq_f (by omega)
              subst h2
              go_wp2_with fail
              go_meet
              exact ⟨rfl, rfl⟩
          case rest =>
          obtain ⟨rfl, rfl⟩ := hcut
          go_upto_if 85 with (fail)
          go_cut [] (fun wq => ∃ wk, wk = wq ∧ RHMid wO k kk (.slice (some ⟨g8, 0, none⟩) k c8) hd os wk)
          case first => as_aux_lemma =>
            rcases two_lists gn (by rw [← Hgl9.out]; exact hg2) with hg | ⟨a, hg⟩ | ⟨a, b, hg⟩
            · have h1 : gl9 = 0 := by rw [Hgl9.out, hg]; rfl
              have h2 : bt = false := by rw [Hbt.out, h1]; rfl
              subst h1 h2
              have he : RHMid wO k kk (.slice (some ⟨g8, 0, none⟩) k c8) hd os wr := by
                refine ⟨?_, HB.out⟩
                rw [Hhd.out, hg, show Gv.healed (os.take kk) [] p0 q0 b0 b1 = os.take kk from rfl, List.take_append_drop]
                exact HO8.out
              have He := Lib.hid he
              clear he hg
              go_wp2_with fail
              go_meet
              exact ⟨_, rfl, He.out⟩
            · have h1 : gl9 = 1 := by rw [Hgl9.out, hg]; rfl
              subst h1
              have hak := (Hgm.out a (by rw [hg]; simp)).1
              obtain ⟨g9, o9, c9', hv9, r1, r2, r3⟩ := Row.pos HR9.out (by rw [hg]; simp)
              injection hv9 with e1 e2 e3
              subst e1 e3
              have cg : wr.cell? ⟨g9, o9, none⟩ = some (iv a) := by
                have h := r3 0 (by rw [hg]; simp)
                rw [hg] at h
                simpa using h
              have hg9 := World.block_lt_of_cell? wr _ cg
              have hne : g9 ≠ g8 := HAp9.out g9 rfl
              have haI : (a : Int) < (k : Int) := by omega
              have ha0 : (0 : Int) ≤ (a : Int) := by omega
              have hc9 : c9 ≤ 9223372036854775807 := by unfold maxLen at r2; omega
              have Hg := Lib.hid hg
              clear r1 r2 r3 e2 hg
              cases b0 with
              | false =>
                obtain rfl : bt = true := by rw [Hbt.out]; rfl
                go_wp2_with fail
                refine (HPQ.out wr (Below.refl _ _)).mono ?_
                rintro e w1 ⟨rfl, hb1⟩
                have HO1 := Lib.hid (HO8.out.below hb1)
                have HB1 := Lib.hid (HB.out.trans (hb1.mono HB.out.size))
                have hz1 := HB1.out.size
                have cg1 : w1.cell? ⟨g9, o9, none⟩ = some (iv a) := (hb1.cell (p := ⟨g9, o9, none⟩) hg9).trans cg
                have ck1 : w1.cell? ⟨g8, kk, none⟩ = some (.string p0) := (hb1.cell (p := ⟨g8, kk, none⟩) hgs8).trans k0
                have hg91 := Nat.lt_of_lt_of_le hg9 hb1.size
                have hb1z := hb1.size
                clear hb1 cg k0 k1 m0
                go_wp2_with fail
                have HM := Lib.hid (mix11d_any P p0 (by omega) (by omega) w1)
                have HN := Lib.hid (mix11e_any P p0 (by omega) (by omega) w1)
                have Dg1 := Lib.hid cg1
                have hak2 : a ≠ kk := by omega
                have hak3 : kk ≠ a := by omega
                have Dk1 := Lib.hid ck1
                have hg8x := Nat.lt_of_lt_of_le hgs8 hb1z
                go_region_held3 (fun w' => w'.cell? ⟨g9, o9, none⟩ = some (iv a) ∧ w'.cell? ⟨g8, kk, none⟩ = some (.string p0))
                  (first
                    | exact ⟨cg1, ck1⟩
                    | exact kH
                    | exact kS
                    | go_keep)
                  (first
                    | (go_at_call 67; (first | (with_reducible refine HM.out.mono ?_) | (with_reducible refine HN.out.mono ?_)); rintro e w3 ⟨rfl, hb3⟩; have HO3 := Lib.hid (HO1.out.below hb3); have HB3 := Lib.hid (HB1.out.trans (hb3.mono hz1)); have kH : w3.cell? ⟨g9, o9, none⟩ = some (iv a) ∧ w3.cell? ⟨g8, kk, none⟩ = some (.string p0) := ⟨(hb3.cell (p := ⟨g9, o9, none⟩) hg91).trans Dg1.out, (hb3.cell (p := ⟨g8, kk, none⟩) hg8x).trans Dk1.out⟩; obtain ⟨⟨s0, ca⟩, fa⟩ := own_at HO3.out (j := a) (by rw [Hol.out]; omega); have kS : (w3.setCell ⟨g8, a, none⟩ (.string (Gv.plusS P p0))).cell? ⟨g9, o9, none⟩ = some (iv a) ∧ (w3.setCell ⟨g8, a, none⟩ (.string (Gv.plusS P p0))).cell? ⟨g8, kk, none⟩ = some (.string p0) := ⟨((Kept.self g8 w3).set1 a (.string (Gv.plusS P p0))).cell kH.1 hne, set_other kH.2 hak2⟩; clear hb3))
                all_goals
                  clear HM
                  go_wp2_with fail
                  go_meet
                  refine ⟨_, rfl, ?_, HB3.out.setCell (p := ⟨g8, a, none⟩) hgb8 _⟩
                  have h := HO3.out.setStr (k := a) (by rw [Hol.out]; omega) (Gv.plusS P p0)
                  rw [Nat.zero_add] at h
                  rw [Hhd.out, Hg.out, show Gv.healed (os.take kk) [a] p0 q0 false b1 = (os.take kk).set a (Gv.plusS P p0) from (by rw [HP.out]; rfl), set_take _ _ _ _ hak]
                  exact h
              | true =>
                obtain rfl : bt = false := by rw [Hbt.out]; rfl
                obtain rfl : b1 = false := Hb01.out rfl rfl
                go_wp2_with fail
                refine (HPQ.out wr (Below.refl _ _)).mono ?_
                rintro e w1 ⟨rfl, hb1⟩
                have HO1 := Lib.hid (HO8.out.below hb1)
                have HB1 := Lib.hid (HB.out.trans (hb1.mono HB.out.size))
                have hz1 := HB1.out.size
                have cg1 : w1.cell? ⟨g9, o9, none⟩ = some (iv a) := (hb1.cell (p := ⟨g9, o9, none⟩) hg9).trans cg
                have ck1 : w1.cell? ⟨g8, kk + 1, none⟩ = some (.string q0) := (hb1.cell (p := ⟨g8, kk + 1, none⟩) hgs8).trans k1
                have hg91 := Nat.lt_of_lt_of_le hg9 hb1.size
                have hb1z := hb1.size
                have HPw := Lib.hid (rpow_any 2 a _ _ rfl rfl (by omega) w1)
                clear hb1 cg k0 k1 m0
                go_wp2_with fail
                refine HPw.out.mono ?_
                rintro e w' ⟨rfl, n1, rfl⟩
                obtain ⟨wa, hwa⟩ : ∃ wa, wa = w1.drewN n1 := ⟨_, rfl⟩
                rw [← hwa]
                have Hwa := Lib.hid hwa
                clear hwa
                have HIn := Lib.hid (rinv_any (Gf.pow 2 a) (Gf.pow_two_ne a) _ rfl wa)
                go_wp2_with fail
                refine HIn.out.mono ?_
                rintro e w' ⟨rfl, n2, rfl⟩
                obtain ⟨wb, hwb⟩ : ∃ wb, wb = wa.drewN n2 := ⟨_, rfl⟩
                rw [← hwb]
                have hbb : Below w1.heap.size w1 wb := by rw [hwb, Hwa.out]; exact bdrew (bdrew (Below.refl _ _) _) _
                obtain ⟨c, hc⟩ : ∃ c, c = Gf.inv (Gf.pow 2 a) := ⟨_, rfl⟩
                rw [← hc]
                have Hc := Lib.hid hc
                have HOb := Lib.hid (HO1.out.below hbb)
                have HBb := Lib.hid (HB1.out.trans (hbb.mono hz1))
                have hzb := HBb.out.size
                have cgb : wb.cell? ⟨g9, o9, none⟩ = some (iv a) := by rw [hwb, Hwa.out]; simpa using cg1
                have ckb : wb.cell? ⟨g8, kk + 1, none⟩ = some (.string q0) := by rw [hwb, Hwa.out]; simpa using ck1
                have hg9b : g9 < wb.heap.size := Nat.lt_of_lt_of_le hg91 hbb.size
                have hbbz := Nat.le_trans hb1z hbb.size
                clear Hwa hwb hbb hc HPw HIn HO1 HB1 cg1 ck1
                go_wp2_with fail
                have HM := Lib.hid (mix2d_any Q q0 c c (by omega) (by omega) wb)
                have HN := Lib.hid (mix2e_any Q q0 c c (by omega) (by omega) wb)
                unfold Mix2Post at HM HN
                rw [Gv.mix_cc] at HM HN
                have Dg1 := Lib.hid cgb
                have hak2 : a ≠ (kk + 1) := by omega
                have hak3 : (kk + 1) ≠ a := by omega
                have Dk1 := Lib.hid ckb
                have hg8x := Nat.lt_of_lt_of_le hgs8 hbbz
                go_region_held3 (fun w' => w'.cell? ⟨g9, o9, none⟩ = some (iv a) ∧ w'.cell? ⟨g8, kk + 1, none⟩ = some (.string q0))
                  (first
                    | exact ⟨cgb, ckb⟩
                    | exact kH
                    | exact kS
                    | go_keep)
                  (first
                    | (go_at_call 67; (first | (with_reducible refine HM.out.mono ?_) | (with_reducible refine HN.out.mono ?_)); rintro e w3 ⟨rfl, hb3⟩; have HO3 := Lib.hid (HOb.out.below hb3); have HB3 := Lib.hid (HBb.out.trans (hb3.mono hzb)); have kH : w3.cell? ⟨g9, o9, none⟩ = some (iv a) ∧ w3.cell? ⟨g8, kk + 1, none⟩ = some (.string q0) := ⟨(hb3.cell (p := ⟨g9, o9, none⟩) hg9b).trans Dg1.out, (hb3.cell (p := ⟨g8, kk + 1, none⟩) hg8x).trans Dk1.out⟩; obtain ⟨⟨s0, ca⟩, fa⟩ := own_at HO3.out (j := a) (by rw [Hol.out]; omega); have kS : (w3.setCell ⟨g8, a, none⟩ (.string (Gv.timesS (Gv.plusS Q q0) c))).cell? ⟨g9, o9, none⟩ = some (iv a) ∧ (w3.setCell ⟨g8, a, none⟩ (.string (Gv.timesS (Gv.plusS Q q0) c))).cell? ⟨g8, kk + 1, none⟩ = some (.string q0) := ⟨((Kept.self g8 w3).set1 a (.string (Gv.timesS (Gv.plusS Q q0) c))).cell kH.1 hne, set_other kH.2 hak2⟩; clear hb3))
                all_goals
                  clear HM
                  go_wp2_with fail
                  go_meet
                  refine ⟨_, rfl, ?_, HB3.out.setCell (p := ⟨g8, a, none⟩) hgb8 _⟩
                  have h := HO3.out.setStr (k := a) (by rw [Hol.out]; omega) (Gv.timesS (Gv.plusS Q q0) c)
                  rw [Nat.zero_add] at h
                  rw [Hhd.out, Hg.out, show Gv.healed (os.take kk) [a] p0 q0 true false = (os.take kk).set a (Gv.timesS (Gv.plusS Q q0) c) from (by rw [HQ.out, Hc.out]; rfl), set_take _ _ _ _ hak]
                  exact h
            · have h1 : gl9 = 2 := by rw [Hgl9.out, hg]; rfl
              subst h1
              obtain rfl : bt = false := by rw [Hbt.out]; rfl
              have hak := (Hgm.out a (by rw [hg]; simp)).1
              have hbk := (Hgm.out b (by rw [hg]; simp)).1
              have hab : a ≠ b := by have h := Hnd.out; rw [hg] at h; simp at h; exact h
              obtain ⟨g9, o9, c9', hv9, r1, r2, r3⟩ := Row.pos HR9.out (by rw [hg]; simp)
              injection hv9 with e1 e2 e3
              subst e1 e3
              have cg : wr.cell? ⟨g9, o9, none⟩ = some (iv a) := by
                have h := r3 0 (by rw [hg]; simp)
                rw [hg] at h
                simpa using h
              have cgB : wr.cell? ⟨g9, o9 + 1, none⟩ = some (iv b) := by
                have h := r3 1 (by rw [hg]; simp)
                rw [hg] at h
                simpa using h
              have hg9 := World.block_lt_of_cell? wr _ cg
              have hne : g9 ≠ g8 := HAp9.out g9 rfl
              have haI : (a : Int) < (k : Int) := by omega
              have ha0 : (0 : Int) ≤ (a : Int) := by omega
              have hbI : (b : Int) < (k : Int) := by omega
              have hb0 : (0 : Int) ≤ (b : Int) := by omega
              have Hg := Lib.hid hg
              clear r1 r2 r3 e2 hg
              have HPw := Lib.hid (rpow_any 2 a _ _ rfl rfl (by omega) wr)
              go_wp2_with fail
              refine HPw.out.mono ?_
              rintro e w' ⟨rfl, n1, rfl⟩
              obtain ⟨wa, hwa⟩ : ∃ wa, wa = wr.drewN n1 := ⟨_, rfl⟩
              rw [← hwa]
              have Hwa := Lib.hid hwa
              have cga : wa.cell? ⟨g9, o9 + 1, none⟩ = some (iv b) := by rw [hwa]; simpa using cgB
              clear hwa
              have HPv := Lib.hid (rpow_any 2 b _ _ rfl rfl (by omega) wa)
              go_wp2_with fail
              refine HPv.out.mono ?_
              rintro e w' ⟨rfl, n2, rfl⟩
              obtain ⟨wb, hwb⟩ : ∃ wb, wb = wa.drewN n2 := ⟨_, rfl⟩
              rw [← hwb]
              have hbb : Below wr.heap.size wr wb := by rw [hwb, Hwa.out]; exact bdrew (bdrew (Below.refl _ _) _) _
              have HOb := Lib.hid (HO8.out.below hbb)
              have HBb := Lib.hid (HB.out.trans (hbb.mono HB.out.size))
              have hzb := HBb.out.size
              have HPb := Lib.hid (HPQ.out wb hbb)
              have dgA : wb.cell? ⟨g9, o9, none⟩ = some (iv a) := by rw [hwb, Hwa.out]; simpa using cg
              have dgB : wb.cell? ⟨g9, o9 + 1, none⟩ = some (iv b) := by rw [hwb, Hwa.out]; simpa using cgB
              have dk0 : wb.cell? ⟨g8, kk, none⟩ = some (.string p0) := by rw [hwb, Hwa.out]; simpa using k0
              have dk1 : wb.cell? ⟨g8, kk + 1, none⟩ = some (.string q0) := by rw [hwb, Hwa.out]; simpa using k1
              have hg9b := Nat.lt_of_lt_of_le hg9 hbb.size
              have hg8b := Nat.lt_of_lt_of_le hgs8 hbb.size
              obtain ⟨A, hA'⟩ : ∃ A, A = Gf.pow 2 a := ⟨_, rfl⟩
              obtain ⟨B, hB'⟩ : ∃ B, B = Gf.pow 2 b := ⟨_, rfl⟩
              have hABn : Gf.add A B ≠ 0 := by rw [hA', hB']; exact Gv.pow_ne (by omega) (by omega) hab
              rw [← hA', ← hB']
              have HA' := Lib.hid hA'
              have HB' := Lib.hid hB'
              clear Hwa hwb hbb cga cg cgB k0 k1 m0 HPw HPv hA' hB'
              go_wp2_with fail
              refine HPb.out.mono ?_
              rintro e w1 ⟨rfl, hb1⟩
              have HO1 := Lib.hid (HOb.out.below hb1)
              have HB1 := Lib.hid (HBb.out.trans (hb1.mono hzb))
              have hz1 := HB1.out.size
              have cg0 : w1.cell? ⟨g9, o9, none⟩ = some (iv a) := (hb1.cell (p := ⟨g9, o9, none⟩) hg9b).trans dgA
              have cg1 : w1.cell? ⟨g9, o9 + 1, none⟩ = some (iv b) := (hb1.cell (p := ⟨g9, o9 + 1, none⟩) hg9b).trans dgB
              have ck0 : w1.cell? ⟨g8, kk, none⟩ = some (.string p0) := (hb1.cell (p := ⟨g8, kk, none⟩) hg8b).trans dk0
              have ck1 : w1.cell? ⟨g8, kk + 1, none⟩ = some (.string q0) := (hb1.cell (p := ⟨g8, kk + 1, none⟩) hg8b).trans dk1
              have hg91 := Nat.lt_of_lt_of_le hg9b hb1.size
              have hg81 := Nat.lt_of_lt_of_le hg8b hb1.size
              have HM := Lib.hid (mix11_any P p0 (by omega) (by omega) w1)
              clear hb1 dgA dgB dk0 dk1 HOb HBb HPb
              go_wp2_with fail
              refine HM.out.mono ?_
              rintro e w2 ⟨rfl, hb2⟩
              have HO2 := Lib.hid (HO1.out.below hb2)
              have HB2 := Lib.hid (HB1.out.trans (hb2.mono hz1))
              have hz2 := HB2.out.size
              have dg0 : w2.cell? ⟨g9, o9, none⟩ = some (iv a) := (hb2.cell (p := ⟨g9, o9, none⟩) hg91).trans cg0
              have dg1 : w2.cell? ⟨g9, o9 + 1, none⟩ = some (iv b) := (hb2.cell (p := ⟨g9, o9 + 1, none⟩) hg91).trans cg1
              have dk1 : w2.cell? ⟨g8, kk + 1, none⟩ = some (.string q0) := (hb2.cell (p := ⟨g8, kk + 1, none⟩) hg81).trans ck1
              have hg92 := Nat.lt_of_lt_of_le hg91 hb2.size
              obtain ⟨s, hs⟩ : ∃ s, s = Gv.plusS P p0 := ⟨_, rfl⟩
              have hss : s.size = sz := by rw [hs, Gv.plus_size]; exact hPs
              rw [← hs]
              have Hs := Lib.hid hs
              have HM2 := Lib.hid (mix11_any Q q0 (by omega) (by omega) w2)
              clear hb2 cg0 cg1 ck0 ck1 HO1 HB1 HM hs
              go_wp2_with fail
              refine HM2.out.mono ?_
              rintro e w3 ⟨rfl, hb3⟩
              have HO3 := Lib.hid (HO2.out.below hb3)
              have HB3 := Lib.hid (HB2.out.trans (hb3.mono hz2))
              have hz3 := HB3.out.size
              have cg0 : w3.cell? ⟨g9, o9, none⟩ = some (iv a) := (hb3.cell (p := ⟨g9, o9, none⟩) hg92).trans dg0
              have cg1 : w3.cell? ⟨g9, o9 + 1, none⟩ = some (iv b) := (hb3.cell (p := ⟨g9, o9 + 1, none⟩) hg92).trans dg1
              have hg93 := Nat.lt_of_lt_of_le hg92 hb3.size
              obtain ⟨t, ht⟩ : ∃ t, t = Gv.plusS Q q0 := ⟨_, rfl⟩
              have hts : t.size = sz := by rw [ht, Gv.plus_size]; exact hQs
              rw [← ht]
              have Ht := Lib.hid ht
              have HPl := Lib.hid (rplus_any A B _ _ rfl rfl w3)
              clear hb3 dg0 dg1 dk1 HO2 HB2 HM2 ht
              go_wp2_with fail
              refine HPl.out.mono ?_
              rintro e w' ⟨rfl, n3, rfl⟩
              obtain ⟨wc, hwc⟩ : ∃ wc, wc = w3.drewN n3 := ⟨_, rfl⟩
              rw [← hwc]
              have Hwc := Lib.hid hwc
              clear hwc
              have HIn := Lib.hid (rinv_any (Gf.add A B) hABn _ rfl wc)
              go_wp2_with fail
              refine HIn.out.mono ?_
              rintro e w' ⟨rfl, n4, rfl⟩
              obtain ⟨wd, hwd⟩ : ∃ wd, wd = wc.drewN n4 := ⟨_, rfl⟩
              rw [← hwd]
              have hbd : Below w3.heap.size w3 wd := by rw [hwd, Hwc.out]; exact bdrew (bdrew (Below.refl _ _) _) _
              obtain ⟨c, hc⟩ : ∃ c, c = Gf.inv (Gf.add A B) := ⟨_, rfl⟩
              have hcc : Gf.mul c (A ^^^ B) = 1 := by rw [hc]; exact Gf.inv_mul hABn
              rw [← hc]
              have Hc := Lib.hid hc
              have Hcc := Lib.hid hcc
              have HOd := Lib.hid (HO3.out.below hbd)
              have HBd := Lib.hid (HB3.out.trans (hbd.mono hz3))
              have hzd := HBd.out.size
              have dg0 : wd.cell? ⟨g9, o9, none⟩ = some (iv a) := (hbd.cell (p := ⟨g9, o9, none⟩) hg93).trans cg0
              have dg1 : wd.cell? ⟨g9, o9 + 1, none⟩ = some (iv b) := (hbd.cell (p := ⟨g9, o9 + 1, none⟩) hg93).trans cg1
              have hg9d := Nat.lt_of_lt_of_le hg93 hbd.size
              have HMu := Lib.hid (rmul_any A c _ _ rfl rfl (wd.alloc (.cells #[.string s, .string t] 9)))
              clear Hwc hwd hbd hc hcc cg0 cg1 HPl HIn HO3 HB3
              go_wp2_with fail
              refine HMu.out.mono ?_
              rintro e w' ⟨rfl, n5, rfl⟩
              have HM5 := Lib.hid (mix2n_any s t (Gf.mul A c) c (by omega) (by omega) wd n5)
              clear HMu
              go_wp2_with fail
              refine HM5.out.mono ?_
              rintro e w5 ⟨rfl, hb5⟩
              have HO5 := Lib.hid (HOd.out.below hb5)
              have HB5 := Lib.hid (HBd.out.trans (hb5.mono hzd))
              have hz5 := HB5.out.size
              have cg0 : w5.cell? ⟨g9, o9, none⟩ = some (iv a) := (hb5.cell (p := ⟨g9, o9, none⟩) hg9d).trans dg0
              have cg1 : w5.cell? ⟨g9, o9 + 1, none⟩ = some (iv b) := (hb5.cell (p := ⟨g9, o9 + 1, none⟩) hg9d).trans dg1
              have hg95 := Nat.lt_of_lt_of_le hg9d hb5.size
              obtain ⟨y2, hy2⟩ : ∃ y, y = Gv.sumS [s, t] (Gv.at' [Gf.mul A c, c]) := ⟨_, rfl⟩
              have hys : y2.size = sz := by rw [hy2, Gv.mix_size]; exact hss
              rw [← hy2]
              have Hy2 := Lib.hid hy2
              have HM6 := Lib.hid (mix11_any s y2 (by omega) (by omega) w5)
              clear hb5 dg0 dg1 HOd HBd HM5 hy2
              go_wp2_with fail
              refine HM6.out.mono ?_
              rintro e w6 ⟨rfl, hb6⟩
              have HO6 := Lib.hid (HO5.out.below hb6)
              have HB6 := Lib.hid (HB5.out.trans (hb6.mono hz5))
              have dg0 : w6.cell? ⟨g9, o9, none⟩ = some (iv a) := (hb6.cell (p := ⟨g9, o9, none⟩) hg95).trans cg0
              have dg1 : w6.cell? ⟨g9, o9 + 1, none⟩ = some (iv b) := (hb6.cell (p := ⟨g9, o9 + 1, none⟩) hg95).trans cg1
              obtain ⟨y1, hy1⟩ : ∃ y, y = Gv.plusS s y2 := ⟨_, rfl⟩
              rw [← hy1]
              have Hy1 := Lib.hid hy1
              obtain ⟨⟨s0, ca⟩, fa⟩ := own_at HO6.out (j := a) (by rw [Hol.out]; omega)
              have h7 := HO6.out.setStr (k := a) (by rw [Hol.out]; omega) y1
              rw [Nat.zero_add] at h7
              obtain ⟨⟨s1, cb⟩, fb⟩ := own_at h7 (j := b) (by rw [List.length_set, Hol.out]; omega)
              have H7 := Lib.hid h7
              have dgB : (w6.setCell ⟨g8, a, none⟩ (.string y1)).cell? ⟨g9, o9 + 1, none⟩ = some (iv b) := by
                have h := (Kept.self g8 w6).set1 a (.string y1)
                exact h.cell dg1 hne
              clear hb6 cg0 cg1 HO5 HB5 HM6 hy1 h7
              go_wp2_with fail
              go_meet
              refine ⟨_, rfl, ?_, (HB6.out.setCell (p := ⟨g8, a, none⟩) hgb8 _).setCell (p := ⟨g8, b, none⟩) hgb8 _⟩
              have h := H7.out.setStr (k := b) (by rw [List.length_set, Hol.out]; omega) y2
              rw [Nat.zero_add] at h
              have e1 : y1 = Gv.timesS (Gv.plusS (Gv.timesS s B) t) c := by rw [Hy1.out, Hy2.out]; exact Gv.two_first s t A B c Hcc.out
              have e2 : y2 = Gv.plusS s y1 := by rw [Hy1.out, Hy2.out]; exact (Gv.two_second s t _ _).symm
              have e3 : Gv.healed (os.take kk) [a, b] p0 q0 b0 b1 = ((os.take kk).set a y1).set b y2 := by
                rw [e2]
                rw [e1, Hc.out, HA'.out, HB'.out, Hs.out, Ht.out, HP.out, HQ.out]; rfl
              have e4 : ((os.take kk).set a y1).set b y2 ++ os.drop kk = (os.set a y1).set b y2 := by
                have h1 := set_take (os.set a y1) kk b y2 hbk
                rw [List.take_set, List.drop_set] at h1
                rw [if_pos (by omega)] at h1
                exact h1
              rw [Hhd.out, Hg.out, e3, e4]
              exact h
          case rest =>
          obtain ⟨wH, rfl, hOH, hBH⟩ := hcut
          have HOH := Lib.hid hOH
          have HBH := Lib.hid hBH
          have hT : OwnR wH wO.heap.size 9 (.slice (some ⟨g8, 0, none⟩) kk c8) (hd.map Value.string) := by
            have h := HOH.out.head0 (k := kk) (by rw [List.length_map, List.length_append, Hdl.out]; omega)
            rw [← List.map_take, List.take_append_of_le_length (by rw [Hdl.out]; exact Nat.le_refl _), List.take_of_length_le (by rw [Hdl.out]; exact Nat.le_refl _)] at h
            exact h
          have hs0 : size0 hd = sz := Gv.size0_of Hds.out (by rw [Hdl.out]; exact hk1)
          have HOf := Lib.hid (rpq_any hd (fun s hs => by rw [hs0]; exact Hds.out s hs) (by omega) (by rw [Hdl.out]; omega) _ wH hT.row)
          unfold OfPost at HOf
          clear hT hs0 k0 k1 m0 hOH hBH HPQ
          go_wp2_with fail
          refine HOf.out.mono ?_
          rintro e wF ⟨rfl, hbF⟩
          have HOF := Lib.hid (HOH.out.below hbF)
          have HBF := Lib.hid (HBH.out.trans (hbF.mono HBH.out.size))
          have hlF : (hd ++ os.drop kk).length = k := by rw [List.length_append, List.length_drop, Hdl.out, Hol.out]; have := Hkn.out; omega
          obtain ⟨gx, ox, cx, hvx, _, hgx9, _, _, hcx, hfx⟩ := HOF.out.at0 (by rw [List.length_map]; omega)
          injection hvx with e1 e2 e3
          injection e1 with e1
          injection e1 with e4 e5
          subst e4 e5
          have cell : ∀ j, j < k → ∃ s0 : ByteArray, wF.cell? ⟨g8, j, none⟩ = some (.string s0) := by
            intro j hj
            have h := hcx j (by rw [List.length_map]; omega)
            rw [Nat.zero_add] at h
            exact ⟨(hd ++ os.drop kk)[j], by rw [h, List.getElem?_map, List.getElem?_eq_getElem (by omega)]; rfl⟩
          obtain ⟨s0, ck0⟩ := cell kk (by omega)
          obtain ⟨s1, ck1⟩ := cell (kk + 1) (by have := Hkn.out; omega)
          have fk0 := hfx kk
          have fk1 := hfx (kk + 1)
          obtain ⟨Ps, hPs2⟩ : ∃ Ps, Ps = Gv.P hd := ⟨_, rfl⟩
          obtain ⟨Qs, hQs2⟩ : ∃ Qs, Qs = Gv.Q hd := ⟨_, rfl⟩
          rw [← hPs2, ← hQs2]
          have HPs := Lib.hid hPs2
          have HQs := Lib.hid hQs2
          clear hbF HOf HOH HBH hcx hfx cell e2 e3 hPs2 hQs2
          go_wp2_with fail
          go_ret
          refine ⟨_, rfl, ?_, (HBF.out.setCell (p := ⟨g8, kk, none⟩) hgb8 _).setCell (p := ⟨g8, kk + 1, none⟩) hgb8 _⟩
          have h1 := HOF.out.setStr (k := kk) (by rw [hlF]; omega) Ps
          rw [Nat.zero_add] at h1
          have h2 := h1.setStr (k := kk + 1) (by rw [List.length_set, hlF]; have := Hkn.out; omega) Qs
          rw [Nat.zero_add, ends_set Hdl.out Hol.out Hkn.out] at h2
          have he : Gv.heal ps ls = hd ++ [Ps, Qs] := by
            rw [HPs.out, HQs.out]
            have hl9 : Gv.lastSz ps ls ps.length = sz := by rw [← Hn.out]; exact Hls.out
            have hk9 : ps.length - 2 = kk := by rw [← Hn.out]; have := Hkn.out; omega
            unfold Gv.heal
            simp only [hl9, hk9]
            rw [← Hn.out, ← Hos.out, ← Hgn.out, ← Hp0.out, ← Hq0.out, ← Hb0.out, ← Hb1.out, ← Hhd.out]
          rw [he]
          exact h2
end Go.Proofs.YtneebcniofolmaaGreatDoor
