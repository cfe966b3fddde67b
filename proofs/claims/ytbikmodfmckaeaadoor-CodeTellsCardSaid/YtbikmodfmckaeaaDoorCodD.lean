/- The walk of the library's slices.Clone at lists of strings. · The walks of code.encode, Encode. · The walk of code.Decode; code.Encode at whatever numbers. -/
import Derived.Test.YtbikmodfmckaeaaDoorBase
import Derived.Test.YtbikmodfmckaeaaDoorCodE
namespace Go.Proofs.YtbikmodfmckaeaaDoor
open Go.ChangeShapes Go.WideShapes Go.ChangeAt Go.RowKit
set_option linter.unusedVariables false
theorem info_strS : (Tryd.prog.info? 9).map (fun i => (i.zero, i.size, i.bytes)) = some (some (.string ⟨#[]⟩), 1, 16) := by kernel_rfl
def ClonePostS (xs : List Value) (w : World) (e : Ending) (w' : World) : Prop :=
  ∃ v, e = .returned v ∧ w'.ownsRow w.heap.size 9 1 v xs.length xs ∧ Below w.heap.size w w'
set_option maxRecDepth 100000 in
theorem clone_str (xs : List Value) (h1 : ∀ u ∈ xs, u.oneCell' = true) (hs : xs.length ≤ 1000000) (v : Value) (w : World) (hv : Row w v xs) :
    Calls Tryd.prog 101 #[v] w (ClonePostS xs w) := by
  obtain ⟨i0, hi, hz0, hz1, hz2⟩ := info_parts info_strS
  have q22 : ∀ (w : World) (a : Option Addr) (n c n' c' : Nat), (binOp .eql 65 (.slice a n c) (.slice none n' c')).run Tryd.prog w = .ok (.bool a.isNone) w := fun w a n c n' c' => Lib.run_eql_slice_nil w _ _ a n c n' c' Tryd.underlying65
  obtain ⟨p, cap, rfl, h2, h3, h0, h4⟩ := hv
  cases p with
  | none =>
    obtain rfl : cap = 0 := h0 rfl
    obtain rfl : xs = [] := List.eq_nil_of_length_eq_zero (by omega)
    clear h0 h4
    go_enter Tryd.func101, Tryd.ntmps101
    go_wp2
    go_ret
    exact ⟨_, rfl, World.ownsRow_nil _ _ _ _, Below.refl _ _⟩
  | some ad =>
    have H4 := Lib.hid h4
    clear h4 h0
    go_enter Tryd.func101, Tryd.ntmps101
    go_wp2_with (at_builtin; refine wpList_append_own _ rfl _ _ 65 rfl w.heap.size 9 i0 (.string ⟨#[]⟩) 1 16 Tryd.underlying65 hi hz0 hz1 hz2 rfl (by decide) _ _ _ rfl (World.ownsRow_made w #[] 0 (Nat.le_refl _) (Nat.zero_le _) rfl) ad xs.length cap xs rfl ?qc1 ?qc2 ?qc3 ?qc4 ?qc5 ?qc6 ?_)
    case qc1 => simp
    case qc2 =>
      intro j u hj
      have hjn := (List.getElem?_eq_some_iff.1 hj).1
      obtain ⟨g, off, hp, h4⟩ := H4.out (by omega)
      injection hp with hp
      rw [hp, Addr.add_lit]
      have h := h4 j hjn
      rw [hj] at h
      exact ((Below.refl w.heap.size w).alloc (Nat.le_refl _) _).cell (World.block_lt_of_cell? w _ h) |>.trans h
    case qc3 => exact h1
    case qc4 => unfold maxLen; omega
    case qc5 => omega
    case qc6 => simp
    intro v' w1 hown hgrow _
    have Hown := Lib.hid hown
    clear hown
    go_wp2
    go_ret
    refine ⟨v', rfl, ?_, ?_⟩
    · exact Hown.out
    · exact ((Below.refl _ w).alloc (Nat.le_refl _) _).grown hgrow (by simp) (by intro k hk; simp [Value.ownBlock] at hk; omega)
end Go.Proofs.YtbikmodfmckaeaaDoor
namespace Go.Proofs.YtbikmodfmckaeaaDoor
open Go.ChangeShapes Go.WideShapes Go.ChangeAt Go.RowKit
set_option linter.unusedVariables false
/-- part i of a code of k blocks -/
def cPart (k : Nat) (ls : List ByteArray) (i : Nat) : ByteArray := Gv.sumS ls (cG k i)
theorem sumS_ext {ls : List ByteArray} {t u : Nat → UInt8} (h : ∀ i, i < ls.length → t i = u i) : Gv.sumS ls t = Gv.sumS ls u := Gv.sumS_congr h
/-- the parity -/
def encR (k m : Nat) (ls : List ByteArray) : List ByteArray := (List.range m).map (fun q => cPart k ls (k + q))
theorem encR_len (k m : Nat) (ls : List ByteArray) : (encR k m ls).length = m := by unfold encR; simp
theorem encR_get {k m q : Nat} (ls : List ByteArray) (h : q < m) : (encR k m ls)[q]? = some (cPart k ls (k + q)) := by unfold encR; rw [List.getElem?_map, List.getElem?_range h]; rfl
def esv (k : Nat) (ls : List ByteArray) (q : Nat) : List Value := (List.range q).map (fun i => .string (cPart k ls (k + i)))
theorem esv_succ (k : Nat) (ls : List ByteArray) (q : Nat) : esv k ls q ++ [.string (cPart k ls (k + q))] = esv k ls (q + 1) := by unfold esv; rw [List.range_succ, List.map_append]; rfl
theorem esv_enc (k m : Nat) (ls : List ByteArray) : esv k ls m = (encR k m ls).map Value.string := by unfold esv encR; rw [List.map_map]; rfl
def EnRel (k m : Nat) (ls : List ByteArray) (w w1 : World) (gk : Nat) (v7 idx : Value) (wr : World) : Prop :=
  ∃ q : Nat, q + gk = m ∧ idx = iv q ∧ wr.ownsRow w1.heap.size 9 1 v7 q (esv k ls q) ∧ Below w1.heap.size w1 wr
def EnPost (ls : List ByteArray) (w : World) (e : Ending) (w' : World) : Prop := ∃ v, e = .returned v ∧ OwnR w' w.heap.size 9 v (ls.map Value.string) ∧ Below w.heap.size w w'
set_option maxRecDepth 100000 in
set_option maxHeartbeats 2000000 in
theorem cencode_any (k m : Nat) (h1 : 1 ≤ k) (h2 : k + m ≤ 12) (ls : List ByteArray) (hl : ls.length = k) (hall : ∀ s ∈ ls, s.size = size0 ls) (hn : size0 ls ≤ 16) (v : Value) (w : World) (hv : Strs w v ls) :
    Calls Tryd.prog 79 #[iv k, iv m, v] w (EnPost (encR k m ls) w) := by
  have HV := Lib.hid hv
  obtain ⟨p, cap, rfl, hl9, _⟩ := hv.get
  have Hl := Lib.hid hl
  have Hlen := Lib.hid hl
  have Hall := Lib.hid hall
  have HR := Lib.hid (rows_any k m h1 h2 w)
  unfold CaPost at HR
  obtain ⟨n9, hln⟩ : ∃ n, n = ls.length := ⟨_, rfl⟩
  rw [← hln] at HV hl9 ⊢
  clear hv hall hl hln Hl
  go_enter Tryd.func79, Tryd.ntmps79
  go_wp2_with fail
  refine HR.out.mono ?_
  rintro e w1 ⟨v1, rfl, hM, hb1⟩
  have HM := Lib.hid hM
  have HB1 := Lib.hid hb1
  have hz1 := hb1.size
  obtain ⟨p1, c1, rfl, hc1, hc2, h0⟩ := hM.shape
  rw [lt_len] at hc1 HM h0 ⊢
  obtain ⟨g, o, p0, c0, rfl, _, _⟩ := h0 (by omega)
  unfold maxLen at hc2
  clear hM hb1 HR
  by_cases hm : m = 0
  · subst hm
    have HE : Hid (encR k 0 ls = []) := Lib.hid rfl
    by_cases hck : c1 = k
    · subst hck
      go_wp2_with fail
      go_loopg [7, 9, 16] 0 (fun gk v7 v9 v16 wr => EnRel c1 0 ls w w1 gk v7 v16 wr)
      case atStart => exact ⟨0, by omega, rfl, World.ownsRow_nil _ _ _ _, Below.refl _ _⟩
      case round =>
        obtain ⟨q, hq, rfl, hO, hB⟩ := hrel
        obtain rfl : q = 0 := by omega
        have HO := Lib.hid (OwnR.mono (OwnR.of_owns hO) hz1)
        have HB := Lib.hid (HB1.out.trans (hB.mono hz1))
        clear hq hO hB
        go_wp2_with fail
        go_ret
        exact ⟨_, rfl, HO.out, HB.out⟩
    · go_wp2_with fail
      go_loopg [7, 9, 16] 0 (fun gk v7 v9 v16 wr => EnRel k 0 ls w w1 gk v7 v16 wr)
      case atStart => exact ⟨0, by omega, rfl, World.ownsRow_nil _ _ _ _, Below.refl _ _⟩
      case round =>
        obtain ⟨q, hq, rfl, hO, hB⟩ := hrel
        obtain rfl : q = 0 := by omega
        have HO := Lib.hid (OwnR.mono (OwnR.of_owns hO) hz1)
        have HB := Lib.hid (HB1.out.trans (hB.mono hz1))
        clear hq hO hB
        go_wp2_with fail
        go_ret
        exact ⟨_, rfl, HO.out, HB.out⟩
  · have hck : ¬ c1 = k := by omega
    have hkm : k + m - k = m := by omega
    go_wp2_with fail
    go_loopg [7, 9, 16] m (fun gk v7 v9 v16 wr => EnRel k m ls w w1 gk v7 v16 wr)
    case atStart => exact ⟨0, by omega, rfl, World.ownsRow_nil _ _ _ _, Below.refl _ _⟩
    case round =>
      obtain ⟨q, hq, rfl, hO, hB⟩ := hrel
      have Hq := Lib.hid hq
      have HO := Lib.hid hO
      have HBq := Lib.hid hB
      have hz := hB.size
      have HBw := Lib.hid (HB1.out.trans (hB.mono hz1))
      clear hq hO hB
      by_cases hqm : q < m
      · obtain ⟨g', o', c', p2, c2, hv2, _, hcl, hrb⟩ := (HM.out.below HBq.out).at (lt_get k (cG k) (show k + q < k + m by omega))
        injection hv2 with e1 e2 e3
        injection e1 with e1
        injection e1 with e1 e4
        subst e1 e4
        rw [Gv.tab_len] at hcl hrb
        rw [← Nat.add_assoc] at hcl
        have HSu := Lib.hid (csum_any ls (Gv.tab k (cG k (k + q))) Hall.out (by omega) (by rw [Gv.tab_len, Hlen.out]; exact Nat.le_refl _) (.slice p n9 cap) (.slice p2 k c2) wr (HV.out.below HBw.out) hrb)
        unfold CSumPost at HSu
        have hse : Gv.sumS ls (Gv.at' (Gv.tab k (cG k (k + q)))) = cPart k ls (k + q) := sumS_ext (fun i hi => by
          rw [Hlen.out] at hi
          show List.getD _ _ _ = _
          rw [Gv.tab_at _ hi])
        rw [hse] at HSu
        obtain ⟨pb, hpb⟩ : ∃ b, b = cPart k ls (k + q) := ⟨_, rfl⟩
        rw [← hpb] at HSu
        have Hpb := Lib.hid hpb
        have hq9 : q + 1 ≤ 1000000 := by omega
        clear e2 e3 hrb hse hpb
        go_wp2_with fail
        refine HSu.out.mono ?_
        rintro e w5 ⟨rfl, hb5⟩
        have HO5 := Lib.hid (owns_below HO.out hb5)
        have HB5 := Lib.hid (HBq.out.trans (hb5.mono hz))
        have hz5 := HB5.out.size
        clear hb5 HSu HO HBq HBw hcl
        go_wp2_with (at_builtin; refine app1 w1 w5 _ 9 65 rfl _ _ rfl w1.heap.size Tryd.underlying65 info_strS rfl _ q _ rfl _ rfl rfl HO5.out rfl hq9 (by decide) hz5 HB5.out ?_)
        intro v8 w8 hown8 hb8 _ _
        rw [Hpb.out, esv_succ] at hown8
        have HO8 := Lib.hid hown8
        have HB8 := Lib.hid hb8
        clear hown8 hb8 HO5 HB5
        go_wp2_with fail
        go_roundg (gk - 1)
        case measure => have := Hq.out; omega
        case rel => exact ⟨q + 1, by have := Hq.out; omega, by go_num, HO8.out, HB8.out⟩
      · have hqm' : q = m := by have := Hq.out; omega
        subst hqm'
        have HO' : Hid (OwnR wr w.heap.size 9 u7 ((encR k q ls).map Value.string)) := Lib.hid (by
          have h := OwnR.mono (OwnR.of_owns HO.out) hz1
          rw [esv_enc] at h; exact h)
        clear HO
        go_wp2_with fail
        go_ret
        exact ⟨_, rfl, HO'.out, HBw.out⟩
end Go.Proofs.YtbikmodfmckaeaaDoor
namespace Go.Proofs.YtbikmodfmckaeaaDoor
open Go.ChangeShapes Go.WideShapes Go.ChangeAt Go.RowKit
set_option linter.unusedVariables false
/-- the fault of what is to be encoded -/
def encF (k m : Int) (ls : List ByteArray) : Int := if codF k m ≠ 0 then codF k m else if (ls.length : Int) ≠ k then 3 else blkF ls
def encV (k m : Int) (ls : List ByteArray) : List ByteArray := if encF k m ls = 0 then encR k.toNat m.toNat ls else []
def CencPost (k m : Int) (ls : List ByteArray) (w : World) (e : Ending) (w' : World) : Prop :=
  ∃ v, e = .returned (.tuple #[v, errV (encF k m ls)]) ∧ OwnR w' w.heap.size 9 v ((encV k m ls).map Value.string) ∧ Below w.heap.size w w'
set_option maxRecDepth 100000 in
set_option maxHeartbeats 1000000 in
theorem encode_tot (k m : Int) (ls : List ByteArray) (v : Value) (w : World) (hv : Strs w v ls) :
    Calls Tryd.prog 41 #[iv k, iv m, v] w (CencPost k m ls w) := by
  have HV := Lib.hid hv
  obtain ⟨p, cap, rfl, hl9, _⟩ := hv.get
  unfold CencPost
  obtain ⟨F, hF⟩ : ∃ F, F = encF k m ls := ⟨_, rfl⟩
  obtain ⟨V, hV⟩ : ∃ V, V = encV k m ls := ⟨_, rfl⟩
  rw [← hF, ← hV]
  have hVn : F ≠ 0 → V = [] := fun h => by rw [hV]; unfold encV; rw [if_neg (by rw [← hF]; exact h)]
  have HC := Lib.hid (ccheck_any k m w)
  obtain ⟨C, hC⟩ : ∃ C, C = codF k m := ⟨_, rfl⟩
  rw [← hC] at HC
  by_cases hC0 : C = 0
  · have hk := codF_0 (hC.symm.trans hC0)
    obtain ⟨kn, rfl⟩ : ∃ n : Nat, k = n := ⟨k.toNat, by omega⟩
    obtain ⟨mn, rfl⟩ : ∃ n : Nat, m = n := ⟨m.toNat, by omega⟩
    subst hC0
    rw [errV_0] at HC
    by_cases hlk : (ls.length : Int) = (kn : Int)
    · have hlk' : ls.length = kn := by omega
      have hFe : F = blkF ls := by rw [hF]; unfold encF; rw [← hC, if_neg (by simp), if_neg (by simp [hlk])]
      have HBk := Lib.hid (blocks_any ls _ w HV.out)
      rw [hlk'] at HBk HV ⊢
      have t1 : ((kn : Int) != (kn : Int)) = false := bne_f rfl
      by_cases hF0 : F = 0
      · have hb := blkF_zero (hFe.symm.trans hF0)
        have hVe : V = encR kn mn ls := by rw [hV]; unfold encV; rw [← hF, if_pos hF0]; rfl
        have HEn := Lib.hid (cencode_any kn mn (by omega) (by omega) ls hlk' hb.1 hb.2 _ w HV.out)
        unfold EnPost at HEn
        rw [← hVe] at HEn
        rw [← hFe, hF0, errV_0] at HBk
        rw [hF0, errV_0]
        clear hF hV hVn hC hk hlk hlk' hFe hF0 hb hVe hv HV hl9
        go_enter Tryd.func41, Tryd.ntmps41
        go_wp2_with fail
        refine HC.out.mono ?_
        rintro e w' ⟨rfl, rfl⟩
        go_wp2_with fail
        refine HBk.out.mono ?_
        rintro e w' ⟨rfl, rfl⟩
        go_wp2_with fail
        refine HEn.out.mono ?_
        rintro e w' ⟨v', rfl, hO, hB⟩
        have HO := Lib.hid hO
        have HB := Lib.hid hB
        clear hO hB
        go_wp2_with fail
        go_ret2
        exact ⟨_, rfl, HO.out, HB.out⟩
      · have HVn := Lib.hid (hVn hF0)
        rw [← hFe, errV_ne hF0] at HBk
        rw [errV_ne hF0]
        clear hF hV hVn hC hk hlk hlk' hFe hF0 hv HV hl9
        go_enter Tryd.func41, Tryd.ntmps41
        go_wp2_with fail
        refine HC.out.mono ?_
        rintro e w' ⟨rfl, rfl⟩
        go_wp2_with fail
        refine HBk.out.mono ?_
        rintro e w' ⟨rfl, rfl⟩
        go_wp2_with fail
        go_ret2
        exact ⟨_, rfl, by rw [HVn.out]; exact OwnR.nil _ _ _, Below.refl _ _⟩
    · have hFe : F = 3 := by rw [hF]; unfold encF; rw [← hC, if_neg (by simp), if_pos hlk]
      have HVn := Lib.hid (hVn (by rw [hFe]; decide))
      have t1 : ((ls.length : Int) != (kn : Int)) = true := bne_t hlk
      have t2 : ((ls.length : Int) == (kn : Int)) = false := beq_f hlk
      obtain ⟨n9, hn9⟩ : ∃ n, n = ls.length := ⟨_, rfl⟩
      rw [← hn9] at t1 t2 ⊢
      rw [hFe]
      clear hF hV hVn hC hk hlk hFe hv HV hl9 hn9
      go_enter Tryd.func41, Tryd.ntmps41
      go_wp2_with fail
      refine HC.out.mono ?_
      rintro e w' ⟨rfl, rfl⟩
      go_wp2_with fail
      go_ret2
      exact ⟨_, rfl, by rw [HVn.out]; exact OwnR.nil _ _ _, Below.refl _ _⟩
  · have hFe : F = C := by rw [hF]; unfold encF; rw [← hC, if_pos hC0]
    have HVn := Lib.hid (hVn (by rw [hFe]; exact hC0))
    rw [errV_ne hC0] at HC
    rw [hFe, errV_ne hC0]
    obtain ⟨n9, hn9⟩ : ∃ n, n = ls.length := ⟨_, rfl⟩
    rw [← hn9]
    clear hF hV hVn hC hFe hv HV hl9 hn9 hC0
    go_enter Tryd.func41, Tryd.ntmps41
    go_wp2_with fail
    refine HC.out.mono ?_
    rintro e w' ⟨rfl, rfl⟩
    go_wp2_with fail
    go_ret2
    exact ⟨_, rfl, by rw [HVn.out]; exact OwnR.nil _ _ _, Below.refl _ _⟩
/- what is left of so many parts -/
def los (ls : List Bool) (i : Nat) : Bool := ls.getD i false
def hx (ls : List Bool) (n : Nat) : List Nat := (List.range n).filter (fun i => !(los ls i))
theorem hx_yes {ls : List Bool} {n : Nat} (h : los ls n = false) : hx ls (n + 1) = hx ls n ++ [n] := by unfold hx; rw [List.range_succ, List.filter_append]; simp [h]
theorem hx_no {ls : List Bool} {n : Nat} (h : los ls n = true) : hx ls (n + 1) = hx ls n := by unfold hx; rw [List.range_succ, List.filter_append]; simp [h]
theorem hx_le (ls : List Bool) (n : Nat) : (hx ls n).length ≤ n := by
  unfold hx
  have := List.length_filter_le (fun i => !(los ls i)) (List.range n)
  rw [List.length_range] at this; exact this
def hvS (ps : List ByteArray) (ls : List Bool) (n : Nat) : List ByteArray := (hx ls n).map (fun i => ps.getD i ⟨#[]⟩)
def byM (k : Nat) (ls : List Bool) (n : Nat) : List (List UInt8) := (hx ls n).map (fun i => Gv.tab k (cG k i))
def dN (k : Nat) (ls : List Bool) (n : Nat) : Mx.Mt := fun i => cG k ((hx ls n).getD i 0)
theorem byM_take {k n : Nat} (ls : List Bool) (h : k ≤ (hx ls n).length) : (byM k ls n).take k = lt k k (dN k ls n) := by
  apply List.ext_getElem?
  intro i
  rw [List.getElem?_take]
  by_cases hi : i < k
  · rw [if_pos hi, lt_get k _ hi]
    unfold byM dN
    rw [List.getElem?_map, List.getElem?_eq_getElem (by omega), List.getD_eq_getElem?_getD, List.getElem?_eq_getElem (by omega)]
    rfl
  · rw [if_neg hi, List.getElem?_eq_none (by rw [lt_len]; omega)]
def decR (k n : Nat) (ps : List ByteArray) (ls : List Bool) : List ByteArray := (List.range k).map (fun i => Gv.sumS ((hvS ps ls n).take k) (Mx.iv' k (dN k ls n) i))
/-- the fault of what is to be decoded, of a code that is right -/
def decF (k n : Nat) (ps : List ByteArray) (ls : List Bool) : Int :=
  if (hx ls n).length < k then 8 else if blkF (hvS ps ls n) ≠ 0 then blkF (hvS ps ls n) else if Mx.rk k k (dN k ls n) < k then 8 else 0
def DecPost (k n : Nat) (ps : List ByteArray) (ls : List Bool) (w : World) (e : Ending) (w' : World) : Prop :=
  ∃ v, e = .returned (.tuple #[v, errV (decF k n ps ls)]) ∧ OwnR w' w.heap.size 9 v ((if decF k n ps ls = 0 then decR k n ps ls else []).map Value.string) ∧ Below w.heap.size w w'
def DcRel (k n : Nat) (ps : List ByteArray) (ls : List Bool) (w1 : World) (gk : Nat) (v11 v12 idx : Value) (wr : World) : Prop :=
  ∃ (i : Nat) (vs : List Value), i + gk = n ∧ idx = iv i ∧ wr.ownsRow w1.heap.size 9 1 v11 (hx ls i).length ((hvS ps ls i).map Value.string) ∧ wr.ownsRow w1.heap.size 22 1 v12 (hx ls i).length vs ∧
    (∀ (j : Nat) u l, vs[j]? = some u → (byM k ls i)[j]? = some l → RowB w1 u l) ∧ (∀ g, v11.ownBlock = some g → v12.ownBlock ≠ some g) ∧ Below w1.heap.size w1 wr
end Go.Proofs.YtbikmodfmckaeaaDoor
