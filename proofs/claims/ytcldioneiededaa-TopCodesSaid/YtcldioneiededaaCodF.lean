/- The walks of code.encode, Encode. -/
import Derived.Test.YtcldioneiededaaCodE
import Derived.Test.YtcldioneiededaaPqH
namespace Go.Proofs.Ytcldioneiededaa
open Go.ChangeShapes Go.WideShapes Go.ChangeAt Go.RowKit
set_option linter.unusedVariables false
/-- part i of a code of k blocks -/
def cPart (k : Nat) (ls : List ByteArray) (i : Nat) : ByteArray := Gv.sumS ls (cG k i)
theorem sumS_ext {ls : List ByteArray} {t u : Nat → UInt8} (h : ∀ i, i < ls.length → t i = u i) : Gv.sumS ls t = Gv.sumS ls u := Gv.sumS_congr h
/-- the parity -/
def encR (k m : Nat) (ls : List ByteArray) : List ByteArray := (List.range m).map (fun q => cPart k ls (k + q))
theorem encR_len (k m : Nat) (ls : List ByteArray) : (encR k m ls).length = m := by unfold encR; simp
theorem encR_get {k m q : Nat} (ls : List ByteArray) (h : q < m) : (encR k m ls)[q]? = some (cPart k ls (k + q)) := by unfold encR; rw [List.getElem?_map, List.getElem?_range h]; rfl
def esv (k : Nat) (ls : List ByteArray) (q : Nat) : List Value := (List.range q).map (fun i => .string (cPart k ls (k + i)))
theorem esv_succ (k : Nat) (ls : List ByteArray) (q : Nat) : esv k ls q ++ [.string (cPart k ls (k + q))] = esv k ls (q + 1) := by unfold esv; rw [List.range_succ, List.map_append]; rfl
theorem esv_enc (k m : Nat) (ls : List ByteArray) : esv k ls m = (encR k m ls).map Value.string := by unfold esv encR; rw [List.map_map]; rfl
def EnRel (k m : Nat) (ls : List ByteArray) (w w1 : World) (gk : Nat) (v7 idx : Value) (wr : World) : Prop :=
  ∃ q : Nat, q + gk = m ∧ idx = iv q ∧ wr.ownsRow w1.heap.size 9 1 v7 q (esv k ls q) ∧ Below w1.heap.size w1 wr
def EnPost (ls : List ByteArray) (w : World) (e : Ending) (w' : World) : Prop := ∃ v, e = .returned v ∧ OwnR w' w.heap.size 9 v (ls.map Value.string) ∧ Below w.heap.size w w'
set_option maxRecDepth 100000 in
set_option maxHeartbeats 2000000 in
theorem cencode_any (k m : Nat) (h1 : 1 ≤ k) (h2 : k + m ≤ 12) (ls : List ByteArray) (hl : ls.length = k) (hall : ∀ s ∈ ls, s.size = size0 ls) (hn : size0 ls ≤ 16) (v : Value) (w : World) (hv : Strs w v ls) :
    Calls Try.prog 41 #[iv k, iv m, v] w (EnPost (encR k m ls) w) := by
  have HV := Lib.hid hv
  obtain ⟨p, cap, rfl, hl9, _⟩ := hv.get
  have Hl := Lib.hid hl
  have Hlen := Lib.hid hl
  have Hall := Lib.hid hall
  have HR := Lib.hid (rows_any k m h1 h2 w)
  unfold CaPost at HR
  obtain ⟨n9, hln⟩ : ∃ n, n = ls.length := ⟨_, rfl⟩
  rw [← hln] at HV hl9 ⊢
  clear hv hall hl hln Hl
  go_enter Try.func41, Try.ntmps41
  go_wp2_with fail
  refine HR.out.mono ?_
  rintro e w1 ⟨v1, rfl, hM, hb1⟩
  have HM := Lib.hid hM
  have HB1 := Lib.hid hb1
  have hz1 := hb1.size
  obtain ⟨p1, c1, rfl, hc1, hc2, h0⟩ := hM.shape
  rw [lt_len] at hc1 HM h0 ⊢
  obtain ⟨g, o, p0, c0, rfl, _, _⟩ := h0 (by omega)
  unfold maxLen at hc2
  clear hM hb1 HR
  by_cases hm : m = 0
  · subst hm
    have HE : Hid (encR k 0 ls = []) := Lib.hid rfl
    by_cases hck : c1 = k
    · subst hck
      go_wp2_with fail
      go_loopg [7, 9, 16] 0 (fun gk v7 v9 v16 wr => EnRel c1 0 ls w w1 gk v7 v16 wr)
      case atStart => exact ⟨0, by omega, rfl, World.ownsRow_nil _ _ _ _, Below.refl _ _⟩
      case round =>
        obtain ⟨q, hq, rfl, hO, hB⟩ := hrel
        obtain rfl : q = 0 := by omega
        have HO := Lib.hid (OwnR.mono (OwnR.of_owns hO) hz1)
        have HB := Lib.hid (HB1.out.trans (hB.mono hz1))
        clear hq hO hB
        go_wp2_with fail
        go_ret
        exact ⟨_, rfl, HO.out, HB.out⟩
    · go_wp2_with fail
      go_loopg [7, 9, 16] 0 (fun gk v7 v9 v16 wr => EnRel k 0 ls w w1 gk v7 v16 wr)
      case atStart => exact ⟨0, by omega, rfl, World.ownsRow_nil _ _ _ _, Below.refl _ _⟩
      case round =>
        obtain ⟨q, hq, rfl, hO, hB⟩ := hrel
        obtain rfl : q = 0 := by omega
        have HO := Lib.hid (OwnR.mono (OwnR.of_owns hO) hz1)
        have HB := Lib.hid (HB1.out.trans (hB.mono hz1))
        clear hq hO hB
        go_wp2_with fail
        go_ret
        exact ⟨_, rfl, HO.out, HB.out⟩
  · have hck : ¬ c1 = k := by omega
    have hkm : k + m - k = m := by omega
    go_wp2_with fail
    go_loopg [7, 9, 16] m (fun gk v7 v9 v16 wr => EnRel k m ls w w1 gk v7 v16 wr)
    case atStart => exact ⟨0, by omega, rfl, World.ownsRow_nil _ _ _ _, Below.refl _ _⟩
    case round =>
      obtain ⟨q, hq, rfl, hO, hB⟩ := hrel
      have Hq := Lib.hid hq
      have HO := Lib.hid hO
      have HBq := Lib.hid hB
      have hz := hB.size
      have HBw := Lib.hid (HB1.out.trans (hB.mono hz1))
      clear hq hO hB
      by_cases hqm : q < m
      · obtain ⟨g', o', c', p2, c2, hv2, _, hcl, hrb⟩ := (HM.out.below HBq.out).at (lt_get k (cG k) (show k + q < k + m by omega))
        injection hv2 with e1 e2 e3
        injection e1 with e1
        injection e1 with e1 e4
        subst e1 e4
        rw [Gv.tab_len] at hcl hrb
        rw [← Nat.add_assoc] at hcl
        have HSu := Lib.hid (csum_any ls (Gv.tab k (cG k (k + q))) Hall.out (by omega) (by rw [Gv.tab_len, Hlen.out]; exact Nat.le_refl _) (.slice p n9 cap) (.slice p2 k c2) wr (HV.out.below HBw.out) hrb)
        unfold CSumPost at HSu
        have hse : Gv.sumS ls (Gv.at' (Gv.tab k (cG k (k + q)))) = cPart k ls (k + q) := sumS_ext (fun i hi => by
          rw [Hlen.out] at hi
          show List.getD _ _ _ = _
          rw [Gv.tab_at _ hi])
        rw [hse] at HSu
        obtain ⟨pb, hpb⟩ : ∃ b, b = cPart k ls (k + q) := ⟨_, rfl⟩
        rw [← hpb] at HSu
        have Hpb := Lib.hid hpb
        have hq9 : q + 1 ≤ 1000000 := by omega
        clear e2 e3 hrb hse hpb
        go_wp2_with fail
        refine HSu.out.mono ?_
        rintro e w5 ⟨rfl, hb5⟩
        have HO5 := Lib.hid (owns_below HO.out hb5)
        have HB5 := Lib.hid (HBq.out.trans (hb5.mono hz))
        have hz5 := HB5.out.size
        clear hb5 HSu HO HBq HBw hcl
        go_wp2_with (at_builtin; refine app1 w1 w5 _ 9 32 rfl _ _ rfl w1.heap.size Try.underlying32 info_strS rfl _ q _ rfl _ rfl rfl HO5.out rfl hq9 (by decide) hz5 HB5.out ?_)
        intro v8 w8 hown8 hb8 _ _
        rw [Hpb.out, esv_succ] at hown8
        have HO8 := Lib.hid hown8
        have HB8 := Lib.hid hb8
        clear hown8 hb8 HO5 HB5
        go_wp2_with fail
        go_roundg (gk - 1)
        case measure => have := Hq.out; omega
        case rel => exact ⟨q + 1, by have := Hq.out; omega, by go_num, HO8.out, HB8.out⟩
      · have hqm' : q = m := by have := Hq.out; omega
        subst hqm'
        have HO' : Hid (OwnR wr w.heap.size 9 u7 ((encR k q ls).map Value.string)) := Lib.hid (by
          have h := OwnR.mono (OwnR.of_owns HO.out) hz1
          rw [esv_enc] at h; exact h)
        clear HO
        go_wp2_with fail
        go_ret
        exact ⟨_, rfl, HO'.out, HBw.out⟩
end Go.Proofs.Ytcldioneiededaa
