/- A redo log: the walks of redo, All, Bytes, Safe, New. -/
import Derived.Test.YtangcjffiooapaaDoorRedX
import Derived.Test.YtangcjffiooapaaDoorFuncs
import Derived.StillTailTactics
import Derived.Deep.DeepCutAuto
import Derived.Deep.CutBlock
namespace Go.Proofs.YtangcjffiooapaaDoor
open Go.ChangeShapes Go.WideShapes Go.ChangeAt Go.RowKit
set_option linter.unusedVariables false
theorem byte_getR {b : ByteArray} {i : Nat} (h : i < b.size) : b[i]? = some (b.data.toList.getD i 0) := by
  rw [getElem?_pos b i h]
  congr 1
  rw [List.getD_eq_getElem?_getD, List.getElem?_eq_getElem (by rw [Array.length_toList]; exact h)]
  rfl
theorem idx_strR {b : ByteArray} {i : Nat} (z : Int) (hz : z = i) (h : i < b.size) (w : World) : (Instr.index 9 (.string b) (.int .i64 z)).run Tryd.prog w = .ok (.int .u8 ((b.data.toList.getD i 0).toNat : Int)) w := by
  subst hz
  have hin : (0 : Int) ≤ (i : Int) ∧ (i : Int) < (b.size : Int) := by omega
  rw [run_index_string w _ _ _ _ Tryd.underlying9, dif_pos hin]
  have hg := byte_getR h
  rw [getElem?_pos b i h] at hg
  have := Option.some.inj hg
  simp only [Int.toNat_natCast]
  rw [this]
def RedoRel (w : World) (b : Nat) (vf vc : Value) (s : Rd.R) (ls : List Rd.W) (n gk : Nat) (v : Value) (wr : World) : Prop :=
  ∃ k : Nat, k + gk = n ∧ v = .string (Rd.bs (Rd.flat (ls.drop k))) ∧ RedAt wr b vf vc { s with cells := Rd.done s.cells (ls.take k) } ∧ Kept (fun g => vc.ownBlock = some g) w wr
def RedoPost (b : Nat) (vf vc : Value) (s : Rd.R) (w : World) (e : Ending) (w' : World) : Prop := e = .returned (.tuple #[]) ∧ RedAt w' b vf vc s ∧ Kept (fun g => vc.ownBlock = some g) w w'
set_option maxRecDepth 100000 in
set_option maxHeartbeats 1000000 in
theorem redo_any {w : World} {b : Nat} {vf vc : Value} {s : Rd.R} (h : RedAt w b vf vc s) (ls : List Rd.W) (hn40 : s.cells.length ≤ 40) (hok : Rd.Ok s.cells.length ls) :
    Calls Tryd.prog 69 #[.pointer (some ⟨b, 0, none⟩), .string (Rd.bs (Rd.body ls))] w (RedoPost b vf vc { s with cells := Rd.done s.cells ls } w) := by
  have H := Lib.hid h
  have Hok := Lib.hid hok
  have hl40 := hok.len
  have hbl := hok.body
  obtain ⟨n, hn⟩ : ∃ n, n = ls.length := ⟨_, rfl⟩
  have Hn := Lib.hid hn
  have hx1 : (Rd.bs (Rd.body ls)).extract 1 (Rd.bs (Rd.body ls)).size = Rd.bs (Rd.flat ls) := by
    rw [Rd.bs_extract, Rd.bs_size, List.take_of_length_le (Nat.le_refl _)]; rfl
  have hsz : (Rd.bs (Rd.body ls)).size = (Rd.body ls).length := Rd.bs_size _
  have hb1 : 1 ≤ (Rd.body ls).length := by rw [Rd.body_len]; omega
  obtain ⟨t, ht⟩ : ∃ t, t = Rd.bs (Rd.body ls) := ⟨_, rfl⟩
  rw [← ht] at hx1 hsz ⊢
  have ht1 : 1 ≤ t.size := by omega
  have ht7 : t.size ≤ 721 := by omega
  have Hx1 := Lib.hid hx1
  clear h hok hn hbl hx1 hsz hb1 ht
  go_enter Tryd.func69, Tryd.ntmps69
  go_wp2_with fail
  rw [Hx1.out]
  go_loopg [1] n (fun gk v wr => RedoRel w b vf vc s ls n gk v wr)
  case atStart => exact ⟨0, by omega, rfl, H.out, Kept.refl _ _⟩
  case round =>
    obtain ⟨k, hk, rfl, hR, hK⟩ := hrel
    have Hk := Lib.hid hk
    have HR := Lib.hid hR
    have HK := Lib.hid hK
    by_cases hkn : k < n
    · have hkl : k < ls.length := by rw [← Hn.out]; exact hkn
      have hdr : ls.drop k = ls[k] :: ls.drop (k + 1) := List.drop_eq_getElem_cons hkl
      have hx : ls[k]? = some ls[k] := List.getElem?_eq_getElem hkl
      have htk : ls.take (k + 1) = ls.take k ++ [ls[k]] := by rw [List.take_add_one, hx]; rfl
      have hxo := Hok.out.pos _ (List.getElem_mem hkl)
      obtain ⟨x, hxe⟩ : ∃ x, x = ls[k] := ⟨_, rfl⟩
      rw [← hxe] at hdr htk hxo
      obtain ⟨q, hq⟩ : ∃ q : Nat, x.pos = q := ⟨x.pos.toNat, by omega⟩
      obtain ⟨z, hz⟩ : ∃ z, z = x.b.size := ⟨_, rfl⟩
      have hfl : Rd.flat (ls.drop k) = UInt8.ofNat q :: UInt8.ofNat z :: (x.b.data.toList ++ Rd.flat (ls.drop (k + 1))) := by
        rw [hdr, Rd.flat_cons, Rd.one, hq, Int.toNat_natCast, hz]; simp
      have hdl : (Rd.flat (ls.drop k)).length ≤ 720 := by
        have h1 := Rd.flat_len (n := s.cells.length) (l := ls.drop k) (fun y hy => Hok.out.pos y (List.mem_of_mem_drop hy))
        rw [List.length_drop] at h1; omega
      obtain ⟨t, ht⟩ : ∃ t, t = Rd.bs (Rd.flat (ls.drop k)) := ⟨_, rfl⟩
      have htl : t.data.toList = UInt8.ofNat q :: UInt8.ofNat z :: (x.b.data.toList ++ Rd.flat (ls.drop (k + 1))) := by rw [ht, Rd.bs_data, hfl]
      have hts : t.size = 2 + z + (Rd.flat (ls.drop (k + 1))).length := by
        have e : t.size = t.data.toList.length := by rw [Array.length_toList]; rfl
        rw [e, htl, List.length_cons, List.length_cons, List.length_append, Array.length_toList, hz]
        show x.b.size + _ + 1 + 1 = _; omega
      have ht7 : t.size ≤ 720 := by rw [ht, Rd.bs_size]; exact hdl
      have hq8 : q < 256 := by omega
      have hz8 : z < 256 := by omega
      have g0 := fun w => idx_strR (b := t) (i := 0) 0 rfl (by omega) w
      have g1 := fun w => idx_strR (b := t) (i := 1) 1 rfl (by omega) w
      rw [htl] at g0 g1
      have e0 : ((UInt8.ofNat q :: UInt8.ofNat z :: (x.b.data.toList ++ Rd.flat (ls.drop (k + 1)))).getD 0 0).toNat = q := by show (UInt8.ofNat q).toNat = q; rw [UInt8.toNat_ofNat', Nat.mod_eq_of_lt hq8]
      have e1 : ((UInt8.ofNat q :: UInt8.ofNat z :: (x.b.data.toList ++ Rd.flat (ls.drop (k + 1)))).getD 1 0).toNat = z := by show (UInt8.ofNat z).toNat = z; rw [UInt8.toNat_ofNat', Nat.mod_eq_of_lt hz8]
      rw [e0] at g0
      rw [e1] at g1
      have hx2 : t.extract 2 (2 + z) = x.b := by
        apply Rd.bs_ext
        rw [ht, Rd.bs_extract, Rd.bs_data, hfl, hz]
        have e : x.b.data.toList.length = x.b.size := Array.length_toList
        rw [← e, show 2 + x.b.data.toList.length = x.b.data.toList.length + 2 by omega, List.take_succ_cons, List.take_succ_cons, List.drop_succ_cons, List.drop_succ_cons, List.drop_zero, List.take_left]
      have hx3 : t.extract (2 + z) t.size = Rd.bs (Rd.flat (ls.drop (k + 1))) := by
        rw [ht, Rd.bs_extract, Rd.bs_size, List.take_of_length_le (Nat.le_refl _), hfl, hz]
        congr 1
        have : x.b.data.toList.length = x.b.size := Array.length_toList
        rw [show 2 + x.b.size = x.b.data.toList.length + 2 by omega, List.drop_succ_cons, List.drop_succ_cons, List.drop_left]
      have hne : t.toList ≠ [] := by rw [ByteArray.toList_eq, htl]; simp
      have hne1 : (t.toList.isEmpty) = false := by cases ht9 : t.toList with | nil => exact absurd ht9 hne | cons a l => rfl
      have hne2 : (!t.toList.isEmpty) = true := by rw [hne1]; rfl
      have hdn : Rd.done s.cells (ls.take (k + 1)) = (Rd.done s.cells (ls.take k)).set q x.b := by rw [htk, Rd.done_snoc, Rd.put1, hq, Int.toNat_natCast]
      have hcl : (Rd.done s.cells (ls.take k)).length = s.cells.length := Rd.done_len _ _
      have hqc : q < s.cells.length := by omega
      obtain ⟨gc, oc, cc, hvc, _, hgcl, hnc, hmc, hcc, hfc⟩ := hR.cells.at0 (by rw [List.length_map]; show 0 < (Rd.done s.cells (ls.take k)).length; omega)
      have k1 := hR.c1
      rw [List.length_map] at hvc hnc hcc
      have hcl' : ({ s with cells := Rd.done s.cells (ls.take k) } : Rd.R).cells.length = s.cells.length := hcl
      rw [hcl'] at hvc hnc hcc
      have kq := hcc q hqc
      have kq' : ∃ s0 : ByteArray, wr.cell? ⟨gc, oc + q, none⟩ = some (.string s0) := by
        rw [kq, List.getElem?_map, List.getElem?_eq_getElem (by rw [hcl']; exact hqc)]; exact ⟨_, rfl⟩
      obtain ⟨s0, kq'⟩ := kq'
      rw [hvc] at k1
      unfold maxLen at hmc
      have hgcv : vc.ownBlock = some gc := by rw [hvc]; rfl
      obtain ⟨nc, hnce⟩ : ∃ nc, nc = s.cells.length := ⟨_, rfl⟩
      rw [← hnce] at k1 hqc hnc
      have Hx2 := Lib.hid hx2
      have Hx3 := Lib.hid hx3
      have Hvc := Lib.hid hvc
      have Hgcv := Lib.hid hgcv
      have Hdn := Lib.hid hdn
      have Hcl := Lib.hid hcl
      have Hnc := Lib.hid hnce
      rw [← ht]
      have hqcI : (q : Int) < (nc : Int) := by omega
      have hz2 : 2 + z ≤ t.size := by omega
      have hz2I : (2 : Int) + (z : Int) ≤ (t.size : Int) := by omega
      clear hk hR hK hdr hx htk hxo hxe hq hfl hdl ht htl e0 e1 hx2 hx3 hdn hcl hvc hcc kq hgcv hnce hcl' hne1 hz hts
      go_wp2_with fail
      go_quiet (fail)
      go_upto_region 3 with (fail)
      obtain ⟨wB, hwB⟩ : ∃ wB, wB = wr.drewN nq := ⟨_, rfl⟩
      have hbB : Below wr.heap.size wr wB := by rw [hwB]; exact bdrew (Below.refl _ _) nq
      have HRB := Lib.hid (HR.out.below hbB)
      have HKB := Lib.hid (HK.out.also (Kept.new _ hbB))
      have k1B := (hbB.cell (p := ⟨b, 1, none⟩) HR.out.lt).trans k1
      rw [← hwB]
      clear hwB k1 g0 g1 hne hne2
      have hwr : IntKind.i64.wrap (2 + (z : Int)) = 2 + (z : Int) := IntWalk.i64_in _ (by omega)
      have htn : (2 + (z : Int)).toNat = 2 + z := by omega
      have kqB := (hbB.cell (p := ⟨gc, oc + q, none⟩) hgcl).trans kq'
      have fqB : wB.frozen? ⟨gc, oc + q, none⟩ = false := (hbB.frozen (p := ⟨gc, oc + q, none⟩) hgcl).trans (hfc (oc + q))
      clear hbB kq' hfc
      go_region
      rw [Hx2.out]
      go_wp2_with fail
      rw [Hx3.out]
      go_roundg (gk - 1)
      case measure => have := Hk.out; omega
      case rel =>
        refine ⟨k + 1, by have := Hk.out; omega, rfl, ?_, (HKB.out.setCell (p := ⟨gc, oc + q, none⟩) (fun _ => Hgcv.out) _).drew⟩
        rw [Hdn.out]
        exact (HRB.out.setC Hvc.out q (by show q < (Rd.done s.cells (ls.take k)).length; rw [Hcl.out, ← Hnc.out]; exact hqc) x.b).below (Below.refl _ _).drew
    · have hkn' : k = n := by have := Hk.out; omega
      have hd : ls.drop k = [] := List.drop_eq_nil_of_le (by rw [hkn', Hn.out]; exact Nat.le_refl _)
      have htk : ls.take k = ls := by rw [hkn', Hn.out]; exact List.take_length
      have HR' := Lib.hid hR
      rw [htk] at HR'
      rw [hd, Rd.flat_nil, Rd.bs_nil]
      clear hk hR hK hkn' hd htk
      go_wp2_with fail
      go_end0
      exact ⟨rfl, HR'.out, HK.out⟩
end Go.Proofs.YtangcjffiooapaaDoor
