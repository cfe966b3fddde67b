/- Rows of writes in memory; the walk of redo's record. -/
import Derived.Test.YtangcjffiooapaaDoorRedP
import Derived.Test.YtangcjffiooapaaDoorSlI
import Derived.Test.YtangcjffiooapaaDoorErr
import Derived.Lib.AppendStr
import Derived.Lib.SlBytesRow
import Derived.Deep.LoopGhost
import Derived.IntWalk
namespace Go.Proofs.YtangcjffiooapaaDoor
open Go.ChangeShapes Go.WideShapes Go.ChangeAt Go.RowKit
set_option linter.unusedVariables false
/-- a list of writes: two cells each -/
def RowWr (w : World) (v : Value) (ls : List Rd.W) : Prop :=
  ∃ p cap, v = .slice p ls.length cap ∧ ls.length ≤ 9223372036854775807 ∧ ∀ (j : Nat) (l : Rd.W), ls[j]? = some l → ∃ g off, p = some ⟨g, off, none⟩ ∧ g < w.heap.size ∧
    w.cell? ⟨g, off + j * 2, none⟩ = some (iv l.pos) ∧ w.cell? ⟨g, off + j * 2 + 1, none⟩ = some (.string l.b)
theorem RowWr.below {w w' : World} {v : Value} {ls : List Rd.W} (h : RowWr w v ls) (hb : Below w.heap.size w w') : RowWr w' v ls := by
  obtain ⟨p, cap, hv, h1, h2⟩ := h
  refine ⟨p, cap, hv, h1, fun j l hj => ?_⟩
  obtain ⟨g, off, hp, hg, c0, c1⟩ := h2 j l hj
  have k := fun o => hb.cell (p := ⟨g, o, none⟩) hg
  exact ⟨g, off, hp, Nat.lt_of_lt_of_le hg hb.size, (k _).trans c0, (k _).trans c1⟩
theorem info_u8R : (Tryd.prog.info? 5).map (fun i => (i.zero, i.size, i.bytes)) = some (some (.int .u8 0), 1, 1) := by kernel_rfl
theorem wrap8R {x : Int} (h0 : 0 ≤ x) (h1 : x < 256) : IntKind.u8.wrap x = x := by
  obtain ⟨n, rfl⟩ : ∃ n : Nat, x = n := ⟨x.toNat, by omega⟩
  simp [IntKind.wrap, IntKind.bits, IntKind.signed]; omega
theorem ofNat8R {n : Nat} (h : n < 256) : ((UInt8.ofNat n).toNat : Int) = n := by
  rw [UInt8.toNat_ofNat', Nat.mod_eq_of_lt h]
theorem bv8 {n : Nat} (h : n < 256) : bv (UInt8.ofNat n) = .int .u8 (n : Int) := by show Value.int .u8 ((UInt8.ofNat n).toNat : Int) = _; rw [ofNat8R h]
def RecRel (ls : List Rd.W) (w : World) (n gk : Nat) (v i : Value) (wr : World) : Prop :=
  ∃ k : Nat, k + gk = n ∧ i = iv k ∧ wr.ownsRow w.heap.size 5 1 v (1 + (Rd.flat (ls.take k)).length) ((UInt8.ofNat ls.length :: Rd.flat (ls.take k)).map bv) ∧ Below w.heap.size w wr
theorem strCells_bv (s : ByteArray) : Lib.strCells s = s.data.toList.map bv := rfl
theorem conv2R (w : World) (a b : UInt8) : (convert 83 9 (.slice (some ⟨w.heap.size, 0, none⟩) 2 2)).run Tryd.prog (w.alloc (.cells #[.int .u8 a.toNat, .int .u8 b.toNat] 5)) = .ok (.string ⟨#[a, b]⟩) (w.alloc (.cells #[.int .u8 a.toNat, .int .u8 b.toNat] 5)) := by
  have h := run_convert_bytes_back (P := Tryd.prog) (w.alloc (.cells #[.int .u8 a.toNat, .int .u8 b.toNat] 5)) 83 9 5 ⟨w.heap.size, 0, none⟩ 2 [a, b] Tryd.underlying83 Tryd.underlying5 Tryd.underlying9 (fun j hj => by
    rw [Addr.add_lit, Nat.zero_add, World.cell?_alloc_at _ _ _ _ rfl]
    have hj3 : j = 0 ∨ j = 1 := by simp at hj; omega
    rcases hj3 with rfl | rfl <;> rfl)
  exact h
/-- bytes of the call's own, as a text -/
theorem conv_own (w : World) (base : Nat) (v : Value) (l : List UInt8) (h : w.ownsRow base 5 1 v l.length (l.map bv)) (hl : 0 < l.length) : (convert 83 9 v).run Tryd.prog w = .ok (.string (Rd.bs l)) w := by
  obtain ⟨g, cap, rfl, _, _, _, _, hc, _⟩ := owns_pos h hl
  exact run_convert_bytes_back (P := Tryd.prog) w 83 9 5 ⟨g, 0, none⟩ cap l Tryd.underlying83 Tryd.underlying5 Tryd.underlying9 (fun j hj => by
    rw [Addr.add_lit, Nat.zero_add, hc j hj, List.getElem?_map, List.getElem?_eq_getElem hj]; rfl)
def RecPost (ls : List Rd.W) (w : World) (e : Ending) (w' : World) : Prop := e = .returned (.string (Rd.bs (Rd.rcd ls))) ∧ Below w.heap.size w w'
set_option maxRecDepth 100000 in
set_option maxHeartbeats 1000000 in
theorem record_any (ls : List Rd.W) (n0 : Nat) (hn0 : n0 ≤ 40) (hok : Rd.Ok n0 ls) (v : Value) (w : World) (hv : RowWr w v ls) :
    Calls Tryd.prog 67 #[v] w (RecPost ls w) := by
  obtain ⟨i0, hi, hz0, hz1, hz2⟩ := info_parts info_u8R
  have hl40 := hok.len
  have Hok := Lib.hid hok
  obtain ⟨p, cap, rfl, hl, hc⟩ := hv
  have Hc := Lib.hid hc
  obtain ⟨n, hn⟩ : ∃ n, n = ls.length := ⟨_, rfl⟩
  rw [← hn] at hl hl40 ⊢
  have Hn := Lib.hid hn
  have hu := wrap8R (x := (n : Int)) (by omega) (by omega)
  have hb0 : Below w.heap.size w (w.alloc (.cells #[.int .u8 (n : Int)] 5)) := (Below.refl _ _).alloc (Nat.le_refl _) _
  have hown0 : (w.alloc (.cells #[.int .u8 (n : Int)] 5)).ownsRow w.heap.size 5 1 (.slice (some ⟨w.heap.size, 0, none⟩) 1 1) 1 ([UInt8.ofNat n].map bv) := by
    refine ⟨by simp, .inr ⟨w.heap.size, 1, #[.int .u8 (n : Int)], rfl, Nat.le_refl _, heap_alloc_new w _, Nat.le_refl _, by decide, by simp, ?_⟩⟩
    rw [List.map_cons, List.map_nil, bv8 (by omega)]; rfl
  have Hown0 := Lib.hid hown0
  have HB0 := Lib.hid hb0
  clear hok hc hn hown0 hb0
  go_enter Tryd.func67, Tryd.ntmps67
  go_wp2_with fail
  go_loopg [3, 13] n (fun gk v i wr => RecRel ls w n gk v i wr)
  case atStart => exact ⟨0, by omega, rfl, by rw [← Hn.out]; exact Hown0.out, HB0.out⟩
  case round =>
    obtain ⟨k, hk, rfl, hown, hb⟩ := hrel
    have Hk := Lib.hid hk
    have Hown := Lib.hid hown
    have HB := Lib.hid hb
    have hzr := hb.size
    clear hk hown hb
    by_cases hlt : k < n
    · obtain ⟨x, hx⟩ : ∃ x, ls[k]? = some x := ⟨ls[k]'(by rw [← Hn.out]; exact hlt), List.getElem?_eq_getElem _⟩
      obtain ⟨g, off, hp, hg, c0, c1⟩ := Hc.out k x hx
      subst hp
      have hxo := Hok.out.pos x (List.mem_of_getElem? hx)
      obtain ⟨q, hq⟩ : ∃ q : Nat, x.pos = q := ⟨x.pos.toNat, by omega⟩
      have d0 := (HB.out.cell (p := ⟨g, off + k * 2, none⟩) hg).trans c0
      have d1 := (HB.out.cell (p := ⟨g, off + k * 2 + 1, none⟩) hg).trans c1
      rw [hq] at d0
      have hq8 : q < 256 := by omega
      have hs8 : x.b.size < 256 := by omega
      have hu1 := wrap8R (x := (q : Int)) (by omega) (by omega)
      have hu2 := wrap8R (x := (x.b.size : Int)) (by omega) (by omega)
      have htk : ls.take (k + 1) = ls.take k ++ [x] := by rw [List.take_add_one, hx]; rfl
      have hfl : (Rd.flat (ls.take k)).length ≤ 18 * k := Nat.le_trans (Rd.flat_len (n := n0) (fun y hy => Hok.out.pos y (List.mem_of_mem_take hy))) (Nat.mul_le_mul_left _ (List.length_take_le _ _))
      have hfs : Rd.flat (ls.take (k + 1)) = Rd.flat (ls.take k) ++ [UInt8.ofNat q, UInt8.ofNat x.b.size] ++ x.b.data.toList := by
        rw [htk, Rd.flat_snoc, Rd.one, hq, Int.toNat_natCast]; simp
      have Hfs := Lib.hid hfs
      obtain ⟨gv, capv, hv, hgv, hgv2, _, _, _, _⟩ := owns_pos Hown.out (by omega)
      subst hv
      have hbs : (Rd.flat (ls.take (k + 1))).length = (Rd.flat (ls.take k)).length + 2 + x.b.size := by
        rw [hfs, List.length_append, List.length_append, Array.length_toList]; rfl
      have hle : (Rd.flat (ls.take k)).length ≤ (Rd.flat (ls.take (k + 1))).length := by rw [hfs, List.length_append, List.length_append]; omega
      obtain ⟨fl, hfle⟩ : ∃ fl, fl = (Rd.flat (ls.take k)).length := ⟨_, rfl⟩
      have Hfle := Lib.hid hfle
      have Hbs := Lib.hid hbs
      have Hle := Lib.hid hle
      have hb1 : Below wr.heap.size wr (wr.alloc (.cells #[iv q, .string x.b] 69)) := (Below.refl _ _).alloc (Nat.le_refl _) _
      have hown1 := owns_below Hown.out hb1
      rw [← hfle] at hown1 hfl
      have hzB : (wr.alloc (.cells #[iv q, .string x.b] 69)).heap.size = wr.heap.size + 1 := by simp
      have Hown1 := Lib.hid hown1
      clear hx c0 c1 hxo hq htk hfs hbs hle hfle hown1
      rw [← Hfle.out]
      go_wp2_with (at_builtin; (refine wpList_append_own _ rfl _ _ 83 rfl w.heap.size 5 i0 (.int .u8 0) 1 1 Tryd.underlying83 hi hz0 hz1 hz2 rfl (by decide) _ (1 + fl) _ rfl (Hown1.out.alloc _) ⟨wr.heap.size + 1, 0, none⟩ 2 2 ([UInt8.ofNat q, UInt8.ofNat x.b.size].map bv) rfl rfl ?k1 ?k2 ?k3 ?k4 ?k5 ?_))
      case k1 =>
        intro j u hj
        have hj2 : j = 0 ∨ j = 1 := by have := (List.getElem?_eq_some_iff.1 hj).1; simp at this; omega
        rw [Addr.add_lit, Nat.zero_add, World.cell?_alloc_at _ _ _ _ (by rw [hzB])]
        rcases hj2 with rfl | rfl
        · rw [← hj, List.map_cons, bv8 hq8]; rfl
        · rw [← hj, List.map_cons, List.map_cons, bv8 hs8]; rfl
      case k2 => intro u hu; obtain ⟨x, _, rfl⟩ := List.mem_map.1 hu; rfl
      case k3 => unfold maxLen; omega
      case k4 => omega
      case k5 => simp; omega
      intro v1 w1 hown2 hgr2 _
      have hb2 : Below w.heap.size w ((wr.alloc (.cells #[iv q, .string x.b] 69)).alloc (.cells #[.int .u8 (q : Int), .int .u8 (x.b.size : Int)] 5)) := (HB.out.alloc hzr _).alloc (by rw [hzB]; omega) _
      have hk2 := Kept.grown hgr2
      have e1 : ((wr.alloc (.cells #[iv q, .string x.b] 69)).alloc (.cells #[.int .u8 (q : Int), .int .u8 (x.b.size : Int)] 5)).cell? ⟨wr.heap.size, 1, none⟩ = some (.string x.b) := by simp
      have f1 := hk2.cell e1 (by show ¬ (some wr.heap.size = some gv); intro e; injection e with e; omega)
      have HB2 : Hid (Below w.heap.size w w1) := Lib.hid (hb2.trans (hk2.toBelow (by simp; omega) (fun k _ e => by have e' : k = gv := Option.some.inj e; omega)))
      have Hown2 := Lib.hid hown2
      have hz2' := HB2.out.size
      clear hown2 hgr2 hb2 hk2 e1 Hown1 Hown hb1
      go_wp2_with (at_builtin; refine Lib.wpList_append_own_string _ rfl _ _ 83 9 rfl w.heap.size 5 i0 Tryd.underlying83 Tryd.underlying9 hi hz0 hz1 hz2 _ (1 + fl + 2) _ rfl Hown2.out x.b rfl ?k1 ?k2 ?k3 ?_)
      case k1 => unfold maxLen; omega
      case k2 => omega
      case k3 => omega
      intro v3 w3 hown3 hgr3 _
      have hb3 : Below w.heap.size w1 w3 := (Below.refl _ _).grown hgr3 hz2' (fun k e => (Hown2.out.lt k e).1)
      have HB3 := Lib.hid (HB2.out.trans hb3)
      have Hown3 : Hid (w3.ownsRow w.heap.size 5 1 v3 (1 + (Rd.flat (ls.take (k + 1))).length) ((UInt8.ofNat ls.length :: Rd.flat (ls.take (k + 1))).map bv)) := Lib.hid (by
        have e : (UInt8.ofNat ls.length :: Rd.flat (ls.take (k + 1))).map bv = bv (UInt8.ofNat ls.length) :: ((Rd.flat (ls.take k)).map bv ++ bv (UInt8.ofNat q) :: bv (UInt8.ofNat x.b.size) :: Lib.strCells x.b) := by
          rw [Hfs.out, strCells_bv]; simp
        rw [e, Hbs.out, ← Hfle.out, show 1 + (fl + 2 + x.b.size) = 1 + fl + 2 + x.b.size by omega]
        exact hown3)
      clear hown3 hgr3 hb3 f1
      go_wp2_with fail
      go_roundg (gk - 1)
      case measure => have := Hk.out; omega
      case rel => exact ⟨k + 1, by have := Hk.out; omega, by go_num, Hown3.out, HB3.out⟩
    · have hkn : k = n := by have := Hk.out; omega
      have htk : ls.take k = ls := by rw [hkn, Hn.out]; exact List.take_length
      have hown' := Hown.out
      rw [htk] at hown'
      have hbl := Hok.out.body
      rw [Rd.body_len] at hbl
      obtain ⟨l, hl9⟩ : ∃ l, l = UInt8.ofNat ls.length :: Rd.flat ls := ⟨_, rfl⟩
      have hlb : l = Rd.body ls := hl9
      have hll : 1 + (Rd.flat ls).length = l.length := by rw [hl9, List.length_cons]; omega
      rw [← hl9, hll] at hown'
      rw [hll] at hbl
      obtain ⟨m, hm⟩ : ∃ m, m = l.length := ⟨_, rfl⟩
      have hm1 : 1 ≤ m := by omega
      have hm7 : m ≤ 721 := by omega
      have hco := fun (W : World) (hW : Below wr.heap.size wr W) => conv_own W w.heap.size _ l (owns_below hown' hW) (by omega)
      obtain ⟨gv, capv, hv, hgv, hgv2, _, _, _, _⟩ := owns_pos hown' (by omega)
      subst hv
      rw [← hm] at hco
      have Hco := Lib.hid hco
      have hq1 : (m : Int) / 256 < 256 := by omega
      have hq0 : 0 ≤ (m : Int) / 256 := by omega
      have hr1 : (m : Int) % 256 < 256 := by omega
      have hr0 : 0 ≤ (m : Int) % 256 := by omega
      have hcv := conv2R wr (UInt8.ofNat (m / 256)) (UInt8.ofNat (m % 256))
      rw [ofNat8R (by omega), ofNat8R (by omega)] at hcv
      rw [Int.natCast_ediv, Int.natCast_emod, show ((256 : Nat) : Int) = 256 from rfl] at hcv
      have hcl := hco _ ((Below.refl wr.heap.size wr).alloc (Nat.le_refl _) (.cells #[.int .u8 ((m : Int) / 256), .int .u8 ((m : Int) % 256)] 5))
      have hfin : (⟨#[UInt8.ofNat (m / 256), UInt8.ofNat (m % 256)]⟩ : ByteArray) ++ Rd.bs l = Rd.bs (Rd.rcd ls) := by
        rw [show (⟨#[UInt8.ofNat (m / 256), UInt8.ofNat (m % 256)]⟩ : ByteArray) = Rd.bs [UInt8.ofNat (m / 256), UInt8.ofNat (m % 256)] from rfl, Rd.bs_append, Rd.rcd, ← hlb, ← hm]; rfl
      have hsz : (Rd.bs l).size = m := by rw [Rd.bs_size, hm]
      obtain ⟨t, ht⟩ : ∃ t, t = (⟨#[UInt8.ofNat (m / 256), UInt8.ofNat (m % 256)]⟩ : ByteArray) := ⟨_, rfl⟩
      have hts : t.size = 2 := by rw [ht]; rfl
      obtain ⟨bl, hbl9⟩ : ∃ bl, bl = Rd.bs l := ⟨_, rfl⟩
      rw [← ht] at hcv hfin
      rw [← hbl9] at hcl hfin hsz
      have hsum : t.size + bl.size ≤ 9223372036854775807 := by omega
      have Hfin := Lib.hid hfin
      have HBf := Lib.hid (HB.out.alloc hzr (.cells #[.int .u8 ((m : Int) / 256), .int .u8 ((m : Int) % 256)] 5))
      have hu1 := wrap8R hq0 hq1
      have hu2 := wrap8R hr0 hr1
      rw [← hm]
      clear hkn htk hown' hl9 hlb hll hco hbl hm hfin hsz ht hts hbl9
      go_wp2_with fail
      go_ret
      exact ⟨by rw [← Hfin.out]; rfl, HBf.out⟩
end Go.Proofs.YtangcjffiooapaaDoor
