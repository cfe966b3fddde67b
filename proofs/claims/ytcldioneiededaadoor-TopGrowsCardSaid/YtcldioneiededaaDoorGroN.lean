/- The walks of Grow's New, Read, Write, Done. -/
import Derived.Test.YtcldioneiededaaDoorGroZ
import Derived.Test.YtcldioneiededaaDoorFuncs
namespace Go.Proofs.YtcldioneiededaaDoor
open Go.ChangeShapes Go.WideShapes Go.ChangeAt Go.RowKit
set_option linter.unusedVariables false
def rdF (now : List ByteArray) (i : Int) : Int := if i < 0 ∨ (now.length : Int) ≤ i then 1 else 0
def rdV (now : List ByteArray) (i : Int) : ByteArray := if i < 0 ∨ (now.length : Int) ≤ i then ⟨#[]⟩ else now.getD i.toNat Gr.e0
set_option maxRecDepth 100000 in
theorem gread_any {w : World} {b n done : Nat} {now : List ByteArray} {F : Nat → Prop} (h : GroOk F w b n done now) (h0 : 0 < n) (hn : n ≤ 100) (h9 : now.length ≤ 100) (hd : done ≤ 1000) (i : Int) :
    Calls Tryd.prog 42 #[.pointer (some ⟨b, 0, none⟩), iv i] w fun e w' => e = .returned (.tuple #[.string (rdV now i), errV (rdF now i)]) ∧ Below w.heap.size w w' := by
  obtain ⟨g, c, vs, hA, hI⟩ := h
  have c2 := hA.c2
  have HA := Lib.hid hA
  clear hA hI
  unfold rdF rdV
  obtain ⟨m, hm⟩ : ∃ m, m = now.length := ⟨_, rfl⟩
  rw [← hm] at c2 HA h9 ⊢
  have Hm := Lib.hid hm
  clear hm
  by_cases h1 : i < 0
  · rw [if_pos (.inl h1), if_pos (.inl h1)]
    go_enter Tryd.func42, Tryd.ntmps42
    go_wp2_with fail
    go_ret2
    exact ⟨rfl, Below.refl _ _⟩
  · by_cases h2 : (m : Int) ≤ i
    · rw [if_pos (.inr h2), if_pos (.inr h2)]
      go_enter Tryd.func42, Tryd.ntmps42
      go_wp2_with fail
      go_ret2
      exact ⟨rfl, Below.refl _ _⟩
    · rw [if_neg (by omega), if_neg (by omega)]
      obtain ⟨k, rfl⟩ : ∃ k : Nat, i = k := ⟨i.toNat, by omega⟩
      rw [show ((k : Int)).toNat = k by omega]
      have hk : k < m := by omega
      have HAt := Lib.hid (gat_any HA.out h0 (by omega) hd k (by omega))
      obtain ⟨sd, hsd⟩ : ∃ x, x = (Gr.spot n done k).1 := ⟨_, rfl⟩
      obtain ⟨sr, hsr⟩ : ∃ x, x = (Gr.spot n done k).2 := ⟨_, rfl⟩
      have hsd9 : sd ≤ n := by rw [hsd]; exact Gr.spot_disk h0 done k
      have hsp : Gr.spot n done k = (sd, sr) := by rw [hsd, hsr]
      rw [hsp] at HAt
      have hsl : sr < (Gr.build (Gr.spot n done) now m sd).length := by
        rw [Gr.build_len]
        have := Gr.le_last (Gr.spot n done) sd k m hk (by rw [hsp])
        rw [hsp] at this; exact this
      have hget : (Gr.build (Gr.spot n done) now m sd).getD sr Gr.e0 = now.getD k Gr.e0 := by
        have := Gr.build_hit (Gr.spot_inj (done := done) h0) now k m hk
        rw [hsp] at this; exact this
      have HSl := Lib.hid hsl
      have HGe := Lib.hid hget
      clear hsd hsr hsp hsl hget
      go_enter Tryd.func42, Tryd.ntmps42
      go_wp2_with fail
      refine HAt.out.mono ?_
      rintro e w1 ⟨rfl, hb1⟩
      have HG := Lib.hid (gget_any (HA.out.below hb1) sd sr hsd9 HSl.out)
      rw [HGe.out] at HG
      have HB1 := Lib.hid hb1
      clear hb1 HAt c2
      go_wp2_with fail
      refine HG.out.mono ?_
      rintro e w2 ⟨rfl, hb2⟩
      have HB2 := Lib.hid (HB1.out.trans (hb2.mono HB1.out.size))
      clear hb2 HG
      go_wp2_with fail
      go_ret2
      exact ⟨rfl, HB2.out⟩
def wrF (now : List ByteArray) (i : Int) (s : ByteArray) : Int := if i < 0 ∨ (now.length : Int) ≤ i ∨ 16 < s.size then 1 else 0
def wrS (now : List ByteArray) (i : Int) (s : ByteArray) : List ByteArray := if i < 0 ∨ (now.length : Int) ≤ i ∨ 16 < s.size then now else now.set i.toNat s
theorem wrS_len (now : List ByteArray) (i : Int) (s : ByteArray) : (wrS now i s).length = now.length := by unfold wrS; split <;> simp
def GWrPost (F : Nat → Prop) (b n done : Nat) (now : List ByteArray) (i : Int) (s : ByteArray) (w : World) (e : Ending) (w' : World) : Prop :=
  e = .returned (errV (wrF now i s)) ∧ GroOk F w' b n done (wrS now i s) ∧ Kept F w w'
theorem info_rowG : (Tryd.prog.info? 40).map (fun i => (i.zero, i.size, i.bytes)) = some (some (.slice none 0 0), 1, 24) := by kernel_rfl
theorem make_rowsG (n : Nat) (h : n ≤ 1000000) (w : World) : (Instr.makeSlice 42 (.int .i64 (n : Int)) (.int .i64 (n : Int))).run Tryd.prog w = .ok (.slice (some ⟨w.heap.size, 0, none⟩) n n) (w.alloc (.cells (madeCells #[.slice none 0 0] n) 40)) :=
  run_make_row' 42 40 (.slice none 0 0) 24 Tryd.underlying42 info_rowG rfl .i64 .i64 n (by omega) (by omega) w
theorem DsAt.made (w : World) (n : Nat) (hn : n ≤ 1000000) : DsAt (w.alloc (.cells (madeCells #[.slice none 0 0] n) 40)) w.heap.size n n (fun _ => .slice none 0 0) (fun _ => []) := by
  have hl : (madeCells #[Value.slice none 0 0] n).toList = List.replicate n (.slice none 0 0) := toList_madeCells_one _ _
  have hs : (madeCells #[Value.slice none 0 0] n).size = n := by rw [← Array.length_toList, hl, List.length_replicate]
  refine ⟨.inr ⟨w.heap.size, 0, n, _, by rw [vss_len], Nat.zero_le _, heap_alloc_new w _, by rw [vss_len]; exact Nat.le_refl _, by unfold maxLen; omega, by rw [hs]; omega, fun j hj => ?_⟩, fun i hi => World.ownsRow_nil _ _ _ _, fun i hi e => (by cases e), fun i j hi hj hne g hg => (by cases hg)⟩
  rw [vss_len] at hj
  rw [Nat.zero_add, ← Array.getElem?_toList, hl, List.getElem?_replicate, if_pos hj, vss_get _ hj]
def gnF (cells : List ByteArray) (n : Int) : Int := if cellsF cells ≠ 0 then cellsF cells else if n < 1 ∨ 10 ≤ n then 1 else 0
def GNewPost (cells : List ByteArray) (n : Nat) (w : World) (e : Ending) (w' : World) : Prop :=
  ∃ b, e = .returned (.tuple #[.pointer (some ⟨b, 0, none⟩), .nilIface]) ∧ GroOk (fun k => w.heap.size ≤ k) w' b n 0 cells ∧ Below w.heap.size w w'
def GNewRel (cells : List ByteArray) (b g c n m : Nat) (w : World) (gk : Nat) (v32 : Value) (wr : World) : Prop :=
  ∃ k : Nat, k + gk = m ∧ v32 = iv k ∧ ∃ vs, GroAt wr b g c n m 0 vs (Gr.build (Gr.spot n 0) cells k) ∧ GroIn (fun k => w.heap.size ≤ k) b g n vs ∧ Below w.heap.size w wr
set_option maxRecDepth 100000 in
set_option maxHeartbeats 1000000 in
theorem gnew_any (cells : List ByteArray) (n : Nat) (h0 : 1 ≤ n) (hn : n < 10) (hc : cellsF cells = 0) (v : Value) (w : World) (hv : Row w v (cells.map Value.string)) :
    Calls Tryd.prog 40 #[v, iv n] w (GNewPost cells n w) := by
  have HC := Lib.hid (cells_any cells v w hv)
  rw [hc] at HC
  have hlen := (cellsF_0 hc).1
  have HV : Hid (Strs w v cells) := Lib.hid hv
  obtain ⟨p, cap, rfl, hcap, hcell⟩ := Strs.get hv
  have Hcell := Lib.hid hcell
  obtain ⟨m, hm⟩ : ∃ m, m = cells.length := ⟨_, rfl⟩
  rw [← hm] at HC HV hlen hcap ⊢
  have Hm := Lib.hid hm
  have hmk := make_rowsG (n + 1) (by omega)
  rw [show (((n + 1 : Nat)) : Int) = (n : Int) + 1 by omega] at hmk
  have hD := DsAt.made w (n + 1) (by omega)
  have hb1 : Below w.heap.size w (w.alloc (.cells (madeCells #[.slice none 0 0] (n + 1)) 40)) := (Below.refl _ _).alloc (Nat.le_refl _) _
  have hb2 : Below w.heap.size w ((w.alloc (.cells (madeCells #[.slice none 0 0] (n + 1)) 40)).alloc (.cells #[.slice (some ⟨w.heap.size, 0, none⟩) (n + 1 : Nat) (n + 1), iv n, iv m, iv 0] 119)) := hb1.alloc (by simp) _
  have HG : Hid (GroAt ((w.alloc (.cells (madeCells #[.slice none 0 0] (n + 1)) 40)).alloc (.cells #[.slice (some ⟨w.heap.size, 0, none⟩) (n + 1 : Nat) (n + 1), iv n, iv m, iv 0] 119)) (w.heap.size + 1) w.heap.size (n + 1) n m 0 (fun _ => .slice none 0 0) (Gr.build (Gr.spot n 0) cells 0)) := Lib.hid (by
    refine ⟨?_, hD.below ((Below.refl _ _).alloc (Nat.le_refl _) _), by omega, fun i hi e => (by cases e)⟩
    have := heap_alloc_new (w.alloc (.cells (madeCells #[.slice none 0 0] (n + 1)) 40)) (.cells #[.slice (some ⟨w.heap.size, 0, none⟩) (n + 1 : Nat) (n + 1), iv n, iv m, iv 0] 119)
    simpa using this)
  have HB2 := Lib.hid hb2
  clear hv hcell hm hc hD hb1 hb2
  go_enter Tryd.func40, Tryd.ntmps40
  go_wp2_with fail
  refine HC.out.mono ?_
  rintro e w' ⟨he, rfl⟩
  obtain rfl : e = .returned .nilIface := he
  go_wp2_with fail
  obtain ⟨w1, hw1⟩ : ∃ w1, w1 = (w.alloc (.cells (madeCells #[.slice none 0 0] (n + 1)) 40)).alloc (.cells #[.slice (some ⟨w.heap.size, 0, none⟩) (n + 1 : Nat) (n + 1), iv n, iv m, iv 0] 119) := ⟨_, rfl⟩
  rw [← hw1] at HG HB2 ⊢
  clear hw1 HC hmk
  obtain ⟨b, hb⟩ : ∃ b, b = w.heap.size + 1 := ⟨_, rfl⟩
  obtain ⟨g, hg⟩ : ∃ g, g = w.heap.size := ⟨_, rfl⟩
  rw [← hb, ← hg] at HG
  rw [← hb, ← hg]
  have HI0 : Hid (GroIn (fun k => w.heap.size ≤ k) b g n (fun _ => .slice none 0 0)) := Lib.hid ⟨by show _ ≤ _; omega, by show _ ≤ _; omega, fun i hi k hk => by cases hk⟩
  clear hb hg
  go_loopg [8, 9, 32] m (fun gk v8 v9 v32 wr => GNewRel cells b g (n + 1) n m w gk v32 wr)
  case atStart => exact ⟨0, by omega, rfl, _, HG.out, HI0.out, HB2.out⟩
  case round =>
    clear HG HI0 HB2
    obtain ⟨k, hk, rfl, vs, hA, hI, hB⟩ := hrel
    have Hk := Lib.hid hk
    have HA := Lib.hid hA
    have HI := Lib.hid hI
    have HB := Lib.hid hB
    have hz := hB.size
    clear hk hA hI hB
    by_cases hkm : k < m
    · obtain ⟨s, hs⟩ : ∃ s, cells[k]? = some s := ⟨cells[k]'(by rw [← Hm.out]; exact hkm), List.getElem?_eq_getElem _⟩
      have hsg : cells.getD k Gr.e0 = s := by rw [List.getD_eq_getElem?_getD, hs]; rfl
      obtain ⟨gc, oc, rfl, hcc, hgc⟩ := Hcell.out k s hs
      have d0 : wr.cell? ⟨gc, oc + k, none⟩ = some (.string s) := (HB.out.cell (p := ⟨gc, oc + k, none⟩) hgc).trans hcc
      have HAt := Lib.hid (gat_any HA.out h0 (by omega) (by omega) k (by omega))
      obtain ⟨sd, hsd⟩ : ∃ x, x = (Gr.spot n 0 k).1 := ⟨_, rfl⟩
      obtain ⟨sr, hsr⟩ : ∃ x, x = (Gr.spot n 0 k).2 := ⟨_, rfl⟩
      have hsd9 : sd ≤ n := by rw [hsd]; exact Gr.spot_disk h0 0 k
      have hsr9 : sr ≤ k := by rw [hsr]; exact Gr.spot_row n 0 k
      have hsp : Gr.spot n 0 k = (sd, sr) := by rw [hsd, hsr]
      rw [hsp] at HAt
      have hnx : Gr.put (Gr.build (Gr.spot n 0) cells k) (sd, sr) s = Gr.build (Gr.spot n 0) cells (k + 1) := by
        rw [Gr.build, hsp, hsg]
      have Hnx := Lib.hid hnx
      clear hsd hsr hsp hs hsg hcc hnx
      go_wp2_with fail
      refine HAt.out.mono ?_
      rintro e w2 ⟨rfl, hb2⟩
      have HA2 := Lib.hid (HA.out.below hb2)
      have HB2 := Lib.hid (HB.out.trans (hb2.mono hz))
      have hz2 := HB2.out.size
      have HP := Lib.hid (gput_any HA2.out (F := fun k => w.heap.size ≤ k) (fun q hq => Nat.le_trans hz2 hq) HI.out sd sr hsd9 (by omega) (by have := build_bound n 0 cells k sd; omega) s)
      rw [Hnx.out] at HP
      clear hb2 HAt HA HB d0
      go_wp2_with fail
      refine HP.out.mono ?_
      rintro e w3 ⟨rfl, vs3, hA3, hI3, hK3⟩
      have HA3 := Lib.hid hA3
      have HI3 := Lib.hid hI3
      have HB3 := Lib.hid (HB2.out.trans (hK3.toBelow hz2 (fun k _ hk => hk)))
      clear hA3 hI3 hK3 HP HA2 HB2
      go_wp2_with fail
      go_roundg (gk - 1)
      case measure => have := Hk.out; omega
      case rel => exact ⟨k + 1, by have := Hk.out; omega, by go_num, vs3, HA3.out, HI3.out, HB3.out⟩
    · obtain rfl : k = m := by have := Hk.out; omega
      clear Hk
      go_wp2_with fail
      go_ret2
      refine ⟨b, rfl, ⟨g, n + 1, vs, ?_, HI.out⟩, HB.out⟩
      rw [← Hm.out]; exact HA.out
set_option maxRecDepth 100000 in
theorem gnew_no (cells : List ByteArray) (n : Int) (h : gnF cells n ≠ 0) (v : Value) (w : World) (hv : Row w v (cells.map Value.string)) :
    Calls Tryd.prog 40 #[v, iv n] w fun e w' => e = .returned (.tuple #[.pointer none, errV (gnF cells n)]) ∧ w = w' := by
  have HC := Lib.hid (cells_any cells v w hv)
  unfold gnF at *
  by_cases hc : cellsF cells = 0
  · rw [if_neg (by simpa using hc)] at h ⊢
    rw [hc] at HC
    have hn : n < 1 ∨ 10 ≤ n := by
      by_cases hn : n < 1 ∨ 10 ≤ n
      · exact hn
      · rw [if_neg hn] at h; exact absurd rfl h
    rw [if_pos hn]
    clear hv h hc
    rcases hn with hn | hn
    · go_enter Tryd.func40, Tryd.ntmps40
      go_wp2_with fail
      refine HC.out.mono ?_
      rintro e w' ⟨he, rfl⟩
      obtain rfl : e = .returned .nilIface := he
      go_wp2_with fail
      go_ret2
      exact ⟨rfl, rfl⟩
    · have hn1 : ¬ n < 1 := by omega
      go_enter Tryd.func40, Tryd.ntmps40
      go_wp2_with fail
      refine HC.out.mono ?_
      rintro e w' ⟨he, rfl⟩
      obtain rfl : e = .returned .nilIface := he
      go_wp2_with fail
      go_ret2
      exact ⟨rfl, rfl⟩
  · rw [if_pos hc]
    rw [errV_ne hc] at HC ⊢
    clear hv h
    obtain ⟨z, hz⟩ : ∃ z, z = cellsF cells := ⟨_, rfl⟩
    rw [← hz] at HC ⊢
    clear hz hc
    go_enter Tryd.func40, Tryd.ntmps40
    go_wp2_with fail
    refine HC.out.mono ?_
    rintro e w' ⟨rfl, rfl⟩
    go_wp2_with fail
    go_ret2
    exact ⟨rfl, rfl⟩
end Go.Proofs.YtcldioneiededaaDoor
