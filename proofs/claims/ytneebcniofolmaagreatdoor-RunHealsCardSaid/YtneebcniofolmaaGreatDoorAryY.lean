/- The walks of package array: the parts of a row. -/
import Derived.Test.YtneebcniofolmaaGreatDoorAryX
import Derived.Test.YtneebcniofolmaaGreatDoorOrder
import Derived.Test.YtneebcniofolmaaGreatDoorPqK
import Derived.Deep.LoopGhost
import Derived.Deep.DeepCutAuto
import Derived.Deep.CutBlock
namespace Go.Proofs.YtneebcniofolmaaGreatDoor
open Go.ChangeShapes Go.WideShapes Go.ChangeAt Go.RowKit
set_option linter.unusedVariables false
/-- lists of one's own of two types lie in two blocks -/
theorem own_ne {w : World} {b1 b2 : Nat} {e1 e2 : TypeId} {v v' : Value} {n n' : Nat} {xs xs' : List Value} (h : w.ownsRow b1 e1 1 v n xs) (h' : w.ownsRow b2 e2 1 v' n' xs') (he : e1 ≠ e2) : ∀ g, v.ownBlock = some g → v'.ownBlock ≠ some g := by
  intro g hg hg'
  rcases h.2 with ⟨rfl, _⟩ | ⟨g1, c1, cur1, rfl, _, k1, _⟩
  · cases hg
  · rcases h'.2 with ⟨rfl, _⟩ | ⟨g2, c2, cur2, rfl, _, k2, _⟩
    · cases hg'
    · cases hg
      cases hg'
      exact at_apart k1 k2 he rfl
def ordN (n row m : Nat) : List Value := (List.range m).map fun j => iv (Ar.dk n row j)
theorem ordN_get {n row m k : Nat} (h : k < m) : (ordN n row m)[k]? = some (iv (Ar.dk n row k)) := by unfold ordN; rw [List.getElem?_map, List.getElem?_range h]; rfl
theorem ordN_eq {n row : Nat} (h : 0 < n) (m : Nat) : Lay.orderL (n : Int) (row : Int) m = ordN n row m := by
  unfold Lay.orderL ordN
  exact List.map_congr_left (fun j _ => by rw [dk_int h])
def tabS (m : Nat) (f : Nat → ByteArray) : List Value := (List.range m).map fun j => .string (f j)
def tabB (m : Nat) (f : Nat → Bool) : List Value := (List.range m).map fun j => .bool (f j)
theorem tabS_succ (m : Nat) (f : Nat → ByteArray) : tabS (m + 1) f = tabS m f ++ [.string (f m)] := by unfold tabS; rw [List.range_succ, List.map_append]; rfl
theorem tabB_succ (m : Nat) (f : Nat → Bool) : tabB (m + 1) f = tabB m f ++ [.bool (f m)] := by unfold tabB; rw [List.range_succ, List.map_append]; rfl
def PartsRel (base n row : Nat) (PS : Nat → ByteArray) (LS : Nat → Bool) (w : World) (vo : Value) (gk : Nat) (v10 v11 v31 : Value) (wr : World) : Prop :=
  ∃ k : Nat, k + gk = n ∧ v31 = iv k ∧ wr.ownsRow base 9 1 v10 k (tabS k PS) ∧ wr.ownsRow base 4 1 v11 k (tabB k LS) ∧ wr.ownsRow base 3 1 vo n (ordN n row n) ∧ Below base w wr
def PartsPost (n row : Nat) (PS : Nat → ByteArray) (LS : Nat → Bool) (w : World) (e : Ending) (w' : World) : Prop :=
  ∃ v1 v2 v3, e = .returned (.tuple #[v1, v2, v3, .nilIface]) ∧ w'.ownsRow w.heap.size 9 1 v1 n (tabS n PS) ∧ w'.ownsRow w.heap.size 4 1 v2 n (tabB n LS) ∧ w'.ownsRow w.heap.size 3 1 v3 n (ordN n row n) ∧ Below w.heap.size w w'
theorem info_strY : (Tryz.prog.info? 9).map (fun i => (i.zero, i.size, i.bytes)) = some (some (.string ⟨#[]⟩), 1, 16) := by kernel_rfl
theorem info_boolY : (Tryz.prog.info? 4).map (fun i => (i.zero, i.size, i.bytes)) = some (some (.bool false), 1, 1) := by kernel_rfl
variable {w : World} {b g c : Nat} {mb db : Nat → Nat} {n rows size : Nat} {ms : Nat → Dk.D} {bt : Nat → Nat}
def seenAt (ms : Nat → Dk.D) (bt : Nat → Nat) (d row : Nat) : ByteArray := if lostB ms bt d row then ⟨#[]⟩ else (ms d).rows.getD row ⟨#[]⟩
set_option maxRecDepth 100000 in
set_option maxHeartbeats 2000000 in
theorem aparts_any (h : AryAt w b g c mb db n rows size ms bt) (h3 : 3 ≤ n) (h10 : n ≤ 10) (hb9 : ∀ d, d < n → bt d ≤ 1000) (row : Nat) (hr : row < rows) (hr20 : rows ≤ 20) (hm : ∀ d, d < n → (ms d).many = rows) :
    Calls Tryz.prog 101 #[.pointer (some ⟨b, 0, none⟩), iv row] w (PartsPost n row (fun j => seenAt ms bt (Ar.dk n row j) row) (fun j => lostB ms bt (Ar.dk n row j) row) w) := by
  have c0 := h.c0
  have hc1 := h.cap.1
  have hc2 := h.cap.2
  unfold maxLen at hc2
  have HA := Lib.hid h
  have Hm := Lib.hid hm
  have Hb9 := Lib.hid hb9
  have HO := Lib.hid (order_yes (n : Int) (row : Int) (by omega) (by omega) (by omega) (by omega) w)
  clear h hm hb9
  go_enter Tryz.func101, Tryz.ntmps101
  go_wp2_with fail
  refine HO.out.mono ?_
  rintro e w1 ⟨vo, rfl, hO1, hB1⟩
  rw [Int.toNat_natCast, ordN_eq (by omega)] at hO1
  obtain ⟨go, co, rfl, _, _, hco1, hco2, _, _⟩ := owns_pos hO1 (by omega)
  unfold maxLen at hco2
  have HO1 := Lib.hid hO1
  have HB1 := Lib.hid hB1
  clear hO1 hB1 c0 HO
  go_wp2_with fail
  go_loopg [10, 11, 13, 14, 15, 31] n (fun gk v10 v11 v13 v14 v15 v31 wr => PartsRel w.heap.size n row (fun j => seenAt ms bt (Ar.dk n row j) row) (fun j => lostB ms bt (Ar.dk n row j) row) w (.slice (some ⟨go, 0, none⟩) n co) gk v10 v11 v31 wr)
  case atStart => exact ⟨0, by omega, rfl, World.ownsRow_nil _ _ _ _, World.ownsRow_nil _ _ _ _, HO1.out, HB1.out⟩
  case round =>
    clear HO1 HB1
    obtain ⟨k, hk, rfl, hP, hL, hO, hB⟩ := hrel
    have hzr := hB.size
    have Hk := Lib.hid hk
    have HP := Lib.hid hP
    have HL := Lib.hid hL
    have HO := Lib.hid hO
    have HB := Lib.hid hB
    clear hk hP hL hB
    by_cases hlt : k < n
    · have c1 : wr.cell? ⟨go, k, none⟩ = some (iv (Ar.dk n row k)) := (hO.cellAt k (by omega)).trans (ordN_get hlt)
      have HA1 := Lib.hid (HA.out.below HB.out)
      have hd : Ar.dk n row k < n := Ar.dk_lt (by omega)
      obtain ⟨d, hd0⟩ : ∃ d, d = Ar.dk n row k := ⟨_, rfl⟩
      rw [← hd0] at c1 hd
      have Hs : Hid (seenAt ms bt (Ar.dk n row k) row = seenAt ms bt d row) := Lib.hid (by rw [hd0])
      have Hl : Hid (lostB ms bt (Ar.dk n row k) row = lostB ms bt d row) := Lib.hid (by rw [hd0])
      have hsd : seenAt ms bt d row = if lostB ms bt d row then ⟨#[]⟩ else (ms d).rows.getD row ⟨#[]⟩ := rfl
      rw [hsd] at Hs
      clear hd0 hsd
      have HLo := Lib.hid (alost_any HA1.out hd row (Hb9.out d hd) (by omega))
      have HR := Lib.hid (read_any (HA1.out.dsk d hd) (row : Int))
      have hmd := Hm.out d hd
      cases hf : lostB ms bt d row with
      | true =>
        rw [hf] at HLo Hl Hs
        rw [if_pos rfl] at Hs
        clear hO hf HR hmd
        go_wp2_with fail
        refine HLo.out.mono ?_
        rintro e w' ⟨rfl, rfl⟩
        go_wp2_with (at_builtin; refine app1 w wr (.string ⟨#[]⟩) 9 23 rfl _ _ rfl w.heap.size Tryz.underlying23 info_strY rfl _ k _ rfl _ rfl rfl HP.out rfl ?c1 ?c2 hzr HB.out ?_)
        case c1 => omega
        case c2 => omega
        intro v8 w8 hP8 hB8 hg8 hat8
        have hL8 := Kept.owns HL.out (Kept.grown hg8) (fun q hq e => own_ne HL.out HP.out (by decide) q hq e.symm)
        have hO8 := Kept.owns HO.out (Kept.grown hg8) (fun q hq e => own_ne HO.out HP.out (by decide) q hq e.symm)
        have HP8 := Lib.hid hP8
        have HL8 := Lib.hid hL8
        have HO8 := Lib.hid hO8
        have HB8 := Lib.hid hB8
        have hz8 := hB8.size
        clear hP8 hL8 hO8 hB8 hg8 hat8
        go_wp2_with (at_builtin; refine app1 w w8 (.bool true) 4 55 rfl _ _ rfl w.heap.size Tryz.underlying55 info_boolY rfl _ k _ rfl _ rfl rfl HL8.out rfl ?c3 ?c4 hz8 HB8.out ?_)
        case c3 => omega
        case c4 => omega
        intro v9 w9 hL9 hB9 hg9 hat9
        have hP9 := Kept.owns HP8.out (Kept.grown hg9) (fun q hq e => own_ne HP8.out HL8.out (by decide) q hq e.symm)
        have hO9 := Kept.owns HO8.out (Kept.grown hg9) (fun q hq e => own_ne HO8.out HL8.out (by decide) q hq e.symm)
        have HP9 := Lib.hid hP9
        have HL9 := Lib.hid hL9
        have HO9 := Lib.hid hO9
        have HB9 := Lib.hid hB9
        clear hP9 hL9 hO9 hB9 hg9 hat9
        go_wp2_with fail
        go_roundg (gk - 1)
        case measure => have := Hk.out; omega
        case rel => exact ⟨k + 1, by have := Hk.out; omega, by go_num, by rw [tabS_succ, Hs.out]; exact HP9.out, by rw [tabB_succ, Hl.out]; exact HL9.out, HO9.out, HB9.out⟩
      | false =>
        rw [hf] at HLo Hl Hs
        have hfl : (ms d).failed = false := by unfold lostB at hf; rw [Bool.or_eq_false_iff] at hf; exact hf.1
        have hrd : (ms d).read (row : Int) = ((ms d).rows.getD row ⟨#[]⟩, 0) := by
          have hr0 : (ms d).ready (row : Int) = 0 := by
            unfold Dk.D.ready
            rw [hfl, hmd, if_neg (by decide), if_neg (by omega)]
          unfold Dk.D.read
          rw [if_pos hr0, Int.toNat_natCast]
        rw [hrd, errV_0] at HR
        rw [if_neg (by decide)] at Hs
        have c2 := HA1.out.c0
        have c3 := HA1.out.lst d hd
        have c4 := HA1.out.m0 hd
        generalize (ms d).rows.getD row ⟨#[]⟩ = x at *
        generalize mb d = mbd at *
        generalize db d = dbd at *
        clear hO hf hmd hfl hrd
        go_wp2_with fail
        refine HLo.out.mono ?_
        rintro e w' ⟨rfl, rfl⟩
        go_wp2_with fail
        refine HR.out.mono ?_
        rintro e w' ⟨rfl, rfl⟩
        go_wp2_with (at_builtin; refine app1 w wr (.string x) 9 23 rfl _ _ rfl w.heap.size Tryz.underlying23 info_strY rfl _ k _ rfl _ rfl rfl HP.out rfl ?c1 ?c2 hzr HB.out ?_)
        case c1 => omega
        case c2 => omega
        intro v8 w8 hP8 hB8 hg8 hat8
        have hL8 := Kept.owns HL.out (Kept.grown hg8) (fun q hq e => own_ne HL.out HP.out (by decide) q hq e.symm)
        have hO8 := Kept.owns HO.out (Kept.grown hg8) (fun q hq e => own_ne HO.out HP.out (by decide) q hq e.symm)
        have HP8 := Lib.hid hP8
        have HL8 := Lib.hid hL8
        have HO8 := Lib.hid hO8
        have HB8 := Lib.hid hB8
        have hz8 := hB8.size
        clear hP8 hL8 hO8 hB8 hg8 hat8
        go_wp2_with (at_builtin; refine app1 w w8 (.bool false) 4 55 rfl _ _ rfl w.heap.size Tryz.underlying55 info_boolY rfl _ k _ rfl _ rfl rfl HL8.out rfl ?c3 ?c4 hz8 HB8.out ?_)
        case c3 => omega
        case c4 => omega
        intro v9 w9 hL9 hB9 hg9 hat9
        have hP9 := Kept.owns HP8.out (Kept.grown hg9) (fun q hq e => own_ne HP8.out HL8.out (by decide) q hq e.symm)
        have hO9 := Kept.owns HO8.out (Kept.grown hg9) (fun q hq e => own_ne HO8.out HL8.out (by decide) q hq e.symm)
        have HP9 := Lib.hid hP9
        have HL9 := Lib.hid hL9
        have HO9 := Lib.hid hO9
        have HB9 := Lib.hid hB9
        clear hP9 hL9 hO9 hB9 hg9 hat9
        go_wp2_with fail
        go_roundg (gk - 1)
        case measure => have := Hk.out; omega
        case rel => exact ⟨k + 1, by have := Hk.out; omega, by go_num, by rw [tabS_succ, Hs.out]; exact HP9.out, by rw [tabB_succ, Hl.out]; exact HL9.out, HO9.out, HB9.out⟩
    · have hkn : k = n := by have := Hk.out; omega
      subst hkn
      clear hO
      go_wp2_with fail
      exact bodyPost_ret (v := .tuple #[u10, u11, Value.slice (some ⟨go, 0, none⟩) k co, .nilIface]) (by simp [results, Tryz.results101, go_sem]) rfl ⟨_, _, _, rfl, HP.out, HL.out, HO.out, HB.out⟩
end Go.Proofs.YtneebcniofolmaaGreatDoor
