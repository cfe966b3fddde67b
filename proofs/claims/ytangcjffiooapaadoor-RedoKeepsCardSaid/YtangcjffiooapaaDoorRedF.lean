/- The walks of the reference's Writes and Done. -/
import Derived.Test.YtangcjffiooapaaDoorRedO
import Derived.Test.YtangcjffiooapaaDoorRedK
import Derived.Test.YtangcjffiooapaaDoorOwnS
import Derived.RegionTactic
import Derived.Deep.DeepCutAuto
import Derived.Deep.CutBlock
import Derived.Deep.OwnRows
import Derived.Laws.OwnMore
namespace Go.Proofs.YtangcjffiooapaaDoor
open Go.ChangeShapes Go.WideShapes Go.ChangeAt Go.RowKit
set_option linter.unusedVariables false
theorem info_strF : (Tryd.prog.info? 9).map (fun i => (i.zero, i.size, i.bytes)) = some (some (.string ⟨#[]⟩), 1, 16) := by kernel_rfl
set_option maxHeartbeats 1000000 in
theorem writes_any (n : Nat) (ls : List Rd.W) (v : Value) (w : World) (hv : RowWr w v ls) :
    Calls Tryd.prog 43 #[iv n, v] w fun e w' => e = .returned (iv (Rd.writesF n ls)) ∧ w = w' := by
  obtain ⟨p, cap, rfl, hl, hx⟩ := hv
  obtain ⟨m, hm⟩ : ∃ m, m = ls.length := ⟨_, rfl⟩
  rw [← hm] at hl ⊢
  have Hm := Lib.hid hm
  have Hx := Lib.hid hx
  by_cases h40 : 40 < m
  · have hF : Rd.writesF n ls = 4 := by unfold Rd.writesF; rw [← hm, if_pos h40]
    rw [hF]
    have h40I : (40 : Int) < (m : Int) := by omega
    clear hm hx hF
    go_enter Tryd.func43, Tryd.ntmps43
    go_wp2_with fail
    go_ret
    exact ⟨rfl, rfl⟩
  · have hF : Rd.writesF n ls = if ls.any (Rd.badB n) then 1 else 0 := by unfold Rd.writesF; rw [← hm, if_neg h40]
    have h40I : (m : Int) ≤ 40 := by omega
    have HFF := Lib.hid hF
    clear hm hx hF
    go_enter Tryd.func43, Tryd.ntmps43
    go_wp2_with fail
    go_loopg [5] m (fun gk i wr => ∃ k : Nat, k + gk = m ∧ i = iv k ∧ wr = w ∧ ∀ j x, j < k → ls[j]? = some x → Rd.badB n x = false)
    case atStart => exact ⟨0, by omega, rfl, rfl, fun j b hj => by omega⟩
    case round =>
      obtain ⟨k, hk, rfl, hwr, hno⟩ := hrel
      subst hwr
      have Hk := Lib.hid hk
      have Hno := Lib.hid hno
      clear hk hno
      by_cases hlt : k < m
      · have hkl : k < ls.length := by rw [← Hm.out]; exact hlt
        have hy := List.getElem?_eq_getElem hkl
        obtain ⟨g, off, hp, hg, c0, c1⟩ := Hx.out k _ hy
        generalize ls[k] = x at *
        obtain ⟨xp, xb⟩ := x
        have d0 : wr.cell? ⟨g, off + k * 2, none⟩ = some (iv xp) := c0
        have d1 : wr.cell? ⟨g, off + k * 2 + 1, none⟩ = some (.string xb) := c1
        have Hy := Lib.hid hy
        have Hp := Lib.hid hp
        rw [hp]
        have hbad : ∀ r, Rd.badB n ⟨xp, xb⟩ = r → (r = true ∧ (decide (xp < 0) = true ∨ decide (xp < 0) = false ∧ decide ((n : Int) ≤ xp) = true ∨ decide (xp < 0) = false ∧ decide ((n : Int) ≤ xp) = false ∧ decide ((16 : Int) < (xb.size : Int)) = true)) ∨ (r = false ∧ decide (xp < 0) = false ∧ decide ((n : Int) ≤ xp) = false ∧ decide ((16 : Int) < (xb.size : Int)) = false) := by
          intro r hr
          have hr' : (decide (xp < 0) || decide ((n : Int) ≤ xp) || decide (16 < xb.size)) = r := hr
          have e16 : decide ((16 : Int) < (xb.size : Int)) = decide (16 < xb.size) := by
            by_cases h : 16 < xb.size
            · rw [dec_t (by omega), dec_t h]
            · rw [dec_f (by omega), dec_f h]
          rw [e16]
          cases a1 : decide (xp < 0) <;> cases a2 : decide ((n : Int) ≤ xp) <;> cases a3 : decide (16 < xb.size) <;> rw [a1, a2, a3] at hr' <;> subst hr' <;> simp
        have Hbad := Lib.hid (hbad _ rfl)
        clear hbad hy c0 c1 hp hkl
        rcases Hbad.out with ⟨hr, hc⟩ | ⟨hr, q0, q1, q2⟩
        · have hres : Rd.writesF n ls = 1 := by
            rw [HFF.out, if_pos]
            rw [List.any_eq_true]
            exact ⟨_, List.mem_of_getElem? Hy.out, hr⟩
          have Hres := Lib.hid hres
          clear hr hres
          rcases hc with q0 | ⟨q0, q1⟩ | ⟨q0, q1, q2⟩
          all_goals
            go_wp2_with fail
            go_ret
            exact ⟨by rw [Hres.out]; rfl, rfl⟩
        · have Hr := Lib.hid hr
          clear hr
          go_wp2_with fail
          rw [← Hp.out]
          go_roundg (gk - 1)
          case measure => have := Hk.out; omega
          case rel =>
            refine ⟨k + 1, by have := Hk.out; omega, by go_num, rfl, fun j x hj hx => ?_⟩
            by_cases hjk : j < k
            · exact Hno.out j x hjk hx
            · obtain rfl : j = k := by omega
              rw [Hy.out] at hx
              obtain rfl := Option.some.inj hx
              exact Hr.out
      · have hkm : k = m := by have := Hk.out; omega
        have hres : Rd.writesF n ls = 0 := by
          rw [HFF.out, if_neg]
          rw [Bool.not_eq_true, List.any_eq_false]
          intro x hx
          obtain ⟨j, hj⟩ := List.mem_iff_getElem?.1 hx
          have hjl := (List.getElem?_eq_some_iff.1 hj).1
          rw [Hno.out j x (by have := Hm.out; omega) hj]; decide
        have Hres := Lib.hid hres
        clear hres hkm
        go_wp2_with fail
        go_ret
        exact ⟨by rw [Hres.out]; rfl, rfl⟩
def DoneRel (cells : List ByteArray) (ls : List Rd.W) (w : World) (pn : Value) (n gk : Nat) (i : Value) (wr : World) : Prop :=
  ∃ k : Nat, k + gk = n ∧ i = iv k ∧ OwnR wr w.heap.size 9 pn ((Rd.done cells (ls.take k)).map Value.string) ∧ Below w.heap.size w wr
def DonePost (l : List ByteArray) (w : World) (e : Ending) (w' : World) : Prop :=
  ∃ v, e = .returned v ∧ OwnR w' w.heap.size 9 v (l.map Value.string) ∧ Below w.heap.size w w'
set_option maxRecDepth 100000 in
set_option maxHeartbeats 1000000 in
theorem done_any (cells : List ByteArray) (hc40 : cells.length ≤ 1000) (ls : List Rd.W) (hok : Rd.Ok cells.length ls) (va v : Value) (w : World) (ha : Row w va (cells.map Value.string)) (hv : RowWr w v ls) :
    Calls Tryd.prog 44 #[va, v] w (DonePost (Rd.done cells ls) w) := by
  obtain ⟨i0, hi, hq0, hq1, hq2⟩ := info_parts info_strF
  have Ha := Lib.hid ha
  obtain ⟨pa, ca, rfl, ha1, ha2, ha3, ha4⟩ := ha
  obtain ⟨p, cap, rfl, hl, hx⟩ := hv
  rw [List.length_map] at *
  obtain ⟨n, hn⟩ : ∃ n, n = ls.length := ⟨_, rfl⟩
  obtain ⟨m, hm⟩ : ∃ m, m = cells.length := ⟨_, rfl⟩
  rw [← hn] at hl ⊢
  rw [← hm] at hok hc40 ha1 ⊢
  have Hn := Lib.hid hn
  have Hm := Lib.hid hm
  have Hx := Lib.hid hx
  have Hok := Lib.hid hok
  have Ha4 := Lib.hid ha4
  unfold maxLen at ha2
  clear hn hm hx hok ha4
  go_enter Tryd.func44, Tryd.ntmps44
  go_upto_region 2 with (fail)
  go_cut [5] (fun z wq => ∃ wk, wk = wq ∧ OwnR wk w.heap.size 9 z (cells.map Value.string) ∧ Below w.heap.size w wk)
  case first =>
    cases pa with
    | none =>
      obtain rfl : ca = 0 := ha3 rfl
      obtain rfl : m = 0 := by omega
      have he : cells = [] := List.eq_nil_of_length_eq_zero Hm.out.symm
      have He := Lib.hid he
      clear he
      go_wp2_with fail
      go_meet
      exact ⟨_, rfl, by rw [He.out]; exact OwnR.nil _ _ _, Below.refl _ _⟩
    | some ad =>
      go_wp2_with (at_builtin; refine wpList_append_own _ rfl _ _ 22 rfl w.heap.size 9 i0 (.string ⟨#[]⟩) 1 16 Tryd.underlying22 hi hq0 hq1 hq2 rfl (by decide) _ _ _ rfl (World.ownsRow_nil _ _ _ _) ad m ca (cells.map Value.string) rfl ?qc1 ?qc2 ?qc3 ?qc4 ?qc5 ?qc6 ?_)
      case qc1 => rw [List.length_map, ← Hm.out, Nat.mul_one]
      case qc2 =>
        intro j u hj
        have hjn := (List.getElem?_eq_some_iff.1 hj).1
        obtain ⟨p', c', hpp, _, _, h4⟩ := Ha.out.shape
        rw [List.length_map, ← Hm.out] at hpp
        injection hpp with e1 e2 e3
        rw [List.length_map, ← Hm.out] at h4
        rw [List.length_map, ← Hm.out] at hjn
        obtain ⟨g, off, hp, h4⟩ := h4 (by omega)
        rw [← e1] at hp
        injection hp with hp
        rw [hp, Addr.add_lit, h4 j hjn, hj]
      case qc3 => intro u hu; obtain ⟨x, _, rfl⟩ := List.mem_map.1 hu; rfl
      case qc4 => unfold maxLen; omega
      case qc5 => omega
      case qc6 => omega
      intro v' w1' hown hgrow _
      have Hown := Lib.hid hown
      have Hgrow := Lib.hid hgrow
      clear hown hgrow
      go_wp2_with fail
      go_meet
      exact ⟨_, rfl, OwnR.of_owns Hown.out, (Below.refl _ _).grown Hgrow.out (Nat.le_refl _) (by intro k hk; simp [Value.ownBlock] at hk)⟩
  case rest =>
    rename_i z _
    obtain ⟨w1, hw1, hO, hb⟩ := hcut
    subst hw1
    have HO := Lib.hid hO
    have HB := Lib.hid hb
    clear hO hb hi hq0 hq1 hq2 Ha Ha4
    obtain ⟨pn, kn, cn, rfl⟩ := HO.out.slice
    have hkn : kn = m := by
      obtain ⟨p', c', h1, _⟩ := HO.out.shape
      rw [List.length_map, ← Hm.out] at h1
      injection h1
    subst hkn
    go_wp2_with fail
    go_loopg [6] n (fun gk i wr => DoneRel cells ls w (.slice pn kn cn) n gk i wr)
    case atStart => exact ⟨0, by omega, rfl, HO.out, HB.out⟩
    case round =>
      obtain ⟨k, hk, rfl, hO, hb⟩ := hrel
      have Hk := Lib.hid hk
      have HOk := Lib.hid hO
      have HBk := Lib.hid hb
      clear hk hO hb HO HB
      by_cases hlt : k < n
      · have hkl : k < ls.length := by rw [← Hn.out]; exact hlt
        have hy := List.getElem?_eq_getElem hkl
        have htk : ls.take (k + 1) = ls.take k ++ [ls[k]] := by rw [List.take_add_one, hy]; rfl
        have hxo := Hok.out.pos _ (List.getElem_mem hkl)
        obtain ⟨g, off, hp, hg, c0, c1⟩ := Hx.out k _ hy
        generalize ls[k] = x at *
        obtain ⟨xp, xb⟩ := x
        obtain ⟨q, rfl⟩ : ∃ q : Nat, xp = q := ⟨xp.toNat, by have h1 : 0 ≤ xp := hxo.1; show xp = _; omega⟩
        have hq : q < kn := by have h := hxo.2.1; have h' : ((q : Int)) < (kn : Int) := h; omega
        have d0 : wr.cell? ⟨g, off + k * 2, none⟩ = some (iv q) := (HBk.out.cell (p := ⟨g, off + k * 2, none⟩) hg).trans c0
        have d1 : wr.cell? ⟨g, off + k * 2 + 1, none⟩ = some (.string xb) := (HBk.out.cell (p := ⟨g, off + k * 2 + 1, none⟩) hg).trans c1
        have hdl : (Rd.done cells (ls.take k)).length = kn := by rw [Rd.done_len, Hm.out]
        have hdn : Rd.done cells (ls.take (k + 1)) = (Rd.done cells (ls.take k)).set q xb := by rw [htk, Rd.done_snoc]; rfl
        have Hdn := Lib.hid hdn
        have Hp := Lib.hid hp
        rw [hp]
        obtain ⟨gn, on, capn, hvn, hbn, hgn, _, _, hcn, hfn⟩ := HOk.out.at0 (by rw [List.length_map, hdl]; omega)
        injection hvn with e1 e2 e3
        have kq' : ∃ s0 : ByteArray, wr.cell? ⟨gn, on + q, none⟩ = some (.string s0) := by
          rw [hcn q (by rw [List.length_map, hdl]; exact hq), List.getElem?_map, List.getElem?_eq_getElem (by rw [hdl]; exact hq)]; exact ⟨_, rfl⟩
        obtain ⟨s0, kq⟩ := kq'
        have fq := hfn (on + q)
        have He1 := Lib.hid e1
        have Hdl := Lib.hid hdl
        rw [e1]
        have hqI : (q : Int) < (kn : Int) := by omega
        clear hy htk hxo c0 c1 hp hkl hdn hcn hfn e1 e2 e3 hg hdl
        go_wp2_with fail
        go_region
        go_wp2_with fail
        rw [← He1.out, ← Hp.out]
        go_roundg (gk - 1)
        case measure => have := Hk.out; omega
        case rel =>
          refine ⟨k + 1, by have := Hk.out; omega, by go_num, ?_, ?_⟩
          · rw [Hdn.out]
            have h := HOk.out
            rw [He1.out] at h ⊢
            exact (h.setStr (by rw [Hdl.out]; exact hq) xb).below (Below.refl _ _).drew
          · exact (HBk.out.setCell hbn _).drew
      · have hkm : k = n := by have := Hk.out; omega
        have htk : ls.take k = ls := by rw [hkm, Hn.out]; exact List.take_length
        have hO := HOk.out
        rw [htk] at hO
        have HOe := Lib.hid hO
        clear hO htk hkm HOk
        go_wp2_with fail
        go_ret
        exact ⟨_, rfl, HOe.out, HBk.out⟩
end Go.Proofs.YtangcjffiooapaaDoor
