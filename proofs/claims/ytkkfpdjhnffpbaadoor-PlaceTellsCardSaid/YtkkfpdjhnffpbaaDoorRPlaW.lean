/- The walk of the reference's Place. -/
import Derived.Test.YtkkfpdjhnffpbaaDoorRPlaP
import Derived.Test.YtkkfpdjhnffpbaaDoorPlaX
import Derived.Test.YtkkfpdjhnffpbaaDoorROddB
namespace Go.Proofs.YtkkfpdjhnffpbaaDoor
open Go.ChangeShapes Go.WideShapes Go.ChangeAt Go.RowKit
set_option linter.unusedVariables false
/-- what stands while the reference places: the stripes that there are, and the loads -/
structure RPl (w0 : World) (gl n : Nat) (w : World) (v : Value) (vs : List Value) (M : List (List Nat)) (L : List Nat) : Prop where
  rows : RowsI w (gl + 1) v vs M
  lds : OwnR w gl 3 (.slice (some ⟨gl, 0, none⟩) n n) (L.map ivn)
  bel : Below w0.heap.size w0 w
  e : gl = w0.heap.size
  sz : gl + 1 ≤ w.heap.size
namespace RPl
variable {w0 w w1 : World} {gl n : Nat} {v : Value} {vs : List Value} {M : List (List Nat)} {L L' : List Nat}
theorem below (h : RPl w0 gl n w v vs M L) (hb : Below w.heap.size w w1) : RPl w0 gl n w1 v vs M L :=
  ⟨h.rows.below hb, OwnR.below h.lds hb, h.bel.trans (hb.mono h.bel.size), h.e, Nat.le_trans h.sz hb.size⟩
theorem load (h : RPl w0 gl n w v vs M L) (hk : Kept (fun k => k = gl) w w1) (hO : OwnR w1 gl 3 (.slice (some ⟨gl, 0, none⟩) n n) (L'.map ivn)) : RPl w0 gl n w1 v vs M L' :=
  ⟨h.rows.kept hk (by omega), hO, h.bel.trans (hk.toBelow h.bel.size (fun k _ e => by have := h.e; omega)), h.e, Nat.le_trans h.sz hk.size⟩
theorem push {v' u : Value} {r : List Nat} (h : RPl w0 gl n w v vs M L) (hu : OwnR w (gl + 1) 3 u (r.map ivn)) (hub : ∀ g, u.ownBlock = some g → v.ownBlock ≠ some g)
    (hown : w1.ownsRow (gl + 1) 23 1 v' (vs.length + 1) (vs ++ [u])) (hg : w.grownBy w1 v.ownBlock) (hv : v'.ownBlock = v.ownBlock ∨ v'.ownBlock = some (w.heap.size + 1)) :
    RPl w0 gl n w1 v' (vs ++ [u]) (M ++ [r]) L := by
  have hk := Kept.grown hg
  have hlow : ∀ g, some g = v.ownBlock → gl + 1 ≤ g := fun g e => (OwnR.lt (OwnR.of_owns h.rows.own) e.symm).1
  exact ⟨h.rows.push hu hub hown hg hv, OwnR.kept h.lds hk (fun g e e2 => by have e : gl = g := Option.some.inj e; have := hlow g e2; omega), h.bel.trans (hk.toBelow h.bel.size (fun k _ e => by have := hlow _ e; have := h.e; omega)), h.e, Nat.le_trans h.sz hk.size⟩
end RPl
theorem isB_0 (L : List Nat) (n : Nat) (h : L.length = n) : Od.rowB n 0 0 = Pl.isB L 0 := by
  unfold Od.rowB Pl.isB
  rw [h]
  refine List.map_congr_left (fun d _ => ?_)
  rw [decide_eq_false (show ¬ d < 0 by omega), decide_eq_false (show ¬ Pl.rank L d < 0 by omega)]
  rfl
set_option maxRecDepth 100000 in
set_option maxHeartbeats 4000000 in
theorem rplace (n wd m : Nat) (h1 : 1 ≤ n) (h10 : n ≤ 10) (hw1 : 1 ≤ wd) (hwn : wd ≤ n) (hm : m ≤ 40) (w : World) :
    Calls Tryd.prog 16 #[iv n, iv wd, iv m] w fun e w' => ∃ v, e = .returned v ∧ Below w.heap.size w w' ∧ Rows2 w' v ((Pl.st n wd m).map ci) := by
  have mk := make_intsO n (by omega) w
  have hO0 := made_intsO n (by omega) w
  rw [← ld0_ivn n wd] at hO0
  have hal : Below w.heap.size w (w.alloc (.cells (madeCells #[.int .i64 0] n) 3)) := (Below.refl _ _).alloc (Nat.le_refl _) _
  have hsz1 : (w.alloc (.cells (madeCells #[.int .i64 0] n) 3)).heap.size = w.heap.size + 1 := by simp
  obtain ⟨w1, hw1'⟩ : ∃ w1, w1 = w.alloc (.cells (madeCells #[.int .i64 0] n) 3) := ⟨_, rfl⟩
  rw [← hw1'] at mk hal hO0 hsz1
  obtain ⟨gl, hgl⟩ : ∃ g, g = w.heap.size := ⟨_, rfl⟩
  rw [← hgl] at mk hO0
  have HP0 : Hid (RPl w gl n w1 (.slice none 0 0) [] (Pl.st n wd 0) (Pl.ld n wd 0)) := Lib.hid ⟨RowsI.nil _ _, hO0, hal, hgl, by omega⟩
  clear hO0 hal hsz1 hw1' hgl
  go_enter Tryd.func16, Tryd.ntmps16
  go_wp2_with fail
  clear mk
  go_loopg [8, 9] m (fun gk v8 v9 wr => ∃ (i : Nat) (vs : List Value), i + gk = m ∧ v9 = iv i ∧ RPl w gl n wr v8 vs (Pl.st n wd i) (Pl.ld n wd i))
  case atStart => exact ⟨0, [], by omega, rfl, HP0.out⟩
  case round =>
    obtain ⟨gO, hgO⟩ : ∃ x : Nat, x = gk := ⟨_, rfl⟩
    obtain ⟨wO, hwO⟩ : ∃ x : World, x = wr := ⟨_, rfl⟩
    subst hgO hwO
    clear HP0
    obtain ⟨i, vs, hi, rfl, hP⟩ := hrel
    have Hi := Lib.hid hi
    obtain ⟨L, hL⟩ : ∃ x, x = Pl.ld n wd i := ⟨_, rfl⟩
    obtain ⟨M, hM⟩ : ∃ x, x = Pl.st n wd i := ⟨_, rfl⟩
    rw [← hL, ← hM] at hP
    have hLl : L.length = n := by rw [hL, Pl.ld_len]
    have hLb : ∀ d, L.getD d 0 ≤ i := fun d => by rw [hL]; exact Pl.ld_le _ _ _ _
    have HP := Lib.hid hP
    have HL := Lib.hid (And.intro hL hM)
    have HLl := Lib.hid hLl
    have HLb := Lib.hid hLb
    clear hi hP hL hM hLl hLb
    by_cases him : i < m
    · have mkb := make_boolsO n (by omega) wO
      have hOb := made_boolsO n 0 (by omega) wO
      rw [isB_0 L n HLl.out] at hOb
      have hal : Below wO.heap.size wO (wO.alloc (.cells (madeCells #[.bool false] n) 4)) := (Below.refl _ _).alloc (Nat.le_refl _) _
      have hszI : (wO.alloc (.cells (madeCells #[.bool false] n) 4)).heap.size = wO.heap.size + 1 := by simp
      obtain ⟨wI, hwI⟩ : ∃ wI, wI = wO.alloc (.cells (madeCells #[.bool false] n) 4) := ⟨_, rfl⟩
      rw [← hwI] at mkb hal hOb hszI
      obtain ⟨gi, hgi⟩ : ∃ g, g = wO.heap.size := ⟨_, rfl⟩
      rw [← hgi] at mkb hOb
      have HalO := Lib.hid hal
      have HOI := Lib.hid hOb
      have Hgi := Lib.hid hgi
      have HszI := Lib.hid hszI
      have hgli : gl < gi := by have := HP.out.sz; omega
      have hv8 : ∀ g, u8.ownBlock = some g → g < gi := fun g e => by rw [hgi]; exact (OwnR.lt (OwnR.of_owns HP.out.rows.own) e).2
      have Hv8 := Lib.hid hv8
      clear hOb hal hszI hwI hgi hv8
      go_wp2_with fail
      clear mkb
      go_loopg [11] wd (fun gk v11 wr => ∃ k : Nat, k + gk = wd ∧ v11 = iv k ∧ OwnR wr gi 4 (.slice (some ⟨gi, 0, none⟩) n n) (Pl.isB L k) ∧ Kept (fun q => q = gi) wI wr)
      case atStart => exact ⟨0, by omega, rfl, HOI.out, Kept.refl _ _⟩
      case round =>
        clear HOI
        obtain ⟨gB, hgB⟩ : ∃ x : Nat, x = gk := ⟨_, rfl⟩
        obtain ⟨wB, hwB⟩ : ∃ x : World, x = wr := ⟨_, rfl⟩
        subst hgB hwB
        obtain ⟨k, hk, rfl, hO, hK⟩ := hrel
        have Hk := Lib.hid hk
        have HO := Lib.hid hO
        have HK := Lib.hid hK
        have HPB := Lib.hid (HP.out.below (HalO.out.trans (hK.toBelow (B := wO.heap.size) (by have := HszI.out; omega) (fun q _ e => by have := Hgi.out; omega))))
        obtain ⟨hx1, hx2, hx3, hx4, hx5, hci, hfi⟩ := OwnR.cellsO hO (by rw [Pl.isB_len, HLl.out]; omega)
        have Hci := Lib.hid (show ∀ d, d < n → wB.cell? ⟨gi, d, none⟩ = some (.bool (decide (Pl.rank L d < k))) from fun d hd => by
          have h := hci d hd
          rw [Nat.zero_add, Pl.isB_at k (by rw [HLl.out]; exact hd)] at h; exact h)
        have Hfi := Lib.hid hfi
        clear hx1 hx2 hx3 hx4 hx5 hci hfi
        obtain ⟨hx1, hx2, hx3, hx4, hx5, hcl, hfl⟩ := OwnR.cellsO (HPB.out.lds) (by rw [List.length_map, HLl.out]; omega)
        have Hcl := Lib.hid (show ∀ d, d < n → wB.cell? ⟨gl, d, none⟩ = some (iv (L.getD d 0)) from fun d hd => by
          have h := hcl d hd
          rw [Nat.zero_add, List.getElem?_map, List.getElem?_eq_getElem (by rw [HLl.out]; exact hd)] at h
          rw [h, List.getD_eq_getElem?_getD, List.getElem?_eq_getElem (by rw [HLl.out]; exact hd)]; rfl)
        clear hx1 hx2 hx3 hx4 hx5 hcl hfl hk hO hK
        by_cases hkw : k < wd
        · go_wp2_with fail
          go_loopg [12, 13] n (fun gk v12 v13 wr => ∃ (d nd : Nat) (x : Int), d + gk = n ∧ v13 = iv d ∧ v12 = iv x ∧ Pl.Best L k d x ∧ wr = wB.drewN nd)
          case atStart => exact ⟨0, 0, -1, by omega, rfl, rfl, Pl.best_0 _ _, rfl⟩
          case round =>
            obtain ⟨d, nd, x, hd, rfl, rfl, hx, rfl⟩ := hrel
            have Hd := Lib.hid hd
            clear hd
            by_cases hdn : d < n
            · have ci := Hci.out d hdn
              have cd := Hcl.out d hdn
              have hdI : (d : Int) < (n : Int) := by omega
              by_cases hr : Pl.rank L d < k
              · have Hx := Lib.hid (Pl.best_skip hx hr)
                rw [decide_eq_true hr] at ci
                clear hx hr cd
                go_wp2_with fail
                go_quiet (fail)
                go_wp2_with fail
                go_roundg (gk - 1)
                case measure => have := Hd.out; omega
                case rel => exact ⟨d + 1, _, _, by have := Hd.out; omega, by go_num, rfl, Hx.out, rfl⟩
              · rw [decide_eq_false hr] at ci
                rcases hx with ⟨rfl, hx⟩ | ⟨b, rfl, hb1, hb2, hb3⟩
                · have Hx := Lib.hid (Pl.best_first hx hr)
                  clear hx hr cd
                  go_wp2_with fail
                  go_quiet (fail)
                  go_wp2_with fail
                  go_roundg (gk - 1)
                  case measure => have := Hd.out; omega
                  case rel => exact ⟨d + 1, _, _, by have := Hd.out; omega, by go_num, rfl, Hx.out, rfl⟩
                · have cb := Hcl.out b (by omega)
                  have hbI : (b : Int) < (n : Int) := by omega
                  have hb0 : decide ((b : Int) < 0) = false := dec_f (by omega)
                  by_cases hl : L.getD d 0 < L.getD b 0
                  · have Hx := Lib.hid (Pl.best_less hb1 hb3 hr hl)
                    obtain ⟨xd, hxd⟩ : ∃ x, x = L.getD d 0 := ⟨_, rfl⟩
                    obtain ⟨xb, hxb⟩ : ∃ x, x = L.getD b 0 := ⟨_, rfl⟩
                    rw [← hxd, ← hxb] at hl
                    rw [← hxd] at cd
                    rw [← hxb] at cb
                    have hlI : decide (xd < xb) = true := dec_t hl
                    clear hb1 hb2 hb3 hr hl hxd hxb
                    go_wp2_with fail
                    go_quiet (fail)
                    go_wp2_with fail
                    go_roundg (gk - 1)
                    case measure => have := Hd.out; omega
                    case rel => exact ⟨d + 1, _, _, by have := Hd.out; omega, by go_num, rfl, Hx.out, rfl⟩
                  · have Hx := Lib.hid (Pl.best_keep hb1 hb2 hb3 hl)
                    obtain ⟨xd, hxd⟩ : ∃ x, x = L.getD d 0 := ⟨_, rfl⟩
                    obtain ⟨xb, hxb⟩ : ∃ x, x = L.getD b 0 := ⟨_, rfl⟩
                    rw [← hxd, ← hxb] at hl
                    rw [← hxd] at cd
                    rw [← hxb] at cb
                    have hlI : decide (xd < xb) = false := dec_f hl
                    clear hb1 hb2 hb3 hr hl hxd hxb
                    go_wp2_with fail
                    go_quiet (fail)
                    go_wp2_with fail
                    go_roundg (gk - 1)
                    case measure => have := Hd.out; omega
                    case rel => exact ⟨d + 1, _, _, by have := Hd.out; omega, by go_num, rfl, Hx.out, rfl⟩
            · have hde : d = L.length := by rw [HLl.out]; have := Hd.out; omega
              rw [hde] at hx
              obtain ⟨b, rfl, hb1, hb2⟩ := Pl.best_full (by rw [HLl.out]; omega) hx
              have hst := OwnR.setAtO (show OwnR (wB.drewN nd) gi 4 (.slice (some ⟨gi, 0, none⟩) n n) (Pl.isB L k) from HO.out) (k := b) (by rw [Pl.isB_len]; exact hb1) (.bool true)
              rw [Nat.zero_add, Pl.isB_set hb1 hb2] at hst
              have hbn : b < n := by rw [← HLl.out]; exact hb1
              have cb := Hci.out b hbn
              have fb := Hfi.out b
              have hbI : (b : Int) < (n : Int) := by omega
              have Hst := Lib.hid hst
              have HK2 := Lib.hid ((HK.out.drewN nd).set1 b (.bool true))
              clear hde hx hb1 hb2 hst
              go_wp2_with fail
              go_roundg (gB - 1)
              case measure => have := Hk.out; omega
              case rel => exact ⟨k + 1, by have := Hk.out; omega, by go_num, Hst.out, HK2.out⟩
        · have hkw' : k = wd := by have := Hk.out; omega
          have HciW := Lib.hid (show ∀ d, d < n → wB.cell? ⟨gi, d, none⟩ = some (.bool (decide (Pl.rank L d < wd))) from fun d hd => by rw [← hkw']; exact Hci.out d hd)
          clear Hci Hfi Hcl HO Hk
          obtain ⟨B3, hB3⟩ : ∃ B, B = wB.heap.size := ⟨_, rfl⟩
          have hlB : gl < B3 := by have := HPB.out.sz; omega
          have HB3 := Lib.hid hB3
          clear hkw' hB3
          go_wp2_with fail
          go_loopg [14, 15] n (fun gk v14 v15 wr => ∃ j : Nat, j + gk = n ∧ v15 = iv j ∧ wr.ownsRow B3 3 1 v14 (Pl.selT L wd j).length ((Pl.selT L wd j).map ivn) ∧ OwnR wr gl 3 (.slice (some ⟨gl, 0, none⟩) n n) ((Pl.addT L wd j).map ivn) ∧ Kept (fun q => q = gl) wB wr)
          case atStart => exact ⟨0, by omega, rfl, World.ownsRow_nil _ _ _ _, by rw [Pl.addT_0]; exact HPB.out.lds, Kept.refl _ _⟩
          case round =>
            obtain ⟨j, hj, rfl, hO, hlds, hK2⟩ := hrel
            have Hj := Lib.hid hj
            have HO := Lib.hid hO
            have HLd := Lib.hid hlds
            have HK2 := Lib.hid hK2
            have hz2 : B3 ≤ wr.heap.size := by have := HB3.out; have := hK2.size; omega
            clear hj hO hlds hK2
            by_cases hjn : j < n
            · have ci := HK2.out.cell (HciW.out j hjn) (by omega)
              have hjI : (j : Int) < (n : Int) := by omega
              have hjL : j < L.length := by rw [HLl.out]; exact hjn
              by_cases hr : Pl.rank L j < wd
              · rw [decide_eq_true hr] at ci
                have hsl := Pl.selT_le L wd j
                have hk9 : (Pl.selT L wd j).length + 1 ≤ 1000000 := by omega
                have hap := Pl.selT_yes hr
                have had := Pl.addT_yes hjL hr
                have hx : (Pl.addT L wd j)[j]? = some (L.getD j 0) := by rw [Pl.addT_at wd j hjL, if_neg (by omega), Nat.add_zero]
                obtain ⟨x, hx0⟩ : ∃ x, x = L.getD j 0 := ⟨_, rfl⟩
                have hxi : x ≤ i := by rw [hx0]; exact HLb.out j
                rw [← hx0] at had hx
                have Hap := Lib.hid hap
                have Had := Lib.hid had
                have Hx := Lib.hid hx
                obtain ⟨pv, nv, cv, rfl⟩ := (OwnR.of_owns HO.out).slice
                clear hr hsl hap had hx hx0
                go_wp2_with (at_builtin; refine app1 wr wr _ 3 23 rfl _ _ rfl B3 Tryd.underlying23 info_int rfl _ (Pl.selT L wd j).length _ rfl _ rfl rfl HO.out rfl hk9 (by decide) hz2 (Below.refl _ _) ?_)
                intro v8 w8 hown8 hb8 hg8 _
                have hkg := Kept.grown hg8
                have hbl : ∀ q, some q = (Value.slice pv nv cv).ownBlock → B3 ≤ q := fun q e => (HO.out.lt q e.symm).1
                have hl8 := OwnR.kept HLd.out hkg (fun g e e2 => by have e : gl = g := Option.some.inj e; have := hbl g e2; omega)
                obtain ⟨hx1, hx2, hx3, hx4, hx5, hcc, hff⟩ := OwnR.cellsO hl8 (by rw [List.length_map, Pl.addT_len, HLl.out]; omega)
                have c2 := hcc j hjn
                rw [Nat.zero_add, ivn_at Hx.out] at c2
                have f2 := hff j
                have hst := hl8.setAtO (k := j) (by rw [List.length_map, Pl.addT_len]; exact hjL) (ivn (x + 1))
                rw [Nat.zero_add, ← List.map_set, ← Had.out] at hst
                have Hst := Lib.hid hst
                have HK8 := Lib.hid ((HK2.out.trans hkg (fun q hq e => by have := hbl q e; have := HB3.out; omega)).set1 j (ivn (x + 1)))
                have ho8 : w8.ownsRow B3 3 1 v8 (Pl.selT L wd (j + 1)).length ((Pl.selT L wd (j + 1)).map ivn) := by rw [Hap.out, List.length_append, List.map_append]; exact hown8
                have HO8 := Lib.hid (Kept.owns ho8 ((Kept.self gl w8).set1 j (ivn (x + 1))) (fun g hg e => by have := (ho8.lt g hg).1; omega))
                have hwx : IntKind.i64.wrap ((x : Int) + 1) = ((x + 1 : Nat) : Int) := by rw [IntWalk.i64_in _ (by omega)]; omega
                clear hown8 hb8 hg8 hkg hbl hl8 hx1 hx2 hx3 hx4 hx5 hcc hff hst ho8 Hx Hap Had
                go_wp2_with fail
                go_roundg (gk - 1)
                case measure => have := Hj.out; omega
                case rel => exact ⟨j + 1, by have := Hj.out; omega, by go_num, HO8.out, Hst.out, HK8.out⟩
              · rw [decide_eq_false hr] at ci
                have hap := Pl.selT_no hr
                have had := Pl.addT_no hr
                rw [← hap] at HO
                rw [← had] at HLd
                clear hr hap had
                go_wp2_with fail
                go_roundg (gk - 1)
                case measure => have := Hj.out; omega
                case rel => exact ⟨j + 1, by have := Hj.out; omega, by go_num, HO.out, HLd.out, HK2.out⟩
            · have hje : j = L.length := by rw [HLl.out]; have := Hj.out; omega
              have hjI : ¬ (j : Int) < (n : Int) := by omega
              have hlds := HLd.out
              have hO := HO.out
              rw [hje, Pl.addT_full] at hlds
              rw [hje, Pl.selT_full] at hO
              have HPn := Lib.hid (HPB.out.load HK2.out hlds)
              have HOs := Lib.hid ((OwnR.of_owns hO).mono (base' := gl + 1) (by omega))
              have hub : ∀ g, u14.ownBlock = some g → u8.ownBlock ≠ some g := fun g e e2 => by
                have h1 := (hO.lt g e).1
                have h2 := Hv8.out g e2
                have h3 := HalO.out.size
                have h4 := HK.out.size
                have h5 := HB3.out
                have h6 := HszI.out
                have h7 := Hgi.out
                omega
              have Hub := Lib.hid hub
              obtain ⟨pu, nu, cu, hu14⟩ := (OwnR.of_owns HO.out).slice
              subst hu14
              obtain ⟨pv, nv, cv, hu8⟩ := (OwnR.of_owns HPn.out.rows.own).slice
              subst hu8
              have hk9 : vs.length + 1 ≤ 1000000 := by rw [HPn.out.rows.len, HL.out.2, Pl.st_len]; omega
              have hB2 := HPn.out.sz
              have hM9 : M ++ [Pl.sel L wd] = Pl.st n wd (i + 1) := by rw [Pl.st_succ, ← HL.out.1, ← HL.out.2]
              have hL9 : Pl.add L wd = Pl.ld n wd (i + 1) := by rw [Pl.ld_succ, ← HL.out.1]
              rw [hL9] at HPn
              have HM9 := Lib.hid hM9
              clear hjn hje hlds hO hub hM9 hL9 HO HLd
              go_wp2_with (at_builtin; refine app1 wr wr _ 23 22 rfl _ _ rfl (gl + 1) Tryd.underlying22 info_ints rfl _ vs.length _ rfl _ rfl rfl HPn.out.rows.own rfl hk9 (by decide) hB2 (Below.refl _ _) ?_)
              intro v9 w9 hown9 hb9 hgr9 hat9
              have HP9 := Lib.hid (HPn.out.push HOs.out Hub.out hown9 hgr9 hat9)
              rw [HM9.out] at HP9
              clear hown9 hb9 hgr9 hat9 HPn
              go_wp2_with fail
              go_roundg (gO - 1)
              case measure => have := Hi.out; omega
              case rel => exact ⟨i + 1, _, by have := Hi.out; omega, by go_num, HP9.out⟩
    · obtain rfl : i = m := by have := Hi.out; omega
      have hR : Rows2 wO u8 ((Pl.st n wd i).map ci) := by
        rw [← HL.out.2]
        refine HP.out.rows.rows2 (fun r hr d hd => ?_)
        rw [HL.out.2] at hr
        exact Nat.lt_of_lt_of_le (Pl.st_lt hr hd) (by omega)
      have HR := Lib.hid hR
      clear him hR
      go_wp2_with fail
      go_ret
      exact ⟨_, rfl, HP.out.bel, HR.out⟩
end Go.Proofs.YtkkfpdjhnffpbaaDoor
