/- The walk of matrix.Turned. -/
import Derived.Test.YtcldioneiededaaMatU
import Derived.Deep.AppendLies
namespace Go.Proofs.Ytcldioneiededaa
open Go.ChangeShapes Go.WideShapes Go.ChangeAt Go.RowKit
set_option linter.unusedVariables false
theorem tab_app (n m : Nat) (f g : Nat → UInt8) : Gv.tab n f ++ Gv.tab m g = Gv.tab (n + m) (fun j => if j < n then f j else g (j - n)) := by
  apply List.ext_getElem?
  intro j
  rw [Gv.tab_get?]
  by_cases h : j < n
  · rw [List.getElem?_append_left (by rw [Gv.tab_len]; exact h), Gv.tab_get?, if_pos h, if_pos (by omega), if_pos h]
  · rw [List.getElem?_append_right (by rw [Gv.tab_len]; omega), Gv.tab_len, Gv.tab_get?]
    by_cases h2 : j < n + m
    · rw [if_pos (by omega), if_pos h2, if_neg h]
    · rw [if_neg (by omega), if_neg h2]
theorem tab_drop (n m : Nat) (f : Nat → UInt8) : (Gv.tab (n + m) f).drop n = Gv.tab m (fun j => f (n + j)) := by
  apply List.ext_getElem?
  intro j
  rw [List.getElem?_drop, Gv.tab_get?, Gv.tab_get?]
  by_cases h : j < m
  · rw [if_pos (by omega), if_pos h]
  · rw [if_neg (by omega), if_neg h]
def TuRel (m : Mx.Mt) (n : Nat) (w : World) (g c U0 U1 gu cu : Nat) (bs us : Nat → Plc) (gk : Nat) (idx : Value) (wr : World) : Prop :=
  ∃ i vals, i + gk = n ∧ idx = iv i ∧ MatK wr w.heap.size g 0 c n vals n (fun r => if r < i then Gv.tab n (m r) ++ Gv.tab n (Mx.un r) else Gv.tab n (m r)) ∧
    (∀ r, i ≤ r → r < n → OwnT wr w.heap.size (sv n (bs r)) (Gv.tab n (m r)) ∧ vals r = sv n (bs r)) ∧ (∀ r b, r < n → (vals r).ownBlock = some b → b < U0 ∨ U1 ≤ b) ∧
    MatF wr U0 gu 0 cu n n us Mx.un ∧ Below w.heap.size w wr ∧ U1 ≤ wr.heap.size
def TuIn (m E : Mx.Mt) (n : Nat) (w : World) (g c : Nat) (bs : Nat → Plc) (gk : Nat) (idx : Value) (wr : World) : Prop :=
  ∃ i vals, i + gk = n ∧ idx = iv i ∧ MatK wr w.heap.size g 0 c n vals n (fun r => if r < i then Gv.tab n (fun j => E r (n + j)) else Gv.tab (n + n) (E r)) ∧
    (∀ r, i ≤ r → r < n → vals r = sv (n + n) (bs r)) ∧ Below w.heap.size w wr
def TuPost (m : Mx.Mt) (n : Nat) (w : World) (e : Ending) (w' : World) : Prop :=
  Below w.heap.size w w' ∧ ((Mx.rk n n m = n ∧ ∃ g c bs, e = .returned (.tuple #[.slice (some ⟨g, 0, none⟩) n c, .bool true]) ∧ MatF w' w.heap.size g 0 c n n bs (Mx.iv' n m)) ∨
    (Mx.rk n n m < n ∧ e = .returned (.tuple #[.slice none 0 0, .bool false])))
theorem OwnR.drop {w : World} {B : Nat} {E : TypeId} {g o n c k : Nat} {xs : List Value} (h : OwnR w B E (.slice (some ⟨g, o, none⟩) n c) xs) (hk : k ≤ n) : OwnR w B E (.slice (some ⟨g, o + k, none⟩) (n - k) (c - k)) (xs.drop k) := by
  rcases h with ⟨hv, _⟩ | ⟨g', o', c', cur, hv, hb, hg, h1, h2, h3, h4⟩
  · cases hv
  · injection hv with e1 e2 e3
    injection e1 with e1
    injection e1 with e4 e5
    subst e4 e5 e3
    refine .inr ⟨g, o + k, c - k, cur, by rw [List.length_drop, e2], hb, hg, by rw [List.length_drop]; omega, by omega, by omega, fun j hj => ?_⟩
    rw [List.length_drop] at hj
    rw [List.getElem?_drop, Nat.add_assoc]
    exact h4 (k + j) (by omega)
set_option maxRecDepth 100000 in
set_option maxHeartbeats 4000000 in
theorem turned_any (m : Mx.Mt) (n : Nat) (h0 : 0 < n) (hn9 : n ≤ 100) (v : Value) (w : World) (hv : RowsM w v (lt n n m)) :
    Calls Try.prog 45 #[v] w (TuPost m n w) := by
  obtain ⟨i0, hi0, hi1, hi2, hi3⟩ : ∃ i, Try.prog.info? 5 = some i ∧ i.zero = some (.int .u8 0) ∧ i.size = 1 ∧ i.bytes = 1 := by
    obtain ⟨i, h1, h2, h3, h4⟩ := info_parts info_byteV
    exact ⟨i, h1, h2, h3, h4⟩
  have HInf := Lib.hid hi0
  have HOw := Lib.hid (own_any m n n h0 h0 (by omega) (by omega) v w hv)
  unfold OwPost at HOw
  have hvl : ∃ p c, v = .slice p n c := by
    obtain ⟨vs, hr, hl, _⟩ := hv
    obtain ⟨p, c, h1, _⟩ := hr.shape
    rw [hl, lt_len] at h1
    exact ⟨p, c, h1⟩
  obtain ⟨p, c0, rfl⟩ := hvl
  clear hi0 hv
  go_enter Try.func45, Try.ntmps45
  go_wp2_with fail
  refine HOw.out.mono ?_
  rintro e w1 ⟨g, c, bs, rfl, hF, hT, hb1⟩
  obtain ⟨_, hg1, hnc, hcm, _, _⟩ := hF.outer h0
  have hUn := unit_any n h0 (by omega) w1
  unfold UnPost at hUn
  have HUn := Lib.hid hUn
  have HF := Lib.hid hF
  have HT := Lib.hid hT
  have HB1 := Lib.hid hb1
  have hz1 := hb1.size
  unfold maxLen at hcm
  clear hF hT hb1 HOw hUn
  go_wp2_with fail
  refine HUn.out.mono ?_
  rintro e w2 ⟨us, rfl, hU, hb2⟩
  have hz2 := hb2.size
  have hU1 : w1.heap.size < w2.heap.size := (hU.outer h0).2.1
  have HK0 : Hid (MatK w2 w.heap.size g 0 c n (fun i => sv n (bs i)) n (fun i => Gv.tab n (m i))) := Lib.hid (HF.out.below hb2).toK
  have HT2 : Hid (∀ r, r < n → OwnT w2 w.heap.size (sv n (bs r)) (Gv.tab n (m r))) := Lib.hid (fun r hr => OwnT.below (HT.out r hr) hb2)
  have HU := Lib.hid hU
  have HB2 := Lib.hid (HB1.out.trans (hb2.mono hz1))
  have hbl : ∀ r, r < n → (bs r).1 < w1.heap.size := fun r hr => (OwnR.lt (HF.out.rows r hr) (g := (bs r).1) rfl).2
  have Hbl := Lib.hid hbl
  obtain ⟨U0, hU0⟩ : ∃ x, x = w1.heap.size := ⟨_, rfl⟩
  obtain ⟨U1, hU1'⟩ : ∃ x, x = w2.heap.size := ⟨_, rfl⟩
  rw [← hU0] at HU Hbl hg1 hU1 ⊢
  rw [← hU1'] at hU1
  have HU1 := Lib.hid hU1'
  have hUu : ∀ r, r < n → (us r).1 < U1 := fun r hr => by rw [hU1']; exact (OwnR.lt (hU.rows r hr) (g := (us r).1) rfl).2
  have HUu := Lib.hid hUu
  have hwU : w.heap.size ≤ U0 := by rw [hU0]; exact hz1
  clear hU hb2 hbl HF HT HB1 hU1' hUu hU0 HUn hz1 hz2
  go_wp2_with fail
  go_loopg [6, 7, 16] n (fun gk v6 v7 v16 wr => TuRel m n w g c U0 U1 U0 n bs us gk v16 wr)
  case atStart => exact ⟨0, _, by omega, rfl, HK0.out.ext (fun i _ => by rw [if_neg (by omega)]), (fun r _ hr => ⟨HT2.out r hr, rfl⟩), (fun r b hr e => by injection e with e; subst e; exact .inl (Hbl.out r hr)), HU.out, HB2.out, by rw [HU1.out]; exact Nat.le_refl _⟩
  case round =>
    clear HK0 HT2 HU HB2
    obtain ⟨i, vals, hi, rfl, hK, hT, hap, hU, hB, hwr⟩ := hrel
    have Hi := Lib.hid hi
    have HK := Lib.hid hK
    have HT := Lib.hid hT
    have HAp := Lib.hid hap
    have HU := Lib.hid hU
    have HB := Lib.hid hB
    have hz := hB.size
    clear hi hK hT hap hU hB
    by_cases hin : i < n
    · obtain ⟨_, _, _, _, hcu, _⟩ := HU.out.outer h0
      have d0 := hcu i hin
      obtain ⟨xu, hxu⟩ : ∃ x, x = us i := ⟨_, rfl⟩
      rw [← hxu, Nat.zero_add] at d0
      have hur := HU.out.rows i hin
      rw [← hxu] at hur
      obtain ⟨pu, ou, cu⟩ := xu
      have d0' : wr.cell? ⟨U0, i, none⟩ = some (.slice (some ⟨pu, ou, none⟩) n cu) := d0
      obtain ⟨_, _, hx2, _, _, hcs, _⟩ := OwnB.cells hur (by rw [Gv.tab_len]; exact h0)
      have Hcs := Lib.hid hcs
      obtain ⟨hx3, hgs, _, _, hcc, hfz⟩ := HK.out.outer h0
      obtain ⟨hTi, hvi⟩ := HT.out i (Nat.le_refl _) hin
      obtain ⟨xb, hxb⟩ : ∃ x, x = bs i := ⟨_, rfl⟩
      rw [← hxb] at hTi hvi
      obtain ⟨pb, ob, cb⟩ := xb
      have d1 := hcc i hin
      have f1 := hfz (0 + i)
      rw [hvi, Nat.zero_add] at d1
      rw [Nat.zero_add] at f1
      have d1' : wr.cell? ⟨g, i, none⟩ = some (.slice (some ⟨pb, ob, none⟩) n cb) := d1
      have hTi' : wr.ownsRow w.heap.size 5 1 (.slice (some ⟨pb, ob, none⟩) n cb) n ((Gv.tab n (m i)).map bv) := by
        have h := hTi; unfold OwnT at h; rw [Gv.tab_len] at h; exact h
      have HTi := Lib.hid hTi'
      have hpg : pb ≠ g := fun e => HK.out.ng i hin (by rw [hvi]; show some pb = _; rw [e])
      have hpU : pb < U0 ∨ U1 ≤ pb := HAp.out i pb hin (by rw [hvi]; rfl)
      have Hvi := Lib.hid hvi
      have hi0 := HInf.out
      clear hcu hxu d0 hur hx2 hcs hcc hfz hTi hvi hxb d1 hTi'
      go_wp2_with (at_builtin; refine wpList_append_lies _ rfl _ _ 74 rfl w.heap.size 5 i0 (.int .u8 0) 1 1 Try.underlying74 hi0 hi1 hi2 hi3 rfl (by decide) _ n _ rfl HTi.out ⟨pu, ou, none⟩ n cu ((Gv.tab n (Mx.un i)).map bv) rfl ?y1 ?y2 ?y3 ?y4 ?y5 ?y6 ?y7 _ rfl ?_)
      case y1 => simp [Gv.tab_len]
      case y2 =>
        intro q u hq
        have hq1 := (List.getElem?_eq_some_iff.1 hq).1
        rw [Gv.tab_len] at hq1
        rw [Gv.at_get? (by rw [Gv.tab_len]; exact hq1)] at hq
        rw [Hcs.out q hq1, ← Option.some.inj hq]
      case y3 => intro u hu; obtain ⟨x, _, rfl⟩ := List.mem_map.1 hu; rfl
      case y5 => unfold maxLen; omega
      case y6 => omega
      intro g8 c8 w8 hown8 hgr8 hat8 hlt8
      have hk8 : Kept (fun b => i < n ∧ (vals i).ownBlock = some b) wr w8 := (Kept.grown hgr8).mono (fun b _ e => ⟨hin, by rw [Hvi.out]; show some pb = some b; exact e.symm⟩)
      have hO8 : OwnB w8 w.heap.size (.slice (some ⟨g8, 0, none⟩) (n + n) c8) (Gv.tab n (m i) ++ Gv.tab n (Mx.un i)) := by
        have h := OwnR.of_owns hown8
        unfold OwnB; rw [List.map_append]; exact h
      have hat8' : pb = g8 ∨ g8 = wr.heap.size := by
        rcases hat8 with h | h
        · left; injection h
        · exact .inr h
      have hK9 := (HK.out.put (i := i) (k' := n) hin hgs hk8 hO8 (fun b e => by
        injection e with e; subst e
        rcases hat8' with h | h
        · right; exact ⟨hin, by rw [Hvi.out, ← h]; rfl⟩
        · left; show wr.heap.size ≤ g8; omega) (fun r hr _ => hr)).ext (Ls' := fun r => if r < i + 1 then Gv.tab n (m r) ++ Gv.tab n (Mx.un r) else Gv.tab n (m r)) (fun r _ => by
          by_cases e : r = i
          · subst e; rw [up_self, if_pos (by omega)]
          · rw [up_ne _ _ e]
            by_cases e2 : r < i
            · rw [if_pos e2, if_pos (by omega)]
            · rw [if_neg e2, if_neg (by omega)])
      have hks : Kept (fun z => z = g) w8 (w8.setCell ⟨g, 0 + i, none⟩ (.slice (some ⟨g8, 0, none⟩) (n + n) c8)) := (Kept.self g w8).set1 _ _
      have hvb : ∀ b, (vals i).ownBlock = some b → b = pb := fun b e => by rw [Hvi.out] at e; injection e with e; exact e.symm
      have hT9 : ∀ r, i + 1 ≤ r → r < n → OwnT (w8.setCell ⟨g, 0 + i, none⟩ (.slice (some ⟨g8, 0, none⟩) (n + n) c8)) w.heap.size (sv n (bs r)) (Gv.tab n (m r)) ∧ up vals i (.slice (some ⟨g8, 0, none⟩) (n + n) c8) r = sv n (bs r) := fun r h1 h2 => by
        obtain ⟨k1, k2⟩ := HT.out r (by omega) h2
        refine ⟨OwnT.kept (OwnT.kept k1 hk8 (fun b hb hc => HK.out.ap r i b h2 hin (by omega) (by rw [k2]; exact hb) hc.2)) hks (fun b hb e => HK.out.ng r h2 (by rw [k2, hb, e])), by rw [up_ne _ _ (by omega)]; exact k2⟩
      have hap9 : ∀ r b, r < n → (up vals i (.slice (some ⟨g8, 0, none⟩) (n + n) c8) r).ownBlock = some b → b < U0 ∨ U1 ≤ b := fun r b hr e => by
        by_cases er : r = i
        · subst er
          rw [up_self] at e
          injection e with e
          subst e
          show g8 < U0 ∨ U1 ≤ g8
          rcases hat8' with h | h
          · rw [← h]; exact hpU
          · right; omega
        · rw [up_ne _ _ er] at e; exact HAp.out r b hr e
      have hU9 := (HU.out.keep hk8 (fun e => by have := hvb _ e.2; omega) (fun r hr e => by
        have h1 := hvb _ e.2
        have h2 := HUu.out r hr
        have h3 := (OwnR.lt (HU.out.rows r hr) (g := (us r).1) rfl).1
        omega)).keep hks (fun e => by omega) (fun r hr e => by
        have h3 := (OwnR.lt (HU.out.rows r hr) (g := (us r).1) rfl).1
        omega)
      have hB8 : Below w.heap.size w w8 := HB.out.trans (hk8.toBelow hz (fun b _ e => by
        have h1 := hvb _ e.2
        have h2 := (OwnR.lt (HK.out.rows i hin) e.2).1
        exact h2))
      have hB9 := hB8.setCell (p := ⟨g, 0 + i, none⟩) hx3 (.slice (some ⟨g8, 0, none⟩) (n + n) c8)
      have hz9 : U1 ≤ (w8.setCell ⟨g, 0 + i, none⟩ (.slice (some ⟨g8, 0, none⟩) (n + n) c8)).heap.size := by
        have := hk8.size
        have e : (w8.setCell ⟨g, 0 + i, none⟩ (.slice (some ⟨g8, 0, none⟩) (n + n) c8)).heap.size = w8.heap.size := by simp [World.setCell]
        omega
      have HK9 := Lib.hid hK9
      have HT9 := Lib.hid hT9
      have HAp9 := Lib.hid hap9
      have HU9 := Lib.hid hU9
      have HB9 := Lib.hid hB9
      have HZ9 := Lib.hid hz9
      have k1 := hk8.cell d1' (fun e => by have := hvb _ e.2; omega)
      have kf : w8.frozen? ⟨g, i, none⟩ = false := (hk8.frozen hgs (fun e => by have := hvb _ e.2; omega)).trans f1
      rw [Nat.zero_add] at HK9 HT9 HU9 HB9 HZ9
      clear hK9 hT9 hap9 hU9 hB9 hB8 hz9 hks hk8 hO8 hown8 hgr8 hat8 hat8' hvb hpU HTi d1' f1 d0'
      go_wp2_with fail
      go_roundg (gk - 1)
      case measure => have := Hi.out; omega
      case rel => exact ⟨i + 1, _, by have := Hi.out; omega, by go_num, HK9.out, HT9.out, HAp9.out, HU9.out, HB9.out, HZ9.out⟩
    · have hin' : i = n := by have := Hi.out; omega
      subst hin'
      obtain ⟨bs2, hF2, _⟩ := HK.out.full (L := i + i) (m := Mx.both i m) (by omega) (fun r hr => by
        rw [if_pos hr, tab_app]; rfl)
      have hR := reduce_any (Mx.both i m) w.heap.size g 0 c i (i + i) i h0 (by omega) (by omega) (by omega) bs2 wr hz hF2
      unfold RdPost at hR
      obtain ⟨R, hRe⟩ : ∃ R, R = (Mx.el i (Mx.both i m) i).2 := ⟨_, rfl⟩
      have hRk : R = Mx.rk i i m := hRe.trans (Mx.rk_both i m)
      have hRi : R ≤ i := by rw [hRe]; exact (Mx.el_inv i (Mx.both i m) i).len
      obtain ⟨E, hE⟩ : ∃ E, E = (Mx.el i (Mx.both i m) i).1 := ⟨_, rfl⟩
      rw [← hRe, ← hE] at hR
      have HR := Lib.hid hR
      have HRk := Lib.hid hRk
      have HE := Lib.hid hE
      clear hF2 hR hRe hRk hE HK HT HAp HU hin
      go_wp2_with fail
      refine HR.out.mono ?_
      rintro e w3 ⟨rfl, bs3, hF3, hb3⟩
      have HB3 := Lib.hid (HB.out.trans hb3)
      have HF3 := Lib.hid hF3
      clear hF3 hb3 HR HB
      by_cases hRl : R < i
      · have t1 : (R : Int) < (i : Int) := by omega
        have HPost : Hid (TuPost m i w (.returned (.tuple #[.slice none 0 0, .bool false])) w3) := Lib.hid ⟨HB3.out, .inr ⟨by rw [← HRk.out]; exact hRl, rfl⟩⟩
        clear hRl
        go_wp2_with fail
        go_ret2
        exact HPost.out
      · have hRe : R = i := by omega
        subst hRe
        have t1 : ¬ (R : Int) < (R : Int) := by omega
        clear hRl hRi
        go_wp2_with fail
        go_loopg [8, 38] R (fun gk v8 v38 wr => TuIn m E R w g c bs3 gk v38 wr)
        case atStart => exact ⟨0, _, by omega, rfl, HF3.out.toK.ext (fun r _ => by rw [if_neg (by omega)]), (fun r _ hr => rfl), HB3.out⟩
        case round =>
          clear HF3 HB3
          obtain ⟨i, vals, hi, rfl, hK, hv, hB⟩ := hrel
          have Hi := Lib.hid hi
          have HK := Lib.hid hK
          have HV := Lib.hid hv
          have HB := Lib.hid hB
          have hz := hB.size
          clear hi hK hv hB
          by_cases hin : i < R
          · obtain ⟨hx3, hgs, _, _, hcc, hfz⟩ := HK.out.outer h0
            have hvi := HV.out i (Nat.le_refl _) hin
            obtain ⟨xb, hxb⟩ : ∃ x, x = bs3 i := ⟨_, rfl⟩
            rw [← hxb] at hvi
            obtain ⟨pb, ob, cb⟩ := xb
            have d1 := hcc i hin
            rw [hvi, Nat.zero_add] at d1
            have d1' : wr.cell? ⟨g, i, none⟩ = some (.slice (some ⟨pb, ob, none⟩) (R + R) cb) := d1
            have hrow := HK.out.rows i hin
            rw [hvi, if_neg (by omega)] at hrow
            change OwnB wr w.heap.size (.slice (some ⟨pb, ob, none⟩) (R + R) cb) _ at hrow
            obtain ⟨_, _, hx4, hx5, hx6, _, _⟩ := OwnB.cells hrow (by rw [Gv.tab_len]; omega)
            have hdr := OwnR.drop hrow (k := R) (by omega)
            rw [show R + R - R = R by omega, ← List.map_drop, tab_drop] at hdr
            have HCl := Lib.hid (clone_byte _ (by intro u hu; obtain ⟨x, _, rfl⟩ := List.mem_map.1 hu; rfl) (by rw [List.length_map, Gv.tab_len]; omega) _ wr (OwnR.row hdr))
            unfold ClonePostB at HCl
            have hcb : ¬ cb = R := by omega
            unfold maxLen at hx6
            clear hcc hfz hxb d1 hrow hx4 hdr hvi
            go_wp2_with fail
            refine HCl.out.mono ?_
            rintro e w5 ⟨v5, rfl, ho5, hb5⟩
            have hO5 : OwnB w5 wr.heap.size v5 (Gv.tab R (fun j => E i (R + j))) := OwnR.of_owns ho5
            have hK5 := (HK.out.put (i := i) (k' := R) hin hgs (Kept.new _ hb5) (OwnR.mono hO5 hz) (fun b hb => .inl (OwnR.lt hO5 hb).1) (fun r hr _ => hr)).ext (Ls' := fun r => if r < i + 1 then Gv.tab R (fun j => E r (R + j)) else Gv.tab (R + R) (E r)) (fun r _ => by
              by_cases e : r = i
              · subst e; rw [up_self, if_pos (by omega)]
              · rw [up_ne _ _ e]
                by_cases e2 : r < i
                · rw [if_pos e2, if_pos (by omega)]
                · rw [if_neg e2, if_neg (by omega)])
            have HK5 := Lib.hid hK5
            have HB5 := Lib.hid ((HB.out.trans (hb5.mono hz)).setCell (p := ⟨g, 0 + i, none⟩) hx3 v5)
            obtain ⟨_, _, _, _, hcc, hfz⟩ := (HK.out.below hb5).outer h0
            have d2 := hcc i hin
            have f2 := hfz (0 + i)
            rw [Nat.zero_add] at d2 f2 HK5 HB5
            have hv5 : ∀ r, i + 1 ≤ r → r < R → up vals i v5 r = sv (R + R) (bs3 r) := fun r h1 h2 => by rw [up_ne _ _ (by omega)]; exact HV.out r (by omega) h2
            have HV5 := Lib.hid hv5
            obtain ⟨p5, c5, rfl, _, _⟩ := RowB.shape (OwnB.row hO5)
            rw [Gv.tab_len] at HK5 HB5 HV5 ⊢
            clear hcc hfz hv5 hK5 hO5 ho5 hb5 HCl d1'
            go_wp2_with fail
            go_roundg (gk - 1)
            case measure => have := Hi.out; omega
            case rel => exact ⟨i + 1, _, by have := Hi.out; omega, by go_num, HK5.out, HV5.out, HB5.out⟩
          · have hin' : i = R := by have := Hi.out; omega
            subst hin'
            obtain ⟨bs4, hF4, _⟩ := HK.out.full (L := i) (m := Mx.iv' i m) h0 (fun r hr => by
              rw [if_pos hr, HE.out]; rfl)
            have HPost : Hid (TuPost m i w (.returned (.tuple #[.slice (some ⟨g, 0, none⟩) i c, .bool true])) wr) := Lib.hid ⟨HB.out, .inl ⟨HRk.out.symm, g, c, bs4, rfl, hF4⟩⟩
            clear hF4 HK HV
            go_wp2_with fail
            go_ret2
            exact HPost.out
end Go.Proofs.Ytcldioneiededaa
