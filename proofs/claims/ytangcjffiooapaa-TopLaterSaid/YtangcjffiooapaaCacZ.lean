/- The walk of a cache's put. -/
import Derived.Test.YtangcjffiooapaaCacY
namespace Go.Proofs.Ytangcjffiooapaa
open Go.ChangeShapes Go.WideShapes Go.ChangeAt Go.RowKit Go.Maps
set_option linter.unusedVariables false
def PutMid (F : Nat → Prop) (b mb : Nat) (vb : Value) (n : Nat) (c : Cc.C) (i : Int) (w wq : World) : Prop :=
  ∃ vr2 vd2 D2 ks2, CacAt wq b mb vb vr2 vd2 n D2 ks2 (Cc.mid c i) ∧ CacIn F b mb vb vr2 vd2 ∧ Kept F w wq ∧ (∀ k, k ∈ (Cc.mid c i).row ++ [i] ↔ k = i ∨ k ∈ ks2)
def CPost (F : Nat → Prop) (b n : Nat) (c : Cc.C) (w : World) (e : Ending) (w' : World) : Prop := e = .returned (.tuple #[]) ∧ CacOk F w' b n c ∧ Kept F w w'
set_option maxRecDepth 100000 in
set_option maxHeartbeats 4000000 in
theorem cput_any {w : World} {b mb n : Nat} {vb vr vd : Value} {D : DataW Unit} {c : Cc.C} (h : CacAt w b mb vb vr vd n D c.row c) (hinv : Cc.Inv c) {F : Nat → Prop} (hF : ∀ k, w.heap.size ≤ k → F k) (hI : CacIn F b mb vb vr vd) (hn : n < 1000000)
    (q : Nat) (hq : q < c.below.length) (s : ByteArray) (hs : s.size ≤ 16) :
    Calls Try.prog 35 #[.pointer (some ⟨b, 0, none⟩), iv q, .string s] w (CPost F b (n + 1) (Cc.put c q s) w) := by
  have HF := Lib.hid hF
  have HI := Lib.hid hI
  have HInv := Lib.hid hinv
  have hr12 := hinv.room12
  have hr1 := hinv.room1
  have hfit := hinv.fit
  have hl40 := hinv.len
  have hd12 : c.dirty.length ≤ 12 := by
    have := Cc.nodup_len _ _ hinv.dnd hinv.dsub
    omega
  have H := Lib.hid h
  have c3 := h.c3
  have HWO := Lib.hid (without_any c.row q (by omega) vr w h.row.row)
  obtain ⟨pr, mr, cr, rfl⟩ := h.row.slice
  have hwl := Cc.wo_len c.row q
  clear h hF hI hinv
  go_enter Try.func35, Try.ntmps35
  go_wp2_with fail
  refine HWO.out.mono ?_
  rintro e w1 ⟨v1, rfl, hO1, hb1⟩
  have H1 := Lib.hid (H.out.below' hb1)
  have HO1 := Lib.hid (hO1.mono (Nat.zero_le _))
  have HOl := Lib.hid (fun g (hg : v1.ownBlock = some g) => (hO1.lt hg).1)
  have hz1 := hb1.size
  have e3 := H1.out.c3
  have ef := H1.out.f
  have hbl := H.out.lt
  have hml := H.out.has.lt
  have hvl := fun g (hg : vb.ownBlock = some g) => (H.out.below.lt hg).2
  have hdl := fun g (hg : vd.ownBlock = some g) => (H.out.dirty.lt hg).2
  have HA2 := Lib.hid (H1.out.setRow HO1.out (fun g hg => by
    have := HOl.out g hg
    exact ⟨by omega, by omega, fun e => by have := hvl g e; omega, fun e => by have := hdl g e; omega⟩))
  have HK2 := Lib.hid (((Kept.new F hb1)).setCell (p := ⟨b, 3, none⟩) (fun _ => HI.out.b) v1)
  have HI2 : Hid (CacIn F b mb vb v1 vd) := Lib.hid ⟨HI.out.b, HI.out.m, HI.out.v1, fun g hg => HF.out g (HOl.out g hg), HI.out.v3⟩
  obtain ⟨p1, cp1, hv1, hl1, hm1⟩ := hO1.shape
  rw [List.length_map] at hv1 hl1
  unfold maxLen at hm1
  obtain ⟨r, hr⟩ : ∃ r, r = Cc.wo c.row q := ⟨_, rfl⟩
  rw [← hr] at HA2 hv1 hl1 hwl
  obtain ⟨lr, hlr⟩ : ∃ lr, lr = r.length := ⟨_, rfl⟩
  rw [← hlr] at hv1 hl1 hwl
  subst hv1
  have Hr := Lib.hid hr
  have Hlr := Lib.hid hlr
  clear hO1 hb1 hvl hdl HWO hr hlr c3 HO1 H1
  go_wp2_with fail
  obtain ⟨w2, hw2⟩ : ∃ w2, w2 = w1.setCell ⟨b, 3, none⟩ (.slice p1 lr cp1) := ⟨_, rfl⟩
  rw [← hw2] at HA2 HK2 ⊢
  clear hw2 e3 ef
  have d1 := HA2.out.c1
  have d3 := HA2.out.c3
  obtain ⟨full, hfull⟩ : ∃ full : Bool, full = ((lr : Int) == (c.room : Int)) := ⟨_, rfl⟩
  have Hfull := Lib.hid hfull
  have hfs := hfull.symm
  clear hfull
  go_quiet (fail)
  go_upto_if 25 with (fail)
  have HA3 := Lib.hid (HA2.out.below' (bdrew (Below.refl _ _) nq))
  have HK3 := Lib.hid (HK2.out.drewN nq)
  clear HA2 HK2 d1 d3 hfs
  go_cut [] (fun wq => ∃ wk, wk = wq ∧ PutMid F b mb vb n c q w wk)
  case first =>
    obtain ⟨w3, hw3⟩ : ∃ w3, w3 = w2.drewN nq := ⟨_, rfl⟩
    rw [← hw3] at HA3 HK3 ⊢
    clear hw3
    cases full with
    | false =>
      have hne : lr ≠ c.room := by
        have h := Hfull.out
        intro e; rw [e, beq_self_eq_true] at h; cases h
      have hmid : Cc.mid c q = { c with row := r } := by rw [Hr.out]; exact Cc.mid_no (by rw [← Hr.out, ← Hlr.out]; exact hne)
      have Hmid := Lib.hid hmid
      clear hmid hne
      go_wp2_with fail
      go_meet
      refine ⟨_, rfl, _, vd, D, c.row, by rw [Hmid.out]; exact HA3.out, HI2.out, HK3.out, fun k => ?_⟩
      rw [Hmid.out]
      show k ∈ r ++ [(q : Int)] ↔ _
      rw [List.mem_append, List.mem_singleton, Hr.out, Cc.wo_mem]
      constructor
      · rintro (h | h)
        · exact .inr h.1
        · exact .inl h
      · rintro (h | h)
        · exact .inr h
        · by_cases e : k = (q : Int)
          · exact .inr e
          · exact .inl ⟨h, e⟩
    | true =>
      have heq : lr = c.room := by
        have h := beq_iff_eq.1 Hfull.out.symm
        omega
      have hpos : 0 < r.length := by rw [← Hlr.out]; omega
      have hht := Cc.head_tail hpos
      obtain ⟨old, hold⟩ : ∃ old, old = r.headD 0 := ⟨_, rfl⟩
      obtain ⟨t, ht⟩ : ∃ t, t = r.tail := ⟨_, rfl⟩
      rw [← hold, ← ht] at hht
      have hmid : Cc.mid c q = Cc.drop c old t := by rw [hold, ht, Hr.out]; exact Cc.mid_yes (by rw [← Hr.out, ← Hlr.out]; exact heq)
      have hor : old ∈ c.row ∧ old ≠ (q : Int) := Cc.wo_mem.1 (by rw [← Hr.out, hht]; exact List.mem_cons_self)
      have hob := HInv.out.row old hor.1
      have hnd : (old :: t).Nodup := by rw [← hht, Hr.out]; exact Cc.wo_nodup HInv.out.nd q
      obtain ⟨p, rfl⟩ : ∃ p : Nat, old = p := ⟨old.toNat, by omega⟩
      have hp : p < c.below.length := by omega
      have Hmid := Lib.hid hmid
      have Hht := Lib.hid hht
      have Hor := Lib.hid hor
      have Hnd := Lib.hid hnd
      obtain ⟨g, o, cap, hvg, _, hgl, hnc, hcm, hcell, hfz⟩ := HA3.out.row.at0 (by show 0 < (r.map iv).length; rw [List.length_map]; exact hpos)
      have hpc : p1 = some ⟨g, o, none⟩ ∧ cp1 = cap := by
        injection hvg with e1 e2 e3; exact ⟨e1, e3⟩
      obtain ⟨rfl, rfl⟩ := hpc
      have d0 := hcell 0 (by show 0 < (r.map iv).length; rw [List.length_map]; exact hpos)
      have d0' : w3.cell? ⟨g, o + 0, none⟩ = some (iv p) := by
        rw [d0]; show (r.map iv)[0]? = _; rw [hht]; rfl
      rw [Nat.add_zero] at d0'
      have hlr0 : 0 < lr := by omega
      have hlr12 : lr ≤ 12 := by omega
      clear heq
      have HCo := Lib.hid (contains_any c.dirty p vd w3 HA3.out.dirty.row)
      have d3 := HA3.out.c3
      have d4 := HA3.out.c4
      obtain ⟨isd, hisd⟩ : ∃ isd, isd = c.dirty.contains (p : Int) := ⟨_, rfl⟩
      rw [← hisd] at HCo
      have Hisd := Lib.hid hisd
      obtain ⟨pd, md, cd, rfl⟩ := HA3.out.dirty.slice
      clear hmid hht hor hnd hob hold ht hpos hvg hcell d0 hisd hfz
      go_wp2_with fail
      refine HCo.out.mono ?_
      rintro e w' ⟨rfl, rfl⟩
      go_upto_if 37 with (fail)
      go_cut [] (fun wq => ∃ vd2 c2, c2 = (if isd then Cc.clean c p else c) ∧ CacAt wq b mb vb (.slice (some ⟨g, o, none⟩) lr cp1) vd2 n D c.row { c2 with row := r } ∧ CacIn F b mb vb (.slice (some ⟨g, o, none⟩) lr cp1) vd2 ∧ Kept F w wq)
      case first =>
        cases isd with
        | false =>
          go_wp2_with fail
          go_meet
          exact ⟨_, c, rfl, HA3.out, HI2.out, HK3.out⟩
        | true =>
          have HCl := Lib.hid (cclean_any HA3.out (F := F) (fun k hk => HF.out k (Nat.le_trans HK3.out.size hk)) HI2.out (by show c.dirty.length ≤ 1000; omega) (by show c.below.length ≤ 40; exact hl40) p hp Hor.out.1)
          go_wp2_with fail
          refine HCl.out.mono ?_
          rintro e w4 ⟨rfl, vd4, hA4, hI4, hK4, _⟩
          have HA4 := Lib.hid hA4
          have HI4 := Lib.hid hI4
          have HK4 := Lib.hid (HK3.out.also hK4)
          clear hA4 hI4 hK4
          go_wp2_with fail
          go_meet
          exact ⟨vd4, Cc.clean c p, rfl, HA4.out, HI4.out, HK4.out⟩
      case rest =>
        obtain ⟨vd2, c2, hc2, hA4, hI4, hK4⟩ := hcut
        have HA4 := Lib.hid hA4
        have HI4 := Lib.hid hI4
        have HK4 := Lib.hid hK4
        have Hc2 := Lib.hid hc2
        have e2 := hA4.c2
        clear hA4 hI4 hK4 hc2 HA3 HI2 HK3 d3 d4 d0'
        go_wp2_with (at_delete; refine wpList_delete_own _ rfl _ _ 67 3 rfl 9 intKeyedC Try.underlying67 _ mb n D rfl HA4.out.has.own (iv p) (kL p) rfl (keyI (by omega) (by omega)) ?_)
        intro w5 hown5 hturn5
        have hk5 := Kept.grown hturn5.grown
        have hH5 : HasAt w5 mb n (Cc.wo c.row p) c2.val (D.del (kL p)) := HA4.out.has.del (fun k => Cc.wo_mem) hown5
        have HA5 := Lib.hid (HA4.out.mapped hk5 hH5)
        have HK5 := Lib.hid (HK4.out.also (hk5.mono (fun k _ e => by rw [Option.some.inj e]; exact HI4.out.m)))
        have e3 := HA5.out.c3
        have e5 := HA5.out.f
        have hrow5 := HA5.out.row
        have hrr : ({ c2 with row := r, val := c2.val } : Cc.C).row.map iv = iv p :: t.map iv := by show r.map iv = _; rw [Hht.out]; rfl
        rw [hrr] at hrow5
        have HR5 := Lib.hid hrow5.tail
        have hlt : lr - 1 = t.length := by rw [Hlr.out, Hht.out]; rfl
        have Hlt := Lib.hid hlt
        have hf5 : Cc.mid c q = { c2 with row := t } := by
          rw [Hmid.out, Cc.drop, Hc2.out, Hisd.out]
        have Hf5 := Lib.hid hf5
        have hks : ∀ k, k ∈ t ++ [(q : Int)] ↔ k = q ∨ k ∈ Cc.wo c.row p := by
          intro k
          rw [List.mem_append, List.mem_singleton, Cc.wo_mem]
          have hw : k ∈ Cc.wo c.row q ↔ k = p ∨ k ∈ t := by rw [← Hr.out, Hht.out, List.mem_cons]
          rw [Cc.wo_mem] at hw
          have hpt := (List.nodup_cons.1 Hnd.out).1
          constructor
          · rintro (h | h)
            · exact .inr ⟨(hw.2 (.inr h)).1, fun e => hpt (by rw [← e]; exact h)⟩
            · exact .inl h
          · rintro (h | ⟨h1, h2⟩)
            · exact .inr h
            · by_cases e : k = (q : Int)
              · exact .inr e
              · exact .inl ((hw.1 ⟨h1, e⟩).resolve_left h2)
        have Hks := Lib.hid hks
        have hsep : ∀ g', (some g : Option Nat) = some g' → g' ≠ b ∧ g' ≠ mb ∧ vb.ownBlock ≠ some g' ∧ vd2.ownBlock ≠ some g' := by
          intro g' e
          obtain rfl := Option.some.inj e
          exact ⟨fun e => HA5.out.b2 (by rw [← e]; rfl), fun e => HA5.out.m2 (by rw [← e]; rfl), fun e => HA5.out.s12 g e rfl, HA5.out.s23 g rfl⟩
        have Hsep := Lib.hid hsep
        clear hown5 hturn5 hk5 hH5 hrow5 hrr hlt hf5 hks e2 hsep
        by_cases hc1 : cp1 = 1
        · subst hc1
          have hlr1 : lr = 1 := by omega
          subst hlr1
          have ht0 : t = [] := List.eq_nil_of_length_eq_zero (by have := Hlt.out; omega)
          have Ht0 := Lib.hid ht0
          clear ht0
          go_wp2_with fail
          go_meet
          have hr0 : OwnR w5 0 3 (.slice (some ⟨g, o, none⟩) 0 0) (t.map iv) := by
            rw [Ht0.out]
            rcases HA5.out.row with ⟨hv, _⟩ | ⟨g', o', cap', cur, hv, _, hg', _, _, h3, _⟩
            · cases hv
            · injection hv with e1 e2 e3
              injection e1 with e1
              injection e1 with e4 e5
              subst e4 e5
              exact .inr ⟨g, o, 0, cur, rfl, Nat.zero_le _, hg', Nat.le_refl _, Nat.zero_le _, by omega, fun j hj => by simp at hj⟩
          refine ⟨_, rfl, .slice (some ⟨g, o, none⟩) 0 0, vd2, _, _, by rw [Hf5.out]; exact HA5.out.setRow hr0 (fun g' hg => Hsep.out g' hg), ⟨HI4.out.b, HI4.out.m, HI4.out.v1, fun g' hg => HI4.out.v2 g' hg, HI4.out.v3⟩, HK5.out.setCell (p := ⟨b, 3, none⟩) (fun _ => HI4.out.b) _, by rw [Hf5.out]; exact Hks.out⟩
        · have hc1' : 1 < cp1 := by omega
          go_wp2_with fail
          go_meet
          refine ⟨_, rfl, .slice (some ⟨g, o + 1, none⟩) (lr - 1) (cp1 - 1), vd2, _, _, by rw [Hf5.out]; exact HA5.out.setRow HR5.out.1 (fun g' hg => Hsep.out g' hg), ⟨HI4.out.b, HI4.out.m, HI4.out.v1, fun g' hg => HI4.out.v2 g' hg, HI4.out.v3⟩, HK5.out.setCell (p := ⟨b, 3, none⟩) (fun _ => HI4.out.b) _, by rw [Hf5.out]; exact Hks.out⟩
  case rest =>
    obtain ⟨wk, rfl, vr2, vd2, D2, ks2, hA, hI3, hK3, hks⟩ := hcut
    have HA6 := Lib.hid hA
    have HI6 := Lib.hid hI3
    have HK6 := Lib.hid hK3
    have Hks := Lib.hid hks
    have e3 := hA.c3
    have hbq := hA.lt
    have hz6 := hK3.size
    have hml6 := hA.has.lt
    have Hvl := Lib.hid (fun g (hg : vb.ownBlock = some g) => (hA.below.lt hg).2)
    have Hdl := Lib.hid (fun g (hg : vd2.ownBlock = some g) => (hA.dirty.lt hg).2)
    have hrow := hA.row
    have hlen2 : (Cc.mid c q).row.length ≤ 12 := by
      unfold Cc.mid
      by_cases h : (Cc.wo c.row q).length = c.room
      · simp only [h, if_true]
        show (Cc.wo c.row q).tail.length ≤ 12
        rw [List.length_tail]; have := Cc.wo_len c.row q; omega
      · simp only [h, if_false]; have := Cc.wo_len c.row q; omega
    obtain ⟨m2, hm2⟩ : ∃ m2, m2 = Cc.mid c q := ⟨_, rfl⟩
    rw [← hm2] at HA6 Hks hrow hlen2
    have Hm2 := Lib.hid hm2
    obtain ⟨p2, n2, c2, rfl⟩ := hA.row.slice
    clear hA hI3 hK3 hks hm2 HA3 HK3 HI2
    go_wp2_with (at_builtin; refine wp_appR wk (iv q) 3 30 rfl _ _ rfl 0 Try.underlying30 info_int rfl _ (m2.row.map iv) rfl _ rfl rfl hrow rfl ?k1 (by omega) (Nat.zero_le _) ?_)
    case k1 => rw [List.length_map]; omega
    intro v7 w7 hO7 hT7
    have hb7 : Below wk.heap.size wk (wk.alloc (.cells #[iv (q : Int)] 3)) := (Below.refl _ _).alloc (Nat.le_refl _) _
    have hA7 := HA6.out.below' hb7
    have hk7 := hT7.1
    have hblk7 : w7.heap[b]? = some (cacBlk m2.room m2.hits mb vb (.slice p2 n2 c2) vd2) := hk7.heap hA7.blk (fun e => HA6.out.b2 e.symm)
    have e3' : w7.cell? ⟨b, 3, none⟩ = some (.slice p2 n2 c2) := by rw [cell_of_row _ _ _ _ _ _ hblk7]; rfl
    have e2' : w7.cell? ⟨b, 2, none⟩ = some (.map (some mb)) := by rw [cell_of_row _ _ _ _ _ _ hblk7]; rfl
    have ef' : ∀ j, w7.frozen? ⟨b, j, none⟩ = false := fun j => frozen_of_row _ _ _ _ _ hblk7
    have hA8 := hA7.turnRow hT7 (row' := m2.row ++ [(q : Int)]) (by rw [List.map_append]; exact hO7)
    have hI8 : ∀ g, v7.ownBlock = some g → F g := fun g hg => by
      rcases hT7.2 with e | e
      · rw [e] at hg; exact HI6.out.v2 g hg
      · have := e g hg; have hz : (wk.alloc (.cells #[iv (q : Int)] 3)).heap.size = wk.heap.size + 1 := by simp
        exact HF.out g (by omega)
    have hK8 : Kept F w (w7.setCell ⟨b, 3, none⟩ v7) := ((HK6.out.alloc _).also (hk7.mono (fun k _ e => HI6.out.v2 k e.symm))).setCell (p := ⟨b, 3, none⟩) (fun _ => HI6.out.b) _
    obtain ⟨p7, n7, c7, rfl⟩ := hO7.slice
    have HA8 := Lib.hid hA8
    have HI8 := Lib.hid hI8
    have HK8 := Lib.hid hK8
    have hval : plainElem (H := Unit) Try.prog 9 (.string s) = some (.lit (.string s.data.toList), []) := plainElem_string Try.underlying9 (by unfold maxLen; omega)
    have Hval := Lib.hid hval
    clear hO7 hT7 hA7 hk7 hblk7 e3 hb7 hrow hA8 hI8 hK8 hval
    go_wp2_with (at_mapUpdate; refine wpList_mapUpdate_own _ rfl _ _ _ 67 rfl 3 9 intKeyedC Try.underlying67 _ mb n D2 rfl HA8.out.has.own (by unfold maxLen; omega) (iv q) (.string s) (kL q) rfl rfl (keyI (by omega) (by omega)) (.lit (.string s.data.toList)) [] Hval.out ?_)
    intro w9 hown9 hgrow9
    have hH9 : HasAt w9 mb (n + 1) (m2.row ++ [(q : Int)]) (Cc.upd m2.val q s) (D2.put (kL q) (.lit (.string s.data.toList))) := HA8.out.has.put (by omega) (by omega) (fun k => Hks.out k) hown9
    have HA9 := Lib.hid (HA8.out.mapped (Kept.grown hgrow9) hH9)
    have HK9 := Lib.hid (HK8.out.also ((Kept.grown hgrow9).mono (fun k _ e => by rw [Option.some.inj e]; exact HI6.out.m)))
    clear hown9 hgrow9 hH9
    go_wp2_with fail
    go_end0
    refine ⟨rfl, ⟨mb, vb, .slice p7 n7 c7, vd2, D2.put (kL q) (.lit (.string s.data.toList)), ?_, HI6.out.b, HI6.out.m, HI6.out.v1, HI8.out, HI6.out.v3⟩, HK9.out⟩
    rw [Cc.put_eq, ← Hm2.out]
    exact HA9.out
end Go.Proofs.Ytangcjffiooapaa
