/- The reference's Cache: the walks of Read, Write, Flush, NewCache. -/
import Derived.Test.YtangcjffiooapaaDoorCacK
namespace Go.Proofs.YtangcjffiooapaaDoor
open Go.ChangeShapes Go.WideShapes Go.ChangeAt Go.RowKit Go.Maps
set_option linter.unusedVariables false
theorem RVal.hit {s : Cc.C} {vals : List ByteArray} (h : RVal s vals) (i : Int) : RVal (Cc.hit s i) vals := by
  unfold Cc.hit; split <;> exact h
theorem Cc.hit_below (s : Cc.C) (i : Int) : (Cc.hit s i).below = s.below ∧ (Cc.hit s i).row = s.row ∧ (Cc.hit s i).val = s.val ∧ (Cc.hit s i).dirty = s.dirty := by
  unfold Cc.hit; split <;> exact ⟨rfl, rfl, rfl, rfl⟩
def RReadPost (F : Nat → Prop) (c : Nat) (b : ByteArray) (s : Cc.C) (w : World) (e : Ending) (w' : World) : Prop := e = .returned (.string b) ∧ RcOk F w' c s ∧ Kept F w w'
set_option maxRecDepth 100000 in
set_option maxHeartbeats 1000000 in
theorem rread_any {F : Nat → Prop} {w : World} {c : Nat} {s : Cc.C} (h : RcOk F w c s) (hinv : Cc.Inv s) (hF : ∀ k, w.heap.size ≤ k → F k) (hh : s.hits < 1000000) (q : Nat) (hq : q < s.below.length) :
    Calls Tryd.prog 14 #[.pointer (some ⟨c, 0, none⟩), iv q] w (RReadPost F c (Cc.get s q) (Cc.put (Cc.hit s q) q (Cc.get s q)) w) := by
  obtain ⟨vb, vr, vv, vd, vals, h, hv⟩ := h
  have hl40 := hinv.len
  have hvl := h.vlen
  obtain ⟨gv, ov, cv, hvv, _, hgvl, hnv, hmv, hcv, hfv⟩ := h.val.at0 (by rw [List.length_map]; omega)
  obtain ⟨gb, ob, cb, hvb, _, hgbl, hnb, hmb, hcb, hfb⟩ := h.below.at0 (by rw [List.length_map]; omega)
  rw [List.length_map] at hvv hvb hnv hnb hcv hcb
  have kb := hcb q hq
  rw [List.getElem?_map, Cc.at_get hq] at kb
  have kb' : w.cell? ⟨gb, ob + q, none⟩ = some (.string (Cc.at' s.below q)) := kb
  have kv := hcv q (by rw [hvl]; exact hq)
  rw [List.getElem?_map, Cc.at_get (by rw [hvl]; exact hq)] at kv
  have kv' : w.cell? ⟨gv, ov + q, none⟩ = some (.string (Cc.at' vals q)) := kv
  subst hvv hvb
  unfold maxLen at hmv hmb
  have c0 := h.c0
  have c2 := h.c2
  have c3 := h.c3
  have c5 := h.c5
  have ff := h.f
  have HIn := Lib.hid (in_any s.row q vr w h.row.row)
  obtain ⟨is, his⟩ : ∃ is, is = s.row.contains (q : Int) := ⟨_, rfl⟩
  rw [← his] at HIn
  have H := Lib.hid h
  have HF := Lib.hid hF
  have HInv := Lib.hid hinv
  have HV := Lib.hid hv
  rw [hvl] at c3 hnv
  have Hvl := Lib.hid hvl
  obtain ⟨mb, hmbl⟩ : ∃ mb, mb = s.below.length := ⟨_, rfl⟩
  rw [← hmbl] at c0 c3 hq hl40 hnb hnv
  have Hmb := Lib.hid hmbl
  have hqI : (q : Int) < (mb : Int) := by omega
  cases is with
  | false =>
    have hg : Cc.get s q = Cc.at' s.below q := by
      unfold Cc.get; rw [← his, if_neg (by simp), Int.toNat_natCast]; rfl
    have hi : Cc.hit s q = s := by unfold Cc.hit; rw [← his, if_neg (by simp)]
    rw [hi]
    have HU := Lib.hid (ruse_any h hinv hv hF q (by rw [← hmbl]; exact hq) (Cc.get s q))
    rw [hg] at HU ⊢
    obtain ⟨x, hx⟩ : ∃ x, x = Cc.at' s.below q := ⟨_, rfl⟩
    rw [← hx] at HU kb' ⊢
    clear h hinv hF hv hvl hmbl kb kv hcv hcb his hg hi hx kv' hfv hfb
    go_enter Tryd.func14, Tryd.ntmps14
    go_wp2_with fail
    refine HIn.out.mono ?_
    rintro e w' ⟨rfl, rfl⟩
    clear HIn
    go_wp2_with fail
    refine HU.out.mono ?_
    rintro e w' ⟨rfl, hok, hk⟩
    have HOk := Lib.hid hok
    have HKu := Lib.hid hk
    clear hok hk
    go_wp2_with fail
    go_ret
    exact ⟨rfl, HOk.out, HKu.out⟩
  | true =>
    have hmem : (q : Int) ∈ s.row := List.contains_iff_mem.1 his.symm
    have hg : Cc.get s q = Cc.at' vals q := by
      unfold Cc.get; rw [← his, if_pos rfl]
      have := hv q hmem
      rw [Int.toNat_natCast] at this; exact this.symm
    have hi : Cc.hit s q = { s with hits := s.hits + 1 } := by unfold Cc.hit; rw [← his, if_pos rfl]
    rw [hi]
    have h1 := h.setHits (s.hits + 1)
    have hk1 : Kept F w (w.setCell ⟨c, 5, none⟩ (iv ((s.hits + 1 : Nat) : Int))) := (Kept.refl F w).setCell (p := ⟨c, 5, none⟩) (fun _ => h.inF c Rc.m0) _
    have HK1 := Lib.hid hk1
    have HU := Lib.hid (ruse_any h1 { hinv with } hv (fun k hk => hF k (Nat.le_trans hk1.size hk)) q (by show q < s.below.length; rw [← hmbl]; exact hq) (Cc.get s q))
    rw [hg] at HU ⊢
    obtain ⟨x, hx⟩ : ∃ x, x = Cc.at' vals q := ⟨_, rfl⟩
    rw [← hx] at HU kv' ⊢
    have hgc : gv ≠ c := fun e => h.n 0 3 (by omega) (by omega) (by omega) c rfl (by rw [← e]; rfl)
    clear h hinv hF hv hvl hmbl kb kv hcv hcb his hg hi hx hfv hfb hmem h1 hk1
    go_enter Tryd.func14, Tryd.ntmps14
    go_wp2_with fail
    refine HIn.out.mono ?_
    rintro e w' ⟨rfl, rfl⟩
    clear HIn
    go_wp2_with fail
    rw [show (Value.int .i64 ((s.hits : Int) + 1)) = iv ((s.hits + 1 : Nat) : Int) from by go_num]
    refine HU.out.mono ?_
    rintro e w' ⟨rfl, hok, hk⟩
    have HOk := Lib.hid hok
    have HKu := Lib.hid hk
    clear hok hk
    go_wp2_with fail
    go_ret
    exact ⟨rfl, HOk.out, HK1.out.also HKu.out⟩
set_option maxRecDepth 100000 in
set_option maxHeartbeats 1000000 in
theorem rwrite_any {F : Nat → Prop} {w : World} {c : Nat} {s : Cc.C} (h : RcOk F w c s) (hinv : Cc.Inv s) (hF : ∀ k, w.heap.size ≤ k → F k) (q : Nat) (hq : q < s.below.length) (b : ByteArray) (hb : b.size ≤ 16) :
    Calls Tryd.prog 16 #[.pointer (some ⟨c, 0, none⟩), iv q, .string b] w (RPost F c (Cc.mark (Cc.put s q b) q) w) := by
  obtain ⟨vb, vr, vv, vd, vals, h, hv⟩ := h
  have HU := Lib.hid (ruse_any h hinv hv hF q hq b)
  have hinv2 := hinv.put (i := q) (by omega) hb (hinv.dsub q)
  have hd12 := Cc.dirty12 hinv2
  have HF := Lib.hid hF
  have HInv := Lib.hid hinv2
  obtain ⟨s2, hs2⟩ : ∃ s2, s2 = Cc.put s q b := ⟨_, rfl⟩
  rw [← hs2] at HU HInv hd12 ⊢
  clear h hinv hv hF hinv2 hs2
  go_enter Tryd.func16, Tryd.ntmps16
  go_wp2_with fail
  refine HU.out.mono ?_
  rintro e w1 ⟨rfl, hok, hk⟩
  obtain ⟨vb, vr, vv, vd, vals, h1, hv1⟩ := hok
  have H1 := Lib.hid h1
  have HV1 := Lib.hid hv1
  have HK1 := Lib.hid hk
  have hz1 := hk.size
  have c4 := h1.c4
  have ff := h1.f
  have HIn := Lib.hid (in_any s2.dirty q vd w1 h1.dirty.row)
  obtain ⟨is, his⟩ : ∃ is, is = s2.dirty.contains (q : Int) := ⟨_, rfl⟩
  rw [← his] at HIn
  have His := Lib.hid his
  obtain ⟨pd, nd, cd, hvd⟩ := h1.dirty.slice
  subst hvd
  have hrow := h1.dirty
  clear h1 hv1 hk his HU
  go_wp2_with fail
  refine HIn.out.mono ?_
  rintro e w' ⟨rfl, rfl⟩
  clear HIn
  cases is with
  | true =>
    go_wp2_with fail
    go_end0
    refine ⟨rfl, ?_, HK1.out⟩
    rw [show Cc.mark s2 q = s2 by unfold Cc.mark; rw [← His.out, if_pos rfl]]
    exact ⟨_, _, _, _, _, H1.out, HV1.out⟩
  | false =>
    go_wp2_with (at_builtin; refine wp_appR w1 (iv q) 3 34 rfl _ _ rfl 0 Tryd.underlying34 info_int rfl _ (s2.dirty.map iv) rfl _ rfl rfl hrow rfl ?k1 (by omega) (Nat.zero_le _) ?_)
    case k1 => rw [List.length_map]; omega
    intro v7 w7 hO7 hT7
    have hb7 : Below w1.heap.size w1 (w1.alloc (.cells #[iv (q : Int)] 3)) := (Below.refl _ _).alloc (Nat.le_refl _) _
    have hsz : (w1.alloc (.cells #[iv (q : Int)] 3)).heap.size = w1.heap.size + 1 := by simp
    have h2 := H1.out.below' hb7
    have hv7 : v7.ownBlock = (Value.slice pd nd cd).ownBlock ∨ ∀ g, v7.ownBlock = some g → some g ∉ rcB c vb vr vv (.slice pd nd cd) := by
      rcases hT7.2 with e | e
      · exact .inl e
      · exact .inr (fun g hg hm => by have := e g hg; have := h2.lt hm; omega)
    have hF7 : ∀ g, v7.ownBlock = some g → F g := fun g hg => by
      rcases hT7.2 with e | e
      · rw [e] at hg; exact H1.out.inF g (Rc.m4 hg)
      · exact HF.out g (by have := e g hg; omega)
    have hcc : w7.cell? ⟨c, 4, none⟩ = some (.slice pd nd cd) := hT7.1.cell h2.c4 (fun e => h2.n 0 4 (by omega) (by omega) (by omega) c rfl e.symm)
    have hcf : w7.frozen? ⟨c, 4, none⟩ = false := by rw [hT7.1.frozen (h2.lt Rc.m0) (fun e => h2.n 0 4 (by omega) (by omega) (by omega) c rfl e.symm)]; exact h2.f 4
    have H3 := Lib.hid (h2.dirtyT (v' := v7) hT7.1 (fun g hm e => e.symm) (r' := s2.dirty ++ [(q : Int)]) (by rw [List.map_append]; exact hO7) hv7 hF7)
    have HK3 : Hid (Kept F w (w7.setCell ⟨c, 4, none⟩ v7)) := Lib.hid (((HK1.out.alloc _).also (hT7.1.mono (fun k _ e => H1.out.inF k (Rc.m4 e.symm)))).setCell (p := ⟨c, 4, none⟩) (fun _ => H1.out.inF c Rc.m0) v7)
    obtain ⟨p7, n7, c7, hv7'⟩ := hO7.slice
    subst hv7'
    clear hO7 hT7 hb7 hsz h2 hv7 hF7 hrow c4 ff
    go_wp2_with fail
    go_end0
    refine ⟨rfl, ?_, HK3.out⟩
    rw [show Cc.mark s2 q = { s2 with dirty := s2.dirty ++ [(q : Int)] } by unfold Cc.mark; rw [← His.out, if_neg (by simp)]]
    exact ⟨_, _, _, _, _, H3.out, HV1.out⟩
theorem Cc.cleans_drop (s : Cc.C) (hn : s.dirty.Nodup) : ∀ j, j ≤ s.dirty.length → (Cc.cleans s (s.dirty.take j)).dirty = s.dirty.drop j
  | 0, _ => rfl
  | j + 1, h => by
    have ih := Cc.cleans_drop s hn j (by omega)
    have hx : s.dirty[j]? = some s.dirty[j] := List.getElem?_eq_getElem (by omega)
    rw [List.take_add_one, hx, Option.toList_some, Cc.cleans_snoc]
    show Cc.wo (Cc.cleans s (s.dirty.take j)).dirty s.dirty[j] = _
    rw [ih]
    have hd : s.dirty.drop j = s.dirty[j] :: s.dirty.drop (j + 1) := List.drop_eq_getElem_cons (by omega)
    have hnd : (s.dirty.drop j).Nodup := hn.sublist (List.drop_sublist _ _)
    rw [hd] at hnd ⊢
    have h1 := (List.nodup_cons.1 hnd).1
    unfold Cc.wo
    rw [List.filter_cons]
    simp
    intro x hx e; exact h1 (by rw [← e]; exact hx)
theorem Cc.cleans_val (s : Cc.C) (l : List Int) : (Cc.cleans s l).val = s.val ∧ (Cc.cleans s l).row = s.row ∧ (Cc.cleans s l).below.length = s.below.length := by
  unfold Cc.cleans
  induction l generalizing s with
  | nil => exact ⟨rfl, rfl, rfl⟩
  | cons a t ih =>
    rw [List.foldl_cons]
    obtain ⟨h1, h2, h3⟩ := ih (Cc.clean s a)
    exact ⟨h1, h2, h3.trans (Cc.clean_row s a).2.2.2.2⟩
def RFlPost (F : Nat → Prop) (c : Nat) (l : List Int) (s : Cc.C) (w : World) (e : Ending) (w' : World) : Prop :=
  ∃ v, e = .returned v ∧ OwnR w' w.heap.size 3 v (l.map iv) ∧ RcOk F w' c s ∧ Kept F w w'
def RFlRel (F : Nat → Prop) (w : World) (c : Nat) (vb vr vv : Value) (s : Cc.C) (vals : List ByteArray) (m gk : Nat) (v : Value) (wr : World) : Prop :=
  ∃ (j : Nat) (vd : Value), j + gk = m ∧ OwnR wr w.heap.size 3 v ((s.dirty.take j).map iv) ∧ Rc F wr c vb vr vv vd (Cc.cleans s (s.dirty.take j)) vals ∧ (∀ g, v.ownBlock = some g → some g ∉ rcB c vb vr vv vd) ∧ Kept F w wr
set_option maxRecDepth 100000 in
set_option maxHeartbeats 2000000 in
theorem rflush_any {F : Nat → Prop} {w : World} {c : Nat} {s : Cc.C} (h : RcOk F w c s) (hinv : Cc.Inv s) (hF : ∀ k, w.heap.size ≤ k → F k) (n : Nat) :
    Calls Tryd.prog 18 #[.pointer (some ⟨c, 0, none⟩), iv n] w (RFlPost F c (s.dirty.take n) (Cc.cleans s (s.dirty.take n)) w) := by
  obtain ⟨vb, vr, vv, vd, vals, h, hv⟩ := h
  have hd12 := Cc.dirty12 hinv
  have hl40 := hinv.len
  have hvl := h.vlen
  obtain ⟨m, hm⟩ : ∃ m, m = min n s.dirty.length := ⟨_, rfl⟩
  have hmn : m ≤ n := by omega
  have hmd : m ≤ s.dirty.length := by omega
  have htm : s.dirty.take n = s.dirty.take m := by
    rw [hm]
    rcases Nat.le_total n s.dirty.length with h | h
    · rw [Nat.min_eq_left h]
    · rw [Nat.min_eq_right h, List.take_of_length_le h, List.take_of_length_le (Nat.le_refl _)]
  rw [htm]
  have H := Lib.hid h
  have HF := Lib.hid hF
  have HInv := Lib.hid hinv
  have HV := Lib.hid hv
  have Hm := Lib.hid hm
  have Hvl := Lib.hid hvl
  clear h hinv hF hv hm htm hvl
  go_enter Tryd.func18, Tryd.ntmps18
  go_wp2_with fail
  go_loopg [5] m (fun gk v wr => RFlRel F w c vb vr vv s vals m gk v wr)
  case atStart => exact ⟨0, vd, by omega, OwnR.nil _ _ _, H.out, (fun g e => by cases e), Kept.refl _ _⟩
  case round =>
    obtain ⟨j, vd, hj, hown, hR, hsep, hK⟩ := hrel
    have Hj := Lib.hid hj
    have HR := Lib.hid hR
    have HK := Lib.hid hK
    have HO := Lib.hid hown
    have HSp := Lib.hid hsep
    have hzr := hK.size
    have k4 := hR.c4
    have hdr : (Cc.cleans s (s.dirty.take j)).dirty = s.dirty.drop j := Cc.cleans_drop s HInv.out.dnd j (by omega)
    obtain ⟨pd, cd, hvd, hnd, hmdd⟩ := hR.dirty.shape
    rw [List.length_map, hdr, List.length_drop] at hvd hnd
    unfold maxLen at hmdd
    obtain ⟨po, co, hvo, hno, hmo⟩ := hown.shape
    rw [List.length_map, List.length_take, Nat.min_eq_left (by omega)] at hvo hno
    unfold maxLen at hmo
    subst hvd hvo
    have Hdr := Lib.hid hdr
    obtain ⟨dl, hdl⟩ : ∃ dl, dl = s.dirty.length - j := ⟨_, rfl⟩
    rw [← hdl] at HR HSp k4 hnd
    by_cases hjm : j < m
    · have t1 : decide ((j : Int) < (n : Int)) = true := dec_t (by omega)
      have t2 : decide ((0 : Int) < (dl : Int)) = true := dec_t (by omega)
      have t2' : decide (0 < dl) = true := dec_t (by omega)
      have t1' : decide (j < n) = true := dec_t (by omega)
      have hjd : j < s.dirty.length := by omega
      have hdl0 : 0 < dl := by omega
      have hdl0I : (0 : Int) < (dl : Int) := by omega
      have hx : s.dirty[j]? = some s.dirty[j] := List.getElem?_eq_getElem hjd
      have hds : s.dirty.drop j = s.dirty[j] :: s.dirty.drop (j + 1) := List.drop_eq_getElem_cons hjd
      have htk : s.dirty.take (j + 1) = s.dirty.take j ++ [s.dirty[j]] := by rw [List.take_add_one, hx]; rfl
      have hrm := HInv.out.dsub _ (List.getElem_mem hjd)
      have hib := HInv.out.row _ hrm
      obtain ⟨y, hy⟩ : ∃ y, y = s.dirty[j] := ⟨_, rfl⟩
      rw [← hy] at hrm hib hds htk
      obtain ⟨p, rfl⟩ : ∃ p : Nat, y = p := ⟨y.toNat, by omega⟩
      have hcl := Cc.cleans_snoc s (s.dirty.take j) (p : Int)
      rw [← htk] at hcl
      have hcv := Cc.cleans_val s (s.dirty.take j)
      obtain ⟨s1, hs1⟩ : ∃ s1, s1 = Cc.cleans s (s.dirty.take j) := ⟨_, rfl⟩
      rw [← hs1] at hcl hcv HR Hdr
      have hpb : p < s1.below.length := by rw [hcv.2.2]; omega
      have hpv : p < vals.length := by rw [HR.out.vlen]; exact hpb
      have hvp : Cc.at' vals p = s1.val p := by rw [hcv.1]; have := HV.out p hrm; rw [Int.toNat_natCast] at this; exact this
      obtain ⟨gd, od, cd', hvd, _, _, _, _, hcd, _⟩ := HR.out.dirty.at0 (by rw [List.length_map, Hdr.out, List.length_drop]; omega)
      injection hvd with e1 e2 e3
      subst e1
      have d0 := hcd 0 (by rw [List.length_map, Hdr.out, List.length_drop]; omega)
      rw [List.getElem?_map, Hdr.out, hds, Nat.add_zero] at d0
      have d0' : wr.cell? ⟨gd, od, none⟩ = some (iv p) := d0
      obtain ⟨gv, ov, cv, hvv, _, hgvl, hnv, hmv, hcvl, hfv⟩ := HR.out.val.at0 (by rw [List.length_map]; omega)
      obtain ⟨gb, ob, cb, hvb, _, hgbl, hnb, hmb, hcb, hfb⟩ := HR.out.below.at0 (by rw [List.length_map]; omega)
      rw [List.length_map] at hvv hvb hnv hnb hcvl hcb
      have dp := hcvl p hpv
      rw [List.getElem?_map, Cc.at_get hpv, hvp] at dp
      have dp' : wr.cell? ⟨gv, ov + p, none⟩ = some (.string (s1.val p)) := dp
      have db := hcb p hpb
      have db' : ∃ s2 : ByteArray, wr.cell? ⟨gb, ob + p, none⟩ = some (.string s2) := by
        rw [db, List.getElem?_map, List.getElem?_eq_getElem hpb]; exact ⟨_, rfl⟩
      obtain ⟨s2, db'⟩ := db'
      have c0 := HR.out.c0
      have c3 := HR.out.c3
      have cf := HR.out.f
      have hgbc : gb ≠ c := fun e => HR.out.n 0 1 (by omega) (by omega) (by omega) c rfl (by rw [hvb, ← e]; rfl)
      have Hvb := Lib.hid hvb
      have Hvv := Lib.hid hvv
      rw [hvb] at c0
      rw [hvv] at c3
      rw [← HR.out.vlen] at c0 hpb hnb
      obtain ⟨mb, hmbl⟩ : ∃ mb, mb = vals.length := ⟨_, rfl⟩
      rw [← hmbl] at c0 c3 hpb hpv hnb hnv
      have Hmb := Lib.hid hmbl
      obtain ⟨x0, hx0⟩ : ∃ x0, x0 = s1.val p := ⟨_, rfl⟩
      rw [← hx0] at dp'
      unfold maxLen at hmv hmb
      have hpbI : (p : Int) < (mb : Int) := by omega
      have hgbo : ∀ g, (Value.slice po j co).ownBlock = some g → g ≠ gb := fun g e e2 => HSp.out g e (by rw [e2]; exact Rc.m1 (by rw [hvb]; rfl))
      have H2 := HR.out.setBelow hvb p (by rw [← HR.out.vlen, ← hmbl]; exact hpb) x0
      have H3 := Lib.hid (H2.below' ((Below.refl _ _).drew))
      have hk3 : Kept (fun k => k = gb) wr ((wr.setCell ⟨gb, ob + p, none⟩ (.string x0)).drew) := ((Kept.self gb wr).set1 _ _).drew
      have HK3 := Lib.hid (HK.out.also (hk3.mono (fun k _ e => by rw [e]; exact HR.out.inF gb (Rc.m1 (by rw [hvb]; rfl)))))
      have HO3 := Lib.hid (HO.out.kept hk3 (fun g e e2 => hgbo g e e2))
      have Hx0 := Lib.hid hx0
      have Hcl := Lib.hid hcl
      have Htk := Lib.hid htk
      have Hs1 := Lib.hid hs1
      have Hvp := Lib.hid hvp
      clear hj hown hR hsep hK hdr hdl hx hds htk hrm hib hcl hcv hs1 hvp hcd d0 e2 e3 hcvl hcb dp db hvb hvv hmbl hx0 hgbo H2 hk3 hfv hy hjd
      go_wp2_with fail
      go_region
      go_upto_region 5 with (fail)
      obtain ⟨w6, hw6⟩ : ∃ w6, w6 = (wr.setCell ⟨gb, ob + p, none⟩ (.string x0)).drew := ⟨_, rfl⟩
      rw [← hw6] at H3 HK3 HO3 ⊢
      have j4 := H3.out.c4
      have hlen1 : s1.dirty.length ≤ 1000 := by rw [Hdr.out, List.length_drop]; omega
      have HW7 := Lib.hid (rwithout_any s1.dirty p hlen1 _ _ H3.out.dirty.row)
      clear hw6 c0 c3 dp' db' hfb d0' k4 cf hlen1
      go_wp2_with fail
      refine HW7.out.mono ?_
      rintro e w7 ⟨v7, rfl, hO7, hb7⟩
      have H7 := H3.out.below' hb7
      have HK7 := Lib.hid (HK3.out.also (Kept.new F hb7))
      have i4 := H7.c4
      have f7 := H7.f
      have hz3 := HK3.out.size
      have H8 := Lib.hid (H7.dirtyT (v' := v7) (r' := Cc.wo s1.dirty p) (Kept.refl (fun _ => False) _) (fun g hm t => t.elim) (hO7.mono (Nat.zero_le _)) (.inr (fun g e hm => by have h1 := (hO7.lt e).1; have h2 := H3.out.lt hm; omega)) (fun g e => HF.out g (Nat.le_trans HK3.out.size (hO7.lt e).1)))
      have HK8 := Lib.hid (HK7.out.setCell (p := ⟨c, 4, none⟩) (fun _ => H7.inF c Rc.m0) v7)
      have hOc : ∀ g, (Value.slice po j co).ownBlock = some g → g ≠ c := fun g e e2 => HSp.out g e (by rw [e2]; exact Rc.m0)
      have HO8 : Hid (OwnR (w7.setCell ⟨c, 4, none⟩ v7) w.heap.size 3 (.slice po j co) ((s.dirty.take j).map iv)) := Lib.hid ((HO3.out.below hb7).kept (Rc.self_c (c := c) w7 4 v7) (fun g e e2 => hOc g e e2))
      have Hv7 := Lib.hid (fun g (hg : v7.ownBlock = some g) => (hO7.lt hg).1)
      have Hold := Lib.hid (fun g (hg : (Value.slice po j co).ownBlock = some g) => (HO3.out.lt hg).2)
      obtain ⟨p7, m7, c7, hv7⟩ := hO7.slice
      subst hv7
      clear hO7 hb7 HW7 H7 j4 hOc
      go_upto_region 6 with (fail)
      obtain ⟨w8, hw8⟩ : ∃ w8, w8 = w7.setCell ⟨c, 4, none⟩ (.slice p7 m7 c7) := ⟨_, rfl⟩
      rw [← hw8] at H8 HK8 HO8 ⊢
      have hrow8 := HO8.out
      have hz8 := HK8.out.size
      clear hw8 i4 f7 H3 HK3 HK7 HO3
      go_wp2_with (at_builtin; refine wp_appR w8 (iv p) 3 34 rfl _ _ rfl w.heap.size Tryd.underlying34 info_int rfl _ ((s.dirty.take j).map iv) rfl _ rfl rfl hrow8 rfl ?k1 (by omega) hz8 ?_)
      case k1 => rw [List.length_map, List.length_take]; omega
      intro v9 w9 hO9 hT9
      have hb9 : Below w8.heap.size w8 (w8.alloc (.cells #[iv (p : Int)] 3)) := (Below.refl _ _).alloc (Nat.le_refl _) _
      have hsz9 : (w8.alloc (.cells #[iv (p : Int)] 3)).heap.size = w8.heap.size + 1 := by simp
      have hsp8 : ∀ g, (Value.slice po j co).ownBlock = some g → some g ∉ rcB c vb vr vv (.slice p7 m7 c7) := by
        intro g e hm
        have h0 := HSp.out g e
        have h1 := Hold.out g e
        simp only [rcB, List.mem_cons, List.not_mem_nil, or_false] at hm
        rcases hm with e | e | e | e | e
        · exact h0 (by rw [e]; exact Rc.m0)
        · exact h0 (Rc.m1 e.symm)
        · exact h0 (Rc.m2 e.symm)
        · exact h0 (Rc.m3 e.symm)
        · have := Hv7.out g e.symm; omega
      have H9 := Lib.hid ((H8.out.below' hb9).off hT9.1 (fun g hm e => hsp8 g e.symm hm))
      have hsp9 : ∀ g, v9.ownBlock = some g → some g ∉ rcB c vb vr vv (.slice p7 m7 c7) := by
        intro g e hm
        rcases hT9.2 with e2 | e2
        · exact hsp8 g (by rw [← e2]; exact e) hm
        · have := e2 g e; have := (H8.out.below' hb9).lt hm; omega
      have HS9 := Lib.hid hsp9
      have HK9 : Hid (Kept F w w9) := Lib.hid ((HK8.out.alloc _).trans hT9.1 (fun k hk e => by
        have := (hrow8.lt e.symm).1
        omega))
      have HO9 : Hid (OwnR w9 w.heap.size 3 v9 ((s.dirty.take (j + 1)).map iv)) := Lib.hid (by rw [Htk.out, List.map_append, List.map_take]; exact hO9)
      clear hO9 hT9 hb9 hsz9 hsp8 hsp9 hrow8
      go_wp2_with fail
      go_roundg (gk - 1)
      case measure => have := Hj.out; omega
      case rel =>
        refine ⟨j + 1, .slice p7 m7 c7, by have := Hj.out; omega, HO9.out, ?_, HS9.out, HK9.out⟩
        rw [Hcl.out]
        have := H9.out
        rw [Hx0.out] at this
        exact this
    · have hjm' : j = m := by omega
      have Hjm := Lib.hid hjm'
      have fin : RFlPost F c (s.dirty.take m) (Cc.cleans s (s.dirty.take m)) w (.returned (.slice po j co)) wr := by
        rw [← hjm']
        exact ⟨_, rfl, hown, ⟨_, _, _, _, _, hR, fun x hx => by
          rw [(Cc.cleans_val s _).2.1] at hx; rw [(Cc.cleans_val s _).1]; exact HV.out x hx⟩, hK⟩
      have Fin := Lib.hid fin
      by_cases hjn : j < n
      · have t1 : decide ((j : Int) < (n : Int)) = true := dec_t (by omega)
        have t1' : decide (j < n) = true := dec_t hjn
        have hd0 : dl = 0 := by have := Hm.out; omega
        subst hd0
        clear hj hown hR hsep hK hdr hdl hjm fin hjm'
        go_wp2_with fail
        go_ret
        exact Fin.out
      · have t1 : decide ((j : Int) < (n : Int)) = false := dec_f (by omega)
        have t1' : decide (j < n) = false := dec_f hjn
        clear hj hown hR hsep hK hdr hdl hjm fin hjm'
        go_wp2_with fail
        go_ret
        exact Fin.out
end Go.Proofs.YtangcjffiooapaaDoor
