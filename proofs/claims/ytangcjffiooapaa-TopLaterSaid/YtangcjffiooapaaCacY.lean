/- The walks of a cache's clean. -/
import Derived.Test.YtangcjffiooapaaCacX
import Derived.ArgAppend
namespace Go.Proofs.Ytangcjffiooapaa
open Go.ChangeShapes Go.WideShapes Go.ChangeAt Go.RowKit Go.Maps
set_option linter.unusedVariables false
theorem contains_any (xs : List Int) (x : Int) (v : Value) (w : World) (hv : Row w v (xs.map iv)) :
    Calls Try.prog 37 #[v, iv x] w fun e w' => e = .returned (.bool (xs.contains x)) ∧ w = w' := by
  have HI := Lib.hid (index_any xs x v w hv)
  have hr : xs.contains x = decide (0 ≤ idx xs x) := by
    unfold idx
    by_cases h : xs.idxOf x < xs.length
    · rw [if_pos h, dec_t (by omega), List.contains_iff_mem]; exact List.idxOf_lt_length_iff.1 h
    · rw [if_neg h, dec_f (by omega), ← Bool.not_eq_true, List.contains_iff_mem]; exact fun hm => h (List.idxOf_lt_length_iff.2 hm)
  rw [hr]
  have Hr := Lib.hid hr
  generalize idx xs x = k at *
  clear hv hr
  obtain ⟨r, hr⟩ : ∃ r, r = decide (0 ≤ k) := ⟨_, rfl⟩
  rw [← hr]
  have Hr2 := Lib.hid hr
  clear hr
  go_enter Try.func37, Try.ntmps37
  go_wp2_with fail
  refine HI.out.mono ?_
  rintro e w' ⟨rfl, rfl⟩
  go_wp2_with fail
  go_ret
  exact ⟨by rw [Hr2.out]; rfl, rfl⟩
/-- one more behind a list of the object's own -/
theorem run_appR {P : Program} (w : World) (t ty e : TypeId) {z : Value} {bytes : Nat} (ht : P.underlying t = some (.slice e))
    (hinfo : (P.info? e).map (fun i => (i.zero, i.size, i.bytes)) = some (some z, 1, bytes)) (hzs : z.cells.size = 1)
    (v : Value) (xs : List Value) (base : Nat) (h : OwnR w base e v xs) (u : Value) (hu : u.oneCell' = true) (N0 : Nat) (hN : w.heap[N0]? = some (.cells #[u] e (0, 0)))
    (hn : xs.length ≤ 100000) (hbytes : bytes ≤ 1000) (hbase : base ≤ w.heap.size) :
    ∃ v' w', (Builtin.append_ #[t, t] ty #[v, .slice (some ⟨N0, 0, none⟩) 1 1]).run P w = .ok v' w' ∧ OwnR w' base e v' (xs ++ [u]) ∧ Turned w w' v v' := by
  obtain ⟨i0, hi, hz0, hz1, hz2⟩ := info_parts hinfo
  have hnews : ∀ j x, [u][j]? = some x → w.cell? ((⟨N0, 0, none⟩ : Addr).add j) = some x := by
    intro j x hj
    have h0 : j = 0 := by have := (List.getElem?_eq_some_iff.1 hj).1; simp at this; omega
    subst h0
    rw [Addr.add_lit, cell_of_row _ _ _ _ _ _ hN]
    simpa using hj
  have h1c : ∀ x ∈ [u], x.oneCell' = true := by intro x hx; simp at hx; subst hx; exact hu
  rcases h with ⟨rfl, rfl⟩ | ⟨g, o, cap, cur, rfl, hb, hg, hnc, hcm, hoc, hcur⟩
  · obtain ⟨v', w', hr, hown, hgr, hblk⟩ := run_app (P := P) w base t ty e ht hinfo hzs (by decide) (.slice none 0 0) 0 [] (World.ownsRow_nil _ _ _ _) ⟨N0, 0, none⟩ 1 1 [u] rfl (by decide) hnews h1c (by omega) (by omega) hbase
    exact ⟨v', w', hr, OwnR.of_owns hown, (Kept.grown hgr).mono (fun k _ e => e), by
      rcases hblk with e | e
      · exact .inl e
      · right; intro q hq; rw [e] at hq; have := Option.some.inj hq; omega⟩
  · subst hz2
    have hs1 : i0.size = 1 := hz1
    have hnew1 : [u].length = 1 * i0.size := by rw [hs1]; rfl
    by_cases hroom : xs.length + 1 ≤ cap
    · have hr := run_append_room_cells (P := P) w t ty e i0 ht hi g o xs.length cap ⟨N0, 0, none⟩ 1 1 [u] hnew1 hnews h1c hroom (fun j hj => by
        have h0 : j = 0 := by simp at hj; omega
        subst h0
        rw [hs1, Nat.mul_one, Nat.add_zero, cell_of_row _ _ _ _ _ _ hg, Array.getElem?_eq_getElem (by omega)]; rfl) (fun j _ => frozen_of_row _ _ _ _ _ hg)
      rw [hs1, Nat.mul_one] at hr
      obtain ⟨cur', k1, k2, k3⟩ := setCells_at g e [u] (o + xs.length) w cur hg
      refine ⟨_, _, hr, .inr ⟨g, o, cap, cur', by rw [List.length_append]; rfl, hb, k1, by rw [List.length_append]; exact hroom, hcm, by omega, fun j hj => ?_⟩, (kept_setCells w g _ _).mono (fun k _ hk => by rw [hk]; rfl), .inl rfl⟩
      rw [List.length_append, List.length_singleton] at hj
      rw [k3 (o + j) (by omega), List.length_singleton]
      by_cases hj2 : j < xs.length
      · rw [if_neg (by omega), hcur j hj2, List.getElem?_append_left hj2]
      · have hjx : j = xs.length := by omega
        subst hjx
        rw [if_pos (by omega), List.getElem?_append_right (Nat.le_refl _), Nat.sub_self, Nat.sub_self]
    · have hb8 : i0.bytes ≤ 1000 := hbytes
      have hbb : (xs.length + 1) * i0.bytes ≤ 140737488355328 := Nat.le_trans (Nat.mul_le_mul (show xs.length + 1 ≤ 100001 by omega) hb8) (by decide)
      have hr := run_append_grow (P := P) w t ty e i0 z ht hi hz0 ⟨g, o, none⟩ xs.length cap xs (by rw [hs1, Nat.mul_one]) (fun j x hj => by
        have hjl := (List.getElem?_eq_some_iff.1 hj).1
        rw [Addr.add_lit, cell_of_row _ _ _ _ _ _ hg, hcur j hjl, hj]) ⟨N0, 0, none⟩ 1 1 [u] hnew1 hnews (by omega) (by omega) (growslice_fits (by omega) hbb)
      have hge := grownCap_ge w (xs.length + 1) cap e
      have hle := grownCap_le_maxLen w (xs.length + 1) cap e (by unfold maxLen; omega)
      refine ⟨_, _, hr, .inr ⟨w.heap.size, 0, grownCap w (xs.length + 1) cap e, _, by rw [List.length_append]; rfl, hbase, heap_alloc_new _ _, by rw [List.length_append]; exact hge, hle, ?_, fun j hj => ?_⟩, ?_, .inr ?_⟩
      · rw [Nat.zero_add, Array.size_append, Array.size_append]
        have : (Builtin.zeroCells z.cells (grownCap w (xs.length + 1) cap e - (xs.length + 1))).size = grownCap w (xs.length + 1) cap e - (xs.length + 1) := by simp [Builtin.zeroCells, hzs]
        rw [this]; simp; omega
      · rw [Nat.zero_add, Array.getElem?_append_left (by simpa using hj)]
        simp
      · exact ((Kept.refl _ w).drew).alloc _
      · intro q hq; simp only [Value.ownBlock, Option.some.injEq] at hq; omega
/-- .. at the operation -/
theorem wp_appR {P : Program} {ops : Array Oper} {rest : List Oper} {o : Oper} {a : Act} {Q : Exit → Act → World → Prop} (w0 : World) (u : Value) (E T : TypeId) (hgd : o.guard = none) (s x : Operand)
    (ho : o.op = .call { callee := .builtin .append, args := #[s, x], argTypes := #[T, T] }) (base : Nat) {z : Value} {bytes : Nat} (hT : P.underlying T = some (.slice E))
    (hinfo : (P.info? E).map (fun i => (i.zero, i.size, i.bytes)) = some (some z, 1, bytes)) (hzs : z.cells.size = 1)
    (v : Value) (xs : List Value) (hs : a.eval s = v) (N0 : Nat) (hx : a.eval x = .slice (some ⟨N0, 0, none⟩) 1 1) (hN0 : N0 = w0.heap.size) (hown : OwnR w0 base E v xs) (hu : u.oneCell' = true)
    (hn : xs.length ≤ 100000) (hbytes : bytes ≤ 1000) (hbase : base ≤ w0.heap.size)
    (hK : ∀ v' w', OwnR w' base E v' (xs ++ [u]) → Turned (w0.alloc (.cells #[u] E)) w' v v' → wpList P ops Q rest (a.put o.dst v') w') :
    wpList P ops Q (o :: rest) a (w0.alloc (.cells #[u] E)) := by
  subst hN0
  refine wpList_plain hgd fun K hK' => ?_
  obtain ⟨v', w1, hr, h1, h2⟩ := run_appR (P := P) (w0.alloc (.cells #[u] E)) T o.type E hT hinfo hzs v xs base (hown.below ((Below.refl _ _).alloc (Nat.le_refl _) _)) u hu w0.heap.size (heap_alloc_new _ _) hn hbytes (by simp; omega)
  unfold Oper.wp execOp
  simp only [ho, resolve, invoke, builtin, Sem.run_bind, Sem.run_pure, Result.andThen_ok, List.map_toArray, List.map_cons, List.map_nil, hs, hx, hr]
  exact hK' _ _ (hK v' w1 h1 h2)
def CleanPostC (F : Nat → Prop) (b mb : Nat) (vb vr : Value) (n : Nat) (D : DataW Unit) (ks : List Int) (c : Cc.C) (i : Int) (w : World) (e : Ending) (w' : World) : Prop :=
  e = .returned (.tuple #[]) ∧ ∃ vd', CacAt w' b mb vb vr vd' n D ks (Cc.clean c i) ∧ CacIn F b mb vb vr vd' ∧ Kept F w w' ∧ (∀ g, vd'.ownBlock = some g → w.heap.size ≤ g)
set_option maxRecDepth 100000 in
set_option maxHeartbeats 1000000 in
theorem cclean_any {w : World} {b mb n : Nat} {vb vr vd : Value} {D : DataW Unit} {ks : List Int} {c : Cc.C} (h : CacAt w b mb vb vr vd n D ks c) {F : Nat → Prop} (hF : ∀ k, w.heap.size ≤ k → F k) (hI : CacIn F b mb vb vr vd)
    (hd : c.dirty.length ≤ 1000) (hl : c.below.length ≤ 40) (q : Nat) (hq : q < c.below.length) (hm : (q : Int) ∈ ks) :
    Calls Try.prog 38 #[.pointer (some ⟨b, 0, none⟩), iv q] w (CleanPostC F b mb vb vr n D ks c q w) := by
  have HF := Lib.hid hF
  have HI := Lib.hid hI
  have H := Lib.hid h
  have c0 := h.c0
  have c2 := h.c2
  have c4 := h.c4
  have ff := h.f
  have hlk := (h.has.kept (w1 := w.drew) ((Kept.refl (fun _ => False) w).drew) (fun e => e)).look (i := q) (by omega) (by omega) hm
  obtain ⟨g, o, cap, hvb, hb0, hgl, hnc, hcm, hcell, hfz⟩ := h.below.at0 (by rw [List.length_map]; omega)
  rw [List.length_map] at hvb hnc hcell
  have fq : ∃ s : ByteArray, w.cell? ⟨g, o + q, none⟩ = some (.string s) := by
    rw [hcell q hq, List.getElem?_map, List.getElem?_eq_getElem hq]; exact ⟨_, rfl⟩
  obtain ⟨s0, fq⟩ := fq
  have hne : g ≠ b := fun e => h.b1 (by rw [hvb, e]; rfl)
  unfold maxLen at hcm
  have H1 := Lib.hid ((CacAt.setBelow h hvb q hq (c.val q)).below' ((Below.refl _ _).drew))
  have HK1 : Hid (Kept F w ((w.setCell ⟨g, o + q, none⟩ (.string (c.val q))).drew)) := Lib.hid (((Kept.refl F w).setCell (p := ⟨g, o + q, none⟩) (fun _ => HI.out.v1 g (by rw [hvb]; rfl)) _).drew)
  have Hvb := Lib.hid hvb
  rw [hvb] at c0
  obtain ⟨m, hmm⟩ : ∃ m, m = c.below.length := ⟨_, rfl⟩
  rw [← hmm] at c0 hq hl
  have hqI : (q : Int) < (m : Int) := by omega
  obtain ⟨w1, hw1⟩ : ∃ w1, w1 = (w.setCell ⟨g, o + q, none⟩ (.string (c.val q))).drew := ⟨_, rfl⟩
  rw [← hw1] at H1 HK1
  have HW1 := Lib.hid hw1
  have HWO := Lib.hid (without_any c.dirty q (by omega) vd w1 H1.out.dirty.row)
  have hz1 := HK1.out.size
  obtain ⟨pd, md, cd, hvd⟩ := h.dirty.slice
  subst hvd
  clear h hF hI hcell hb0 hgl hnc hm hmm hvb hw1
  go_enter Try.func38, Try.ntmps38
  go_wp2_with fail
  go_region
  go_wp2_with fail
  rw [← HW1.out]
  refine HWO.out.mono ?_
  rintro e w2 ⟨v2, rfl, hO2, hb2⟩
  have H2 := Lib.hid (H1.out.below' hb2)
  have HO2 := Lib.hid (hO2.mono (Nat.zero_le _))
  have HOl := Lib.hid (fun g (hg : v2.ownBlock = some g) => (hO2.lt hg).1)
  have HK2 := Lib.hid (HK1.out.also (Kept.new F hb2))
  have e4 := H2.out.c4
  have ef := H2.out.f
  have hbl := H1.out.lt
  have hml := H1.out.has.lt
  have hvl := fun g (hg : vb.ownBlock = some g) => (H1.out.below.lt hg).2
  have hrl := fun g (hg : vr.ownBlock = some g) => (H1.out.row.lt hg).2
  have Hvl := Lib.hid hvl
  have Hrl := Lib.hid hrl
  obtain ⟨p2, m2, c2', hv2⟩ := hO2.slice
  subst hv2
  clear hO2 hb2 hvl hrl HWO
  go_wp2_with fail
  go_end0
  refine ⟨rfl, _, H2.out.setDirty HO2.out (fun g hg => ?_), ⟨HI.out.b, HI.out.m, HI.out.v1, HI.out.v2, fun g hg => HF.out g (Nat.le_trans hz1 (HOl.out g hg))⟩, HK2.out.setCell (p := ⟨b, 4, none⟩) (fun _ => HI.out.b) _, fun g hg => Nat.le_trans hz1 (HOl.out g hg)⟩
  have := HOl.out g hg
  exact ⟨by omega, by omega, fun e => by have := Hvl.out g e; omega, fun e => by have := Hrl.out g e; omega⟩
end Go.Proofs.Ytangcjffiooapaa
