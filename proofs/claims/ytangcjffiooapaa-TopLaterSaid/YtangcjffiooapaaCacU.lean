/- The walks of a cache's Write, Flush, Crash. -/
import Derived.Test.YtangcjffiooapaaCacV
import Derived.Test.YtangcjffiooapaaInts
namespace Go.Proofs.Ytangcjffiooapaa
open Go.ChangeShapes Go.WideShapes Go.ChangeAt Go.RowKit Go.Maps
set_option linter.unusedVariables false
def CWritePost (F : Nat → Prop) (b n : Nat) (r : Int × Cc.C) (w : World) (e : Ending) (w' : World) : Prop :=
  e = .returned (errV r.1) ∧ CacOk F w' b (n + 1) r.2 ∧ Kept F w w'
set_option maxRecDepth 100000 in
set_option maxHeartbeats 1000000 in
theorem cwrite_any {w : World} {b n : Nat} {c : Cc.C} {F : Nat → Prop} (h : CacOk F w b n c) (hinv : Cc.Inv c) (hF : ∀ k, w.heap.size ≤ k → F k) (hn : n < 1000000) (i : Int) (s : ByteArray) (hs : s.size ≤ maxLen) :
    Calls Try.prog 12 #[.pointer (some ⟨b, 0, none⟩), iv i, .string s] w (CWritePost F b n (Cc.write c i s) w) := by
  obtain ⟨mb, vb, vr, vd, D, hA, hI⟩ := h
  have HA := Lib.hid hA
  have HI := Lib.hid hI
  have HF := Lib.hid hF
  have HInv := Lib.hid hinv
  have HT := Lib.hid (there_any hA i)
  unfold maxLen at hs
  by_cases ht : Cc.there c i = true
  · have hi := Cc.there_iff.1 ht
    obtain ⟨q, rfl⟩ : ∃ q : Nat, i = q := ⟨i.toNat, by omega⟩
    have hq : q < c.below.length := by omega
    rw [ht] at HT
    by_cases h16 : 16 < s.size
    · have hwr : Cc.write c q s = (1, c) := by unfold Cc.write; rw [if_pos (.inr h16)]
      rw [hwr]
      have h16' : 16 < (s.size : Int) := by omega
      clear hA hI hF hinv ht hi hwr hq
      go_enter Try.func12, Try.ntmps12
      go_wp2_with fail
      refine HT.out.mono ?_
      rintro e w' ⟨rfl, rfl⟩
      go_wp2_with fail
      go_ret
      exact ⟨rfl, CacOk.more ⟨mb, vb, vr, vd, D, HA.out, HI.out⟩ (by omega), Kept.refl _ _⟩
    · have hwr : Cc.write c q s = (0, Cc.mark (Cc.put c q s) q) := by
        unfold Cc.write; rw [if_neg (by rintro (h | h); · rw [ht] at h; cases h
                                        · exact h16 h)]
      rw [hwr]
      have h16' : ¬ 16 < (s.size : Int) := by omega
      have h16'' : (s.size : Int) ≤ 16 := by omega
      have HP := Lib.hid (cput_any (F := F) hA hinv hF hI hn q hq s (by omega))
      have hip := hinv.put (i := (q : Int)) hi (by omega : s.size ≤ 16) (hinv.dsub q)
      have HIp := Lib.hid hip
      clear hA hI hF hinv ht hi hwr hq hip
      go_enter Try.func12, Try.ntmps12
      go_wp2_with fail
      refine HT.out.mono ?_
      rintro e w' ⟨rfl, rfl⟩
      go_wp2_with fail
      refine HP.out.mono ?_
      rintro e w2 ⟨rfl, ⟨mb2, vb2, vr2, vd2, D2, hA2, hI2⟩, hK2⟩
      obtain ⟨p, hp⟩ : ∃ p, p = Cc.put c q s := ⟨_, rfl⟩
      rw [← hp] at hA2
      have HA2 := Lib.hid hA2
      have HI2 := Lib.hid hI2
      have HK2 := Lib.hid hK2
      have Hp := Lib.hid hp
      have d4 := hA2.c4
      have ef := hA2.f
      have HC := Lib.hid (contains_any p.dirty q vd2 w2 hA2.dirty.row)
      have hd12 : p.dirty.length ≤ 12 := by
        have h1 := Cc.nodup_len _ _ HIp.out.dnd HIp.out.dsub
        have h2 := HIp.out.fit
        have h3 := HIp.out.room12
        rw [hp]; omega
      obtain ⟨isd, hisd⟩ : ∃ isd, isd = p.dirty.contains (q : Int) := ⟨_, rfl⟩
      rw [← hisd] at HC
      have Hisd := Lib.hid hisd
      obtain ⟨pd, md, cd, hvd⟩ := hA2.dirty.slice
      subst hvd
      clear hA2 hI2 hK2 hp hisd HP HT HA HI
      go_wp2_with fail
      refine HC.out.mono ?_
      rintro e w' ⟨rfl, rfl⟩
      cases isd with
      | true =>
        have hm : Cc.mark p q = p := by unfold Cc.mark; rw [if_pos Hisd.out.symm]
        have Hm := Lib.hid hm
        clear hm
        go_wp2_with fail
        go_ret
        exact ⟨rfl, by rw [← Hp.out, Hm.out]; exact ⟨_, _, _, _, _, HA2.out, HI2.out⟩, HK2.out⟩
      | false =>
        have hm : Cc.mark p q = { p with dirty := p.dirty ++ [(q : Int)] } := by unfold Cc.mark; rw [if_neg (by rw [← Hisd.out]; decide)]
        have Hm := Lib.hid hm
        have hrow := HA2.out.dirty
        clear hm
        go_wp2_with (at_builtin; refine wp_appR w2 (iv q) 3 30 rfl _ _ rfl 0 Try.underlying30 info_int rfl _ (p.dirty.map iv) rfl _ rfl rfl hrow rfl ?k1 (by omega) (Nat.zero_le _) ?_)
        case k1 => rw [List.length_map]; omega
        intro v7 w7 hO7 hT7
        have hb7 : Below w2.heap.size w2 (w2.alloc (.cells #[iv (q : Int)] 3)) := (Below.refl _ _).alloc (Nat.le_refl _) _
        have hA7 := HA2.out.below' hb7
        have hk7 := hT7.1
        have hblk7 : w7.heap[b]? = some (cacBlk p.room p.hits mb2 vb2 vr2 (.slice pd md cd)) := hk7.heap hA7.blk (fun e => HA2.out.b3 e.symm)
        have e4' : w7.cell? ⟨b, 4, none⟩ = some (.slice pd md cd) := by rw [cell_of_row _ _ _ _ _ _ hblk7]; rfl
        have ef' : ∀ j, w7.frozen? ⟨b, j, none⟩ = false := fun j => frozen_of_row _ _ _ _ _ hblk7
        have hA8 := hA7.turnDirty hT7 (dirty' := p.dirty ++ [(q : Int)]) (by rw [List.map_append]; exact hO7)
        have hI8 : ∀ g, v7.ownBlock = some g → F g := fun g hg => by
          rcases hT7.2 with e | e
          · rw [e] at hg; exact HI2.out.v3 g hg
          · have := e g hg; have hz : (w2.alloc (.cells #[iv (q : Int)] 3)).heap.size = w2.heap.size + 1 := by simp
            have hz2 := HK2.out.size
            exact HF.out g (by omega)
        have hK8 : Kept F w (w7.setCell ⟨b, 4, none⟩ v7) := ((HK2.out.alloc _).also (hk7.mono (fun k _ e => HI2.out.v3 k e.symm))).setCell (p := ⟨b, 4, none⟩) (fun _ => HI2.out.b) _
        obtain ⟨p7, n7, c7, rfl⟩ := hO7.slice
        have HA8 := Lib.hid hA8
        have HI8 := Lib.hid hI8
        have HK8 := Lib.hid hK8
        clear hO7 hT7 hA7 hk7 hblk7 hb7 hrow hA8 hI8 hK8 d4 ef
        go_wp2_with fail
        go_ret
        exact ⟨rfl, by rw [← Hp.out, Hm.out]; exact ⟨_, _, _, _, _, HA8.out, HI2.out.b, HI2.out.m, HI2.out.v1, HI2.out.v2, HI8.out⟩, HK8.out⟩
  · have ht0 : Cc.there c i = false := by simpa using ht
    have hwr : Cc.write c i s = (1, c) := by unfold Cc.write; rw [if_pos (.inl ht0)]
    rw [hwr]
    rw [ht0] at HT
    clear hA hI hF hinv ht hwr ht0
    go_enter Try.func12, Try.ntmps12
    go_wp2_with fail
    refine HT.out.mono ?_
    rintro e w' ⟨rfl, rfl⟩
    go_wp2_with fail
    go_ret
    exact ⟨rfl, CacOk.more ⟨mb, vb, vr, vd, D, HA.out, HI.out⟩ (by omega), Kept.refl _ _⟩
theorem OwnR.head {w : World} {base : Nat} {E : TypeId} {g o n cap : Nat} {xs : List Value} (h : OwnR w base E (.slice (some ⟨g, o, none⟩) n cap) xs) {k : Nat} (hk : k ≤ xs.length) : OwnR w base E (.slice (some ⟨g, o, none⟩) k cap) (xs.take k) := by
  rcases h with ⟨hv, _⟩ | ⟨g', o', cap', cur, hv, hb, hg, h1, h2, h3, h4⟩
  · cases hv
  · injection hv with e1 e2 e3
    injection e1 with e1
    injection e1 with e4 e5
    subst e4 e5 e3
    refine .inr ⟨g, o, cap, cur, by rw [List.length_take, Nat.min_eq_left hk], hb, hg, by rw [List.length_take]; omega, h2, h3, fun j hj => ?_⟩
    rw [List.length_take] at hj
    rw [h4 j (by omega), List.getElem?_take, if_pos (by omega)]
def Cc.flush (c : Cc.C) (x : Int) : (List Int × Int) × Cc.C := if x < 0 then (([], 1), c) else ((c.dirty.take x.toNat, 0), Cc.cleans c (c.dirty.take x.toNat))
theorem Cc.cleans_snoc (c : Cc.C) (l : List Int) (i : Int) : Cc.cleans c (l ++ [i]) = Cc.clean (Cc.cleans c l) i := by unfold Cc.cleans; rw [List.foldl_append]; rfl
theorem Cc.cleans_same (c : Cc.C) (l : List Int) : (Cc.cleans c l).row = c.row ∧ (Cc.cleans c l).room = c.room ∧ (Cc.cleans c l).hits = c.hits ∧ (Cc.cleans c l).val = c.val ∧ (Cc.cleans c l).below.length = c.below.length := by
  unfold Cc.cleans
  induction l generalizing c with
  | nil => exact ⟨rfl, rfl, rfl, rfl, rfl⟩
  | cons a t ih =>
    have h := ih (Cc.clean c a)
    exact ⟨h.1, h.2.1, h.2.2.1, h.2.2.2.1, by rw [List.foldl_cons, h.2.2.2.2]; unfold Cc.clean; simp⟩
theorem Cc.Inv.cleans {c : Cc.C} (h : Cc.Inv c) {l : List Int} (hl : ∀ x ∈ l, x ∈ c.row) : Cc.Inv (Cc.cleans c l) := by
  unfold Cc.cleans
  induction l generalizing c with
  | nil => exact h
  | cons a t ih => exact ih (h.clean (hl a List.mem_cons_self)) (fun x hx => hl x (List.mem_cons_of_mem _ hx))
theorem Cc.Inv.flush {c : Cc.C} (h : Cc.Inv c) (x : Int) : Cc.Inv (Cc.flush c x).2 := by
  unfold Cc.flush; split
  · exact h
  · exact h.cleans (fun y hy => h.dsub y (List.mem_of_mem_take hy))
def CFlushPost (F : Nat → Prop) (b n : Nat) (r : (List Int × Int) × Cc.C) (w : World) (e : Ending) (w' : World) : Prop :=
  ∃ v, e = .returned (.tuple #[v, errV r.1.2]) ∧ OwnR w' w.heap.size 3 v (r.1.1.map iv) ∧ CacOk (fun k => F k ∧ v.ownBlock ≠ some k) w' b n r.2 ∧ Kept F w w'
def FlRel (F : Nat → Prop) (w1 : World) (b mb n : Nat) (vb vr : Value) (D : DataW Unit) (c : Cc.C) (l : List Int) (gk : Nat) (i : Value) (wr : World) : Prop :=
  ∃ (j : Nat) (vd : Value), j + gk = l.length ∧ i = iv j ∧ CacAt wr b mb vb vr vd n D c.row (Cc.cleans c (l.take j)) ∧ CacIn F b mb vb vr vd ∧ Kept F w1 wr
set_option maxRecDepth 100000 in
set_option maxHeartbeats 1000000 in
theorem cflush_any {w : World} {b n : Nat} {c : Cc.C} {F : Nat → Prop} (h : CacOk F w b n c) (hinv : Cc.Inv c) (hF : ∀ k, w.heap.size ≤ k → F k) (x : Int) :
    Calls Try.prog 14 #[.pointer (some ⟨b, 0, none⟩), iv x] w (CFlushPost F b n (Cc.flush c x) w) := by
  obtain ⟨mb, vb, vr, vd, D, hA, hI⟩ := h
  have HA := Lib.hid hA
  have HI := Lib.hid hI
  have HF := Lib.hid hF
  have HInv := Lib.hid hinv
  by_cases hx : x < 0
  · have hfl : Cc.flush c x = (([], 1), c) := by unfold Cc.flush; rw [if_pos hx]
    rw [hfl]
    clear hA hI hF hinv hfl
    go_enter Try.func14, Try.ntmps14
    go_wp2_with fail
    go_ret2
    exact ⟨_, rfl, OwnR.nil _ _ _, CacOk.wide ⟨mb, vb, vr, vd, D, HA.out, HI.out⟩ (fun k _ hk => ⟨hk, (fun e => by cases e)⟩), Kept.refl _ _⟩
  · obtain ⟨y, rfl⟩ : ∃ y : Nat, x = y := ⟨x.toNat, by omega⟩
    have hd12 : c.dirty.length ≤ 12 := by
      have h1 := Cc.nodup_len _ _ hinv.dnd hinv.dsub
      have h2 := hinv.fit
      have h3 := hinv.room12
      omega
    obtain ⟨l, hl⟩ : ∃ l, l = c.dirty.take y := ⟨_, rfl⟩
    have hfl : Cc.flush c y = ((l, 0), Cc.cleans c l) := by unfold Cc.flush; rw [if_neg hx, Int.toNat_natCast, ← hl]
    rw [hfl]
    obtain ⟨k, hk⟩ : ∃ k, k = min y c.dirty.length := ⟨_, rfl⟩
    have hlk : l.length = k := by rw [hl, List.length_take, hk]
    have hlt : l = c.dirty.take k := by
      rw [hl, hk]
      rcases Nat.le_total y c.dirty.length with h | h
      · rw [Nat.min_eq_left h]
      · rw [Nat.min_eq_right h, List.take_of_length_le h, List.take_of_length_le (Nat.le_refl _)]
    have hld : ∀ x ∈ l, x ∈ c.dirty := fun x hx => List.mem_of_mem_take (by rw [← hl]; exact hx)
    have hmin : min (y : Int) (c.dirty.length : Int) = (k : Int) := by omega
    have hq : ∀ x ∈ l, x ∈ c.row ∧ 0 ≤ x ∧ x < c.below.length := fun x hx => ⟨hinv.dsub x (hld x hx), hinv.row x (hinv.dsub x (hld x hx))⟩
    have hkc : k ≤ c.dirty.length := by omega
    have hl40 := hinv.len
    have d4 := (hA.below' ((Below.refl _ _).drew)).c4
    have hrow : OwnR w.drew 0 3 vd (c.dirty.map iv) := hA.dirty.below ((Below.refl _ _).drew)
    have hcase : (vd = .slice none 0 0 ∧ c.dirty.length = 0 ∧ Row w.drew (.slice none 0 0) (l.map iv)) ∨ ∃ g o cap, vd = .slice (some ⟨g, o, none⟩) c.dirty.length cap ∧ c.dirty.length ≤ cap ∧ cap ≤ 9223372036854775807 ∧ Row w.drew (.slice (some ⟨g, o, none⟩) k cap) (l.map iv) := by
      rcases hrow with ⟨h1, h2⟩ | ⟨g, o, cap, cur, h1, h2⟩
      · have h0 : c.dirty = [] := List.map_eq_nil_iff.1 h2
        refine .inl ⟨h1, by rw [h0]; rfl, ?_⟩
        rw [hlt, h0, List.take_nil]; exact (OwnR.nil _ 0 3).row
      · have ho : OwnR w.drew 0 3 vd (c.dirty.map iv) := .inr ⟨g, o, cap, cur, h1, h2⟩
        rw [List.length_map] at h1
        rw [h1] at ho
        have hh := ho.head (k := k) (by rw [List.length_map]; exact hkc)
        rw [← List.map_take, ← hlt] at hh
        have := h2.2.2.1
        have := h2.2.2.2.1
        rw [List.length_map] at *
        unfold maxLen at *
        exact .inr ⟨g, o, cap, h1, by omega, by omega, hh.row⟩
    have Hlk := Lib.hid hlk
    have Hq := Lib.hid hq
    have HAd : Hid (CacAt w.drew b mb vb vr vd n D c.row c) := Lib.hid (hA.below' ((Below.refl _ _).drew))
    have hls : ∀ u ∈ l.map iv, u.oneCell' = true := by intro u hu; obtain ⟨x, _, rfl⟩ := List.mem_map.1 hu; rfl
    have hln : (l.map iv).length ≤ 1000000 := by rw [List.length_map]; omega
    have hx' : ¬ (y : Int) < 0 := hx
    rcases hcase with ⟨rfl, h0, hR⟩ | ⟨g, o, cap, rfl, hc1, hc2, hR⟩
    · have hk0 : k = 0 := by omega
      subst hk0
      have hmin : min (y : Int) 0 = 0 := by omega
      have hl0 : l = [] := List.eq_nil_of_length_eq_zero hlk
      have HC := Lib.hid (clone_any (l.map iv) hls hln _ _ hR)
      have hkI : (0 : Int) ≤ 0 := by omega
      clear hA hI hF hinv hl hfl hk hlk hlt hld hq hrow hR hls hln hx h0 hl0
      obtain ⟨k, hk⟩ : ∃ k : Nat, k = 0 := ⟨_, rfl⟩
      have Hlk : Hid (l.length = k) := Lib.hid (by rw [hk]; exact Hlk.out)
      clear hk
      go_enter Try.func14, Try.ntmps14
      go_wp2_with fail
      go_region_held3 (fun w' => w'.cell? ⟨b, 4, none⟩ = some (.slice none 0 0))
        (first
          | exact d4
          | exact (Kept.new (fun _ => False) (by assumption)).cell d4 (fun e => e)
          | go_keep)
        (first
          | (go_at_call 36; (with_reducible refine HC.out.mono ?_); rintro e w' ⟨v, rfl, hown, hb⟩))
      have hzd : w.drew.heap.size = w.heap.size := rfl
      rw [hzd] at hb hown
      have hb2 : Below w.drew.heap.size w.drew w' := hb
      have hzw : w.heap.size ≤ w'.heap.size := hb.size
      have HK0 : Hid (Kept F w w') := Lib.hid (((Kept.refl F w).drew).also (Kept.new F hb2))
      have hA1 := HAd.out.below' hb2
      have hvl := fun q (e : v.ownBlock = some q) => hown.lt q e
      obtain ⟨G, hG⟩ : ∃ G : Nat → Prop, G = fun q => F q ∧ v.ownBlock ≠ some q := ⟨_, rfl⟩
      have hlow : ∀ q, q < w.heap.size → v.ownBlock ≠ some q := fun q hq e => by have := (hvl q e).1; omega
      have HIG : Hid (CacIn G b mb vb vr (.slice none 0 0)) := Lib.hid (by
        rw [hG]
        exact ⟨⟨HI.out.b, hlow _ HA.out.lt⟩, ⟨HI.out.m, hlow _ HA.out.has.lt⟩, fun q hq => ⟨HI.out.v1 q hq, hlow _ (HA.out.below.lt hq).2⟩, fun q hq => ⟨HI.out.v2 q hq, hlow _ (HA.out.row.lt hq).2⟩, fun q hq => ⟨HI.out.v3 q hq, hlow _ (HA.out.dirty.lt hq).2⟩⟩)
      have HGn : Hid (∀ q, w'.heap.size ≤ q → G q) := Lib.hid (by
        intro q hq; rw [hG]
        exact ⟨HF.out q (by omega), fun e => by have := (hvl q e).2; omega⟩)
      have HGF : Hid (∀ q, G q → F q) := Lib.hid (by intro q hq; rw [hG] at hq; exact hq.1)
      have HGl : Hid (∀ q, v.ownBlock = some q → ¬ G q) := Lib.hid (by intro q hq hk; rw [hG] at hk; exact hk.2 hq)
      have HGe := Lib.hid hG
      have HA1 := Lib.hid hA1
      have HO1 := Lib.hid (OwnR.of_owns hown)
      obtain ⟨pv, cv, hv, hl1, hl2, hcl⟩ := Row.get (row_of_owns hown).1
      rw [List.length_map, Hlk.out] at hv hl1 hcl
      have Hcl := Lib.hid hcl
      subst hv
      clear hA1 hvl hG hlow hcl hown hb hb2 hzd d4 HC
      go_wp2_with fail
      go_loopg [27] k (fun gk i wr => FlRel G w' b mb n vb vr D c l gk i wr)
      case atStart => exact ⟨0, _, by rw [Hlk.out]; omega, rfl, by rw [List.take_zero]; exact HA1.out, HIG.out, Kept.refl _ _⟩
      case round =>
        obtain ⟨j, vd2, hj, rfl, hA4, hI4, hK4⟩ := hrel
        rw [Hlk.out] at hj
        have Hj := Lib.hid hj
        have HA4 := Lib.hid hA4
        have HI4 := Lib.hid hI4
        have HK4 := Lib.hid hK4
        by_cases hjk : j < k
        · obtain ⟨gh, oh, hph, hcj, _⟩ := Hcl.out j hjk
          have hjl : j < l.length := by rw [Hlk.out]; exact hjk
          have hxx : l[j]? = some l[j] := List.getElem?_eq_getElem hjl
          have hmem := Hq.out _ (List.getElem_mem hjl)
          obtain ⟨x, hx⟩ : ∃ x, x = l[j] := ⟨_, rfl⟩
          rw [← hx] at hxx hmem
          obtain ⟨q, rfl⟩ : ∃ q : Nat, x = q := ⟨x.toNat, by omega⟩
          rw [List.getElem?_map, hxx] at hcj
          have cj : wr.cell? ⟨gh, oh + j, none⟩ = some (iv q) := hK4.cell hcj (HGl.out gh (by rw [hph]; rfl))
          have hin : Cc.Inv (Cc.cleans c (l.take j)) := HInv.out.cleans (fun x hx => (Hq.out x (List.mem_of_mem_take hx)).1)
          have hsm := Cc.cleans_same c (l.take j)
          have hd4 : (Cc.cleans c (l.take j)).dirty.length ≤ 1000 := by
            have h1 := Cc.nodup_len _ _ hin.dnd hin.dsub
            have h2 := hin.fit
            have h3 := hin.room12
            omega
          have hz4 := hK4.size
          have HCl := Lib.hid (cclean_any hA4 (F := G) (fun k hk => HGn.out k (by omega)) hI4 hd4 (by rw [hsm.2.2.2.2]; exact hl40) q (by rw [hsm.2.2.2.2]; omega) hmem.1)
          have Hxx := Lib.hid hxx
          have Hph := Lib.hid hph
          rw [hph]
          clear hj hA4 hI4 hK4 hcj hjl hmem hx hin hsm hd4 hxx hph
          go_wp2_with fail
          refine HCl.out.mono ?_
          rintro e w5 ⟨rfl, vd5, hA5, hI5, hK5, _⟩
          have HA5 := Lib.hid hA5
          have HI5 := Lib.hid hI5
          have HK5 := Lib.hid (HK4.out.also hK5)
          clear hA5 hI5 hK5
          go_wp2_with fail
          rw [show some (⟨gh, oh, none⟩ : Addr) = pv from Hph.out.symm]
          go_roundg (gk - 1)
          case measure => have := Hj.out; omega
          case rel => exact ⟨j + 1, vd5, by have := Hj.out; rw [Hlk.out]; omega, by go_num, by rw [List.take_add_one, Hxx.out, show (some (q : Int)).toList = [(q : Int)] from rfl, Cc.cleans_snoc]; exact HA5.out, HI5.out, HK5.out⟩
        · have hjk' : j = k := by have := Hj.out; omega
          have Hjk := Lib.hid hjk'
          clear hj hA4 hI4 hK4 hjk'
          go_wp2_with fail
          go_ret2
          have e0 : l.take j = l := by rw [Hjk.out, ← Hlk.out]; exact List.take_length
          have hA5 := HA4.out
          rw [e0] at hA5
          have hI5 : CacIn (fun q => F q ∧ (Value.slice pv k cv).ownBlock ≠ some q) b mb vb vr vd2 := by rw [← HGe.out]; exact HI4.out
          refine ⟨.slice pv k cv, rfl, HO1.out.kept HK4.out HGl.out, ⟨mb, vb, vr, vd2, D, ?_, hI5⟩, HK0.out.also (HK4.out.mono (fun q _ hq => HGF.out q hq))⟩
          rw [(Cc.cleans_same c l).1]; exact hA5
    · have HC := Lib.hid (clone_any (l.map iv) hls hln _ _ hR)
      obtain ⟨dl, hdl⟩ : ∃ dl, dl = c.dirty.length := ⟨_, rfl⟩
      rw [← hdl] at hmin hc1 hd12 d4 hkc HAd HA HI
      have hkI : (k : Int) ≤ (cap : Int) := by omega
      clear hA hI hF hinv hl hfl hk hlk hlt hld hq hrow hR hls hln hx hdl
      go_enter Try.func14, Try.ntmps14
      go_wp2_with fail
      go_region_held3 (fun w' => w'.cell? ⟨b, 4, none⟩ = some (.slice (some ⟨g, o, none⟩) dl cap))
        (first
          | exact d4
          | exact (Kept.new (fun _ => False) (by assumption)).cell d4 (fun e => e)
          | go_keep)
        (first
          | (go_at_call 36; (with_reducible refine HC.out.mono ?_); rintro e w' ⟨v, rfl, hown, hb⟩))
      have hzd : w.drew.heap.size = w.heap.size := rfl
      rw [hzd] at hb hown
      have hb2 : Below w.drew.heap.size w.drew w' := hb
      have hzw : w.heap.size ≤ w'.heap.size := hb.size
      have HK0 : Hid (Kept F w w') := Lib.hid (((Kept.refl F w).drew).also (Kept.new F hb2))
      have hA1 := HAd.out.below' hb2
      have hvl := fun q (e : v.ownBlock = some q) => hown.lt q e
      obtain ⟨G, hG⟩ : ∃ G : Nat → Prop, G = fun q => F q ∧ v.ownBlock ≠ some q := ⟨_, rfl⟩
      have hlow : ∀ q, q < w.heap.size → v.ownBlock ≠ some q := fun q hq e => by have := (hvl q e).1; omega
      have HIG : Hid (CacIn G b mb vb vr (.slice (some ⟨g, o, none⟩) dl cap)) := Lib.hid (by
        rw [hG]
        exact ⟨⟨HI.out.b, hlow _ HA.out.lt⟩, ⟨HI.out.m, hlow _ HA.out.has.lt⟩, fun q hq => ⟨HI.out.v1 q hq, hlow _ (HA.out.below.lt hq).2⟩, fun q hq => ⟨HI.out.v2 q hq, hlow _ (HA.out.row.lt hq).2⟩, fun q hq => ⟨HI.out.v3 q hq, hlow _ (HA.out.dirty.lt hq).2⟩⟩)
      have HGn : Hid (∀ q, w'.heap.size ≤ q → G q) := Lib.hid (by
        intro q hq; rw [hG]
        exact ⟨HF.out q (by omega), fun e => by have := (hvl q e).2; omega⟩)
      have HGF : Hid (∀ q, G q → F q) := Lib.hid (by intro q hq; rw [hG] at hq; exact hq.1)
      have HGl : Hid (∀ q, v.ownBlock = some q → ¬ G q) := Lib.hid (by intro q hq hk; rw [hG] at hk; exact hk.2 hq)
      have HGe := Lib.hid hG
      have HA1 := Lib.hid hA1
      have HO1 := Lib.hid (OwnR.of_owns hown)
      obtain ⟨pv, cv, hv, hl1, hl2, hcl⟩ := Row.get (row_of_owns hown).1
      rw [List.length_map, Hlk.out] at hv hl1 hcl
      have Hcl := Lib.hid hcl
      subst hv
      clear hA1 hvl hG hlow hcl hown hb hb2 hzd d4 HC
      go_wp2_with fail
      go_loopg [27] k (fun gk i wr => FlRel G w' b mb n vb vr D c l gk i wr)
      case atStart => exact ⟨0, _, by rw [Hlk.out]; omega, rfl, by rw [List.take_zero]; exact HA1.out, HIG.out, Kept.refl _ _⟩
      case round =>
        obtain ⟨j, vd2, hj, rfl, hA4, hI4, hK4⟩ := hrel
        rw [Hlk.out] at hj
        have Hj := Lib.hid hj
        have HA4 := Lib.hid hA4
        have HI4 := Lib.hid hI4
        have HK4 := Lib.hid hK4
        by_cases hjk : j < k
        · obtain ⟨gh, oh, hph, hcj, _⟩ := Hcl.out j hjk
          have hjl : j < l.length := by rw [Hlk.out]; exact hjk
          have hxx : l[j]? = some l[j] := List.getElem?_eq_getElem hjl
          have hmem := Hq.out _ (List.getElem_mem hjl)
          obtain ⟨x, hx⟩ : ∃ x, x = l[j] := ⟨_, rfl⟩
          rw [← hx] at hxx hmem
          obtain ⟨q, rfl⟩ : ∃ q : Nat, x = q := ⟨x.toNat, by omega⟩
          rw [List.getElem?_map, hxx] at hcj
          have cj : wr.cell? ⟨gh, oh + j, none⟩ = some (iv q) := hK4.cell hcj (HGl.out gh (by rw [hph]; rfl))
          have hin : Cc.Inv (Cc.cleans c (l.take j)) := HInv.out.cleans (fun x hx => (Hq.out x (List.mem_of_mem_take hx)).1)
          have hsm := Cc.cleans_same c (l.take j)
          have hd4 : (Cc.cleans c (l.take j)).dirty.length ≤ 1000 := by
            have h1 := Cc.nodup_len _ _ hin.dnd hin.dsub
            have h2 := hin.fit
            have h3 := hin.room12
            omega
          have hz4 := hK4.size
          have HCl := Lib.hid (cclean_any hA4 (F := G) (fun k hk => HGn.out k (by omega)) hI4 hd4 (by rw [hsm.2.2.2.2]; exact hl40) q (by rw [hsm.2.2.2.2]; omega) hmem.1)
          have Hxx := Lib.hid hxx
          have Hph := Lib.hid hph
          rw [hph]
          clear hj hA4 hI4 hK4 hcj hjl hmem hx hin hsm hd4 hxx hph
          go_wp2_with fail
          refine HCl.out.mono ?_
          rintro e w5 ⟨rfl, vd5, hA5, hI5, hK5, _⟩
          have HA5 := Lib.hid hA5
          have HI5 := Lib.hid hI5
          have HK5 := Lib.hid (HK4.out.also hK5)
          clear hA5 hI5 hK5
          go_wp2_with fail
          rw [show some (⟨gh, oh, none⟩ : Addr) = pv from Hph.out.symm]
          go_roundg (gk - 1)
          case measure => have := Hj.out; omega
          case rel => exact ⟨j + 1, vd5, by have := Hj.out; rw [Hlk.out]; omega, by go_num, by rw [List.take_add_one, Hxx.out, show (some (q : Int)).toList = [(q : Int)] from rfl, Cc.cleans_snoc]; exact HA5.out, HI5.out, HK5.out⟩
        · have hjk' : j = k := by have := Hj.out; omega
          have Hjk := Lib.hid hjk'
          clear hj hA4 hI4 hK4 hjk'
          go_wp2_with fail
          go_ret2
          have e0 : l.take j = l := by rw [Hjk.out, ← Hlk.out]; exact List.take_length
          have hA5 := HA4.out
          rw [e0] at hA5
          have hI5 : CacIn (fun q => F q ∧ (Value.slice pv k cv).ownBlock ≠ some q) b mb vb vr vd2 := by rw [← HGe.out]; exact HI4.out
          refine ⟨.slice pv k cv, rfl, HO1.out.kept HK4.out HGl.out, ⟨mb, vb, vr, vd2, D, ?_, hI5⟩, HK0.out.also (HK4.out.mono (fun q _ hq => HGF.out q hq))⟩
          rw [(Cc.cleans_same c l).1]; exact hA5
set_option maxRecDepth 100000 in
theorem ccrash_any {w : World} {b n : Nat} {c : Cc.C} {F : Nat → Prop} (h : CacOk F w b n c) (hF : ∀ k, w.heap.size ≤ k → F k) :
    Calls Try.prog 18 #[.pointer (some ⟨b, 0, none⟩)] w (CPost F b n (Cc.crash c) w) := by
  obtain ⟨mb, vb, vr, vd, D, hA, hI⟩ := h
  have hmm := @run_makeMap Try.prog
  have HA := Lib.hid hA
  have HI := Lib.hid hI
  have HF := Lib.hid hF
  have ef := hA.f
  have hlt := hA.lt
  have hml := hA.has.lt
  have e2 := hA.c2
  have e3 := hA.c3
  have e4 := hA.c4
  clear hA hI hF
  go_enter Try.func18, Try.ntmps18
  go_wp2_with fail
  go_end0
  have hblk := HA.out.blk
  have hk : Kept (· = b) w ((((w.setCell ⟨b, 2, none⟩ (.map (some w.heap.size))).setCell ⟨b, 3, none⟩ (.slice none 0 0)).setCell ⟨b, 4, none⟩ (.slice none 0 0)).alloc (.map #[] 0)) := ((((Kept.self b w).set1 _ _).set1 _ _).set1 _ _).alloc _
  have b1 : (w.setCell ⟨b, 2, none⟩ (.map (some w.heap.size))).heap[b]? = some (cacBlk c.room c.hits w.heap.size vb vr vd) := by rw [heap_setCell_same _ _ _ _ _ _ hblk]; rfl
  have b2 : ((w.setCell ⟨b, 2, none⟩ (.map (some w.heap.size))).setCell ⟨b, 3, none⟩ (.slice none 0 0)).heap[b]? = some (cacBlk c.room c.hits w.heap.size vb (.slice none 0 0) vd) := by rw [heap_setCell_same _ _ _ _ _ _ b1]; rfl
  have b3 : (((w.setCell ⟨b, 2, none⟩ (.map (some w.heap.size))).setCell ⟨b, 3, none⟩ (.slice none 0 0)).setCell ⟨b, 4, none⟩ (.slice none 0 0)).heap[b]? = some (cacBlk c.room c.hits w.heap.size vb (.slice none 0 0) (.slice none 0 0)) := by rw [heap_setCell_same _ _ _ _ _ _ b2]; rfl
  have hz : (((w.setCell ⟨b, 2, none⟩ (.map (some w.heap.size))).setCell ⟨b, 3, none⟩ (.slice none 0 0)).setCell ⟨b, 4, none⟩ (.slice none 0 0)).heap.size = w.heap.size := by simp [World.setCell]
  have hmk := HasAt.made (((w.setCell ⟨b, 2, none⟩ (.map (some w.heap.size))).setCell ⟨b, 3, none⟩ (.slice none 0 0)).setCell ⟨b, 4, none⟩ (.slice none 0 0)) c.val
  rw [hz] at hmk
  have hvl := fun g (hg : vb.ownBlock = some g) => (HA.out.below.lt hg).2
  refine ⟨rfl, ⟨w.heap.size, vb, .slice none 0 0, .slice none 0 0, .map [], ⟨?_, HA.out.below.kept hk (fun g hg e => HA.out.b1 (by rw [hg, e])), ?_, OwnR.nil _ _ _, OwnR.nil _ _ _, by omega, HA.out.b1, (fun e => by cases e), (fun e => by cases e), fun e => by have := hvl _ e; omega, (fun e => by cases e), (fun e => by cases e), (fun g _ e => by cases e), (fun g _ e => by cases e), (fun g _ e => by cases e)⟩, HI.out.b, HF.out _ (Nat.le_refl _), HI.out.v1, (fun g e => by cases e), (fun g e => by cases e)⟩, hk.mono (fun k _ e => by rw [e]; exact HI.out.b)⟩
  · rw [heap_alloc_old _ _ (by rw [hz]; exact hlt)]; exact b3
  · exact { hmk with own := hmk.own.mono (Nat.zero_le _) }
end Go.Proofs.Ytangcjffiooapaa
