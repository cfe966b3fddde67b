/- The walks of package intent: End, Dirty, Crash, Clean. -/
import Derived.Test.YtangcjffiooapaaDoorIntX
namespace Go.Proofs.YtangcjffiooapaaDoor
open Go.ChangeShapes Go.WideShapes Go.ChangeAt Go.RowKit Go.Maps
set_option linter.unusedVariables false
theorem put_del {w w1 : World} {mb n n' c : Nat} {many : Nat → Nat} {D : DataW Unit} {z : DataW Unit} (h : ManyAt w mb n many D) (hn : n ≤ n') (hc : c < 40) (ho : w1.ownsMap Tryd.prog 3 (plainElem Tryd.prog 3) mb n' ((D.put (kl c) z).del (kl c))) :
    ManyAt w1 mb n' (Nt.upd many c 0) ((D.put (kl c) z).del (kl c)) := by
  refine ⟨ho, fun k hk40 => ?_, fun k hk40 => ?_, fun k hh => ?_, fun k => ?_⟩
  · by_cases e : k = c
    · subst e; rw [Nt.upd_same, atKey_del_same]; rfl
    · rw [Nt.upd_other _ _ e, atKey_del_other (fun q => e (by have := kl_inj q; omega)), atKey_put_other (fun q => e (by have := kl_inj q; omega)), h.val k hk40]
  · by_cases e : k = c
    · subst e; rw [Nt.upd_same, has_del_same]; rfl
    · rw [Nt.upd_other _ _ e, has_del_other (fun q => e (by have := kl_inj q; omega)), has_put_other (fun q => e (by have := kl_inj q; omega)), h.has k hk40]
  · by_cases e : k = (c : Int)
    · subst e; rw [has_del_same] at hh; cases hh
    · rw [has_del_other (fun q => e (kl_inj q)), has_put_other (fun q => e (kl_inj q))] at hh; exact h.only k hh
  · by_cases e : k = c
    · subst e; rw [Nt.upd_same]; omega
    · have := h.bound k; rw [Nt.upd_other _ _ e]; omega
theorem IntAt.mapped {w w' : World} {B b mb n n' wide : Nat} {v : Value} {D D' : DataW Unit} {s : Nt.S} {m' : Nat → Nat} (h : IntAt w B b mb v n wide D s) (hk : Kept (fun k => some k = some mb) w w') (hm : ManyAt w' mb n' m' D') : IntAt w' B b mb v n' wide D' ⟨m', s.dirty⟩ :=
  { h with blk := hk.heap h.blk (fun e => h.bm (Option.some.inj e)), many := hm, row := h.row.kept hk (fun g hg e => h.vm (by rw [hg, e])) }
def FinPost (F : Nat → Prop) (B b n wide : Nat) (r : Int × Nt.S) (w : World) (e : Ending) (w' : World) : Prop :=
  e = .returned (errV r.1) ∧ IntOk F w' B b (n + 1) wide r.2 ∧ Kept F w w'
theorem IntAt.more {w : World} {B b mb n wide : Nat} {v : Value} {D : DataW Unit} {s : Nt.S} (h : IntAt w B b mb v n wide D s) : IntAt w B b mb v (n + 1) wide D s :=
  { h with many := { h.many with own := h.many.own.mono (by omega), bound := fun k => by have := h.many.bound k; omega } }
theorem end_no {w : World} {b : Nat} (x : Int) (h : Nt.inB x = false) :
    Calls Tryd.prog 29 #[.pointer (some ⟨b, 0, none⟩), iv x] w fun e w' => e = .returned (ev 1) ∧ w = w' := by
  have H := Lib.hid h
  clear h
  go_enter Tryd.func29, Tryd.ntmps29
  go_wp2_with fail
  refine (has_any x _).mono ?_
  rintro e w' ⟨rfl, rfl⟩
  rw [H.out]
  go_wp2_with fail
  go_ret
  exact ⟨rfl, rfl⟩
theorem val_put {many c0 : Nat} (h : many = c0 + 1) : plainElem (H := Unit) Tryd.prog 3 (.int .i64 ((many : Int) - 1)) = some (.lit (kl (c0 : Int)), []) ∨ 9223372036854775807 < c0 := by
  by_cases hc : c0 ≤ 9223372036854775807
  · left
    have := plainElem_int (H := Unit) (P := Tryd.prog) (e := 3) Tryd.underlying3 (wf_nat (n := c0) hc)
    rw [show (many : Int) - 1 = (c0 : Int) by omega]
    exact this
  · right; omega
set_option maxRecDepth 100000 in
set_option maxHeartbeats 1000000 in
theorem end_yes {w : World} {B b mb n wide : Nat} {v : Value} {D : DataW Unit} {s : Nt.S} (h : IntAt w B b mb v n wide D s) {F : Nat → Prop} (hI : IntIn F b mb v) (hn : n < 1000000) (c : Nat) (hc : c < 40) :
    Calls Tryd.prog 29 #[.pointer (some ⟨b, 0, none⟩), iv c] w (FinPost F B b n wide (if s.many c = 0 then (6, s) else (0, Nt.fin s c)) w) := by
  have HIn := Lib.hid hI
  clear hI
  have hin : Nt.inB (c : Int) = true := Nt.in_iff.2 (by omega)
  have Hin := Lib.hid hin
  obtain ⟨c0, hrun, hat, hwc⟩ := h.many.own.lookup_int intKeyed Tryd.underlying99 Tryd.underlying3 (zeroInt w) (key_nat (n := c) (by omega))
  rw [h.many.val c hc] at hat
  obtain rfl : (s.many c : Int) = c0 := by injection hat with h1; exact kl_inj h1
  have hbd := h.many.bound c
  have cc1 := h.c1
  have H := Lib.hid h
  have hlt := h.lt
  have hB := h.hb
  have hBm := h.hm
  clear hin hat h hwc
  obtain ⟨m0, hm0⟩ : ∃ m0, m0 = s.many c := ⟨_, rfl⟩
  rw [← hm0] at hrun hbd ⊢
  have Hm0 := Lib.hid hm0
  clear hm0
  have hK0 : ∀ w1 : World, Kept (fun k => some k = some mb) w w1 → Kept F w w1 := fun w1 hg => hg.mono (fun k _ hk => by rw [Option.some.inj hk]; exact HIn.out.m)
  have HK0 := Lib.hid hK0
  clear hK0
  by_cases hz : m0 = 0
  · subst hz
    rw [if_pos rfl]
    go_enter Tryd.func29, Tryd.ntmps29
    go_wp2_with fail
    refine (has_any c _).mono ?_
    rintro e w' ⟨rfl, rfl⟩
    rw [Hin.out]
    go_wp2_with fail
    go_ret
    exact ⟨rfl, ⟨mb, v, D, H.out.more, HIn.out⟩, Kept.refl _ _⟩
  · obtain ⟨m1, rfl⟩ : ∃ m1, m0 = m1 + 1 := ⟨m0 - 1, by omega⟩
    rw [if_neg hz]
    have hval : plainElem (H := Unit) Tryd.prog 3 (.int .i64 (m1 : Int)) = some (.lit (kl (m1 : Int)), []) := plainElem_int Tryd.underlying3 (wf_nat (by omega))
    have Hval := Lib.hid hval
    have t1 : (((m1 + 1 : Nat) : Int) == 0) = false := beq_f (by omega)
    have hs1 : ((m1 + 1 : Nat) : Int) - 1 = (m1 : Int) := by omega
    clear hval hz
    go_enter Tryd.func29, Tryd.ntmps29
    go_wp2_with fail
    refine (has_any c _).mono ?_
    rintro e w' ⟨rfl, rfl⟩
    rw [Hin.out]
    go_wp2_with (at_mapUpdate; refine wpList_mapUpdate_own _ rfl _ _ _ 99 rfl 3 3 intKeyed Tryd.underlying99 _ mb n D rfl H.out.many.own (by unfold maxLen; omega) (iv c) (iv (m1 : Int)) (kl c) rfl rfl (key_nat (by omega)) (.lit (kl (m1 : Int))) [] Hval.out ?_)
    intro w1 hown1 hgrow1
    obtain ⟨c2, hrun2, hat2, hwc2⟩ := hown1.lookup_int intKeyed Tryd.underlying99 Tryd.underlying3 (zeroInt w1) (key_nat (n := c) (by omega))
    rw [atKey_put_same H.out.many.own.isMap (intKeyed.key (key_nat (n := c) (by omega)))] at hat2
    obtain rfl : (m1 : Int) = c2 := by injection hat2 with h1; exact kl_inj h1
    have d1 : w1.cell? ⟨b, 1, none⟩ = some (.map (some mb)) := (Kept.grown hgrow1).cell cc1 (fun e => H.out.bm (Option.some.inj e))
    have Hown1 := Lib.hid hown1
    have Hgrow1 := Lib.hid hgrow1
    clear hown1 hgrow1 hat2 hwc2 Hval hrun cc1
    by_cases hz1 : m1 = 0
    · subst hz1
      go_wp2_with (at_delete; refine wpList_delete_own _ rfl _ _ 99 3 rfl 3 intKeyed Tryd.underlying99 _ mb (n + 1) _ rfl Hown1.out (iv c) (kl c) rfl (key_nat (by omega)) ?_)
      intro w2 hown2 hturn2
      have hg2 := hturn2.grown
      go_wp2_with fail
      go_ret
      have hk : Kept (fun k => some k = some mb) w w2 := (Kept.grown Hgrow1.out).also (Kept.grown hg2)
      have e : Nt.fin s c = ⟨Nt.upd s.many c 0, s.dirty⟩ := by unfold Nt.fin; rw [← Hm0.out]
      rw [e]
      exact ⟨rfl, ⟨mb, v, _, H.out.mapped hk (put_del H.out.many (by omega) hc hown2), HIn.out⟩, HK0.out _ hk⟩
    · have t2 : ((m1 : Int) == 0) = false := beq_f (by omega)
      have Hz := Lib.hid hz1
      clear hz1
      go_wp2_with fail
      go_ret
      have e : Nt.fin s c = ⟨Nt.upd s.many c m1, s.dirty⟩ := by unfold Nt.fin; rw [← Hm0.out]; rfl
      rw [e]
      exact ⟨rfl, ⟨mb, v, _, H.out.mapped (Kept.grown Hgrow1.out) (H.out.many.put hc Hz.out (by omega) Hown1.out), HIn.out⟩, HK0.out _ (Kept.grown Hgrow1.out)⟩
theorem owns_mono {w : World} {base base' : Nat} {e : TypeId} {size : Nat} {v : Value} {n : Nat} {xs : List Value} (h : w.ownsRow base e size v n xs) (hb : base' ≤ base) : w.ownsRow base' e size v n xs := by
  refine ⟨h.1, ?_⟩
  rcases h.2 with h | ⟨g, cap, cur, rfl, hb', h3⟩
  · exact .inl h
  · exact .inr ⟨g, cap, cur, rfl, by omega, h3⟩
def DirtyPost (f : Nat → Bool) (w : World) (e : Ending) (w' : World) : Prop :=
  ∃ v, e = .returned v ∧ w'.ownsRow w.heap.size 3 1 v (Nt.L f).length ((Nt.L f).map iv) ∧ Below w.heap.size w w'
theorem dirty_any {w : World} {B b mb n wide : Nat} {v : Value} {D : DataW Unit} {s : Nt.S} (h : IntAt w B b mb v n wide D s) :
    Calls Tryd.prog 34 #[.pointer (some ⟨b, 0, none⟩)] w (DirtyPost s.dirty w) := by
  have HR := Lib.hid h.row.row
  have c2 := h.c2
  obtain ⟨pv, mv, cv, rfl⟩ := h.row.slice
  clear h
  go_enter Tryd.func34, Tryd.ntmps34
  go_wp2_with fail
  refine (clone_any ((Nt.L s.dirty).map iv) (by intro u hu; obtain ⟨x, _, rfl⟩ := List.mem_map.1 hu; rfl) (by rw [List.length_map]; have := Nt.L_len s.dirty; omega) _ _ HR.out).mono ?_
  rintro e w' ⟨v, rfl, hown, hb⟩
  rw [List.length_map] at hown
  have Hown := Lib.hid hown
  clear hown
  go_wp2_with fail
  go_ret
  exact ⟨_, rfl, Hown.out, hb⟩
def CrashPost (F : Nat → Prop) (B b wide : Nat) (s : Nt.S) (w : World) (e : Ending) (w' : World) : Prop :=
  ∃ v, e = .returned v ∧ w'.ownsRow w.heap.size 3 1 v (Nt.L s.dirty).length ((Nt.L s.dirty).map iv) ∧ IntOk F w' B b 0 wide (Nt.crash s) ∧ Kept F w w'
theorem crash_any {w : World} {B b mb n wide : Nat} {v : Value} {D : DataW Unit} {s : Nt.S} (h : IntAt w B b mb v n wide D s) {F : Nat → Prop} (hF : ∀ k, w.heap.size ≤ k → F k) (hI : IntIn F b mb v) (hB0 : B ≤ w.heap.size) :
    Calls Tryd.prog 32 #[.pointer (some ⟨b, 0, none⟩)] w (CrashPost F B b wide s w) := by
  have HF := Lib.hid hF
  have HIn := Lib.hid hI
  clear hF hI
  have hmm := @run_makeMap Tryd.prog
  have c1 := h.c1
  have hf := h.f
  have hlt := h.lt
  have H := Lib.hid h
  obtain ⟨w1, hw1⟩ : ∃ w1, w1 = w.setCell ⟨b, 1, none⟩ (.map (some w.heap.size)) := ⟨_, rfl⟩
  have hz1 : w1.heap.size = w.heap.size := by rw [hw1]; simp [World.setCell]
  have hk : Kept (· = b) w (w1.alloc (.map #[] 0)) := by rw [hw1]; exact ((Kept.self b w).set1 _ _).alloc _
  have HK := Lib.hid hk
  have hvl : ∀ g, v.ownBlock = some g → g < w.heap.size := fun g hg => (h.row.lt hg).2
  have hA : IntAt (w1.alloc (.map #[] 0)) B b w.heap.size v 0 wide (.map []) (Nt.crash s) := by
    refine ⟨h.hb, hB0, by omega, h.w1, h.w40, ?_, ?_, h.row.kept hk (fun g hg e => h.vb (by rw [hg, e])), h.vb, fun e => by have := hvl _ e; omega⟩
    · rw [((Below.refl w1.heap.size w1).alloc (Nat.le_refl _) _).block b (by omega), hw1, heap_setCell_same _ _ _ _ _ _ h.blk]; rfl
    · have := ManyAt.made w1
      rw [hz1] at this
      exact this
  have HA := Lib.hid hA
  have HW1 := Lib.hid hw1
  clear h hk hA hvl hw1
  go_enter Tryd.func32, Tryd.ntmps32
  go_wp2_with fail
  rw [← HW1.out]
  refine (dirty_any (s := Nt.crash s) HA.out).mono ?_
  rintro e w' ⟨v', rfl, hown, hb⟩
  have Hown := Lib.hid hown
  have hsz := hb.size
  clear hown
  go_wp2_with fail
  go_ret
  have hz : w.heap.size ≤ (w1.alloc (.map #[] 0)).heap.size := HK.out.size
  refine ⟨_, rfl, owns_mono Hown.out hz, ⟨_, _, _, HA.out.below hb, HIn.out.b, HF.out _ (Nat.le_refl _), HIn.out.v⟩, (HK.out.mono (fun k _ e => by rw [e]; exact HIn.out.b)).also (Kept.new F hb)⟩
end Go.Proofs.YtangcjffiooapaaDoor
