/- The walks of package intent: Begin. -/
import Derived.Test.YtangcjffiooapaaDoorIntW
import Derived.Deep.RegionLaw
namespace Go.Proofs.YtangcjffiooapaaDoor
open Go.ChangeShapes Go.WideShapes Go.ChangeAt Go.RowKit Go.Maps
set_option linter.unusedVariables false
def BegPost (F : Nat → Prop) (B b n wide : Nat) (s : Nt.S) (c : Nat) (w : World) (e : Ending) (w' : World) : Prop :=
  e = .returned (.tuple #[.bool (!s.dirty (c / wide)), .nilIface]) ∧ IntOk F w' B b (n + 1) wide (Nt.beg s wide c) ∧ Kept F w w'
theorem begin_no {w : World} {b : Nat} (x : Int) (h : Nt.inB x = false) :
    Calls Tryd.prog 28 #[.pointer (some ⟨b, 0, none⟩), iv x] w fun e w' => e = .returned (.tuple #[.bool false, ev 1]) ∧ w = w' := by
  have H := Lib.hid h
  clear h
  go_enter Tryd.func28, Tryd.ntmps28
  go_wp2_with fail
  refine (has_any x _).mono ?_
  rintro e w' ⟨rfl, rfl⟩
  rw [H.out]
  go_wp2_with fail
  go_ret2
  exact ⟨rfl, rfl⟩
theorem search_at {w : World} {v : Value} (xs : List Int) (h : Row w v (xs.map iv)) (hs : xs.Pairwise (· ≤ ·)) (hn : xs.length ≤ 1000000) (x : Int) (c : Nat) (r : Bool) (hc : xs.countP (· < x) = c) (hr : xs.contains x = r) :
    Calls Tryd.prog 64 #[v, iv x] w fun e w' => e = .returned (.tuple #[iv c, .bool r]) ∧ ∃ m, w.drewN m = w' :=
  (search_any xs h hs hn x).mono fun e w' ⟨he, q, hq⟩ => ⟨by rw [← hc, ← hr]; exact he, q, hq⟩
set_option maxRecDepth 100000 in
set_option maxHeartbeats 1000000 in
theorem begin_yes {w : World} {B b mb n wide : Nat} {v : Value} {D : DataW Unit} {s : Nt.S} (h : IntAt w B b mb v n wide D s) {F : Nat → Prop} (hF : ∀ k, w.heap.size ≤ k → F k) (hI : IntIn F b mb v) (hB0 : B ≤ w.heap.size) (hn : n < 1000000) (c : Nat) (hc : c < 40) :
    Calls Tryd.prog 28 #[.pointer (some ⟨b, 0, none⟩), iv c] w (BegPost F B b n wide s c w) := by
  have HF := Lib.hid hF
  have HIn := Lib.hid hI
  clear hF hI
  have hin : Nt.inB (c : Int) = true := Nt.in_iff.2 (by omega)
  have Hin := Lib.hid hin
  obtain ⟨c0, hrun, hat, hwc⟩ := h.many.own.lookup_int intKeyed Tryd.underlying99 Tryd.underlying3 (zeroInt w) (key_nat (n := c) (by omega))
  rw [h.many.val c hc] at hat
  obtain rfl : (s.many c : Int) = c0 := by injection hat with h1; exact kl_inj h1
  have hbd := h.many.bound c
  have cc1 := h.c1
  have H := Lib.hid h
  have hr40 : c / wide < 40 := Nat.lt_of_le_of_lt (Nat.div_le_self _ _) hc
  have hlt := h.lt
  have hB := h.hb
  have hBm := h.hm
  have hval : plainElem (H := Unit) Tryd.prog 3 (.int .i64 ((s.many c : Int) + 1)) = some (.lit (kl ((s.many c + 1 : Nat) : Int)), []) := by
    have := plainElem_int (H := Unit) (P := Tryd.prog) (e := 3) Tryd.underlying3 (wf_nat (n := s.many c + 1) (by omega))
    rw [Int.natCast_add] at this ⊢
    exact this
  have Hval := Lib.hid hval
  clear hin hat h hval
  go_enter Tryd.func28, Tryd.ntmps28
  go_wp2_with fail
  refine (has_any c _).mono ?_
  rintro e w' ⟨rfl, rfl⟩
  rw [Hin.out]
  go_wp2_with (at_mapUpdate; refine wpList_mapUpdate_own _ rfl _ _ _ 99 rfl 3 3 intKeyed Tryd.underlying99 _ mb n D rfl H.out.many.own (by unfold maxLen; omega) (iv c) (iv ((s.many c : Int) + 1)) (kl c) rfl rfl (key_nat (by omega)) (.lit (kl ((s.many c + 1 : Nat) : Int))) [] Hval.out ?_)
  intro w1 hown1 hgrow1
  have hI1 : IntAt w1 B b mb v (n + 1) wide _ ⟨Nt.upd s.many c (s.many c + 1), s.dirty⟩ :=
    { H.out with blk := by rw [hgrow1.block b H.out.lt (by have := H.out.bm; intro e; injection e; omega)]; exact H.out.blk, many := H.out.many.put hc (by omega) (by omega) hown1, row := H.out.row.kept (Kept.grown hgrow1) (fun g hg e => H.out.vm (by rw [hg, e])) }
  have H1 := Lib.hid hI1
  have HK1 := Lib.hid (Kept.grown hgrow1)
  have d0 := hI1.c0
  have d2 := hI1.c2
  have hw1 := hI1.w1
  have hw40 := hI1.w40
  clear hown1 hgrow1 hI1 hrun cc1 Hval
  have Hrow := Lib.hid H1.out.row.row
  obtain ⟨r, hr⟩ : ∃ r, r = c / wide := ⟨_, rfl⟩
  obtain ⟨i, hi⟩ : ∃ i, i = (Nt.lo s.dirty r).length := ⟨_, rfl⟩
  obtain ⟨f0, hf0⟩ : ∃ f0, f0 = s.dirty r := ⟨_, rfl⟩
  rw [← hr] at hr40
  have hs1 := Nt.count_lo s.dirty hr40
  have hs2 := Nt.L_mem (f := s.dirty) hr40
  rw [← hi] at hs1
  rw [← hf0] at hs2
  have Hs := Lib.hid (search_at (w := w1.drew) (Nt.L s.dirty) (Hrow.out.below ((Below.refl _ _).drew)) (Nt.L_sorted _) (by have := Nt.L_len s.dirty; omega) (r : Int) i f0 hs1 hs2)
  have Hr := Lib.hid hr
  have Hi := Lib.hid hi
  have Hf := Lib.hid hf0
  clear hs1 hs2 hr hi hf0
  have hw0 : ¬ wide = 0 := by omega
  have hqo := wrap_quo c wide r (by omega) Hr.out
  have hqp := wrap_quo' c wide r (by omega) Hr.out
  have Hn := Lib.hid hn
  have hBw : B ≤ w.heap.size := hB0
  clear hwc hbd hr40 hlt hB hBm hn
  go_wp2_with fail
  go_region_held3 (fun w' => w'.cell? ⟨b, 0, none⟩ = some (iv wide) ∧ w'.cell? ⟨b, 2, none⟩ = some v)
    (first
      | exact ⟨d0, d2⟩
      | go_keep)
    (first
      | (go_at_call 64; (with_reducible refine Hs.out.mono ?_); rintro e w' ⟨rfl, nq, rfl⟩))
  have H2 := Lib.hid (H1.out.drewN (1 + nq))
  have HK2 := Lib.hid (HK1.out.drewN (1 + nq))
  clear H1 HK1 d0 d2
  have hlt := H2.out.lt
  have hB := H2.out.hb
  have hBm := H2.out.hm
  cases f0 with
  | true =>
    go_wp2_with fail
    go_ret2
    refine ⟨by rw [← Hr.out, ← Hf.out]; rfl, ⟨mb, v, D.put (kl c) (.lit (kl ((s.many c + 1 : Nat) : Int))), ?_, HIn.out⟩, HK2.out.mono (fun k _ hk => by rw [Option.some.inj hk]; exact HIn.out.m)⟩
    have e : Nt.beg s wide c = ⟨Nt.upd s.many c (s.many c + 1), s.dirty⟩ := by
      unfold Nt.beg; rw [← Hr.out, Hf.out, Nt.upd_self]
    rw [e]
    exact H2.out
  | false =>
    have d0 := H2.out.c0
    have d2 := H2.out.c2
    have df := H2.out.f
    obtain ⟨w2, hw2⟩ : ∃ x, x = w1.drewN (1 + nq) := ⟨_, rfl⟩
    rw [← hw2] at H2 HK2 d0 d2 df ⊢
    clear hw2 hlt
    have hlt := H2.out.lt
    go_upto_region 6 with (fail)
    go_cut [] (fun wq => ∃ v', IntAt wq B b mb v' (n + 1) wide (D.put (kl c) (.lit (kl ((s.many c + 1 : Nat) : Int)))) (Nt.beg s wide c) ∧ IntIn F b mb v' ∧ Kept F w wq)
    case first =>
      obtain ⟨wc, hwc⟩ : ∃ x, x = (w2.alloc (.cells #[.int .i64 (r : Int)] 3)).drew := ⟨_, rfl⟩
      have H3 : Hid (IntAt wc B b mb v (n + 1) wide (D.put (kl c) (.lit (kl ((s.many c + 1 : Nat) : Int)))) ⟨Nt.upd s.many c (s.many c + 1), s.dirty⟩) := Lib.hid (by rw [hwc]; exact H2.out.below (((Below.refl _ _).alloc (Nat.le_refl _) _).drew))
      have hvb : wc.heap[w2.heap.size]? = some (.cells #[iv r] 3 (0, 0)) := by rw [hwc]; exact heap_alloc_new _ _
      have hne : v.ownBlock ≠ some w2.heap.size := by intro e; have := (H2.out.row.lt e).2; omega
      have hsz : w2.heap.size + 1 = wc.heap.size := by rw [hwc]; simp
      have hlen : ((Nt.L s.dirty).map iv).length ≤ 40 := by rw [List.length_map]; exact Nt.L_len _
      have hil : i ≤ ((Nt.L s.dirty).map iv).length := by rw [List.length_map, Hi.out]; exact Nt.lo_le _ (by rw [Hr.out]; exact Nat.lt_of_le_of_lt (Nat.div_le_self _ _) hc)
      have HC := Lib.hid (insert_any ((Nt.L s.dirty).map iv) H3.out.row (by omega) (by omega) (by intro u hu; obtain ⟨x, _, rfl⟩ := List.mem_map.1 hu; rfl) (iv r) rfl i hil w2.heap.size hvb hne)
      have HW : Hid (Below w2.heap.size w2 wc) := Lib.hid (by rw [hwc]; exact ((Below.refl _ _).alloc (Nat.le_refl _) _).drew)
      have HWC := Lib.hid hwc
      have hzl : b < wc.heap.size := by omega
      have hB2 : B ≤ w2.heap.size := by omega
      rw [hwc] at HC
      clear hvb hne hlen hil hwc
      go_region_with (go_at_call 65; (with_reducible refine HC.out.mono ?_); rintro e w3 ⟨v', rfl, hown, hturn⟩; obtain ⟨pv, mv, cv, rfl⟩ := hown.slice; rw [← HWC.out] at hturn; have HO := Lib.hid hown; have HT := Lib.hid hturn; have hbk := H3.out.other hturn; have e2 : w3.cell? ⟨b, 2, none⟩ = some v := by {rw [cell_of_row _ _ _ _ _ _ hbk]; rfl}; have ef : ∀ j, w3.frozen? ⟨b, j, none⟩ = false := fun j => frozen_of_row _ _ _ _ _ hbk; clear hown hturn hbk)
      all_goals
       go_wp2_with fail
       go_meet
       have e : Nt.beg s wide c = ⟨Nt.upd s.many c (s.many c + 1), Nt.upd s.dirty r true⟩ := by
         unfold Nt.beg; rw [← Hr.out]
       rw [e]
       have hk1 : Kept F w wc := (HK2.out.mono (fun k _ hk => by rw [Option.some.inj hk]; exact HIn.out.m)).also (Kept.new F HW.out)
       have hF2 : ∀ k, wc.heap.size ≤ k → F k := fun k hk => HF.out k (Nat.le_trans hk1.size hk)
       refine ⟨_, H3.out.turn HT.out HO.out ?_, HIn.out.turn HT.out hF2, ?_⟩
       · rw [Nt.L_ins (by rw [Hr.out]; exact Nat.lt_of_le_of_lt (Nat.div_le_self _ _) hc) Hf.out.symm, ← Hi.out, List.map_append, List.map_cons, List.map_take, List.map_drop]
       · exact (hk1.also (HT.out.1.mono (fun k _ hk => HIn.out.v k hk.symm))).setCell (p := ⟨b, 2, none⟩) (fun _ => HIn.out.b) _
    case rest =>
      obtain ⟨v', hA, hI', hB'⟩ := hcut
      go_wp2_with fail
      go_ret2
      exact ⟨by rw [← Hr.out, ← Hf.out]; rfl, ⟨mb, v', _, hA, hI'⟩, hB'⟩
end Go.Proofs.YtangcjffiooapaaDoor
