/- The walks of Grow's Step, Read, Write, Done. -/
import Derived.Test.YtcldioneiededaaDoorGroY
namespace Go.Proofs.YtcldioneiededaaDoor
open Go.ChangeShapes Go.WideShapes Go.ChangeAt Go.RowKit
set_option linter.unusedVariables false
theorem build_bound (n done : Nat) (now : List ByteArray) (k x : Nat) : (Gr.build (Gr.spot n done) now k x).length ≤ k := by
  rw [Gr.build_len]; exact last_bound _ (Gr.spot_row n done) x k
def GStepPost (F : Nat → Prop) (b n done : Nat) (now : List ByteArray) (w : World) (e : Ending) (w' : World) : Prop :=
  e = .returned (.tuple #[.bool (decide (done + 1 < now.length)), .nilIface]) ∧ GroOk F w' b n (done + 1) now ∧ Kept F w w'
set_option maxRecDepth 100000 in
theorem gstep_no {w : World} {b n done : Nat} {now : List ByteArray} {F : Nat → Prop} (h : GroOk F w b n done now) (hd : done = now.length) (h9 : now.length ≤ 100) :
    Calls Tryd.prog 41 #[.pointer (some ⟨b, 0, none⟩)] w fun e w' => e = .returned (.tuple #[.bool false, ev 6]) ∧ Below w.heap.size w w' := by
  obtain ⟨g, c, vs, hA, hI⟩ := h
  have c2 := hA.c2
  have c3 := hA.c3
  subst hd
  generalize now.length = m at *
  clear hA hI
  have t1 : ((m : Int) == (m : Int)) = true := beq_t rfl
  go_enter Tryd.func41, Tryd.ntmps41
  go_wp2_with fail
  go_quiet (fail)
  go_wp2_with fail
  go_ret2
  exact ⟨rfl, bdrew (Below.refl _ _) _⟩
set_option maxRecDepth 100000 in
set_option maxHeartbeats 2000000 in
theorem gstep_any {w : World} {b n done : Nat} {now : List ByteArray} {F : Nat → Prop} (h : GroOk F w b n done now) (hF : ∀ k, w.heap.size ≤ k → F k) (hd : done < now.length) (h9 : now.length ≤ 100) (h0 : 0 < n) (hn : n ≤ 100) :
    Calls Tryd.prog 41 #[.pointer (some ⟨b, 0, none⟩)] w (GStepPost F b n done now w) := by
  obtain ⟨g, c, vs, hA, hI⟩ := h
  have c2 := hA.c2
  have c3 := hA.c3
  have HA := Lib.hid hA
  have HI := Lib.hid hI
  have HF := Lib.hid hF
  have Hd := Lib.hid hd
  obtain ⟨m, hm⟩ : ∃ m, m = now.length := ⟨_, rfl⟩
  rw [← hm] at c2 HA hd h9
  have Hm := Lib.hid hm
  have t1 : ((done : Int) == (m : Int)) = false := beq_f (by omega)
  clear hA hI hF hm
  go_enter Tryd.func41, Tryd.ntmps41
  go_wp2_with fail
  go_quiet (fail)
  obtain ⟨wA, hwA⟩ : ∃ wA, wA = w.drewN nq := ⟨_, rfl⟩
  rw [← hwA]
  have hbA : Below w.heap.size w wA := by rw [hwA]; exact bdrew (Below.refl _ _) nq
  have HA1 := Lib.hid (HA.out.below hbA)
  have HK1 := Lib.hid (Kept.new F hbA)
  have HK1z := hbA.size
  have HAt := Lib.hid (gat_any HA1.out h0 (by omega) (by omega) done (by omega))
  have e3 := HA1.out.c3
  obtain ⟨sd, hsd⟩ : ∃ x, x = (Gr.spot n done done).1 := ⟨_, rfl⟩
  obtain ⟨sr, hsr⟩ : ∃ x, x = (Gr.spot n done done).2 := ⟨_, rfl⟩
  have hsd9 : sd ≤ n := by rw [hsd]; exact Gr.spot_disk h0 done done
  have hsr9 : sr ≤ done := by rw [hsr]; exact Gr.spot_row n done done
  have hsp : Gr.spot n done done = (sd, sr) := by rw [hsd, hsr]
  rw [hsp] at HAt
  have Hsp := Lib.hid hsp
  clear hsd hsr hsp hwA hbA HA c2 c3
  go_wp2_with fail
  refine HAt.out.mono ?_
  rintro e w1 ⟨rfl, hb1⟩
  clear HAt
  have hb2 : Below w1.heap.size w1 (w1.alloc (.cells #[iv sd, iv sr] 29)) := (Below.refl _ _).alloc (Nat.le_refl _) _
  have hb3 := hb1.trans (hb2.mono hb1.size)
  have HA3 := Lib.hid (HA1.out.below hb3)
  have HK3 := Lib.hid (HK1.out.also (Kept.new F hb3))
  have hz1 := hb1.size
  have hsl : sr < (Gr.build (Gr.spot n done) now m sd).length := by
    rw [Gr.build_len]
    have := Gr.le_last (Gr.spot n done) sd done m hd (by rw [Hsp.out])
    rw [Hsp.out] at this; exact this
  have hget : (Gr.build (Gr.spot n done) now m sd).getD sr Gr.e0 = now.getD done Gr.e0 := by
    have := Gr.build_hit (Gr.spot_inj (done := done) h0) now done m hd
    rw [Hsp.out] at this; exact this
  have s0 : (w1.alloc (.cells #[iv sd, iv sr] 29)).cell? ⟨w1.heap.size, 0, none⟩ = some (iv sd) := by rw [cell_of_row _ _ _ _ _ _ (heap_alloc_new _ _)]; rfl
  have s1 : (w1.alloc (.cells #[iv sd, iv sr] 29)).cell? ⟨w1.heap.size, 1, none⟩ = some (iv sr) := by rw [cell_of_row _ _ _ _ _ _ (heap_alloc_new _ _)]; rfl
  have hS1 : w1.heap.size < (w1.alloc (.cells #[iv sd, iv sr] 29)).heap.size := by simp
  have hbl := HA1.out.lt
  have hgl := (HA1.out.ds.outer (by omega)).1
  have hvl : ∀ i, i < n + 1 → (vs i).ownBlock ≠ some w1.heap.size := fun i hi e => by have := HA1.out.ds.lt hi e; omega
  have HvS := Lib.hid hvl
  clear hb1 hb2 hb3 HA1 HK1 e3 hvl
  go_wp2_with fail
  obtain ⟨S, hS⟩ : ∃ S, S = w1.heap.size := ⟨_, rfl⟩
  obtain ⟨wB, hwB⟩ : ∃ wB, wB = w1.alloc (.cells #[iv sd, iv sr] 29) := ⟨_, rfl⟩
  rw [← hwB] at HA3 HK3 s0 s1 hS1 ⊢
  rw [← hS] at s0 s1 hS1 HvS ⊢
  clear hwB
  have hSw : w.heap.size ≤ S := by rw [hS]; exact Nat.le_trans HK1z hz1
  have hSb : b ≠ S ∧ g ≠ S := by omega
  clear hS
  have HG := Lib.hid (gget_any HA3.out sd sr hsd9 hsl)
  rw [hget] at HG
  obtain ⟨bs, hbs⟩ : ∃ bs, bs = now.getD done Gr.e0 := ⟨_, rfl⟩
  rw [← hbs] at HG
  have Hbs := Lib.hid hbs
  clear hget hbs
  refine HG.out.mono ?_
  rintro e w2 ⟨rfl, hb2⟩
  have HA4 := Lib.hid (HA3.out.below hb2)
  have HK4 := Lib.hid (HK3.out.also (Kept.new F hb2))
  have k0 := (hb2.cell (p := ⟨S, 0, none⟩) hS1).trans s0
  have k1 := (hb2.cell (p := ⟨S, 1, none⟩) hS1).trans s1
  clear hb2 HG HA3 HK3 s0 s1
  have HP := Lib.hid (gput_any HA4.out (F := F) (fun k hk => HF.out k (Nat.le_trans HK4.out.size hk)) HI.out sd sr hsd9 (by omega) (by have := build_bound n done now m sd; omega) ⟨#[]⟩)
  go_wp2_with fail
  refine HP.out.mono ?_
  rintro e w3 ⟨rfl, vs3, hA5, hI5, hK5⟩
  have HA5 := Lib.hid hA5
  have HI5 := Lib.hid hI5
  have HK5 := Lib.hid (HK4.out.also hK5)
  have e3 := hA5.c3
  have f3 := hA5.f 3
  clear hA5 hI5 hK5 HP HA4 HK4 k0 k1 HI HvS
  have HA6 : Hid (GroAt (w3.setCell ⟨b, 3, none⟩ (iv ((done : Int) + 1))) b g c n m (done + 1) vs3 _) := Lib.hid (HA5.out.setDone (done + 1))
  have HK6 := Lib.hid (HK5.out.setCell (p := ⟨b, 3, none⟩) (fun _ => HI5.out.1) (iv ((done : Int) + 1)))
  have HAt := Lib.hid (gat_any HA6.out h0 (by omega) (by omega) done (by omega))
  obtain ⟨td, htd⟩ : ∃ x, x = (Gr.spot n (done + 1) done).1 := ⟨_, rfl⟩
  obtain ⟨tr, htr⟩ : ∃ x, x = (Gr.spot n (done + 1) done).2 := ⟨_, rfl⟩
  have htd9 : td ≤ n := by rw [htd]; exact Gr.spot_disk h0 _ done
  have htr9 : tr ≤ done := by rw [htr]; exact Gr.spot_row n _ done
  have htp : Gr.spot n (done + 1) done = (td, tr) := by rw [htd, htr]
  rw [htp] at HAt
  have Htp := Lib.hid htp
  clear htd htr htp HA5 HK5
  go_wp2_with fail
  refine HAt.out.mono ?_
  rintro e w4 ⟨rfl, hb4⟩
  have HA7 := Lib.hid (HA6.out.below hb4)
  have HK7 := Lib.hid (HK6.out.also (Kept.new F hb4))
  have hb9 : ∀ x, (Gr.put (Gr.build (Gr.spot n done) now m) (sd, sr) ⟨#[]⟩ x).length ≤ 200 := fun x => by
    rw [Gr.put_len]
    have := build_bound n done now m x
    simp only
    split <;> omega
  have Hb9 := Lib.hid hb9
  have HP := Lib.hid (gput_any HA7.out (F := F) (fun k hk => HF.out k (Nat.le_trans HK7.out.size hk)) HI5.out td tr htd9 (by omega) (by have := hb9 td; omega) bs)
  clear hb4 HAt HA6 HK6 e3 f3 hb9
  go_wp2_with fail
  refine HP.out.mono ?_
  rintro e w5 ⟨rfl, vs5, hA8, hI8, hK8⟩
  have hmv : Gr.put (Gr.put (Gr.build (Gr.spot n done) now m) (sd, sr) ⟨#[]⟩) (td, tr) bs = Gr.moved n done now := by
    unfold Gr.moved
    rw [← Hm.out, Hsp.out, Htp.out, Hbs.out]; rfl
  rw [hmv] at hA8
  have HA8 := Lib.hid hA8
  have HI8 := Lib.hid hI8
  have HK8 := Lib.hid (HK7.out.also hK8)
  have hml : ∀ x, (Gr.moved n done now x).length ≤ 300 := fun x => by
    rw [← hmv, Gr.put_len]
    have := Hb9.out x
    simp only
    split <;> omega
  have HC := Lib.hid (gcut_any hA8 (F := F) (fun k hk => HF.out k (Nat.le_trans HK8.out.size hk)) hI8 h0 hn (by omega) (by omega) (fun x _ => by
    have := Gr.moved_len (n := n) Hd.out x
    rw [← Hm.out] at this; exact this) (fun x _ => by have := hml x; omega))
  have hst : (fun x => (Gr.moved n done now x).take (Gr.last (Gr.spot n (done + 1)) x m)) = Gr.build (Gr.spot n (done + 1)) now m := by
    funext x
    have := Gr.step h0 Hd.out x
    rw [← Hm.out] at this; exact this
  rw [hst] at HC
  clear hA8 hI8 hK8 HP HA7 HK7 HI5 hmv hml hst Hb9 HA8
  go_wp2_with fail
  refine HC.out.mono ?_
  rintro e w6 ⟨rfl, vs6, hA9, hI9, hK9⟩
  have HA9 := Lib.hid hA9
  have HI9 := Lib.hid hI9
  have HK9 := Lib.hid (HK8.out.also hK9)
  have e2 := hA9.c2
  have e3 := hA9.c3
  have e3' : w6.cell? ⟨b, 3, none⟩ = some (iv ((done : Int) + 1)) := e3
  have hdec : decide ((done : Int) + 1 < (m : Int)) = decide (done + 1 < now.length) := by rw [← Hm.out]; simp only [decide_eq_decide]; omega
  have Hdec := Lib.hid hdec
  clear hA9 hI9 hK9 HC HK8 HI8 e3 hdec
  go_wp2_with fail
  go_quiet (fail)
  go_wp2_with fail
  go_ret2
  refine ⟨by rw [← Hdec.out]; rfl, ⟨g, c, vs6, ?_, HI9.out⟩, HK9.out.drewN _⟩
  rw [← Hm.out]
  exact HA9.out.below (bdrew (Below.refl _ _) _)
end Go.Proofs.YtcldioneiededaaDoor
