/- A redo log: the walk of Put. -/
import Derived.Test.YtangcjffiooapaaDoorRedY
namespace Go.Proofs.YtangcjffiooapaaDoor
open Go.ChangeShapes Go.WideShapes Go.ChangeAt Go.RowKit
set_option linter.unusedVariables false
theorem badB_f {n : Nat} {x : Rd.W} (h : Rd.badB n x = false) : 0 ≤ x.pos ∧ x.pos < n ∧ x.b.size ≤ 16 := by
  unfold Rd.badB at h
  simp at h
  omega
def PutRel (ls : List Rd.W) (nc : Nat) (w : World) (n gk : Nat) (i : Value) (wr : World) : Prop :=
  ∃ k : Nat, k + gk = n ∧ i = iv k ∧ Below w.heap.size w wr ∧ ∀ j x, j < k → ls[j]? = some x → Rd.badB nc x = false
set_option maxRecDepth 100000 in
set_option maxHeartbeats 2000000 in
theorem put_any {F : Nat → Prop} {w : World} {b : Nat} {s : Rd.R} (h : RedOk F w b s) (hF : ∀ k, w.heap.size ≤ k → F k) (h1 : -1 ≤ s.left) (h2 : s.left ≤ 9223372036854775807) (hb : s.bytes.length ≤ 1000000) (hc40 : s.cells.length ≤ 40)
    (ls : List Rd.W) (v : Value) (hv : RowWr w v ls) :
    Calls Tryd.prog 36 #[.pointer (some ⟨b, 0, none⟩), v] w (RedPost F b (Rd.put s ls) w) := by
  obtain ⟨vf, vc, h, hI⟩ := h
  have H := Lib.hid h
  have HI := Lib.hid hI
  have HF := Lib.hid hF
  have c5 := h.c5
  have Hv := Lib.hid hv
  obtain ⟨p, cap, rfl, hl, hc⟩ := hv
  have Hc := Lib.hid hc
  obtain ⟨n, hn⟩ : ∃ n, n = ls.length := ⟨_, rfl⟩
  have Hn := Lib.hid hn
  cases hs : s.stopped with
  | true =>
    have hr : Rd.put s ls = (6, s) := by unfold Rd.put; rw [hs, if_pos rfl]
    rw [hr]
    rw [hs] at c5
    rw [← hn]
    clear h hI hF hr hs hc hn hl
    go_enter Tryd.func36, Tryd.ntmps36
    go_wp2_with fail
    go_ret
    exact ⟨rfl, ⟨vf, vc, H.out, HI.out⟩, Kept.refl _ _⟩
  | false =>
    rw [hs] at c5
    by_cases h40 : 40 < n
    · have hr : Rd.put s ls = (4, s) := by unfold Rd.put; rw [hs, if_neg (by simp), ← hn, if_pos h40]
      rw [hr]
      rw [← hn]
      have h40I : (40 : Int) < (n : Int) := by omega
      rw [← hn] at hl
      clear h hI hF hr hs hc hn
      go_enter Tryd.func36, Tryd.ntmps36
      go_wp2_with fail
      go_ret
      exact ⟨rfl, ⟨vf, vc, H.out, HI.out⟩, Kept.refl _ _⟩
    · have hr : Rd.put s ls = if ls.any (Rd.badB s.cells.length) then (1, s) else if s.left == 0 then (6, { Rd.step s with bytes := s.bytes ++ (Rd.rcd ls).take ((Rd.rcd ls).length / 2) }) else (0, { Rd.step s with bytes := s.bytes ++ Rd.rcd ls, cells := Rd.done s.cells ls }) := by
        unfold Rd.put; rw [hs, if_neg (by simp), ← hn, if_neg h40]
      have Hr := Lib.hid hr
      rw [← hn]
      have h40I : (n : Int) ≤ 40 := by omega
      rw [← hn] at hl
      obtain ⟨pc, cc, hvc, hnc, hmc⟩ := h.cells.shape
      rw [List.length_map] at hvc hnc
      obtain ⟨nc, hnce⟩ : ∃ nc, nc = s.cells.length := ⟨_, rfl⟩
      have Hnc := Lib.hid hnce
      have c1 := h.c1
      rw [hvc, ← hnce] at c1
      unfold maxLen at hmc
      rw [← hnce] at hnc hc40
      have hbl := h.lt
      clear h hI hF hr hs hc hn hvc hnce
      go_enter Tryd.func36, Tryd.ntmps36
      go_wp2_with fail
      go_loopg [21] n (fun gk i wr => PutRel ls nc w n gk i wr)
      case atStart => exact ⟨0, by omega, rfl, Below.refl _ _, fun j x hj => by omega⟩
      case round =>
        obtain ⟨k, hk, rfl, hB, hno⟩ := hrel
        have Hk := Lib.hid hk
        have HB := Lib.hid hB
        have Hno := Lib.hid hno
        have hzr := hB.size
        by_cases hlt : k < n
        · obtain ⟨x, hx⟩ : ∃ x, ls[k]? = some x := ⟨ls[k]'(by rw [← Hn.out]; exact hlt), List.getElem?_eq_getElem _⟩
          obtain ⟨g, off, hp, hg, d0, d1⟩ := Hc.out k x hx
          subst hp
          have e0 := (hB.cell (p := ⟨g, off + k * 2, none⟩) hg).trans d0
          have e1 := (hB.cell (p := ⟨g, off + k * 2 + 1, none⟩) hg).trans d1
          have k1 := (hB.cell (p := ⟨b, 1, none⟩) hbl).trans c1
          have hbne : b ≠ wr.heap.size := by omega
          have Hx := Lib.hid hx
          have HBn := Lib.hid (hB.alloc hzr (.cells #[iv x.pos, .string x.b] 69))
          by_cases hbad : Rd.badB nc x = true
          · have hany : ls.any (Rd.badB s.cells.length) = true := by rw [← Hnc.out, List.any_eq_true]; exact ⟨x, List.mem_of_getElem? hx, hbad⟩
            have Hr1 : Hid (Rd.put s ls = (1, s)) := Lib.hid (by rw [Hr.out, if_pos hany])
            unfold Rd.badB at hbad
            clear hk hB hno hx d0 d1 hany c1
            by_cases q1 : x.pos < 0
            · have t1 : decide (x.pos < 0) = true := dec_t q1
              clear hbad
              go_upto_region 8 with (fail)
              obtain ⟨wq, hwq⟩ : ∃ wq, wq = wr.alloc (.cells #[iv x.pos, .string x.b] 69) := ⟨_, rfl⟩
              rw [← hwq] at HBn
              have k1q : wq.cell? ⟨b, 1, none⟩ = some (.slice pc nc cc) := by
                rw [hwq]; exact (((Below.refl wr.heap.size wr).alloc (Nat.le_refl _) _).cell (p := ⟨b, 1, none⟩) (World.block_lt_of_cell? wr _ k1)).trans k1
              have p0 : wq.cell? ⟨wr.heap.size, 0, none⟩ = some (iv x.pos) := by rw [hwq]; simp
              have p1 : wq.cell? ⟨wr.heap.size, 1, none⟩ = some (.string x.b) := by rw [hwq]; simp
              rw [← hwq]
              clear hwq k1 e0 e1
              go_quiet (fail)
              go_wp2_with fail
              go_ret
              rw [Hr1.out]
              exact ⟨rfl, ⟨vf, vc, H.out.below (bdrew HBn.out _), HI.out⟩, Kept.new F (bdrew HBn.out _)⟩
            · have t1 : decide (x.pos < 0) = false := dec_f q1
              by_cases q2 : (nc : Int) ≤ x.pos
              · have t2 : decide ((nc : Int) ≤ x.pos) = true := dec_t q2
                clear hbad
                go_upto_region 8 with (fail)
                obtain ⟨wq, hwq⟩ : ∃ wq, wq = wr.alloc (.cells #[iv x.pos, .string x.b] 69) := ⟨_, rfl⟩
                rw [← hwq] at HBn
                have k1q : wq.cell? ⟨b, 1, none⟩ = some (.slice pc nc cc) := by
                  rw [hwq]; exact (((Below.refl wr.heap.size wr).alloc (Nat.le_refl _) _).cell (p := ⟨b, 1, none⟩) (World.block_lt_of_cell? wr _ k1)).trans k1
                have p0 : wq.cell? ⟨wr.heap.size, 0, none⟩ = some (iv x.pos) := by rw [hwq]; simp
                have p1 : wq.cell? ⟨wr.heap.size, 1, none⟩ = some (.string x.b) := by rw [hwq]; simp
                rw [← hwq]
                clear hwq k1 e0 e1
                go_quiet (fail)
                go_wp2_with fail
                go_ret
                rw [Hr1.out]
                exact ⟨rfl, ⟨vf, vc, H.out.below (bdrew HBn.out _), HI.out⟩, Kept.new F (bdrew HBn.out _)⟩
              · have q3 : (16 : Int) < (x.b.size : Int) := by simp at hbad; omega
                have t2 : decide ((nc : Int) ≤ x.pos) = false := dec_f q2
                have t3 : decide ((16 : Int) < (x.b.size : Int)) = true := dec_t q3
                clear hbad
                go_upto_region 8 with (fail)
                obtain ⟨wq, hwq⟩ : ∃ wq, wq = wr.alloc (.cells #[iv x.pos, .string x.b] 69) := ⟨_, rfl⟩
                rw [← hwq] at HBn
                have k1q : wq.cell? ⟨b, 1, none⟩ = some (.slice pc nc cc) := by
                  rw [hwq]; exact (((Below.refl wr.heap.size wr).alloc (Nat.le_refl _) _).cell (p := ⟨b, 1, none⟩) (World.block_lt_of_cell? wr _ k1)).trans k1
                have p0 : wq.cell? ⟨wr.heap.size, 0, none⟩ = some (iv x.pos) := by rw [hwq]; simp
                have p1 : wq.cell? ⟨wr.heap.size, 1, none⟩ = some (.string x.b) := by rw [hwq]; simp
                rw [← hwq]
                clear hwq k1 e0 e1
                go_quiet (fail)
                go_wp2_with fail
                go_ret
                rw [Hr1.out]
                exact ⟨rfl, ⟨vf, vc, H.out.below (bdrew HBn.out _), HI.out⟩, Kept.new F (bdrew HBn.out _)⟩
          · have hbf : Rd.badB nc x = false := by simpa using hbad
            have hok := badB_f hbf
            have Hbf := Lib.hid hbf
            have q1 : ¬ x.pos < 0 := by omega
            have q2 : ¬ (nc : Int) ≤ x.pos := by omega
            have q3 : ¬ (16 : Int) < (x.b.size : Int) := by omega
            have t1 : decide (x.pos < 0) = false := dec_f q1
            have t2 : decide ((nc : Int) ≤ x.pos) = false := dec_f q2
            have t3 : decide ((16 : Int) < (x.b.size : Int)) = false := dec_f q3
            clear hk hB hno hx d0 d1 c1 hbad hbf hok
            go_upto_region 8 with (fail)
            obtain ⟨wq, hwq⟩ : ∃ wq, wq = wr.alloc (.cells #[iv x.pos, .string x.b] 69) := ⟨_, rfl⟩
            rw [← hwq] at HBn
            have k1q : wq.cell? ⟨b, 1, none⟩ = some (.slice pc nc cc) := by
              rw [hwq]; exact (((Below.refl wr.heap.size wr).alloc (Nat.le_refl _) _).cell (p := ⟨b, 1, none⟩) (World.block_lt_of_cell? wr _ k1)).trans k1
            have p0 : wq.cell? ⟨wr.heap.size, 0, none⟩ = some (iv x.pos) := by rw [hwq]; simp
            have p1 : wq.cell? ⟨wr.heap.size, 1, none⟩ = some (.string x.b) := by rw [hwq]; simp
            rw [← hwq]
            clear hwq k1 e0 e1
            go_quiet (fail)
            go_wp2_with fail
            go_roundg (gk - 1)
            case measure => have := Hk.out; omega
            case rel =>
              refine ⟨k + 1, by have := Hk.out; omega, by go_num, bdrew HBn.out _, fun j y hj hy => ?_⟩
              by_cases e : j = k
              · subst e
                rw [Hx.out] at hy
                obtain rfl := Option.some.inj hy
                exact Hbf.out
              · exact Hno.out j y (by omega) hy
        · have hkn : k = n := by have := Hk.out; omega
          have hall : ls.any (Rd.badB s.cells.length) = false := by
            rw [List.any_eq_false]
            intro y hy
            obtain ⟨j, hj⟩ := List.getElem?_of_mem hy
            have hjl := (List.getElem?_eq_some_iff.1 hj).1
            have := hno j y (by rw [hkn, Hn.out]; exact hjl) hj
            rw [← Hnc.out, this]; simp
          have hok : Rd.Ok nc ls := ⟨by rw [← Hn.out]; omega, fun y hy => by
            obtain ⟨j, hj⟩ := List.getElem?_of_mem hy
            have hjl := (List.getElem?_eq_some_iff.1 hj).1
            exact badB_f (hno j y (by rw [hkn, Hn.out]; exact hjl) hj)⟩
          have Hok := Lib.hid hok
          have HRec := Lib.hid (record_any ls nc (by omega) hok _ wr (Hv.out.below hB))
          rw [← Hn.out] at HRec
          have hsl : (Rd.bs (Rd.rcd ls)).size = (Rd.rcd ls).length := Rd.bs_size _
          have hrl : (Rd.rcd ls).length ≤ 723 := by have := hok.body; rw [Rd.rcd_len]; omega
          have hr3 : 3 ≤ (Rd.rcd ls).length := by rw [Rd.rcd_len, Rd.body_len]; omega
          have hx2 : (Rd.bs (Rd.rcd ls)).extract 2 (Rd.bs (Rd.rcd ls)).size = Rd.bs (Rd.body ls) := by
            rw [Rd.bs_extract, Rd.bs_size, List.take_of_length_le (Nat.le_refl _)]; rfl
          have hx3 : (Rd.bs (Rd.rcd ls)).extract 0 ((Rd.rcd ls).length / 2) = Rd.bs ((Rd.rcd ls).take ((Rd.rcd ls).length / 2)) := by
            rw [Rd.bs_extract, List.drop_zero]
          obtain ⟨z, hz⟩ : ∃ z, z = (s.left == 0) := ⟨_, rfl⟩
          obtain ⟨m, hm⟩ : ∃ m, m = (Rd.rcd ls).length := ⟨_, rfl⟩
          obtain ⟨t, ht⟩ : ∃ t, t = Rd.bs (Rd.rcd ls) := ⟨_, rfl⟩
          unfold RecPost at HRec
          rw [← ht] at HRec hsl hx2 hx3
          rw [← hm] at hsl hrl hr3 hx3
          have Hx2 := Lib.hid hx2
          have Hx3 := Lib.hid hx3
          have Hm := Lib.hid hm
          have Ht := Lib.hid ht
          have Hz := Lib.hid hz
          have Hall := Lib.hid hall
          clear hk hB hno hkn hall hok hx2 hx3 hm ht hz c1
          go_wp2_with fail
          refine HRec.out.mono ?_
          rintro e w1 ⟨rfl, hb1⟩
          have HB1 := Lib.hid (HB.out.trans (hb1.mono hzr))
          have hRA := H.out.below HB1.out
          have HS := Lib.hid (step_any hRA h1 h2)
          unfold StepPost at HS
          rw [← Hz.out] at HS
          clear hb1 HRec hRA
          go_wp2_with fail
          refine HS.out.mono ?_
          rintro e w2 ⟨rfl, h2', hk2⟩
          have HA := Lib.hid h2'
          have HK := Lib.hid ((Kept.new F HB1.out).also (hk2.mono (T' := F) (fun k _ e => by rw [e]; exact HI.out.b)))
          have d2 := h2'.c2
          have ff := h2'.f
          have hbs : (Rd.bs (Rd.step s).bytes).size ≤ 1000000 := by rw [Rd.bs_size]; exact hb
          have happ := fun l => Rd.bs_append s.bytes l
          obtain ⟨u, hu⟩ : ∃ u, u = Rd.bs (Rd.step s).bytes := ⟨_, rfl⟩
          rw [← hu] at d2 hbs
          have happ' : ∀ l, u ++ Rd.bs l = Rd.bs (s.bytes ++ l) := by intro l; rw [hu]; exact happ l
          have Happ := Lib.hid happ'
          have Hsl := Lib.hid hsl
          have htm : t.size ≤ 723 := by omega
          have ht3 : 3 ≤ t.size := by omega
          clear h2' hk2 HS happ happ' hu hsl
          cases z with
          | true =>
            obtain ⟨y, hy⟩ : ∃ y, y = m / 2 := ⟨_, rfl⟩
            have hq1 : y ≤ t.size := by rw [Hsl.out]; omega
            have hyI : (y : Int) ≤ (t.size : Int) := by omega
            have hy7 : y ≤ 723 := by omega
            have hss : (t.extract 0 y).size ≤ 723 := by rw [ByteArray.size_extract]; omega
            have hsum : u.size + (t.extract 0 y).size ≤ 9223372036854775807 := by omega
            have hdv : (t.size : Int) / 2 = (y : Int) := by rw [Hsl.out, hy]; exact (Int.natCast_ediv m 2).symm
            have hw1 : wrap64 ((t.size : Int) / 2) = (y : Int) := by rw [hdv]; unfold wrap64; clear hdv; omega
            have hw2 : IntKind.i64.wrap ((t.size : Int) / 2) = (y : Int) := by rw [hdv]; clear hw1 hdv; exact IntWalk.i64_in _ (by omega)
            have Hy := Lib.hid hy
            clear hy hdv
            go_upto_region 13 with (fail)
            go_region
            go_wp2_with fail
            go_ret
            have hput : Rd.put s ls = (6, { Rd.step s with bytes := s.bytes ++ (Rd.rcd ls).take ((Rd.rcd ls).length / 2) }) := by rw [Hr.out, if_neg (by rw [Hall.out]; simp), if_pos Hz.out.symm]
            have e9 : u ++ t.extract 0 y = Rd.bs (s.bytes ++ (Rd.rcd ls).take ((Rd.rcd ls).length / 2)) := by rw [Hy.out, Hx3.out, Happ.out, Hm.out]
            have hA2 := HA.out.upd 2 (.string (Rd.bs (s.bytes ++ (Rd.rcd ls).take ((Rd.rcd ls).length / 2)))) (s' := { Rd.step s with bytes := s.bytes ++ (Rd.rcd ls).take ((Rd.rcd ls).length / 2) }) rfl rfl rfl
            rw [← e9] at hA2
            rw [hput]
            exact ⟨rfl, ⟨vf, vc, hA2.below (Below.refl _ _).drew, HI.out⟩, (HK.out.setCell (p := ⟨b, 2, none⟩) (fun _ => HI.out.b) _).drew⟩
          | false =>
            have hput : Rd.put s ls = (0, { Rd.step s with bytes := s.bytes ++ Rd.rcd ls, cells := Rd.done s.cells ls }) := by rw [Hr.out, if_neg (by rw [Hall.out]; simp), if_neg (by rw [← Hz.out]; simp)]
            have e9 : u ++ t = Rd.bs (s.bytes ++ Rd.rcd ls) := by rw [Ht.out, Happ.out]
            have hA3 := HA.out.upd 2 (.string (Rd.bs (s.bytes ++ Rd.rcd ls))) (s' := { Rd.step s with bytes := s.bytes ++ Rd.rcd ls }) rfl rfl rfl
            have hRd := redo_any hA3 ls (by show s.cells.length ≤ 40; rw [← Hnc.out]; exact hc40) (by show Rd.Ok s.cells.length ls; rw [← Hnc.out]; exact Hok.out)
            rw [← e9] at hRd
            have HRd := Lib.hid hRd
            have Hput := Lib.hid hput
            have hsum : u.size + t.size ≤ 9223372036854775807 := by omega
            clear hput e9 hA3 hRd
            go_wp2_with fail
            rw [Hx2.out]
            refine HRd.out.mono ?_
            rintro e w5 ⟨rfl, hR5, hk5⟩
            have HR5 := Lib.hid hR5
            have HK5 := Lib.hid ((HK.out.setCell (p := ⟨b, 2, none⟩) (fun _ => HI.out.b) (.string (u ++ t))).also (hk5.mono (T' := F) (fun k _ e => HI.out.c k e)))
            clear hR5 hk5 HRd
            go_wp2_with fail
            go_ret
            rw [Hput.out]
            exact ⟨rfl, ⟨vf, vc, HR5.out, HI.out⟩, HK5.out⟩
end Go.Proofs.YtangcjffiooapaaDoor
