/- The walk of (*Locks).Free. -/
import Derived.Test.YtoddoekmgkcomaaDoorLockK
import Derived.Test.YtoddoekmgkcomaaDoorLockS
import Derived.Deep.CutBlock
namespace Go.Proofs.YtoddoekmgkcomaaDoor
open Go.ChangeShapes Go.WideShapes Go.ChangeAt Go.RowKit
set_option linter.unusedVariables false
attribute [local go_sem ↓] Go.wp_at_zero Go.wp_at_succ
def FreePost (B b : Nat) (vh vw : Value) (r : (List Int × Int) × Lk.St) (w : World) (e : Ending) (w' : World) : Prop :=
  ∃ v, e = .returned (.tuple #[v, errV r.1.2]) ∧ w'.ownsRow w.heap.size 3 1 v r.1.1.length (r.1.1.map iv) ∧ LkStep 106 w B b vh vw r.2 w' ∧ (∀ g, v.ownBlock = some g → w.heap.size ≤ g)
theorem firstI_yes {ls : List Lk.L} {who : Int} (h : Lk.has ls who = true) : firstI ls (fun x => x.who == who) = (Lk.at0 ls who : Nat) := by
  exact if_pos (Lk.at0_lt h)
theorem firstI_no {ls : List Lk.L} {who : Int} (h : Lk.has ls who = false) : firstI ls (fun x => x.who == who) = -1 := by
  unfold firstI
  rw [if_neg]
  rw [List.findIdx_lt_length]
  rintro ⟨x, hx, e⟩
  exact Lk.has_no.1 h x hx (by simpa using e)
def FreeRel (w : World) (B b : Nat) (vh vw : Value) (h0 r0 : List Lk.L) (vs : Value) (gk : Nat) (ov lv i : Value) (wr : World) : Prop :=
  ∃ (k : Nat) (vk : Value), k + gk = r0.length ∧ i = iv k ∧ SS 106 wr B b w.heap.size vk vs vk vs ((Lk.sift h0 [] [] (r0.take k)).1.1, r0) lv ov (Lk.sift h0 [] [] (r0.take k)).1.2 (Lk.sift h0 [] [] (r0.take k)).2 ∧ Way b vh vw w vk vs wr
theorem owns_slice {w : World} {B : Nat} {e : TypeId} {size : Nat} {v : Value} {n : Nat} {xs : List Value} (h : w.ownsRow B e size v n xs) : ∃ p n c, v = .slice p n c := by
  rcases h.2 with ⟨h, _⟩ | ⟨g, cap, cur, h, _⟩
  · exact ⟨_, _, _, h⟩
  · exact ⟨_, _, _, h⟩
/-- one who waited is held: behind the append -/
theorem sift_app {T : TypeId} {w wx w1 : World} {B b W : Nat} {vh0 vw0 vk vs : Value} {s : Lk.St} {lv ov : Value} {ls : List Lk.L} {os : List Int} (h : SS T wx B b W vk vs vk vs s lv ov ls os) (hm : Way b vh0 vw0 w vk vs wx) (l : Lk.L) {g cap H : Nat}
    (hown : w1.ownsRow B 52 4 (.slice (some ⟨g, 0, none⟩) (s.1.length + 1) cap) (s.1.length + 1) (lcs s.1 ++ lc l)) (hg : wx.grownBy w1 vk.ownBlock) (hat : vk.ownBlock = some g ∨ g = H) (hH : wx.heap.size ≤ H) :
    SS T w1 B b W vk vs (.slice (some ⟨g, 0, none⟩) (s.1.length + 1) cap) vs (s.1 ++ [l], s.2) lv ov ls os ∧ Way b vh0 vw0 w (.slice (some ⟨g, 0, none⟩) (s.1.length + 1) cap) vs w1 := by
  have h2 : w1.ownsRow B 52 4 (.slice (some ⟨g, 0, none⟩) (s.1.length + 1) cap) (s.1 ++ [l]).length (lcs (s.1 ++ [l])) := by rw [← lcs_snoc, List.length_append]; exact hown
  have h3 : ∀ k, (Value.slice (some ⟨g, 0, none⟩) (s.1.length + 1) cap).ownBlock = some k → vk.ownBlock = some k ∨ wx.heap.size ≤ k := by
    intro k e
    simp only [Value.ownBlock, Option.some.injEq] at e
    subst e
    exact hat.imp id (fun e => by omega)
  exact ⟨h.new1 h2 hg h3, hm.new1 hg h3⟩
set_option maxRecDepth 100000 in
set_option maxHeartbeats 2000000 in
theorem free_none {w : World} {B b : Nat} {vh vw : Value} {s : Lk.St} (h : LkAt 106 w B b vh vw s) (who : Int) (q1 : Lk.has s.1 who = false) (q2 : Lk.has s.2 who = false) :
    Calls Tryd.prog 20 #[.pointer (some ⟨b, 0, none⟩), iv who] w (FreePost B b vh vw (([], 5), s) w) := by
  have F1 := fun v w hv => find_any s.1 who v w hv
  have F2 := fun v w hv => find_any s.2 who v w hv
  rw [firstI_no q1] at F1
  rw [firstI_no q2] at F2
  have HF1 := Lib.hid F1
  have HF2 := Lib.hid F2
  have a0 := h.c0
  have a1 := h.c1
  have hltA := h.lt
  have H0 := Lib.hid h
  clear h F1 F2 q1 q2
  go_enter Tryd.func20, Tryd.ntmps20
  go_upto_region 1 with (fail)
  go_cut [6, 7] (fun i j wq => i = iv (-1) ∧ j = iv (-1) ∧ Below w.heap.size w wq)
  case first => as_aux_lemma =>
    go_region_held3 (fun w' => w'.cell? ⟨b, 0, none⟩ = some vh ∧ w'.cell? ⟨b, 1, none⟩ = some vw)
      (first
        | exact ⟨a0, a1⟩
        | exact K1
        | exact K2
        | go_keep)
      (first
        | (go_at_call 56; with_reducible refine (HF1.out _ _ H0.out.row1.drew).mono ?_; rintro e w1 ⟨rfl, hb1⟩; have HB1 := Lib.hid (drewB hb1); have K1 := And.intro ((HB1.out.cell (p := ⟨b, 0, none⟩) hltA).trans a0) ((HB1.out.cell (p := ⟨b, 1, none⟩) hltA).trans a1); clear hb1)
        | (go_at_call 56; with_reducible refine (HF2.out _ _ (H0.out.below HB1.out).row2).mono ?_; rintro e w2 ⟨rfl, hb2⟩; have HB2 := Lib.hid (HB1.out.trans (hb2.mono HB1.out.size)); have K2 := And.intro ((HB2.out.cell (p := ⟨b, 0, none⟩) hltA).trans a0) ((HB2.out.cell (p := ⟨b, 1, none⟩) hltA).trans a1); clear hb2))
    go_wp2_with fail
    go_meet
    exact ⟨rfl, rfl, HB2.out⟩
  case rest =>
    obtain ⟨rfl, rfl, hb⟩ := hcut
    have Hb := Lib.hid hb
    clear hb
    go_wp2_with fail
    go_ret2
    exact ⟨_, rfl, World.ownsRow_nil _ _ _ _, LkStep.same H0.out Hb.out, fun g e => by cases e⟩
set_option maxRecDepth 100000 in
set_option maxHeartbeats 8000000 in
theorem free_some {w : World} {B b : Nat} {vh vw : Value} {s : Lk.St} (h : LkAt 106 w B b vh vw s) (hm : s.1.length + s.2.length ≤ 30) (who : Int) (q : Lk.has s.1 who = true ∨ Lk.has s.2 who = true) :
    Calls Tryd.prog 20 #[.pointer (some ⟨b, 0, none⟩), iv who] w (FreePost B b vh vw (Lk.freeL s who) w) := by
  have F1 := fun v w hv => find_any s.1 who v w hv
  have F2 := fun v w hv => find_any s.2 who v w hv
  generalize hk1 : firstI s.1 (fun x => x.who == who) = k1 at F1
  generalize hk2 : firstI s.2 (fun x => x.who == who) = k2 at F2
  have HF1 := Lib.hid F1
  have HF2 := Lib.hid F2
  have HK1 := Lib.hid hk1
  have HK2 := Lib.hid hk2
  have HQ0 := Lib.hid q
  have a0 := h.c0
  have a1 := h.c1
  have hltA := h.lt
  have H0 := Lib.hid h
  have Hm := Lib.hid hm
  clear h F1 F2 hk1 hk2 q hm
  obtain ⟨s0, hs0⟩ : ∃ s0 : Lk.St, s0 = if Lk.has s.1 who then (s.1.eraseIdx (Lk.at0 s.1 who), s.2) else (s.1, s.2.eraseIdx (Lk.at0 s.2 who)) := ⟨_, rfl⟩
  have HS0 := Lib.hid hs0
  clear hs0
  go_enter Tryd.func20, Tryd.ntmps20
  go_upto_region 1 with (fail)
  go_cut [6, 7] (fun i j wq => i = iv k1 ∧ j = iv k2 ∧ Below w.heap.size w wq)
  case first => as_aux_lemma =>
    go_region_held3 (fun w' => w'.cell? ⟨b, 0, none⟩ = some vh ∧ w'.cell? ⟨b, 1, none⟩ = some vw)
      (first
        | exact ⟨a0, a1⟩
        | exact K1
        | exact K2
        | go_keep)
      (first
        | (go_at_call 56; with_reducible refine (HF1.out _ _ H0.out.row1.drew).mono ?_; rintro e w1 ⟨rfl, hb1⟩; have HB1 := Lib.hid (drewB hb1); have K1 := And.intro ((HB1.out.cell (p := ⟨b, 0, none⟩) hltA).trans a0) ((HB1.out.cell (p := ⟨b, 1, none⟩) hltA).trans a1); clear hb1)
        | (go_at_call 56; with_reducible refine (HF2.out _ _ (H0.out.below HB1.out).row2).mono ?_; rintro e w2 ⟨rfl, hb2⟩; have HB2 := Lib.hid (HB1.out.trans (hb2.mono HB1.out.size)); have K2 := And.intro ((HB2.out.cell (p := ⟨b, 0, none⟩) hltA).trans a0) ((HB2.out.cell (p := ⟨b, 1, none⟩) hltA).trans a1); clear hb2))
    go_wp2_with fail
    go_meet
    exact ⟨rfl, rfl, HB2.out⟩
  case rest =>
    obtain ⟨rfl, rfl, hb⟩ := hcut
    have hA := H0.out.below hb
    have a0 := hA.c0
    have a1 := hA.c1
    have fA := hA.f 0
    have fB := hA.f 1
    have HA := Lib.hid hA
    have Hb := Lib.hid hb
    clear hA hb
    go_upto_block 0 with (fail)
    go_cut [] (fun wq => ∃ vh1 vw1, LkAt 106 wq B b vh1 vw1 s0 ∧ Way b vh vw w vh1 vw1 wq)
    case first => as_aux_lemma =>
      have hs1 : s.1.length ≤ 30 := by have := Hm.out; omega
      have hs2 : s.2.length ≤ 30 := by have := Hm.out; omega
      cases q1 : Lk.has s.1 who with
      | true =>
        have hlt := Lk.at0_lt q1
        have hk := HK1.out
        rw [firstI_yes q1] at hk
        have hE : s0 = (s.1.eraseIdx (Lk.at0 s.1 who), s.2) := by rw [HS0.out, q1]; rfl
        generalize Lk.at0 s.1 who = i at *
        subst hk
        obtain ⟨g, cap, hv, _, hgl⟩ := HA.out.own1.form (by omega)
        subst hv
        have HE := Lib.hid hE
        have hd : decide ((0 : Int) ≤ (i : Int)) = true := dec_t (by omega)
        have hi30 : (i : Int) < 30 := by omega
        clear hE q1
        go_wp2_with fail
        refine (delete_any HA.out.own1 rfl hlt).mono ?_
        rintro e w3 ⟨rfl, hown, hg⟩
        have hlen : (s.1.eraseIdx i).length = s.1.length - 1 := by rw [List.length_eraseIdx, if_pos hlt]
        have N := HA.out.new1 (v := .slice (some ⟨g, 0, none⟩) (s.1.length - 1) cap) (ls := s.1.eraseIdx i) (by rw [hlen]; exact hown) hg (fun k e => .inl e)
        have M := (((Way.refl b (.slice (some ⟨g, 0, none⟩) s.1.length cap) vw w).below Hb.out).new1 (v := .slice (some ⟨g, 0, none⟩) (s.1.length - 1) cap) hg (fun k e => .inl e))
        have n0 := N.c0
        have fn := N.f 0
        have HN := Lib.hid N
        have HM := Lib.hid M
        clear hown hg N M a0 a1 fA fB hlen
        go_wp2_with fail
        go_meet
        exact ⟨_, _, by rw [HE.out]; exact HN.out.setX _, HM.out.set 0 _⟩
      | false =>
        have q2 : Lk.has s.2 who = true := by rcases HQ0.out with h | h; (rw [q1] at h; cases h); exact h
        have hlt := Lk.at0_lt q2
        have hk := HK2.out
        have hk1 := HK1.out
        rw [firstI_yes q2] at hk
        rw [firstI_no q1] at hk1
        have hE : s0 = (s.1, s.2.eraseIdx (Lk.at0 s.2 who)) := by rw [HS0.out, q1]; rfl
        generalize Lk.at0 s.2 who = i at *
        subst hk hk1
        obtain ⟨g, cap, hv, _, hgl⟩ := HA.out.own2.form (by omega)
        subst hv
        have HE := Lib.hid hE
        have hd : decide ((0 : Int) ≤ (i : Int)) = true := dec_t (by omega)
        have hi30 : (i : Int) < 30 := by omega
        clear hE q1 q2
        go_wp2_with fail
        refine (delete_any HA.out.own2 rfl hlt).mono ?_
        rintro e w3 ⟨rfl, hown, hg⟩
        have hlen : (s.2.eraseIdx i).length = s.2.length - 1 := by rw [List.length_eraseIdx, if_pos hlt]
        have N := HA.out.new2 (v := .slice (some ⟨g, 0, none⟩) (s.2.length - 1) cap) (ls := s.2.eraseIdx i) (by rw [hlen]; exact hown) hg (fun k e => .inl e)
        have M := (((Way.refl b vh (.slice (some ⟨g, 0, none⟩) s.2.length cap) w).below Hb.out).new2 (v := .slice (some ⟨g, 0, none⟩) (s.2.length - 1) cap) hg (fun k e => .inl e))
        have n0 := N.c1
        have fn := N.f 1
        have HN := Lib.hid N
        have HM := Lib.hid M
        clear hown hg N M a0 a1 fA fB hlen
        go_wp2_with fail
        go_meet
        exact ⟨_, _, by rw [HE.out]; exact HN.out.setY _, HM.out.set 1 _⟩
    case rest =>
      obtain ⟨vh1, vw1, hobj, hway⟩ := hcut
      have hlen0 : s0.1.length + s0.2.length ≤ 30 := by
        have := Hm.out
        rw [HS0.out]
        split <;> simp only [List.length_eraseIdx] <;> split <;> omega
      obtain ⟨h0, r0⟩ := s0
      have hr := hobj.row2
      obtain ⟨pw, cw, hvw, _, hcells⟩ := hr
      subst hvw
      have c1 := hobj.c1
      have Hobj := Lib.hid hobj
      have Hway := Lib.hid hway
      have HL0 := Lib.hid hlen0
      generalize hn : r0.length = n at *
      have Hn := Lib.hid hn
      clear hobj hway hlen0 a0 a1 fA fB HA Hb HF1 HF2 HK1 HK2 hcells hn
      go_wp2_with fail
      go_loopg [8, 9, 58] n (fun gk o lv i wr => FreeRel w B b vh vw h0 r0 (.slice pw n cw) gk o lv i wr)
      case atStart => exact ⟨0, vh1, by rw [Hn.out]; omega, rfl, ⟨Hobj.out, World.ownsRow_nil _ _ _ _, World.ownsRow_nil _ _ _ _, (fun g e => by cases e), (fun g e => by cases e), (fun g e => by cases e)⟩, Hway.out⟩
      case round =>
        obtain ⟨k, vk, hk, rfl, hS, hW⟩ := hrel
        rw [Hn.out] at hk
        have Hk := Lib.hid hk
        have hkn : k ≤ n := by omega
        have hsz := sift_sizes (r0.take k) h0 [] []
        rw [List.length_take, Nat.min_eq_left (by rw [Hn.out]; exact hkn)] at hsz
        have hsn := fun l => sift_snoc (r0.take k) h0 [] [] l
        generalize hq : Lk.sift h0 [] [] (r0.take k) = q at *
        obtain ⟨⟨hh, ff⟩, oo⟩ := q
        simp only [List.length_nil, Nat.add_zero, Nat.zero_add] at hsz hsn
        have hb30 := HL0.out
        have hh30 : hh.length ≤ 30 := by omega
        have ff30 : ff.length ≤ 30 := by omega
        have oo30 : oo.length ≤ 30 := by omega
        have HSN := Lib.hid hsn
        have HQ := Lib.hid hq
        have HW := Lib.hid hW
        have HS := Lib.hid hS
        have hbl := hS.obj.lt
        have hbB := hS.obj.hb
        have hwz := hW.kept.size
        clear hk hq hsn hsz hb30 hS hW
        by_cases hlt : k < n
        · obtain ⟨l, hl⟩ : ∃ l, r0[k]? = some l := ⟨r0[k]'(by rw [Hn.out]; exact hlt), List.getElem?_eq_getElem _⟩
          obtain ⟨pw', cw', hpe, _, hcells⟩ := HS.out.obj.row2
          simp only [Value.slice.injEq] at hpe
          obtain ⟨rfl, hpx, rfl⟩ := hpe
          clear hpx
          obtain ⟨gb, off, rfl, hgb, d0, d1, d2, d3⟩ := hcells k l hl
          have HL := Lib.hid hl
          have hax : r0.take (k + 1) = r0.take k ++ [l] := by rw [List.take_add_one, hl]; rfl
          have HAX := Lib.hid hax
          clear hl hcells hax
          go_upto_region 12 with (fail)
          obtain ⟨wx, hwx⟩ : ∃ W : World, W = wr.alloc (.cells (lc l).toArray 52) := ⟨_, rfl⟩
          rw [show (wr.alloc (.cells #[iv l.who, iv l.fr, iv l.to, .bool l.al] 52)) = wx from hwx.symm]
          have hBX : Below wr.heap.size wr wx := by rw [hwx]; exact (Below.refl _ _).alloc (Nat.le_refl _) _
          have pb : wx.heap[wr.heap.size]? = some (.cells (lc l).toArray 52 (0, 0)) := by rw [hwx]; exact heap_alloc_new _ _
          have e0 : wx.cell? ⟨wr.heap.size, 0, none⟩ = some (iv l.who) := by rw [cell_of_row _ _ _ _ _ _ pb]; rfl
          have e1 : wx.cell? ⟨wr.heap.size, 1, none⟩ = some (iv l.fr) := by rw [cell_of_row _ _ _ _ _ _ pb]; rfl
          have e2 : wx.cell? ⟨wr.heap.size, 2, none⟩ = some (iv l.to) := by rw [cell_of_row _ _ _ _ _ _ pb]; rfl
          have e3 : wx.cell? ⟨wr.heap.size, 3, none⟩ = some (.bool l.al) := by rw [cell_of_row _ _ _ _ _ _ pb]; rfl
          have hsX : wr.heap.size < wx.heap.size := World.block_lt_of_cell? wx _ e0
          have HX := Lib.hid (HS.out.below hBX)
          have a0 := HX.out.obj.c0
          have hbX : b < wx.heap.size := by omega
          have HWX := Lib.hid (HW.out.below hBX)
          clear hwx hBX pb d0 d1 d2 d3
          cases q1 : Lk.free hh l with
          | false =>
            have HF1 : Hid (∀ (v : Value) (w : World), RowL w v hh → Calls Tryd.prog 58 #[v, lv l] w fun e w' => e = .returned (.bool false) ∧ Below w.heap.size w w') := Lib.hid (fun v w h => by rw [← q1]; exact free_any hh l v w h)
            have HQL : Hid (Lk.sift h0 [] [] (r0.take (k + 1)) = ((hh, ff ++ [l]), oo)) := Lib.hid (by rw [HAX.out, HSN.out]; simp only [q1, Bool.false_and]; rfl)
            clear q1
            go_cut [72] (fun z wq => z = .bool false ∧ Below wx.heap.size wx wq)
            case first => as_aux_lemma =>
              first
                | go_region_with (go_at_call 58; refine (HF1.out _ _ HX.out.obj.row1.drew).mono ?_; rintro e w1 ⟨rfl, hb1⟩; have HB1 := Lib.hid (drewB hb1); clear hb1)
                | fail
              all_goals
                go_wp2_with fail
                go_meet
                exact ⟨rfl, HB1.out⟩
            case rest =>
              obtain ⟨rfl, hbe⟩ := hcut
              have X := HX.out.below hbe
              have e0 := (hbe.cell (p := ⟨wr.heap.size, 0, none⟩) hsX).trans e0
              have e1 := (hbe.cell (p := ⟨wr.heap.size, 1, none⟩) hsX).trans e1
              have e2 := (hbe.cell (p := ⟨wr.heap.size, 2, none⟩) hsX).trans e2
              have e3 := (hbe.cell (p := ⟨wr.heap.size, 3, none⟩) hsX).trans e3
              have hzc : w.heap.size ≤ wc.heap.size := by have := hbe.size; omega
              have hS2 := X.below ((Below.refl wc.heap.size wc).alloc (Nat.le_refl _) (.cells (lc l).toArray 52))
              have hM2 := (HWX.out.below hbe).below ((Below.refl wc.heap.size wc).alloc (Nat.le_refl _) (.cells (lc l).toArray 52))
              have HS2 := Lib.hid hS2
              have HM2 := Lib.hid hM2
              have hleft := Lib.hid X.left
              clear X hbe HX HF1 hsX hS2 hM2 a0 hbX HWX
              obtain ⟨i0, hi0, hz0, hz1, hz2⟩ := info_parts info_lock
              go_wp2_with (at_builtin; refine wpList_append_lies _ rfl _ _ 39 rfl w.heap.size 52 i0 _ 4 32 Tryd.underlying39 hi0 hz0 hz1 hz2 rfl (by omega) _ ff.length (lcs ff) rfl (hleft.out.alloc _) ⟨wc.heap.size, 0, none⟩ 1 1 (lc l) rfl rfl (World.news_of_block (cs := (lc l).toArray) (t := 52) (fr := (0, 0)) (heap_alloc_new wc _)) (lc_one l) (by omega) ?c1y ?c2y ?c3y (wc.heap.size + 1) ?c4y ?_)
              case c1y => unfold maxLen; omega
              case c2y => omega
              case c3y => (try simp) <;> omega
              try case c4y => simp
              intro g cap w1 hown1 hgrow hat hlt
              have S3 := HS2.out.newL (v := .slice (some ⟨g, 0, none⟩) (ff.length + 1) cap) (l2 := ff ++ [l]) (by rw [← lcs_snoc, List.length_append]; exact hown1) hgrow (fun k e => by
                simp only [Value.ownBlock, Option.some.injEq] at e
                subst e
                exact hat.imp id (fun e => by simp; omega))
              have M3 := HM2.out.other hgrow (fun k e => (hleft.out.lt k e).1)
              have HS3 := Lib.hid S3
              have HM3 := Lib.hid M3
              clear S3 M3 hown1 hgrow hat HS2 HM2 hleft hzc
              go_wp2_with fail
              go_roundg (gk - 1)
              case measure => have := Hk.out; omega
              case rel => exact ⟨k + 1, vk, by rw [Hn.out]; have := Hk.out; omega, by go_num, by rw [HQL.out]; exact HS3.out, HM3.out⟩
          | true =>
            have HF1 : Hid (∀ (v : Value) (w : World), RowL w v hh → Calls Tryd.prog 58 #[v, lv l] w fun e w' => e = .returned (.bool true) ∧ Below w.heap.size w w') := Lib.hid (fun v w h => by rw [← q1]; exact free_any hh l v w h)
            cases q2 : Lk.free ff l with
            | false =>
              have HF2 : Hid (∀ (v : Value) (w : World), RowL w v ff → Calls Tryd.prog 58 #[v, lv l] w fun e w' => e = .returned (.bool false) ∧ Below w.heap.size w w') := Lib.hid (fun v w h => by rw [← q2]; exact free_any ff l v w h)
              have HQL : Hid (Lk.sift h0 [] [] (r0.take (k + 1)) = ((hh, ff ++ [l]), oo)) := Lib.hid (by rw [HAX.out, HSN.out]; simp only [q1, q2, Bool.true_and]; rfl)
              clear q1 q2
              go_cut [72] (fun z wq => z = .bool false ∧ Below wx.heap.size wx wq)
              case first => as_aux_lemma =>
                go_region_held3 (fun w' => w'.cell? ⟨b, 0, none⟩ = some vk ∧ w'.cell? ⟨wr.heap.size, 0, none⟩ = some (iv l.who) ∧ w'.cell? ⟨wr.heap.size, 1, none⟩ = some (iv l.fr) ∧ w'.cell? ⟨wr.heap.size, 2, none⟩ = some (iv l.to) ∧ w'.cell? ⟨wr.heap.size, 3, none⟩ = some (.bool l.al))
                  (first
                    | exact ⟨a0, e0, e1, e2, e3⟩
                    | exact K1
                    | exact K2
                    | go_keep)
                  (first
                    | (go_at_call 58; with_reducible refine (HF1.out _ _ HX.out.obj.row1.drew).mono ?_; rintro e w1 ⟨rfl, hb1⟩; have HB1 := Lib.hid (drewB hb1); have K1 := And.intro ((HB1.out.cell (p := ⟨b, 0, none⟩) hbX).trans a0) (And.intro ((HB1.out.cell (p := ⟨wr.heap.size, 0, none⟩) hsX).trans e0) (And.intro ((HB1.out.cell (p := ⟨wr.heap.size, 1, none⟩) hsX).trans e1) (And.intro ((HB1.out.cell (p := ⟨wr.heap.size, 2, none⟩) hsX).trans e2) ((HB1.out.cell (p := ⟨wr.heap.size, 3, none⟩) hsX).trans e3)))); clear hb1)
                    | (go_at_call 58; with_reducible refine (HF2.out _ _ (rowL_of_owns (HX.out.below HB1.out).left)).mono ?_; rintro e w2 ⟨rfl, hb2⟩; have HB2 := Lib.hid (HB1.out.trans (hb2.mono HB1.out.size)); have K2 := And.intro ((HB2.out.cell (p := ⟨b, 0, none⟩) hbX).trans a0) (And.intro ((HB2.out.cell (p := ⟨wr.heap.size, 0, none⟩) hsX).trans e0) (And.intro ((HB2.out.cell (p := ⟨wr.heap.size, 1, none⟩) hsX).trans e1) (And.intro ((HB2.out.cell (p := ⟨wr.heap.size, 2, none⟩) hsX).trans e2) ((HB2.out.cell (p := ⟨wr.heap.size, 3, none⟩) hsX).trans e3)))); clear hb2))
                go_wp2_with fail
                go_meet
                exact ⟨rfl, HB2.out⟩
              case rest =>
                obtain ⟨rfl, hbe⟩ := hcut
                have X := HX.out.below hbe
                have e0 := (hbe.cell (p := ⟨wr.heap.size, 0, none⟩) hsX).trans e0
                have e1 := (hbe.cell (p := ⟨wr.heap.size, 1, none⟩) hsX).trans e1
                have e2 := (hbe.cell (p := ⟨wr.heap.size, 2, none⟩) hsX).trans e2
                have e3 := (hbe.cell (p := ⟨wr.heap.size, 3, none⟩) hsX).trans e3
                have hzc : w.heap.size ≤ wc.heap.size := by have := hbe.size; omega
                have hS2 := X.below ((Below.refl wc.heap.size wc).alloc (Nat.le_refl _) (.cells (lc l).toArray 52))
                have hM2 := (HWX.out.below hbe).below ((Below.refl wc.heap.size wc).alloc (Nat.le_refl _) (.cells (lc l).toArray 52))
                have HS2 := Lib.hid hS2
                have HM2 := Lib.hid hM2
                have hleft := Lib.hid X.left
                clear X hbe HX HF1 hsX hS2 hM2 a0 hbX HWX
                obtain ⟨i0, hi0, hz0, hz1, hz2⟩ := info_parts info_lock
                go_wp2_with (at_builtin; refine wpList_append_lies _ rfl _ _ 39 rfl w.heap.size 52 i0 _ 4 32 Tryd.underlying39 hi0 hz0 hz1 hz2 rfl (by omega) _ ff.length (lcs ff) rfl (hleft.out.alloc _) ⟨wc.heap.size, 0, none⟩ 1 1 (lc l) rfl rfl (World.news_of_block (cs := (lc l).toArray) (t := 52) (fr := (0, 0)) (heap_alloc_new wc _)) (lc_one l) (by omega) ?c1z ?c2z ?c3z (wc.heap.size + 1) ?c4z ?_)
                case c1z => unfold maxLen; omega
                case c2z => omega
                case c3z => (try simp) <;> omega
                try case c4z => simp
                intro g cap w1 hown1 hgrow hat hlt
                have S3 := HS2.out.newL (v := .slice (some ⟨g, 0, none⟩) (ff.length + 1) cap) (l2 := ff ++ [l]) (by rw [← lcs_snoc, List.length_append]; exact hown1) hgrow (fun k e => by
                  simp only [Value.ownBlock, Option.some.injEq] at e
                  subst e
                  exact hat.imp id (fun e => by simp; omega))
                have M3 := HM2.out.other hgrow (fun k e => (hleft.out.lt k e).1)
                have HS3 := Lib.hid S3
                have HM3 := Lib.hid M3
                clear S3 M3 hown1 hgrow hat HS2 HM2 hleft hzc
                go_wp2_with fail
                go_roundg (gk - 1)
                case measure => have := Hk.out; omega
                case rel => exact ⟨k + 1, vk, by rw [Hn.out]; have := Hk.out; omega, by go_num, by rw [HQL.out]; exact HS3.out, HM3.out⟩
            | true =>
              have HF2 : Hid (∀ (v : Value) (w : World), RowL w v ff → Calls Tryd.prog 58 #[v, lv l] w fun e w' => e = .returned (.bool true) ∧ Below w.heap.size w w') := Lib.hid (fun v w h => by rw [← q2]; exact free_any ff l v w h)
              have HQL : Hid (Lk.sift h0 [] [] (r0.take (k + 1)) = ((hh ++ [l], ff), oo ++ [l.who])) := Lib.hid (by rw [HAX.out, HSN.out]; simp only [q1, q2, Bool.true_and]; rfl)
              clear q1 q2
              go_cut [72] (fun z wq => z = .bool true ∧ Below wx.heap.size wx wq)
              case first => as_aux_lemma =>
                go_region_held3 (fun w' => w'.cell? ⟨b, 0, none⟩ = some vk ∧ w'.cell? ⟨wr.heap.size, 0, none⟩ = some (iv l.who) ∧ w'.cell? ⟨wr.heap.size, 1, none⟩ = some (iv l.fr) ∧ w'.cell? ⟨wr.heap.size, 2, none⟩ = some (iv l.to) ∧ w'.cell? ⟨wr.heap.size, 3, none⟩ = some (.bool l.al))
                  (first
                    | exact ⟨a0, e0, e1, e2, e3⟩
                    | exact K1
                    | exact K2
                    | go_keep)
                  (first
                    | (go_at_call 58; with_reducible refine (HF1.out _ _ HX.out.obj.row1.drew).mono ?_; rintro e w1 ⟨rfl, hb1⟩; have HB1 := Lib.hid (drewB hb1); have K1 := And.intro ((HB1.out.cell (p := ⟨b, 0, none⟩) hbX).trans a0) (And.intro ((HB1.out.cell (p := ⟨wr.heap.size, 0, none⟩) hsX).trans e0) (And.intro ((HB1.out.cell (p := ⟨wr.heap.size, 1, none⟩) hsX).trans e1) (And.intro ((HB1.out.cell (p := ⟨wr.heap.size, 2, none⟩) hsX).trans e2) ((HB1.out.cell (p := ⟨wr.heap.size, 3, none⟩) hsX).trans e3)))); clear hb1)
                    | (go_at_call 58; with_reducible refine (HF2.out _ _ (rowL_of_owns (HX.out.below HB1.out).left)).mono ?_; rintro e w2 ⟨rfl, hb2⟩; have HB2 := Lib.hid (HB1.out.trans (hb2.mono HB1.out.size)); have K2 := And.intro ((HB2.out.cell (p := ⟨b, 0, none⟩) hbX).trans a0) (And.intro ((HB2.out.cell (p := ⟨wr.heap.size, 0, none⟩) hsX).trans e0) (And.intro ((HB2.out.cell (p := ⟨wr.heap.size, 1, none⟩) hsX).trans e1) (And.intro ((HB2.out.cell (p := ⟨wr.heap.size, 2, none⟩) hsX).trans e2) ((HB2.out.cell (p := ⟨wr.heap.size, 3, none⟩) hsX).trans e3)))); clear hb2))
                go_wp2_with fail
                go_meet
                exact ⟨rfl, HB2.out⟩
              case rest =>
                obtain ⟨rfl, hbe⟩ := hcut
                have X := HX.out.below hbe
                have a0 := X.obj.c0
                have e0 := (hbe.cell (p := ⟨wr.heap.size, 0, none⟩) hsX).trans e0
                have e1 := (hbe.cell (p := ⟨wr.heap.size, 1, none⟩) hsX).trans e1
                have e2 := (hbe.cell (p := ⟨wr.heap.size, 2, none⟩) hsX).trans e2
                have e3 := (hbe.cell (p := ⟨wr.heap.size, 3, none⟩) hsX).trans e3
                have hzc : w.heap.size ≤ wc.heap.size := by have := hbe.size; omega
                have hsE : wr.heap.size < wc.heap.size := by have := hbe.size; omega
                have q0 : ∀ o, (wc.alloc o).cell? ⟨b, 0, none⟩ = some vk := fun o => (((Below.refl wc.heap.size wc).alloc (Nat.le_refl _) o).cell (p := ⟨b, 0, none⟩) X.obj.lt).trans a0
                have hbx : Below wc.heap.size wc ((wc.alloc (.cells (lc l).toArray 52)).drew) := ((Below.refl _ _).alloc (Nat.le_refl _) _).drew
                have X0 := Lib.hid ((hbx.cell (p := ⟨wr.heap.size, 0, none⟩) hsE).trans e0)
                have HZY := Lib.hid (Nat.lt_of_lt_of_le hsE hbx.size)
                have hzx : ((wc.alloc (.cells (lc l).toArray 52)).drew).heap.size ≤ wc.heap.size + 1 := by simp
                have HZX := Lib.hid hzx
                have HS2 := Lib.hid (X.below hbx)
                have HM2 := Lib.hid ((HWX.out.below hbe).below hbx)
                have hown := Lib.hid X.obj.own1
                have hfar := Lib.hid (fun e => Nat.lt_irrefl _ (HS.out.obj.own1.lt wr.heap.size e).2)
                have hbB2 : B ≤ wc.heap.size := by omega
                have hbp : b ≠ wr.heap.size := by omega
                have hbp2 : wr.heap.size ≠ b := by omega
                clear X hbe HX HF1 hsX hbx hzx hbX HWX
                obtain ⟨i0, hi0, hz0, hz1, hz2⟩ := info_parts info_lock
                obtain ⟨j0, hj0, hy0, hy1, hy2⟩ := info_parts info_int
                go_upto_region 13 with (fail)
                go_cut [] (fun wq => ∃ vk', SS 106 wq B b w.heap.size vk' (.slice (some ⟨gb, off, none⟩) n cw) vk' (.slice (some ⟨gb, off, none⟩) n cw) (hh ++ [l], r0) u9 u8 ff oo ∧ Way b vh vw w vk' (.slice (some ⟨gb, off, none⟩) n cw) wq ∧ wq.cell? ⟨wr.heap.size, 0, none⟩ = some (iv l.who) ∧ w.heap.size ≤ wq.heap.size)
                case first => as_aux_lemma =>
                  go_region_law
                    ((refine step_append_lies _ (by rfl) _ _ _ (by rfl) B 52 i0 _ 4 32 Tryd.underlying39 hi0 hz0 hz1 hz2 rfl (by omega) vk hh.length (lcs hh) (by rfl) ((hown.out.alloc _).drew) ⟨wc.heap.size, 0, none⟩ 1 1 (lc l) (by rfl) (by rfl) (World.news_of_block (cs := (lc l).toArray) (t := 52) (fr := (0, 0)) (heap_alloc_new wc _)) (lc_one l) (by omega) (by unfold maxLen; omega) (by omega) (by simp; omega) (wc.heap.size + 1) (by simp) ?_; intro gg cap w1 hown1 hgrow hat hlt; obtain ⟨N, M⟩ := sift_app HS2.out HM2.out l hown1 hgrow hat HZX.out; have HN := Lib.hid N; have HM := Lib.hid M; have n0 := N.obj.c0; have fn := N.obj.f 0; have p0 := (hgrow.cell_far ⟨wr.heap.size, 0, none⟩ HZY.out (fun e => hfar.out e.symm)).trans X0.out; have hz1' := Nat.le_trans HM2.out.kept.size hgrow.size; clear N M hown1 hgrow hat))
                  all_goals
                    go_wp2_with fail
                    go_meet
                    exact ⟨_, HN.out.setX _, HM.out.set 0 _, (World.cell?_setCell_other _ _ _ _ (by intro h; injection h with h1 _; exact hbp h1)).trans p0, by simp [World.setCell]; exact hz1'⟩
                case rest =>
                  obtain ⟨vk', X, M, e0, hzw⟩ := hcut
                  have hout := Lib.hid X.out
                  have hS2 := X.below ((Below.refl wc.heap.size wc).alloc (Nat.le_refl _) (.cells #[iv l.who] 3))
                  have hM2 := M.below ((Below.refl wc.heap.size wc).alloc (Nat.le_refl _) (.cells #[iv l.who] 3))
                  have HS4 := Lib.hid hS2
                  have HM4 := Lib.hid hM2
                  clear X M hS2 hM2
                  go_wp2_with (at_builtin; refine wpList_append_lies _ rfl _ _ 40 rfl w.heap.size 3 j0 _ 1 8 Tryd.underlying40 hj0 hy0 hy1 hy2 rfl (by omega) _ oo.length (oo.map iv) rfl (hout.out.alloc _) ⟨wc.heap.size, 0, none⟩ 1 1 [iv l.who] rfl rfl (World.news_of_block (cs := #[iv l.who]) (t := 3) (fr := (0, 0)) (heap_alloc_new wc _)) ?d0 (by omega) ?d1 ?d2 ?d3 (wc.heap.size + 1) ?d4 ?_)
                  case d0 => first | rfl | (intro u hu; rw [List.mem_singleton] at hu; subst hu; rfl)
                  case d1 => unfold maxLen; omega
                  case d2 => omega
                  case d3 => (try simp) <;> omega
                  try case d4 => simp
                  intro g2 cap2 w3 hown1 hgrow hat hlt2
                  have S3 := HS4.out.newO (v := .slice (some ⟨g2, 0, none⟩) (oo.length + 1) cap2) (o2 := oo ++ [l.who]) (by rw [List.length_append, List.map_append]; exact hown1) hgrow (fun k e => by
                    simp only [Value.ownBlock, Option.some.injEq] at e
                    subst e
                    exact hat.imp id (fun e => by simp; omega))
                  have M3 := HM4.out.other hgrow (fun k e => (hout.out.lt k e).1)
                  have HS3 := Lib.hid S3
                  have HM3 := Lib.hid M3
                  clear S3 M3 hown1 hgrow hat HS4 HM4 hout hzc
                  go_wp2_with fail
                  go_roundg (gk - 1)
                  case measure => have := Hk.out; omega
                  case rel => exact ⟨k + 1, vk', by rw [Hn.out]; have := Hk.out; omega, by go_num, by rw [HQL.out]; exact HS3.out, HM3.out⟩
        · have hkn2 : k = n := by omega
          have hall : r0.take k = r0 := List.take_of_length_le (by rw [Hn.out]; omega)
          have hF : Lk.freeL s who = ((oo, 0), (hh, ff)) := by
            have hq := HQ.out
            rw [hall] at hq
            have hs := HS0.out
            unfold Lk.freeL
            cases q1 : Lk.has s.1 who with
            | true =>
              rw [q1] at hs
              simp only [if_true, Prod.mk.injEq] at hs
              rw [if_pos rfl, ← hs.1, ← hs.2, hq]
            | false =>
              rw [q1] at hs
              simp only [Bool.false_eq_true, if_false, Prod.mk.injEq] at hs
              have q2 : Lk.has s.2 who = true := by rcases HQ0.out with h | h; (rw [q1] at h; cases h); exact h
              rw [if_neg (by decide), if_pos q2, ← hs.1, ← hs.2, hq]
          have HF := Lib.hid hF
          have c1 := HS.out.obj.c1
          have f1 := HS.out.obj.f 1
          have HBW : Hid (B ≤ w.heap.size) := Lib.hid (by have := H0.out.hb; omega)
          clear hF hall hkn2
          obtain ⟨p9, n9, c9, rfl⟩ := owns_slice HS.out.left
          go_wp2_with fail
          go_ret2
          rw [HF.out]
          exact ⟨_, rfl, HS.out.out.kept (grown_set _ _ _ _) (own_but fun e => HS.out.d2 b e (.inl rfl)), ⟨_, _, HS.out.swap HBW.out, HW.out.swap (fun g e => (HS.out.left.lt g e).1)⟩, fun g e => (HS.out.out.lt g e).1⟩
theorem freeL_any {w : World} {B b : Nat} {vh vw : Value} {s : Lk.St} (h : LkAt 106 w B b vh vw s) (hm : s.1.length + s.2.length ≤ 30) (who : Int) :
    Calls Tryd.prog 20 #[.pointer (some ⟨b, 0, none⟩), iv who] w (FreePost B b vh vw (Lk.freeL s who) w) := by
  cases q1 : Lk.has s.1 who with
  | true => exact free_some h hm who (.inl q1)
  | false =>
    cases q2 : Lk.has s.2 who with
    | true => exact free_some h hm who (.inr q2)
    | false =>
      rw [show Lk.freeL s who = (([], 5), s) by rw [Lk.freeL, if_neg (by rw [q1]; decide), if_neg (by rw [q2]; decide)]]
      exact free_none h who q1 q2
end Go.Proofs.YtoddoekmgkcomaaDoor
