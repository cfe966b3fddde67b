/- The walk of the reference's Free. -/
import Derived.Test.YtoddoekmgkcomaaDoorLockT
namespace Go.Proofs.YtoddoekmgkcomaaDoor
open Go.ChangeShapes Go.WideShapes Go.ChangeAt Go.RowKit
set_option linter.unusedVariables false
attribute [local go_sem ↓] Go.wp_at_zero Go.wp_at_succ
theorem grown_refl (w : World) (row : Option Nat) : w.grownBy w row := ⟨rfl, rfl, rfl, Nat.le_refl _, fun _ _ _ => rfl⟩
theorem below_grown {w w1 : World} (h : Below w.heap.size w w1) (row : Option Nat) : w.grownBy w1 row := ⟨h.os, h.tape, h.output, h.size, fun k hk _ => h.block k hk⟩
section
variable {T : TypeId} {w w1 : World} {B b W : Nat} {x y vh vw v : Value} {s : Lk.St} {lv ov : Value} {ls : List Lk.L} {os : List Int}
/-- the second list has turned -/
theorem SS.new2 (h : SS T w B b W x y vh vw s lv ov ls os) {hs : List Lk.L} (hown : w1.ownsRow B 52 4 v hs.length (lcs hs)) (hg : w.grownBy w1 vw.ownBlock) (hat : ∀ g, v.ownBlock = some g → vw.ownBlock = some g ∨ w.heap.size ≤ g) :
    SS T w1 B b W x y vh v (s.1, hs) lv ov ls os := by
  have far : ∀ {u : Value}, (∀ g, u.ownBlock = some g → ¬ foot b vh vw g) → (∀ g, u.ownBlock = some g → g < w.heap.size) → ∀ g, u.ownBlock = some g → ¬ foot b vh v g := by
    intro u hu hlt g e hf
    rcases hf with hf | hf | hf
    · exact hu g e (.inl hf)
    · exact hu g e (.inr (.inl hf))
    · rcases hat g hf with e' | e'
      · exact hu g e (.inr (.inr e'))
      · have := hlt g e; omega
  exact ⟨h.obj.new2 hown hg hat, h.left.kept hg (own_else fun g e e' => h.d1 g e (.inr (.inr e'))), h.out.kept hg (own_else fun g e e' => h.d2 g e (.inr (.inr e'))),
    far h.d1 (fun g e => (h.left.lt g e).2), far h.d2 (fun g e => (h.out.lt g e).2), h.d3⟩
theorem SS.setY (h : SS T w B b W x y vh vw s lv ov ls os) (u : Value) : SS T (w.setCell ⟨b, 1, none⟩ u) B b W x u vh vw s lv ov ls os :=
  { h with obj := h.obj.setY u, left := h.left.kept (grown_set _ _ _ _) (own_but fun e => h.d1 b e (.inl rfl)), out := h.out.kept (grown_set _ _ _ _) (own_but fun e => h.d2 b e (.inl rfl)) }
end
theorem SS.app1 {T : TypeId} {w wx w1 : World} {B b W : Nat} {vh0 vw0 vk vs : Value} {s : Lk.St} {lv ov : Value} {ls : List Lk.L} {os : List Int} (h : SS T wx B b W vk vs vk vs s lv ov ls os) (hm : Way b vh0 vw0 w vk vs wx) (l : Lk.L) {g cap H : Nat}
    (hown : w1.ownsRow B 52 4 (.slice (some ⟨g, 0, none⟩) (s.1.length + 1) cap) (s.1.length + 1) (lcs s.1 ++ lc l)) (hg : wx.grownBy w1 vk.ownBlock) (hat : vk.ownBlock = some g ∨ g = H) (hH : wx.heap.size ≤ H) :
    SS T w1 B b W vk vs (.slice (some ⟨g, 0, none⟩) (s.1.length + 1) cap) vs (s.1 ++ [l], s.2) lv ov ls os ∧ Way b vh0 vw0 w (.slice (some ⟨g, 0, none⟩) (s.1.length + 1) cap) vs w1 := by
  have h2 : w1.ownsRow B 52 4 (.slice (some ⟨g, 0, none⟩) (s.1.length + 1) cap) (s.1 ++ [l]).length (lcs (s.1 ++ [l])) := by rw [← lcs_snoc, List.length_append]; exact hown
  have h3 : ∀ k, (Value.slice (some ⟨g, 0, none⟩) (s.1.length + 1) cap).ownBlock = some k → vk.ownBlock = some k ∨ wx.heap.size ≤ k := by
    intro k e
    simp only [Value.ownBlock, Option.some.injEq] at e
    subst e
    exact hat.imp id (fun e => by omega)
  exact ⟨h.new1 h2 hg h3, hm.new1 hg h3⟩
theorem SS.app2 {T : TypeId} {w wx w1 : World} {B b W : Nat} {vh0 vw0 vk vs : Value} {s : Lk.St} {lv ov : Value} {ls : List Lk.L} {os : List Int} (h : SS T wx B b W vk vs vk vs s lv ov ls os) (hm : Way b vh0 vw0 w vk vs wx) (l : Lk.L) {g cap H : Nat}
    (hown : w1.ownsRow B 52 4 (.slice (some ⟨g, 0, none⟩) (s.2.length + 1) cap) (s.2.length + 1) (lcs s.2 ++ lc l)) (hg : wx.grownBy w1 vs.ownBlock) (hat : vs.ownBlock = some g ∨ g = H) (hH : wx.heap.size ≤ H) :
    SS T w1 B b W vk vs vk (.slice (some ⟨g, 0, none⟩) (s.2.length + 1) cap) (s.1, s.2 ++ [l]) lv ov ls os ∧ Way b vh0 vw0 w vk (.slice (some ⟨g, 0, none⟩) (s.2.length + 1) cap) w1 := by
  have h2 : w1.ownsRow B 52 4 (.slice (some ⟨g, 0, none⟩) (s.2.length + 1) cap) (s.2 ++ [l]).length (lcs (s.2 ++ [l])) := by rw [← lcs_snoc, List.length_append]; exact hown
  have h3 : ∀ k, (Value.slice (some ⟨g, 0, none⟩) (s.2.length + 1) cap).ownBlock = some k → vs.ownBlock = some k ∨ wx.heap.size ≤ k := by
    intro k e
    simp only [Value.ownBlock, Option.some.injEq] at e
    subst e
    exact hat.imp id (fun e => by omega)
  exact ⟨h.new2 h2 hg h3, hm.new2 hg h3⟩
theorem owns_sliceG {w : World} {B : Nat} {e : TypeId} {size : Nat} {v : Value} {n : Nat} {xs : List Value} (h : w.ownsRow B e size v n xs) : ∃ p n c, v = .slice p n c := by
  rcases h.2 with ⟨h, _⟩ | ⟨g, cap, cur, h, _⟩
  · exact ⟨_, _, _, h⟩
  · exact ⟨_, _, _, h⟩
def RFreePost (B b : Nat) (vh vw : Value) (r : (List Int × Int) × Lk.St) (w : World) (e : Ending) (w' : World) : Prop :=
  ∃ v, e = .returned (.tuple #[v, iv r.1.2]) ∧ w'.ownsRow w.heap.size 3 1 v r.1.1.length (r.1.1.map iv) ∧ LkStep 45 w B b vh vw r.2 w'
def RFreeRel (w : World) (B b : Nat) (vh vw : Value) (h0 r0 : List Lk.L) (rv : Value) (gk : Nat) (ov i : Value) (wr : World) : Prop :=
  ∃ (k : Nat) (vk vs : Value), k + gk = r0.length ∧ i = iv k ∧ SS 45 wr B b w.heap.size vk vs vk vs ((Lk.sift h0 [] [] (r0.take k)).1.1, (Lk.sift h0 [] [] (r0.take k)).1.2) rv ov r0 (Lk.sift h0 [] [] (r0.take k)).2 ∧ Way b vh vw w vk vs wr
set_option maxRecDepth 100000 in
set_option maxHeartbeats 8000000 in
theorem rfree_any {w : World} {B b : Nat} {vh vw : Value} {s : Lk.St} (h : LkAt 45 w B b vh vw s) (hm : s.1.length + s.2.length ≤ 30) (who : Int) :
    Calls Tryd.prog 19 #[.pointer (some ⟨b, 0, none⟩), iv who] w (RFreePost B b vh vw (Lk.rfreeL s who) w) := by
  have a0 := h.c0
  have a1 := h.c1
  have H0 := Lib.hid h
  have Hm := Lib.hid hm
  obtain ⟨z1, hz1⟩ : ∃ z, z = Lk.has s.1 who := ⟨_, rfl⟩
  obtain ⟨z2, hz2⟩ : ∃ z, z = Lk.has s.2 who := ⟨_, rfl⟩
  have HQ1 := Lib.hid hz1
  have HQ2 := Lib.hid hz2
  have fA := h.f 0
  have fB := h.f 1
  clear h hm hz1 hz2
  cases hz : (z1 || z2) with
  | false =>
    simp only [Bool.or_eq_false_iff] at hz
    obtain ⟨rfl, rfl⟩ := hz
    have HP : Hid (Lk.rfreeL s who = (([], 5), s)) := Lib.hid (by rw [Lk.rfreeL, ← HQ1.out, ← HQ2.out]; rfl)
    go_enter Tryd.func19, Tryd.ntmps19
    go_wp2_with fail
    refine (whose_any s.1 who _ _ H0.out.row1).mono ?_
    rintro e w1 ⟨rfl, rfl⟩
    rw [← HQ1.out]
    go_wp2_with fail
    refine (whose_any s.2 who _ _ H0.out.row2).mono ?_
    rintro e w1 ⟨rfl, rfl⟩
    rw [← HQ2.out]
    go_wp2_with fail
    go_ret2
    rw [HP.out]
    exact ⟨_, rfl, World.ownsRow_nil _ _ _ _, LkStep.same H0.out (Below.refl _ _)⟩
  | true =>
    have HZ := Lib.hid hz
    have HP : Hid (Lk.rfreeL s who = (((Lk.sift (Lk.drop s.1 who) [] [] (Lk.drop s.2 who)).2, 0), (Lk.sift (Lk.drop s.1 who) [] [] (Lk.drop s.2 who)).1)) := Lib.hid (by
      rw [Lk.rfreeL, ← HQ1.out, ← HQ2.out, if_neg]
      cases z1 <;> cases z2 <;> simp_all)
    clear hz
    have hs1 : s.1.length ≤ 1000 := by have := Hm.out; omega
    have hs2 : s.2.length ≤ 1000 := by have := Hm.out; omega
    go_enter Tryd.func19, Tryd.ntmps19
    go_wp2_with fail
    refine (whose_any s.1 who _ _ H0.out.row1).mono ?_
    rintro e w1 ⟨rfl, rfl⟩
    rw [← HQ1.out]
    go_wp2_with fail
    refine (whose_any s.2 who _ _ H0.out.row2).mono ?_
    rintro e w1 ⟨rfl, rfl⟩
    rw [← HQ2.out]
    go_upto_region 3 with (fail)
    go_cut [30] (fun z wq => z = .bool false ∧ w = wq)
    case first => as_aux_lemma =>
      cases z1 <;> cases z2
      · exact absurd HZ.out (by decide)
      all_goals
        go_wp2_with fail
        go_meet
        exact ⟨rfl, rfl⟩
    case rest =>
    obtain ⟨rfl, rfl⟩ := hcut
    clear HQ1 HQ2 HZ
    go_wp2_with fail
    refine (drop_any s.1 hs1 who vh _ H0.out.row1).mono ?_
    rintro e w1 ⟨v1, rfl, hown, hb⟩
    obtain ⟨p1, n1, c1', rfl⟩ := owns_sliceG hown
    have hBw : B ≤ w.heap.size := by have := H0.out.hb; have := H0.out.lt; omega
    have N := H0.out.new1 (owns_base hown hBw) (below_grown hb _) (fun k e => .inr (hown.lt k e).1)
    have M := (Way.refl b vh vw w).new1 (v := .slice p1 n1 c1') (below_grown hb _) (fun k e => .inr (hown.lt k e).1)
    have n0 := N.c0
    have fn := N.f 0
    have HN := Lib.hid (N.setX (.slice p1 n1 c1'))
    have HM := Lib.hid (M.set 0 (.slice p1 n1 c1'))
    clear N M hown hb a0 a1 fA fB
    obtain ⟨wF, hwF⟩ : ∃ W : World, W = w1.setCell ⟨b, 0, none⟩ (.slice p1 n1 c1') := ⟨_, rfl⟩
    rw [← hwF] at HN HM
    have b1 := HN.out.c1
    have HWF := Lib.hid hwF
    clear hwF
    go_upto_region 6 with (fail)
    rw [show (w1.setCell ⟨b, 0, none⟩ (.slice p1 n1 c1')) = wF from HWF.out.symm]
    clear n0 fn HWF
    go_wp2_with fail
    refine (drop_any s.2 hs2 who vw _ HN.out.row2).mono ?_
    rintro e w2 ⟨v2, rfl, hown, hb⟩
    obtain ⟨p2, n2, c2', rfl⟩ := owns_sliceG hown
    have hzF : w.heap.size ≤ wF.heap.size := HM.out.kept.size
    have HO2 := Lib.hid (owns_base hown hzF)
    have N := (HN.out.below hb).new2 (v := .slice none 0 0) (w1 := w2) (ls := []) (World.ownsRow_nil _ _ _ _) (grown_refl _ _) (fun k e => by cases e)
    have M := (HM.out.below hb).new2 (v := .slice none 0 0) (w2 := w2) (grown_refl _ _) (fun k e => by cases e)
    have n1' := N.c1
    have fn := N.f 1
    have hlow2 := Lib.hid (fun k e => (hown.lt k e).1)
    have hfoot := Lib.hid (fun k e => (HN.out.low (b := b) (k := k) e).2)
    have HN2 := Lib.hid (N.setY (.slice none 0 0))
    have HM2 := Lib.hid (M.set 1 (.slice none 0 0))
    clear N M hown hb b1
    obtain ⟨wG, hwG⟩ : ∃ W : World, W = w2.setCell ⟨b, 1, none⟩ (.slice none 0 0) := ⟨_, rfl⟩
    have hS : SS 45 wG B b w.heap.size (.slice p1 n1 c1') (.slice none 0 0) (.slice p1 n1 c1') (.slice none 0 0) (Lk.drop s.1 who, []) (.slice p2 n2 c2') (.slice none 0 0) (Lk.drop s.2 who) [] := by
      have hbF := hfoot.out b (.inl rfl)
      refine ⟨by rw [hwG]; exact HN2.out, ?_, World.ownsRow_nil _ _ _ _, ?_, (fun g e => by cases e), (fun g e e' => by cases e')⟩
      · rw [hwG]
        exact HO2.out.kept (grown_set _ _ _ _) (own_but fun e => by have := hlow2.out b e; omega)
      · intro g e hf
        have h1 := hlow2.out g e
        rcases hf with hf | hf | hf
        · have := hfoot.out g (.inl hf); omega
        · have := hfoot.out g (.inr (.inl hf)); omega
        · cases hf
    have HS := Lib.hid hS
    have HW0 : Hid (Way b vh vw w (.slice p1 n1 c1') (.slice none 0 0) wG) := Lib.hid (by rw [hwG]; exact HM2.out)
    have HWG := Lib.hid hwG
    have hr30 : (Lk.drop s.2 who).length + (Lk.drop s.1 who).length ≤ 30 := by
      have := Hm.out
      have := drop_len_le s.1 who
      have := drop_len_le s.2 who
      omega
    have hn2 : n2 = (Lk.drop s.2 who).length := by
      rcases HO2.out.2 with ⟨e, h0⟩ | ⟨g, cap, cur, e, _⟩
      · injection e with _ e2 _; omega
      · injection e
    clear hS hwG HN2 HM2 hlow2 hfoot HO2 HN HM
    go_upto_region 8 with (fail)
    rw [show (w2.setCell ⟨b, 1, none⟩ (.slice none 0 0)) = wG from HWG.out.symm]
    clear n1' fn HWG
    generalize hh0 : Lk.drop s.1 who = h0 at *
    generalize hr0 : Lk.drop s.2 who = r0 at *
    subst hn2
    have HR30 := Lib.hid hr30
    generalize hn : r0.length = n at *
    have Hn := Lib.hid hn
    clear hn hr30 hh0 hr0
    go_wp2_with fail
    go_loopg [9, 10] n (fun gk o i wr => RFreeRel w B b vh vw h0 r0 (.slice p2 n c2') gk o i wr)
    case atStart => exact ⟨0, _, _, by rw [Hn.out]; omega, rfl, HS.out, HW0.out⟩
    case round =>
      clear HS HW0
      obtain ⟨k, vk, vs, hk, rfl, hS, hW⟩ := hrel
      rw [Hn.out] at hk
      have Hk := Lib.hid hk
      have hkn : k ≤ n := by omega
      have hsz := sift_sizes (r0.take k) h0 [] []
      rw [List.length_take, Nat.min_eq_left (by rw [Hn.out]; exact hkn)] at hsz
      have hsn := fun l => sift_snoc (r0.take k) h0 [] [] l
      generalize hq : Lk.sift h0 [] [] (r0.take k) = q at *
      obtain ⟨⟨hh, ff⟩, oo⟩ := q
      simp only [List.length_nil, Nat.add_zero, Nat.zero_add] at hsz hsn
      have hb30 := HR30.out
      have hn30 : n ≤ 30 := by omega
      have hh30 : hh.length ≤ 30 := by omega
      have ff30 : ff.length ≤ 30 := by omega
      have oo30 : oo.length ≤ 30 := by omega
      have HSN := Lib.hid hsn
      have HQ := Lib.hid hq
      have HW := Lib.hid hW
      have HS := Lib.hid hS
      have hbB := hS.obj.hb
      have hwz := hW.kept.size
      clear hk hq hsn hsz hb30 hS hW
      by_cases hlt : k < n
      · obtain ⟨l, hl⟩ : ∃ l, r0[k]? = some l := ⟨r0[k]'(by rw [Hn.out]; exact hlt), List.getElem?_eq_getElem _⟩
        have HL := Lib.hid hl
        have hax : r0.take (k + 1) = r0.take k ++ [l] := by rw [List.take_add_one, hl]; rfl
        have HAX := Lib.hid hax
        obtain ⟨gb, off, cc, hq, _, _⟩ := (rowL_of_owns HS.out.left).at (Below.refl _ _) hl
        simp only [Value.slice.injEq] at hq
        obtain ⟨rfl, hpx, rfl⟩ := hq
        have kn : (k : Int) < (n : Int) := by omega
        have k0 : (0 : Int) ≤ (k : Int) := by omega
        clear hl hax hpx
        obtain ⟨f1, hf1⟩ : ∃ z, z = Lk.free hh l := ⟨_, rfl⟩
        obtain ⟨f2, hf2⟩ : ∃ z, z = Lk.free ff l := ⟨_, rfl⟩
        have HZ1 := Lib.hid hf1
        have HZ2 := Lib.hid hf2
        clear hf1 hf2
        obtain ⟨wO, hwO⟩ : ∃ x : World, x = wr := ⟨_, rfl⟩
        subst hwO
        go_upto_region 12 with (fail)
        go_cut [11] (fun z wq => z = .bool f1 ∧ Below wO.heap.size wO wq)
        case first => as_aux_lemma =>
          obtain ⟨gb', off', cc', hq', _, hgb, d0, d1, d2, d3⟩ := (rowL_of_owns HS.out.left).at (Below.refl _ _) HL.out
          simp only [Value.slice.injEq, Option.some.injEq, Addr.mk.injEq, and_true] at hq'
          obtain ⟨⟨rfl, rfl⟩, hpx, rfl⟩ := hq'
          clear hpx
          have a0 := HS.out.obj.c0
          have a1 := HS.out.obj.c1
          have hbE := HS.out.obj.lt
          go_region_held3 (fun w' => w'.cell? ⟨b, 0, none⟩ = some vk ∧ w'.cell? ⟨gb, off + k * 4, none⟩ = some (iv l.who) ∧ w'.cell? ⟨gb, off + k * 4 + 1, none⟩ = some (iv l.fr) ∧ w'.cell? ⟨gb, off + k * 4 + 2, none⟩ = some (iv l.to) ∧ w'.cell? ⟨gb, off + k * 4 + 3, none⟩ = some (.bool l.al))
            (first
              | exact ⟨a0, d0, d1, d2, d3⟩
              | exact K1
              | go_keep)
            (first
              | (go_at_call 55; refine (clear_any hh l _ _ (HS.out.obj.row1.drewG)).mono ?_; rintro e w1 ⟨rfl, hb1⟩; have HB1 := Lib.hid (drewBG hb1); have k0 := fun o => HB1.out.cell (p := ⟨gb, o, none⟩) hgb; have K1 := And.intro ((HB1.out.cell (p := ⟨b, 0, none⟩) hbE).trans a0) (And.intro ((k0 _).trans d0) (And.intro ((k0 _).trans d1) (And.intro ((k0 _).trans d2) ((k0 _).trans d3)))); clear hb1 k0))
          go_wp2_with fail
          go_meet
          exact ⟨by rw [HZ1.out], HB1.out⟩
        case rest =>
        obtain ⟨rfl, hbc⟩ := hcut
        have E1 := Lib.hid (HS.out.below hbc)
        have W1 := Lib.hid (HW.out.below hbc)
        clear hbc
        go_upto_region 13 with (fail)
        go_cut [12] (fun z wq => z = .bool f2 ∧ Below wc.heap.size wc wq)
        case first => as_aux_lemma =>
          obtain ⟨gb', off', cc', hq', _, hgb, d0, d1, d2, d3⟩ := (rowL_of_owns E1.out.left).at (Below.refl _ _) HL.out
          simp only [Value.slice.injEq, Option.some.injEq, Addr.mk.injEq, and_true] at hq'
          obtain ⟨⟨rfl, rfl⟩, hpx, rfl⟩ := hq'
          clear hpx
          have a0 := E1.out.obj.c0
          have a1 := E1.out.obj.c1
          have hbE := E1.out.obj.lt
          go_region_held3 (fun w' => w'.cell? ⟨b, 1, none⟩ = some vs ∧ w'.cell? ⟨gb, off + k * 4, none⟩ = some (iv l.who) ∧ w'.cell? ⟨gb, off + k * 4 + 1, none⟩ = some (iv l.fr) ∧ w'.cell? ⟨gb, off + k * 4 + 2, none⟩ = some (iv l.to) ∧ w'.cell? ⟨gb, off + k * 4 + 3, none⟩ = some (.bool l.al))
            (first
              | exact ⟨a1, d0, d1, d2, d3⟩
              | exact K1
              | go_keep)
            (first
              | (go_at_call 55; refine (clear_any ff l _ _ (E1.out.obj.row2.drewG)).mono ?_; rintro e w1 ⟨rfl, hb1⟩; have HB1 := Lib.hid (drewBG hb1); have k0 := fun o => HB1.out.cell (p := ⟨gb, o, none⟩) hgb; have K1 := And.intro ((HB1.out.cell (p := ⟨b, 1, none⟩) hbE).trans a1) (And.intro ((k0 _).trans d0) (And.intro ((k0 _).trans d1) (And.intro ((k0 _).trans d2) ((k0 _).trans d3)))); clear hb1 k0))
          go_wp2_with fail
          go_meet
          exact ⟨by rw [HZ2.out], HB1.out⟩
        case rest =>
        obtain ⟨rfl, hbc⟩ := hcut
        have E2 := Lib.hid (E1.out.below hbc)
        have W2 := Lib.hid (W1.out.below hbc)
        clear hbc E1 W1
        obtain ⟨wE, hwE⟩ : ∃ x : World, x = wc := ⟨_, rfl⟩
        subst hwE
        go_upto_region 14 with (fail)
        go_cut [76] (fun z wq => z = .bool (f1 && f2) ∧ wE = wq)
        case first => as_aux_lemma =>
          cases f1 <;> cases f2
          all_goals
            go_wp2_with fail
            go_meet
            exact ⟨rfl, rfl⟩
        case rest =>
        obtain ⟨rfl, rfl⟩ := hcut
        cases hf : (f1 && f2) with
        | true =>
          have HQL : Hid (Lk.sift h0 [] [] (r0.take (k + 1)) = ((hh ++ [l], ff), oo ++ [l.who])) := Lib.hid (by rw [HAX.out, HSN.out]; simp only [← HZ1.out, ← HZ2.out]; rw [if_pos hf])
          clear hf HZ1 HZ2
          go_upto_region 15 with (fail)
          go_cut [] (fun wq => ∃ vk', SS 45 wq B b w.heap.size vk' vs vk' vs (hh ++ [l], ff) (.slice (some ⟨gb, off, none⟩) n c2') u9 r0 oo ∧ Way b vh vw w vk' vs wq ∧ w.heap.size ≤ wq.heap.size)
          case first =>
            obtain ⟨gb', off', cc', hq', _, hgb, d0, d1, d2, d3⟩ := (rowL_of_owns E2.out.left).at (Below.refl _ _) HL.out
            simp only [Value.slice.injEq, Option.some.injEq, Addr.mk.injEq, and_true] at hq'
            obtain ⟨⟨rfl, rfl⟩, hpx, rfl⟩ := hq'
            clear hpx
            have a0 := E2.out.obj.c0
            have a1 := E2.out.obj.c1
            have hbE := E2.out.obj.lt
            have hbB2 : B ≤ wE.heap.size := by omega
            have hown := Lib.hid E2.out.obj.own1
            have q0 : ∀ o, (wE.alloc o).cell? ⟨b, 0, none⟩ = some vk := fun o => (((Below.refl wE.heap.size wE).alloc (Nat.le_refl _) o).cell (p := ⟨b, 0, none⟩) hbE).trans a0
            have q1 : ∀ o, (wE.alloc o).cell? ⟨gb, off + k * 4, none⟩ = some (iv l.who) := fun o => (((Below.refl wE.heap.size wE).alloc (Nat.le_refl _) o).cell (p := ⟨gb, off + k * 4, none⟩) hgb).trans d0
            have hbx : Below wE.heap.size wE ((wE.alloc (.cells (lc l).toArray 52)).drew) := ((Below.refl _ _).alloc (Nat.le_refl _) _).drew
            have HSX := Lib.hid (E2.out.below hbx)
            have HWX := Lib.hid (W2.out.below hbx)
            have hzx : ((wE.alloc (.cells (lc l).toArray 52)).drew).heap.size ≤ wE.heap.size + 1 := by simp
            have HZX := Lib.hid hzx
            clear hbx hzx
            obtain ⟨i0, hi0, hz0, hz1, hz2⟩ := info_parts info_lock
            go_region_law
              ((refine step_append_lies _ (by rfl) _ _ _ (by rfl) B 52 i0 _ 4 32 Tryd.underlying39 hi0 hz0 hz1 hz2 rfl (by omega) vk hh.length (lcs hh) (by rfl) ((hown.out.alloc _).drew) ⟨wE.heap.size, 0, none⟩ 1 1 (lc l) (by rfl) (by rfl) (World.news_of_block (cs := (lc l).toArray) (t := 52) (fr := (0, 0)) (heap_alloc_new wE _)) (lc_one l) (by omega) (by unfold maxLen; omega) (by omega) (by simp; omega) (wE.heap.size + 1) (by simp) ?_; intro gg cap w1 hown1 hgrow hat hlt; obtain ⟨N, M⟩ := SS.app1 HSX.out HWX.out l hown1 hgrow hat HZX.out; have HN := Lib.hid N; have HM := Lib.hid M; have n0 := N.obj.c0; have fn := N.obj.f 0; have hz1' := M.kept.size; clear N M hown1 hgrow hat))
            all_goals
              (go_wp2_with fail; go_meet; exact ⟨_, HN.out.setX _, HM.out.set 0 _, by simp [World.setCell]; exact hz1'⟩)
          case rest =>
            obtain ⟨vk', X, M, hzw⟩ := hcut
            obtain ⟨wH, hwH⟩ : ∃ x : World, x = wc := ⟨_, rfl⟩
            subst hwH
            have E3 := Lib.hid X
            have W3 := Lib.hid M
            have hout := Lib.hid X.out
            clear X M E2 W2
            obtain ⟨gb', off', cc', hq', _, hgb, d0, d1, d2, d3⟩ := (rowL_of_owns E3.out.left).at (Below.refl _ _) HL.out
            simp only [Value.slice.injEq, Option.some.injEq, Addr.mk.injEq, and_true] at hq'
            obtain ⟨⟨rfl, rfl⟩, hpx, rfl⟩ := hq'
            clear hpx
            have a0 := E3.out.obj.c0
            have a1 := E3.out.obj.c1
            have hbE := E3.out.obj.lt
            have HS4 := Lib.hid (E3.out.below ((Below.refl wH.heap.size wH).alloc (Nat.le_refl _) (.cells #[iv l.who] 3)))
            have HM4 := Lib.hid (W3.out.below ((Below.refl wH.heap.size wH).alloc (Nat.le_refl _) (.cells #[iv l.who] 3)))
            obtain ⟨j0, hj0, hy0, hy1, hy2⟩ := info_parts info_int
            go_wp2_with (at_builtin; refine wpList_append_lies _ rfl _ _ 40 rfl w.heap.size 3 j0 _ 1 8 Tryd.underlying40 hj0 hy0 hy1 hy2 rfl (by omega) _ oo.length (oo.map iv) rfl (hout.out.alloc _) ⟨wH.heap.size, 0, none⟩ 1 1 [iv l.who] rfl rfl (World.news_of_block (cs := #[iv l.who]) (t := 3) (fr := (0, 0)) (heap_alloc_new wH _)) ?d0 (by omega) ?d1 ?d2 ?d3 (wH.heap.size + 1) ?d4 ?_)
            case d0 => first | rfl | (intro u hu; rw [List.mem_singleton] at hu; subst hu; rfl)
            case d1 => unfold maxLen; omega
            case d2 => omega
            case d3 => (try simp) <;> omega
            try case d4 => simp
            intro g2 cap2 w3 hown1 hgrow hat hlt2
            have S3 := HS4.out.newO (v := .slice (some ⟨g2, 0, none⟩) (oo.length + 1) cap2) (o2 := oo ++ [l.who]) (by rw [List.length_append, List.map_append]; exact hown1) hgrow (fun k e => by
              simp only [Value.ownBlock, Option.some.injEq] at e
              subst e
              exact hat.imp id (fun e2 => Nat.le_of_eq (by rw [e2]; simp)))
            have M3 := HM4.out.other hgrow (fun k e => (hout.out.lt k e).1)
            have HS3 := Lib.hid S3
            have HM3 := Lib.hid M3
            clear S3 M3 hown1 hgrow hat HS4 HM4 hout a0 a1 d0 d1 d2 d3
            go_wp2_with fail
            go_roundg (gk - 1)
            case measure => have := Hk.out; omega
            case rel =>
              have hk9 := Hk.out
              exact ⟨k + 1, vk', vs, by rw [Hn.out]; omega, by go_num, by rw [HQL.out]; exact HS3.out, HM3.out⟩
        | false =>
          have HQL : Hid (Lk.sift h0 [] [] (r0.take (k + 1)) = ((hh, ff ++ [l]), oo)) := Lib.hid (by rw [HAX.out, HSN.out]; simp only [← HZ1.out, ← HZ2.out]; rw [if_neg (by rw [hf]; decide)])
          clear hf HZ1 HZ2
          go_upto_region 17 with (fail)
          obtain ⟨gb', off', cc', hq', _, hgb, d0, d1, d2, d3⟩ := (rowL_of_owns E2.out.left).at (Below.refl _ _) HL.out
          simp only [Value.slice.injEq, Option.some.injEq, Addr.mk.injEq, and_true] at hq'
          obtain ⟨⟨rfl, rfl⟩, hpx, rfl⟩ := hq'
          clear hpx
          have a0 := E2.out.obj.c0
          have a1 := E2.out.obj.c1
          have hbE := E2.out.obj.lt
          have hbB2 : B ≤ wE.heap.size := by omega
          have hown := Lib.hid E2.out.obj.own2
          have q0 : ∀ o, (wE.alloc o).cell? ⟨b, 1, none⟩ = some vs := fun o => (((Below.refl wE.heap.size wE).alloc (Nat.le_refl _) o).cell (p := ⟨b, 1, none⟩) hbE).trans a1
          have q1 : ∀ o, (wE.alloc o).cell? ⟨gb, off + k * 4, none⟩ = some (iv l.who) := fun o => (((Below.refl wE.heap.size wE).alloc (Nat.le_refl _) o).cell (p := ⟨gb, off + k * 4, none⟩) hgb).trans d0
          have hbx : Below wE.heap.size wE ((wE.alloc (.cells (lc l).toArray 52)).drew) := ((Below.refl _ _).alloc (Nat.le_refl _) _).drew
          have HSX := Lib.hid (E2.out.below hbx)
          have HWX := Lib.hid (W2.out.below hbx)
          have hzx : ((wE.alloc (.cells (lc l).toArray 52)).drew).heap.size ≤ wE.heap.size + 1 := by simp
          have HZX := Lib.hid hzx
          clear hbx hzx
          obtain ⟨i0, hi0, hz0, hz1, hz2⟩ := info_parts info_lock
          go_region_law
            ((refine step_append_lies _ (by rfl) _ _ _ (by rfl) B 52 i0 _ 4 32 Tryd.underlying39 hi0 hz0 hz1 hz2 rfl (by omega) vs ff.length (lcs ff) (by rfl) ((hown.out.alloc _).drew) ⟨wE.heap.size, 0, none⟩ 1 1 (lc l) (by rfl) (by rfl) (World.news_of_block (cs := (lc l).toArray) (t := 52) (fr := (0, 0)) (heap_alloc_new wE _)) (lc_one l) (by omega) (by unfold maxLen; omega) (by omega) (by simp; omega) (wE.heap.size + 1) (by simp) ?_; intro gg cap w1 hown1 hgrow hat hlt; obtain ⟨N, M⟩ := SS.app2 HSX.out HWX.out l hown1 hgrow hat HZX.out; have HN := Lib.hid N; have HM := Lib.hid M; have n0 := N.obj.c1; have fn := N.obj.f 1; have hz1' := M.kept.size; clear N M hown1 hgrow hat))
          all_goals
            skip
          all_goals
            have HS3 := Lib.hid (HN.out.setY (.slice (some ⟨gg, 0, none⟩) (ff.length + 1) cap))
            have HM3 := Lib.hid (HM.out.set 1 (.slice (some ⟨gg, 0, none⟩) (ff.length + 1) cap))
            clear HN HM n0 fn hz1'
            go_wp2_with fail
            go_roundg (gk - 1)
            case measure => have := Hk.out; omega
            case rel => exact ⟨k + 1, vk, _, by rw [Hn.out]; have := Hk.out; omega, by go_num, by rw [HQL.out]; exact HS3.out, HM3.out⟩
      · have hkn2 : k = n := by omega
        have hall : r0.take k = r0 := List.take_of_length_le (by rw [Hn.out]; omega)
        have hF : Lk.rfreeL s who = ((oo, 0), (hh, ff)) := by
          have hq := HQ.out
          rw [hall] at hq
          rw [HP.out, hq]
        have HF := Lib.hid hF
        clear hF hall hkn2
        go_wp2_with fail
        go_ret2
        rw [HF.out]
        exact ⟨_, rfl, HS.out.out, ⟨_, _, HS.out.obj, HW.out⟩⟩
end Go.Proofs.YtoddoekmgkcomaaDoor
