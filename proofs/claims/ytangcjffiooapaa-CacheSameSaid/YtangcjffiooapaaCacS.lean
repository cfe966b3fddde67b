/- The walk of the law CacheSame: it returns true. -/
import Derived.Test.YtangcjffiooapaaCacQ
import Derived.Test.YtangcjffiooapaaInts
import Derived.Test.YtangcjffiooapaaIn
import Derived.Test.YtangcjffiooapaaSteps
import Derived.Test.YtangcjffiooapaaTexts
namespace Go.Proofs.Ytangcjffiooapaa
open Go.ChangeShapes Go.WideShapes Go.ChangeAt Go.RowKit Go.Maps
set_option linter.unusedVariables false
def ab : List ByteArray := [⟨#[97]⟩, ⟨#[98]⟩]
def ab0 : Cc.C := Cc.new ab 1
def ab1 : Cc.C := (Cc.write ab0 0 ⟨#[120]⟩).2
def ab2 : Cc.C := (Cc.read ab1 0).2
theorem ab_F : cellsF ab = 0 := by decide +kernel
theorem ab_inv : Cc.Inv ab0 := Cc.Inv.new (by omega) (by omega) (by decide) (by decide)
theorem ab_write : Cc.write ab0 0 ⟨#[120]⟩ = (0, ab1) := rfl
theorem ab_read : Cc.read ab1 0 = ((⟨#[120]⟩, 0), ab2) := rfl
theorem ab_below : ab2.below = ab := rfl
theorem ab_row (w : World) : Row (w.alloc (.cells #[.string ⟨#[97]⟩, .string ⟨#[98]⟩] 9)) (.slice (some ⟨w.heap.size, 0, none⟩) 2 2) (ab.map Value.string) := by
  refine ⟨some ⟨w.heap.size, 0, none⟩, 2, rfl, Nat.le_refl _, by decide, (fun h => by cases h), fun _ => ⟨w.heap.size, 0, rfl, fun j hj => ?_⟩⟩
  rw [cell_of_row _ _ _ _ _ _ (heap_alloc_new w _), Nat.zero_add]
  have hj2 : j < 2 := hj
  have h2 : j = 0 ∨ j = 1 := by omega
  rcases h2 with rfl | rfl <;> rfl
set_option maxRecDepth 100000 in
set_option maxHeartbeats 4000000 in
theorem cacheSame_bad (cells : List ByteArray) (room : Int) (hbad : cellsF cells ≠ 0 ∨ cellsF cells = 0 ∧ (room < 1 ∨ 1 ≤ room ∧ 12 < room)) (va vs vl : Value) (w : World) (ha : Row w va (cells.map Value.string)) :
    Calls Try.prog 4 #[va, iv room, vs, vl] w fun e w' => e = .returned (.bool true) ∧ Below w.heap.size w w' := by
  have HN := Lib.hid (cacNew_any ab 1 (by omega) (by omega) ab_F _ _ (ab_row w))
  have hb0 : Below w.heap.size w (w.alloc (.cells #[.string ⟨#[97]⟩, .string ⟨#[98]⟩] 9)) := (Below.refl _ _).alloc (Nat.le_refl _) _
  have HB0 := Lib.hid hb0
  have hz0 := hb0.size
  clear hb0
  go_enter Try.func4, Try.ntmps4
  go_wp2_with fail
  refine HN.out.mono ?_
  rintro e w1 ⟨b1, rfl, hO1, hb1⟩
  have HB1 := Lib.hid (HB0.out.trans (hb1.mono hz0))
  have hz1 := HB1.out.size
  have HW := Lib.hid (cwrite_any (F := fun k => w.heap.size ≤ k) (hO1.wide (fun k _ hk => Nat.le_trans hz0 hk)) ab_inv (fun k hk => by omega) (by omega) 0 ⟨#[120]⟩ (by decide))
  rw [show Cc.new ab 1 = ab0 from rfl, ab_write] at HW
  clear hO1 hb1 HN HB0
  go_wp2_with fail
  refine HW.out.mono ?_
  rintro e w2 ⟨he, hO2, hK2⟩
  obtain rfl : e = .returned .nilIface := he
  have HB2 := Lib.hid (HB1.out.trans (hK2.toBelow hz1 (fun k _ hk => hk)))
  have hz2 := HB2.out.size
  have HR := Lib.hid (cread_any (F := fun k => w.heap.size ≤ k) hO2 (by rw [← show (Cc.write ab0 0 ⟨#[120]⟩).2 = ab1 from rfl]; exact ab_inv.write 0 _) (fun k hk => by omega) (by omega) (by decide) 0)
  rw [ab_read] at HR
  clear hO2 hK2 HW HB1
  go_wp2_with fail
  refine HR.out.mono ?_
  rintro e w3 ⟨he, hO3, hK3⟩
  obtain rfl : e = .returned (.tuple #[.string ⟨#[120]⟩, .nilIface]) := he
  have HB3 := Lib.hid (HB2.out.trans (hK3.toBelow hz2 (fun k _ hk => hk)))
  have hz3 := HB3.out.size
  have HL := Lib.hid (cbelow_any hO3 (by decide))
  clear hO3 hK3 HR HB2
  go_wp2_with fail
  refine HL.out.mono ?_
  rintro e w4 ⟨v4, rfl, hown4, hb4⟩
  rw [show ab2.below = ab from rfl] at hown4
  obtain ⟨g4, cap4, rfl, _, hg4, _, _, hc4, _⟩ := owns_pos hown4 (by decide)
  have c4 : w4.cell? ⟨g4, 0, none⟩ = some (.string ⟨#[97]⟩) := hc4 0 (by decide)
  have HB4 := Lib.hid (HB3.out.trans (hb4.mono hz3))
  have hz4 := HB4.out.size
  have lab : ab.length = 2 := rfl
  rw [lab]
  clear hown4 hb4 hc4 HL HB3
  go_wp2_with fail
  have HC : Hid (∃ k : Int, Calls Try.prog 8 #[va, iv room] w4 fun e w' => e = .returned (.tuple #[.pointer none, ev k]) ∧ w4 = w') := Lib.hid (by
    have ha4 := ha.low (Nat.le_refl _) HB4.out
    rcases hbad with h | ⟨h, h'⟩
    · exact ⟨_, cacNew_bad cells room h va w4 ha4⟩
    · exact ⟨_, cacNew_no cells room h' h va w4 ha4⟩)
  obtain ⟨k, hC⟩ := HC.out
  have HC2 := Lib.hid hC
  clear hC HC hbad ha
  refine HC2.out.mono ?_
  rintro e w' ⟨rfl, rfl⟩
  go_wp2_with fail
  go_ret
  exact ⟨rfl, HB4.out⟩
structure CSt (w : World) (b room m j : Nat) (vn : Value) (wr : World) (c : Cc.C) (now : List ByteArray) : Prop where
  ok : CacOk (fun k => w.heap.size ≤ k ∧ vn.ownBlock ≠ some k) wr b j c
  inv : Cc.Inv c
  nw : Cc.Now c now
  row : OwnR wr w.heap.size 9 vn (now.map Value.string)
  rm : c.room = room
  hits : c.hits ≤ j
  len : now.length = m
  bel : Below w.heap.size w wr
theorem CSt.below {w : World} {b room m j : Nat} {vn : Value} {wr w' : World} {c : Cc.C} {now : List ByteArray} (h : CSt w b room m j vn wr c now) (hb : Below wr.heap.size wr w') : CSt w b room m j vn w' c now :=
  { h with ok := h.ok.below hb, row := h.row.below hb, bel := h.bel.trans (hb.mono h.bel.size) }
theorem OwnR.fz {w : World} {base : Nat} {E : TypeId} {v : Value} {xs : List Value} (h : OwnR w base E v xs) {g : Nat} (hg : v.ownBlock = some g) (k : Nat) : w.frozen? ⟨g, k, none⟩ = false := by
  rcases h with ⟨rfl, _⟩ | ⟨g', o, cap, cur, rfl, _, hgb, _⟩
  · cases hg
  · obtain rfl := Option.some.inj hg
    exact frozen_of_row _ _ _ _ _ hgb
theorem OwnR.setStr {w : World} {base g o n cap k : Nat} {l : List ByteArray} (h : OwnR w base 9 (.slice (some ⟨g, o, none⟩) n cap) (l.map Value.string)) (hk : k < l.length) (s : ByteArray) :
    OwnR (w.setCell ⟨g, o + k, none⟩ (.string s)) base 9 (.slice (some ⟨g, o, none⟩) n cap) ((l.set k s).map Value.string) := by
  rcases h with ⟨hn, hx⟩ | ⟨g', o', cap', cur, hv', hb', hg', h1, h2, h3, h4⟩
  · cases hn
  · rw [List.length_map] at h1 h4 hv'
    injection hv' with e1 e2 e3
    injection e1 with e1
    injection e1 with e4 e5
    subst e4 e5 e3
    refine .inr ⟨g, o, cap, cur.setIfInBounds (o + k) (.string s), by rw [List.length_map, List.length_set, e2], hb', heap_setCell_same _ _ _ _ _ _ hg', by rw [List.length_map, List.length_set]; exact h1, h2, by rw [Array.size_setIfInBounds]; exact h3, fun j hj => ?_⟩
    rw [List.length_map, List.length_set] at hj
    rw [List.map_set, List.getElem?_set, List.length_map]
    by_cases e : k = j
    · subst e
      rw [Array.getElem?_setIfInBounds_self_of_lt (by omega), if_pos rfl, if_pos hk]
    · rw [Array.getElem?_setIfInBounds_ne (by omega), if_neg e]
      exact h4 j hj
theorem CSt.hF {w : World} {b room m j : Nat} {vn : Value} {wr : World} {c : Cc.C} {now : List ByteArray} (h : CSt w b room m j vn wr c now) : ∀ k, wr.heap.size ≤ k → w.heap.size ≤ k ∧ vn.ownBlock ≠ some k :=
  fun k hk => ⟨by have := h.bel.size; omega, fun e => by have := (h.row.lt e).2; omega⟩
/-- the cache has turned, what it answers has not -/
theorem CSt.turn {w : World} {b room m j j2 : Nat} {vn : Value} {wr w' : World} {c c2 : Cc.C} {now : List ByteArray} (h : CSt w b room m j vn wr c now) {F : Nat → Prop} (hF : ∀ k, F k → w.heap.size ≤ k ∧ vn.ownBlock ≠ some k)
    (ho : CacOk F w' b j2 c2) (hk : Kept F wr w') (hi : Cc.Inv c2) (hn : Cc.Now c2 now) (hr : c2.room = c.room) (hh : c2.hits ≤ j2) : CSt w b room m j2 vn w' c2 now :=
  ⟨ho.wide (fun k _ hk => hF k hk), hi, hn, h.row.kept hk (fun g hg hk => (hF g hk).2 hg), hr.trans h.rm, hh, h.len, h.bel.trans (hk.toBelow h.bel.size (fun k _ hk => (hF k hk).1))⟩
theorem CSt.read {w : World} {b room m j : Nat} {vn : Value} {wr w' : World} {c : Cc.C} {now : List ByteArray} (h : CSt w b room m j vn wr c now) {F : Nat → Prop} (hF : ∀ k, F k → w.heap.size ≤ k ∧ vn.ownBlock ≠ some k) (y : Int)
    (ho : CacOk F w' b (j + 1) (Cc.read c y).2) (hk : Kept F wr w') : CSt w b room m (j + 1) vn w' (Cc.read c y).2 now :=
  h.turn hF ho hk (h.inv.read y) (h.nw.read h.inv y) (Cc.room_read c y).1 (Nat.le_trans (Cc.hits_read c y) (Nat.succ_le_succ h.hits))
theorem CacOk.set {F : Nat → Prop} {w : World} {b n : Nat} {c : Cc.C} (h : CacOk F w b n c) {g k : Nat} (hg : ¬ F g) (v : Value) : CacOk F (w.setCell ⟨g, k, none⟩ v) b n c := by
  obtain ⟨mb, vb, vr, vd, D, h1, h2⟩ := h
  have hk : Kept (· = g) w (w.setCell ⟨g, k, none⟩ v) := (Kept.self g w).set1 _ _
  exact ⟨mb, vb, vr, vd, D, h1.kept hk (fun e => hg (e ▸ h2.b)) (fun e => hg (e ▸ h2.m)) (fun q hq e => hg (e ▸ h2.v1 q hq)) (fun q hq e => hg (e ▸ h2.v2 q hq)) (fun q hq e => hg (e ▸ h2.v3 q hq)), h2⟩
/-- one cell has turned in both: the cache by its Write, what it answers by a store -/
theorem CSt.put {w : World} {b room m j q gn on cn : Nat} {pn : Option Addr} {wr w' : World} {c c2 : Cc.C} {now : List ByteArray} (h : CSt w b room m j (.slice pn m cn) wr c now) {F : Nat → Prop} (hF : ∀ k, F k → w.heap.size ≤ k ∧ (Value.slice pn m cn).ownBlock ≠ some k)
    (e1 : pn = some ⟨gn, on, none⟩) (hgF : ¬ F gn) (hq : q < m) (s : ByteArray) (hgn : w.heap.size ≤ gn) (ho : CacOk F w' b (j + 1) c2) (hk : Kept F wr w') (hi : Cc.Inv c2) (hn : Cc.Now c2 (now.set q s)) (hr : c2.room = c.room) (hh : c2.hits = c.hits) :
    CSt w b room m (j + 1) (.slice pn m cn) (w'.setCell ⟨gn, on + q, none⟩ (.string s)) c2 (now.set q s) := by
  have hrow := h.row.kept hk (fun g hg hk => (hF g hk).2 hg)
  refine ⟨(ho.set hgF _).wide (fun k _ hk => hF k hk), hi, hn, ?_, hr.trans h.rm, by rw [hh]; exact Nat.le_succ_of_le h.hits, by rw [List.length_set]; exact h.len, ?_⟩
  · rw [e1] at hrow ⊢
    exact hrow.setStr (by rw [h.len]; exact hq) s
  · exact (h.bel.trans (hk.toBelow h.bel.size (fun k _ hk => (hF k hk).1))).setCell hgn _
def CSFin (w : World) (b room m j : Nat) (vn : Value) (now : List ByteArray) (gk : Nat) (i : Value) (wr : World) : Prop :=
  ∃ (k : Nat) (c : Cc.C), k + gk = m ∧ i = iv k ∧ CSt w b room m (j + k) vn wr c now
def CSRel (w : World) (b room m N : Nat) (vn : Value) (gk : Nat) (i : Value) (wr : World) : Prop :=
  ∃ (j : Nat) (c : Cc.C) (now : List ByteArray), j + gk = N ∧ j ≤ 80 ∧ i = iv j ∧ CSt w b room m j vn wr c now
set_option maxRecDepth 100000 in
set_option maxHeartbeats 8000000 in
theorem cacheSame_core (cells : List ByteArray) (room : Nat) (h1 : 1 ≤ room) (h2 : room ≤ 12) (h0 : cellsF cells = 0) (ls : List ByteArray) (hls : ∀ s ∈ ls, s.size ≤ maxLen) (xss : List (List Int)) (va v vl : Value) (w : World) (ha : Row w va (cells.map Value.string)) (hx : Rows2 w v xss) (hl : Strs w vl ls) :
    Calls Try.prog 4 #[va, iv room, v, vl] w fun e w' => e = .returned (.bool true) ∧ Below w.heap.size w w' := by
  have hzi2 := zero_int2
  obtain ⟨i0, hi, hq0, hq1, hq2⟩ := info_parts info_strS
  obtain ⟨us, hus, hlen, hrows⟩ := hx
  obtain ⟨po, co, rfl, hc1, hc2, hcells⟩ := hus.shape
  rw [hlen] at *
  have Hrows := Lib.hid hrows
  have Hcells := Lib.hid hcells
  unfold maxLen at hc2
  have hNN : xss.length ≤ 9223372036854775807 := by omega
  generalize hN : xss.length = N at *
  have HN := Lib.hid hN
  clear hus hrows hcells hN
  have HN := Lib.hid (cacNew_any ab 1 (by omega) (by omega) ab_F _ _ (ab_row w))
  have hb0 : Below w.heap.size w (w.alloc (.cells #[.string ⟨#[97]⟩, .string ⟨#[98]⟩] 9)) := (Below.refl _ _).alloc (Nat.le_refl _) _
  have HB0 := Lib.hid hb0
  have hz0 := hb0.size
  have hc40 := (cellsF_0 h0).1
  have Hc0 := Lib.hid h0
  have Ha := Lib.hid ha
  have Hl := Lib.hid hl
  obtain ⟨pl, cl, rfl, hl1, hl2⟩ := hl.get
  clear hb0 hl
  obtain ⟨pa, ca, rfl, ha1, ha2, ha3, ha4⟩ := ha
  rw [List.length_map] at *
  unfold maxLen at ha2
  have hm9 : cells.length ≤ 9223372036854775807 := by omega
  have Ha4 := Lib.hid ha4
  have Hl2 := Lib.hid hl2
  generalize hm : cells.length = m at *
  have Hm := Lib.hid hm
  clear h0 hl2 ha4 hm
  go_enter Try.func4, Try.ntmps4
  go_wp2_with fail
  refine HN.out.mono ?_
  rintro e w1 ⟨b1, rfl, hO1, hb1⟩
  have HB1 := Lib.hid (HB0.out.trans (hb1.mono hz0))
  have hz1 := HB1.out.size
  have HW := Lib.hid (cwrite_any (F := fun k => w.heap.size ≤ k) (hO1.wide (fun k _ hk => Nat.le_trans hz0 hk)) ab_inv (fun k hk => by omega) (by omega) 0 ⟨#[120]⟩ (by decide))
  rw [show Cc.new ab 1 = ab0 from rfl, ab_write] at HW
  clear hO1 hb1 HN HB0
  go_wp2_with fail
  refine HW.out.mono ?_
  rintro e w2 ⟨he, hO2, hK2⟩
  obtain rfl : e = .returned .nilIface := he
  have HB2 := Lib.hid (HB1.out.trans (hK2.toBelow hz1 (fun k _ hk => hk)))
  have hz2 := HB2.out.size
  have HR := Lib.hid (cread_any (F := fun k => w.heap.size ≤ k) hO2 (by rw [← show (Cc.write ab0 0 ⟨#[120]⟩).2 = ab1 from rfl]; exact ab_inv.write 0 _) (fun k hk => by omega) (by omega) (by decide) 0)
  rw [ab_read] at HR
  clear hO2 hK2 HW HB1
  go_wp2_with fail
  refine HR.out.mono ?_
  rintro e w3 ⟨he, hO3, hK3⟩
  obtain rfl : e = .returned (.tuple #[.string ⟨#[120]⟩, .nilIface]) := he
  have HB3 := Lib.hid (HB2.out.trans (hK3.toBelow hz2 (fun k _ hk => hk)))
  have hz3 := HB3.out.size
  have HL := Lib.hid (cbelow_any hO3 (by decide))
  clear hO3 hK3 HR HB2
  go_wp2_with fail
  refine HL.out.mono ?_
  rintro e w4 ⟨v4, rfl, hown4, hb4⟩
  rw [show ab2.below = ab from rfl] at hown4
  obtain ⟨g4, cap4, rfl, _, hg4, _, _, hc4, _⟩ := owns_pos hown4 (by decide)
  have c4 : w4.cell? ⟨g4, 0, none⟩ = some (.string ⟨#[97]⟩) := hc4 0 (by decide)
  have HB4 := Lib.hid (HB3.out.trans (hb4.mono hz3))
  have hz4 := HB4.out.size
  have lab : ab.length = 2 := rfl
  rw [lab]
  clear hown4 hb4 hc4 HL HB3
  go_wp2_with fail
  refine (cacNew_any cells room h1 h2 Hc0.out _ _ (Ha.out.low (Nat.le_refl _) HB4.out)).mono ?_
  rintro e w5 ⟨b, rfl, hO5, hb5⟩
  have HO5 := Lib.hid hO5
  have HB5 := Lib.hid (HB4.out.trans (hb5.mono hz4))
  have hz5 := HB5.out.size
  have hz45 := hb5.size
  clear hO5 hb5 c4
  go_upto_region 12 with (fail)
  go_cut [15] (fun z wq => ∃ wk, wk = wq ∧ OwnR wk w5.heap.size 9 z (cells.map Value.string) ∧ Below w5.heap.size w5 wk)
  case first =>
    have HA5 := Lib.hid (Ha.out.low (Nat.le_refl _) HB5.out)
    cases pa with
    | none =>
      obtain rfl : ca = 0 := ha3 rfl
      obtain rfl : m = 0 := by omega
      have he : cells = [] := List.eq_nil_of_length_eq_zero Hm.out
      have He := Lib.hid he
      clear he
      go_wp2_with fail
      go_meet
      exact ⟨_, rfl, by rw [He.out]; exact OwnR.nil _ _ _, Below.refl _ _⟩
    | some ad =>
      go_wp2_with (at_builtin; refine wpList_append_own _ rfl _ _ 22 rfl w5.heap.size 9 i0 (.string ⟨#[]⟩) 1 16 Try.underlying22 hi hq0 hq1 hq2 rfl (by decide) _ _ _ rfl (World.ownsRow_nil _ _ _ _) ad m ca (cells.map Value.string) rfl ?qc1 ?qc2 ?qc3 ?qc4 ?qc5 ?qc6 ?_)
      case qc1 => rw [List.length_map, Hm.out, Nat.mul_one]
      case qc2 =>
        intro j u hj
        have hjn := (List.getElem?_eq_some_iff.1 hj).1
        obtain ⟨p', c', hpp, _, _, h4⟩ := HA5.out.shape
        rw [List.length_map, Hm.out] at hpp
        injection hpp with e1 e2 e3
        rw [List.length_map, Hm.out] at h4
        rw [List.length_map, Hm.out] at hjn
        obtain ⟨g, off, hp, h4⟩ := h4 (by omega)
        rw [← e1] at hp
        injection hp with hp
        rw [hp, Addr.add_lit, h4 j hjn, hj]
      case qc3 => intro u hu; obtain ⟨x, _, rfl⟩ := List.mem_map.1 hu; rfl
      case qc4 => unfold maxLen; omega
      case qc5 => omega
      case qc6 => omega
      intro v' w1' hown hgrow _
      have Hown := Lib.hid hown
      have Hgrow := Lib.hid hgrow
      clear hown hgrow
      go_wp2_with fail
      go_meet
      exact ⟨_, rfl, OwnR.of_owns Hown.out, (Below.refl _ _).grown Hgrow.out (Nat.le_refl _) (by intro k hk; simp [Value.ownBlock] at hk)⟩
  case rest =>
    obtain ⟨w6, hw6, hO6, hb6⟩ := hcut
    subst hw6
    have hsh := hO6.shape
    obtain ⟨pn, cn, hvn, hn1, hn2⟩ := hsh
    rw [List.length_map, Hm.out] at hvn hn1
    subst hvn
    unfold maxLen at hn2
    have hz56 := hb6.size
    have hst : CSRel w b room m N (.slice pn m cn) N (iv 0) w6 := by
      refine ⟨0, Cc.new cells room, cells, by omega, by omega, rfl, ?_, Cc.Inv.new h1 h2 (by rw [Hm.out]; exact hc40) (cellsF_0 Hc0.out).2, Cc.now_new cells room, hO6.mono hz5, rfl, Nat.le_refl _, Hm.out, HB5.out.trans (hb6.mono hz5)⟩
      exact CacOk.below (HO5.out.wide (fun k hk h => ⟨by omega, fun e => by have := (hO6.lt e).1; omega⟩)) hb6
    have Hst := Lib.hid hst
    clear hst hO6 hb6 HO5 HB5 HB4 hi hq0 hq1 hq2
    go_wp2_with fail
    go_loopg [16] N (fun gk i wr => CSRel w b room m N (.slice pn m cn) gk i wr)
    case atStart => exact Hst.out
    case round =>
      obtain ⟨wO, hwO⟩ : ∃ x : World, x = wr := ⟨_, rfl⟩
      obtain ⟨gO, hgO⟩ : ∃ x : Nat, x = gk := ⟨_, rfl⟩
      subst hwO hgO
      obtain ⟨j, c, now, hj, hj80, rfl, hS⟩ := hrel
      have HS := Lib.hid hS
      have HWB := Lib.hid hS.bel
      have Hj := Lib.hid hj
      clear hS Hst
      by_cases hlt : j < N
      · by_cases hlt80 : j < 80
        · have b80 : decide ((j : Int) < 80) = true := dec_t (by omega)
          obtain ⟨go, oo, hpo, hco⟩ := Hcells.out (by omega)
          obtain ⟨xs, hxs⟩ : ∃ xs, xss[j]? = some xs := ⟨xss[j]'(by rw [HN.out]; exact hlt), List.getElem?_eq_getElem _⟩
          obtain ⟨u, hu, hru, hwf⟩ := Hrows.out j xs hxs
          have hcu := hco j hlt
          rw [hu] at hcu
          obtain ⟨pi, ci, hu2, hi1, hi2, hi3⟩ := hru.shape
          rw [List.length_map] at hu2 hi1 hi3
          rw [hu2] at hcu
          have hlow : go < w.heap.size := World.block_lt_of_cell? w _ hcu
          have fcu : ∀ x y : Int, (wO.alloc (.cells #[iv x, iv y] 37)).cell? ⟨go, oo + j, none⟩ = some (.slice pi xs.length ci) := by
            intro x y
            have h := ((HWB.out.alloc HWB.out.size (.cells #[iv x, iv y] 37)).cell (p := ⟨go, oo + j, none⟩) hlow)
            exact h.trans hcu
          have hi2' : xs.length ≤ 9223372036854775807 := by unfold maxLen at hi2; omega
          have Hi3 := Lib.hid hi3
          rw [hpo]
          have Hpo := Lib.hid hpo
          clear hj hco hxs hu hru hwf hcu hu2 hi3 hpo
          go_upto_block 2 with (fail)
          go_cut [18] (fun _ wq => ∃ x y : Int, wq = wO.alloc (.cells #[iv x, iv y] 37))
          case first => as_aux_lemma =>
            go_wp2_with fail
            go_loopg [18] 2 (fun gq q wq => Step2Rel wO gq q wq)
            case atStart => exact ⟨0, 0, 0, rfl, rfl, rfl⟩
            case round =>
              obtain ⟨q, x, y, hq, rfl, rfl⟩ := hrel
              have f1 := fcu x y
              by_cases hq0 : q < xs.length
              · obtain ⟨gi, oi, rfl, hci⟩ := Hi3.out (by omega)
                obtain ⟨u, hz⟩ : ∃ z, xs[q]? = some z := ⟨xs[q], List.getElem?_eq_getElem hq0⟩
                have hcz := hci q hq0
                rw [List.getElem?_map, hz] at hcz
                have hlz : gi < w.heap.size := World.block_lt_of_cell? w _ hcz
                have f2 : (wO.alloc (.cells #[iv x, iv y] 37)).cell? ⟨gi, oi + q, none⟩ = some (iv u) :=
                  ((HWB.out.alloc HWB.out.size (.cells #[iv x, iv y] 37)).cell (p := ⟨gi, oi + q, none⟩) hlz).trans hcz
                clear hci hz hcz fcu
                have hq3 : q = 0 ∨ q = 1 ∨ q = 2 := by omega
                rcases hq3 with rfl | rfl | rfl
                · rw [Nat.add_zero] at f2
                  go_wp2_with fail
                  go_roundg 1
                  case measure => omega
                  case rel => exact ⟨1, u, y, rfl, rfl, rfl⟩
                · go_wp2_with fail
                  go_roundg 0
                  case measure => omega
                  case rel => exact ⟨2, x, u, rfl, rfl, rfl⟩
                · go_wp2_with fail
                  go_meet
                  exact ⟨x, y, rfl⟩
              · clear fcu
                go_wp2_with fail
                go_meet
                exact ⟨x, y, rfl⟩
          case rest =>
            obtain ⟨x, y, rfl⟩ := hcut
            clear fcu
            obtain ⟨D, hD⟩ : ∃ D : Nat, D = wO.heap.size := ⟨_, rfl⟩
            obtain ⟨wA, hwA⟩ : ∃ W : World, W = wO.alloc (.cells #[iv x, iv y] 37) := ⟨_, rfl⟩
            have c0 : wA.cell? ⟨D, 0, none⟩ = some (iv x) := by rw [hwA, hD]; simp
            have c1 : wA.cell? ⟨D, 1, none⟩ = some (iv y) := by rw [hwA, hD]; simp
            have hbA : Below wO.heap.size wO wA := by rw [hwA]; exact (Below.refl _ _).alloc (Nat.le_refl _) _
            have hDz : wA.heap.size = D + 1 := by rw [hwA, hD]; simp
            have hwD : w.heap.size ≤ D := by rw [hD]; exact HWB.out.size
            have hSA := HS.out.below hbA
            obtain ⟨F, hF⟩ : ∃ F : Nat → Prop, F = fun k => (w.heap.size ≤ k ∧ (Value.slice pn m cn).ownBlock ≠ some k) ∧ k ≠ D := ⟨_, rfl⟩
            have HOA : Hid (CacOk F wA b j c) := Lib.hid (CacOk.below (HS.out.ok.wide (fun k hk h => by rw [hF]; exact ⟨h, by omega⟩)) hbA)
            have hrl := fun g (hg : (Value.slice pn m cn).ownBlock = some g) => HS.out.row.lt hg
            have HFn : Hid (∀ k, wA.heap.size ≤ k → F k) := Lib.hid (by intro k hk; rw [hF]; exact ⟨⟨by omega, fun e => by have := (hrl k e).2; omega⟩, by omega⟩)
            have HFo : Hid (∀ k, F k → w.heap.size ≤ k ∧ (Value.slice pn m cn).ownBlock ≠ some k) := Lib.hid (by intro k hk; rw [hF] at hk; exact hk.1)
            have HFD : Hid (¬ F D) := Lib.hid (by rw [hF]; intro h; exact h.2 rfl)
            have HFl : Hid (∀ g, (Value.slice pn m cn).ownBlock = some g → ¬ F g) := Lib.hid (by intro g hg hk; rw [hF] at hk; exact hk.1.2 hg)
            have HSA := Lib.hid hSA
            rw [← hwA, ← hD]
            clear hwA hD hbA hF hSA hrl HWB HS
            go_upto_block 4 with (fail)
            go_cut [] (fun wq => ∃ c' now', CSt w b room m (j + 1) (.slice pn m cn) wq c' now')
            case first => as_aux_lemma =>
              obtain ⟨bx, hbx⟩ : ∃ bx : Bool, bx = decide (x = 2 ∨ x = 3) := ⟨_, rfl⟩
              have HBx := Lib.hid hbx
              clear hbx
              go_upto_if 142 with (fail)
              go_cut [142] (fun s wq => s = .bool bx ∧ wA = wq)
              case first => as_aux_lemma =>
                by_cases h0 : x = 2
                · have HX := Lib.hid (show bx = true by rw [HBx.out]; simp [h0])
                  have t0 := beq_t h0
                  clear h0
                  go_wp2_with fail
                  go_meet
                  exact ⟨by rw [HX.out, t0], rfl⟩
                · have HX := Lib.hid (show bx = (x == 3) by rw [HBx.out]; simp [h0]; rfl)
                  have t0 := beq_f h0
                  clear h0
                  go_wp2_with fail
                  go_meet
                  exact ⟨by rw [HX.out], rfl⟩
              case rest =>
              obtain ⟨rfl, rfl⟩ := hcut
              cases bx with
              | true => as_aux_lemma =>
                go_upto_if 147 with (fail)
                go_cut [19] (fun z wq => ∃ s : ByteArray, z = .string s ∧ s.size ≤ maxLen ∧ wA = wq)
                case first =>
                  by_cases hl0 : 0 < ls.length
                  · have hrl : j % ls.length < ls.length := Nat.mod_lt _ hl0
                    obtain ⟨gl, ol, hpl, hcl, hgl⟩ := Hl2.out (j % ls.length) ls[j % ls.length] (List.getElem?_eq_getElem hrl)
                    have cl0 := (HSA.out.bel.cell (p := ⟨gl, ol + j % ls.length, none⟩) hgl).trans hcl
                    have hsz := hls ls[j % ls.length] (List.getElem_mem hrl)
                    generalize ls[j % ls.length] = s0 at *
                    have Hsz := Lib.hid hsz
                    have Hpl := Lib.hid hpl
                    obtain ⟨n, hn⟩ : ∃ n, n = ls.length := ⟨_, rfl⟩
                    rw [← hn] at hl1 hrl hl0 cl0
                    have hnI : (0 : Int) < (n : Int) := by omega
                    have hnz : ¬ (n : Int) = 0 := by omega
                    have hr0 : 0 ≤ (j : Int) % (n : Int) := Int.emod_nonneg _ hnz
                    have hr1 : (j : Int) % (n : Int) < (n : Int) := Int.emod_lt_of_pos _ hnI
                    rw [hpl, ← hn]
                    have Hn := Lib.hid hn
                    clear hcl hsz hpl hn
                    go_wp2_with fail
                    rw [← Hpl.out, show n = ls.length from Hn.out]
                    go_meet
                    exact ⟨_, rfl, Hsz.out, rfl⟩
                  · obtain ⟨n, hn⟩ : ∃ n, n = ls.length := ⟨_, rfl⟩
                    rw [← hn] at hl1 hl0
                    have t0 : decide ((0 : Int) < (n : Int)) = false := dec_f (by omega)
                    have t0' : decide (0 < n) = false := dec_f hl0
                    have hn0 : (n : Int) ≤ 0 := by omega
                    rw [← hn]
                    have Hn := Lib.hid hn
                    clear hl0 hn
                    go_wp2_with fail
                    rw [show n = ls.length from Hn.out]
                    go_meet
                    exact ⟨⟨#[]⟩, rfl, Nat.zero_le _, rfl⟩
                case rest =>
                  obtain ⟨s0, rfl, hsz, rfl⟩ := hcut
                  have HW := Lib.hid (cwrite_any HOA.out HSA.out.inv HFn.out (by omega) y s0 hsz)
                  by_cases hin : 0 ≤ y ∧ y < (m : Int) ∧ s0.size ≤ 16
                  · obtain ⟨q, rfl⟩ : ∃ q : Nat, y = q := ⟨y.toNat, by omega⟩
                    have hqm : q < m := by omega
                    have hw := Cc.write_yes HSA.out.nw (i := (q : Int)) (by omega) (by rw [HSA.out.len]; omega) hin.2.2
                    have hwn := HSA.out.nw.writ HSA.out.inv (i := (q : Int)) (by omega) (by rw [HSA.out.len]; omega) s0
                    rw [Int.toNat_natCast] at hwn
                    have hwi := HSA.out.inv.write q s0
                    have hwr := Cc.room_write c q s0
                    have hwh := Cc.hits_write c q s0
                    rw [hw] at HW hwi hwr hwh
                    have Hwn := Lib.hid hwn
                    have Hwi := Lib.hid hwi
                    have Hwr := Lib.hid hwr
                    have Hwh := Lib.hid hwh
                    obtain ⟨gn, on, capn, hvn, _, hgn, _, _, hcell, hfz⟩ := HSA.out.row.at0 (by rw [List.length_map, HSA.out.len]; omega)
                    have Hgn : Hid (w.heap.size ≤ gn) := Lib.hid (HSA.out.row.lt (by rw [hvn]; rfl)).1
                    injection hvn with e1 e2 e3
                    have cn0 := hcell q (by rw [List.length_map, HSA.out.len]; exact hqm)
                    rw [List.getElem?_map, Cc.at_get (by rw [HSA.out.len]; exact hqm)] at cn0
                    have Hcn := Lib.hid cn0
                    have He1 := Lib.hid e1
                    have HFg : Hid (¬ F gn) := Lib.hid (HFl.out gn (by rw [e1]; rfl))
                    have hqI : ((q : Int) < (m : Int)) := by omega
                    clear hcell cn0 e2 e3 e1 hin hw hwn hwi hwr hwh hfz
                    go_wp2_with fail
                    refine HW.out.mono ?_
                    rintro e w12 ⟨he, hok12, hk12⟩
                    obtain rfl : e = .returned .nilIface := he
                    have cn2 := hk12.cell Hcn.out HFg.out
                    have c1q := hk12.cell c1 HFD.out
                    have hrw := HSA.out.row.kept hk12 HFl.out
                    have HRw := Lib.hid hrw
                    have fn := fun k => hrw.fz (He1.out ▸ rfl : (Value.slice pn m cn).ownBlock = some gn) k
                    have HO12 := Lib.hid hok12
                    have HK12 := Lib.hid hk12
                    clear hok12 hk12 HW hrw
                    rw [He1.out]
                    go_wp2_with fail
                    rw [← He1.out]
                    go_meet
                    exact ⟨_, _, HSA.out.put HFo.out He1.out HFg.out hqm s0 Hgn.out HO12.out HK12.out Hwi.out Hwn.out Hwr.out Hwh.out⟩
                  · have hw := Cc.write_no HSA.out.nw (i := y) (b := s0) (by rw [HSA.out.len]; exact hin)
                    rw [hw] at HW
                    clear hw hin
                    go_wp2_with fail
                    refine HW.out.mono ?_
                    rintro e w12 ⟨he, hok12, hk12⟩
                    obtain rfl : e = .returned (ev 1) := he
                    have HS12 := Lib.hid (HSA.out.turn HFo.out hok12 hk12 HSA.out.inv HSA.out.nw rfl (Nat.le_succ_of_le HSA.out.hits))
                    clear hok12 hk12 HW
                    go_wp2_with fail
                    go_meet
                    exact ⟨_, _, HS12.out⟩
              | false =>
                by_cases hx4 : x = 4
                · as_aux_lemma =>
                  subst hx4
                  have HL := Lib.hid (cflush_any HOA.out HSA.out.inv HFn.out y)
                  go_wp2_with fail
                  refine HL.out.mono ?_
                  rintro e w7 ⟨v7, rfl, hO7, hok7, hk7⟩
                  have HS7 : Hid (CSt w b room m (j + 1) (.slice pn m cn) w7 (Cc.flush c y).2 now) := Lib.hid
                    (HSA.out.turn HFo.out (CacOk.more (hok7.wide (fun k _ hk => hk.1)) (by omega)) hk7 (HSA.out.inv.flush _) (HSA.out.nw.flush HSA.out.inv _) (Cc.flush_room c _).1 (by rw [(Cc.flush_room c _).2]; have := HSA.out.hits; omega))
                  clear hO7 hok7 hk7 HL
                  go_wp2_with fail
                  go_meet
                  exact ⟨_, _, HS7.out⟩
                · as_aux_lemma =>
                  have b4 := beq_f hx4
                  have HRd := Lib.hid (cread_any HOA.out HSA.out.inv HFn.out (by omega) (by have := HSA.out.hits; omega) y)
                  by_cases hin : 0 ≤ y ∧ y < m
                  · obtain ⟨q, rfl⟩ : ∃ q : Nat, y = q := ⟨y.toNat, by omega⟩
                    have hqm : q < m := by omega
                    have hy := Cc.read_yes HSA.out.nw HSA.out.inv (i := (q : Int)) (by omega) (by rw [HSA.out.len]; omega)
                    rw [Int.toNat_natCast] at hy
                    have Hy := Lib.hid hy
                    obtain ⟨gn, on, capn, hvn, _, hgn, _, _, hcell, _⟩ := HSA.out.row.at0 (by rw [List.length_map, HSA.out.len]; omega)
                    injection hvn with e1 e2 e3
                    have cn0 := hcell q (by rw [List.length_map, HSA.out.len]; exact hqm)
                    rw [List.getElem?_map, Cc.at_get (by rw [HSA.out.len]; exact hqm)] at cn0
                    have Hcn := Lib.hid cn0
                    have He1 := Lib.hid e1
                    have HFg : Hid (¬ F gn) := Lib.hid (HFl.out gn (by rw [e1]; rfl))
                    have hqI : ((q : Int) < (m : Int)) := by omega
                    clear hy hcell cn0 e2 e3 e1 hin hx4
                    go_wp2_with fail
                    refine HRd.out.mono ?_
                    rintro e w12 ⟨rfl, hok12, hk12⟩
                    have HS12 := Lib.hid (HSA.out.read HFo.out (q : Int) hok12 hk12)
                    have cn2 := hk12.cell Hcn.out HFg.out
                    have c1q := hk12.cell c1 HFD.out
                    rw [show (Cc.read c (q : Int)).1.2 = 0 by rw [Hy.out], show (Cc.read c (q : Int)).1.1 = Cc.at' now q by rw [Hy.out], errV_0]
                    generalize Cc.at' now q = s0 at *
                    clear hok12 hk12 HRd
                    rw [He1.out]
                    go_wp2_with fail
                    rw [← He1.out]
                    go_meet
                    exact ⟨_, _, HS12.out⟩
                  · have hr := Cc.read_no HSA.out.nw (i := y) (by rw [HSA.out.len]; exact hin)
                    have Hr := Lib.hid hr
                    clear hr hin hx4
                    go_wp2_with fail
                    refine HRd.out.mono ?_
                    rintro e w12 ⟨rfl, hok12, hk12⟩
                    have HS12 := Lib.hid (HSA.out.read HFo.out y hok12 hk12)
                    rw [Hr.out]
                    rw [show errV (((⟨#[]⟩ : ByteArray), (1 : Int)), c).1.2 = ev 1 from rfl]
                    clear hok12 hk12 HRd
                    go_wp2_with fail
                    go_meet
                    exact ⟨_, _, HS12.out⟩
            case rest =>
              obtain ⟨c2, now2, hS2⟩ := hcut
              have HS2 := Lib.hid hS2
              have HL := Lib.hid (cbelow_any hS2.ok (by rw [← hS2.nw.len, hS2.len]; omega))
              have hbl : c2.below.length = m := by rw [← hS2.nw.len, hS2.len]
              have hd12 := Cc.dirty12 hS2.inv
              have hrr : c2.row.length ≤ room := by rw [← hS2.rm]; exact hS2.inv.fit
              have Hbl := Lib.hid hbl
              clear hS2 HSA HOA HFn HFo HFD HFl c0 c1 hbl
              go_wp2_with fail
              refine HL.out.mono ?_
              rintro e w7 ⟨v7, rfl, hown7, hb7⟩
              have HS7 := Lib.hid (HS2.out.below hb7)
              have HR7 := Lib.hid (row_of_owns hown7).1
              have HL8 := Lib.hid (cHas_any HS7.out.ok (by omega))
              have HD8 := Lib.hid (cDirty_any HS7.out.ok (by omega))
              clear hown7 hb7 HL HS2
              go_wp2_with fail
              refine HD8.out.mono ?_
              rintro e w8 ⟨v8, rfl, hown8, hb8⟩
              have HS8 := Lib.hid (HS7.out.below hb8)
              have HR78 := Lib.hid (HR7.out.below hb8)
              have HR8 := Lib.hid (row_of_owns hown8).1
              have HL9 := Lib.hid (cHas_any HS8.out.ok (by omega))
              obtain ⟨p7, c7, hv7, h71, h72, h73⟩ := HR78.out.get
              rw [List.length_map, Hbl.out] at hv7 h71 h73
              subst hv7
              have H73 := Lib.hid h73
              have bm : ((m : Int) != (m : Int)) = false := bne_f rfl
              have hrI : decide ((room : Int) < (c2.row.length : Int)) = false := dec_f (by omega)
              have hrI' : decide (room < c2.row.length) = false := dec_f (by omega)
              clear hown8 hb8 HL8 HD8 HS7 HR7 h73
              go_wp2_with fail
              refine HL9.out.mono ?_
              rintro e w9 ⟨v9, rfl, hown9, hb9⟩
              have HS9 := Lib.hid (HS8.out.below hb9)
              have HR79 := Lib.hid (HR78.out.below hb9)
              have HR9 := Lib.hid (HR8.out.below hb9)
              have Hb9 := Lib.hid hb9
              obtain ⟨p9, c9, hv9, _⟩ := (row_of_owns hown9).1
              rw [List.length_map] at hv9
              subst hv9
              clear hown9 hb9 HL9 HS8 HR78 HR8
              go_wp2_with fail
              go_loopg [24] m (fun gk i wr => ∃ k : Nat, k + gk = m ∧ i = iv k ∧ Below w9.heap.size w9 wr)
              case atStart => exact ⟨0, by omega, rfl, Below.refl _ _⟩
              case round =>
                obtain ⟨k, hk, rfl, hB⟩ := hrel
                have Hk := Lib.hid hk
                have HBk := Lib.hid hB
                clear hk hB
                by_cases hkm : k < m
                · have HI := Lib.hid (in_any c2.dirty k v8 wr (HR9.out.below HBk.out))
                  obtain ⟨isd, hisd⟩ : ∃ isd, isd = c2.dirty.contains (k : Int) := ⟨_, rfl⟩
                  rw [← hisd] at HI
                  have Hisd := Lib.hid hisd
                  clear hisd
                  go_wp2_with fail
                  refine HI.out.mono ?_
                  rintro e w' ⟨rfl, rfl⟩
                  cases isd with
                  | true =>
                    go_wp2_with fail
                    go_quiet (fail)
                    go_wp2_with fail
                    go_roundg (gk - 1)
                    case measure => have := Hk.out; omega
                    case rel => exact ⟨k + 1, by have := Hk.out; omega, by go_num, bdrew HBk.out _⟩
                  | false =>
                    have hnd : (k : Int) ∉ c2.dirty := fun h => by have := List.contains_iff_mem.2 h; rw [← Hisd.out] at this; cases this
                    have hlo := HS9.out.nw.low k hnd
                    have hw7 := HR79.out
                    obtain ⟨g7, o7, hp7, h74, hg7⟩ := H73.out k hkm
                    rw [List.getElem?_map, Cc.at_get (by rw [Hbl.out]; exact hkm), hlo] at h74
                    have k7 : wr.cell? ⟨g7, o7 + k, none⟩ = some (.string (Cc.at' now2 k)) := ((HBk.out.cell (p := ⟨g7, o7 + k, none⟩) (Nat.lt_of_lt_of_le hg7 Hb9.out.size)).trans (Hb9.out.cell (p := ⟨g7, o7 + k, none⟩) hg7)).trans h74
                    have hSn := HS9.out.below HBk.out
                    obtain ⟨gn, on, capn, hvn, _, hgn, _, _, hcell, _⟩ := hSn.row.at0 (by rw [List.length_map, hSn.len]; omega)
                    injection hvn with e1 e2 e3
                    have kn := hcell k (by rw [List.length_map, hSn.len]; exact hkm)
                    rw [List.getElem?_map, Cc.at_get (by rw [hSn.len]; exact hkm)] at kn
                    have kn2 : wr.cell? ⟨gn, on + k, none⟩ = some (.string (Cc.at' now2 k)) := kn
                    have Hp7 := Lib.hid hp7
                    have He1 := Lib.hid e1
                    generalize Cc.at' now2 k = s0 at k7 kn2
                    clear hnd hlo hw7 h74 hSn hcell kn e1 e2 e3 hp7
                    rw [Hp7.out, He1.out]
                    go_wp2_with fail
                    go_quiet (fail)
                    go_wp2_with fail
                    rw [← Hp7.out, ← He1.out]
                    go_roundg (gk - 1)
                    case measure => have := Hk.out; omega
                    case rel => exact ⟨k + 1, by have := Hk.out; omega, by go_num, bdrew HBk.out _⟩
                · have hkm' : k = m := by have := Hk.out; omega
                  have HSn := Lib.hid (HS9.out.below HBk.out)
                  clear HR79 HR9 HS9 hkm'
                  go_wp2_with fail
                  rw [show some (⟨go, oo, none⟩ : Addr) = po from Hpo.out.symm]
                  go_roundg (gO - 1)
                  case measure => have := Hj.out; omega
                  case rel => exact ⟨j + 1, c2, now2, by have := Hj.out; omega, by omega, by go_num, HSn.out⟩
        ·
          have hfa := Cc.flush_all HS.out.inv
          have HL := Lib.hid (cflush_any HS.out.ok HS.out.inv HS.out.hF 1000)
          have Hfa1 := Lib.hid hfa.1
          have Hfa2 := Lib.hid hfa.2
          clear hfa
          go_wp2_with fail
          refine HL.out.mono ?_
          rintro e w7 ⟨v7, rfl, hO7, hok7, hk7⟩
          obtain ⟨c3, hc3⟩ : ∃ c3, c3 = (Cc.flush c 1000).2 := ⟨_, rfl⟩
          have HS7 : Hid (CSt w b room m j (.slice pn m cn) w7 c3 now) := Lib.hid (by
            rw [hc3]
            exact HS.out.turn (fun k hk => hk) (hok7.wide (fun k _ hk => hk.1)) hk7 (HS.out.inv.flush _) (HS.out.nw.flush HS.out.inv _) (Cc.flush_room c _).1 (by rw [(Cc.flush_room c _).2]; exact HS.out.hits))
          have hd0 : c3.dirty = [] := by rw [hc3]; exact Hfa2.out
          have hb0 : c3.below = now := HS7.out.nw.below hd0
          have Hd0 := Lib.hid hd0
          have HL8 := Lib.hid (cbelow_any HS7.out.ok (by rw [hb0, HS7.out.len]; omega))
          rw [hb0] at HL8
          rw [Hfa1.out, errV_0]
          clear hO7 hok7 hk7 HL hc3 hd0 hb0 HS
          go_wp2_with fail
          refine HL8.out.mono ?_
          rintro e w8 ⟨v8, rfl, hown8, hb8⟩
          have HS8 := Lib.hid (HS7.out.below hb8)
          have HT := Lib.hid (texts_eq now v8 (.slice pn m cn) w8 (row_of_owns hown8).1 HS8.out.row.row)
          clear hown8 hb8 HL8 HS7
          go_wp2_with fail
          refine HT.out.mono ?_
          rintro e w' ⟨rfl, nd, rfl⟩
          have HS9 := Lib.hid (HS8.out.below (bdrew (Below.refl _ _) nd))
          have HL9 := Lib.hid (cDirty_any HS9.out.ok (by rw [Hd0.out]; exact Nat.zero_le _))
          rw [Hd0.out] at HL9
          clear HT HS8
          go_wp2_with fail
          refine HL9.out.mono ?_
          rintro e w10 ⟨v10, rfl, hown10, hb10⟩
          have HS10 := Lib.hid (HS9.out.below hb10)
          obtain ⟨p10, c10, hv10, _⟩ := (row_of_owns hown10).1
          have hv10' : v10 = .slice p10 0 c10 := hv10
          subst hv10'
          have HCr := Lib.hid (ccrash_any HS10.out.ok HS10.out.hF)
          clear hown10 hb10 HL9 HS9 hv10
          go_wp2_with fail
          refine HCr.out.mono ?_
          rintro e w11 ⟨rfl, hok11, hk11⟩
          have HS11 : Hid (CSt w b room m j (.slice pn m cn) w11 (Cc.crash c3) now) := Lib.hid (HS10.out.turn (fun k hk => hk) hok11 hk11 HS10.out.inv.crash (HS10.out.nw.crash Hd0.out) rfl HS10.out.hits)
          clear hok11 hk11 HCr HS10
          go_wp2_with fail
          go_loopg [28] m (fun gk i wr => CSFin w b room m j (.slice pn m cn) now gk i wr)
          case atStart => exact ⟨0, _, by omega, rfl, HS11.out⟩
          case round =>
            obtain ⟨k, c4, hk, rfl, hS⟩ := hrel
            have Hk := Lib.hid hk
            have HSk := Lib.hid hS
            clear hk hS HS11
            by_cases hkm : k < m
            · have hy := Cc.read_yes HSk.out.nw HSk.out.inv (i := (k : Int)) (by omega) (by rw [HSk.out.len]; omega)
              rw [Int.toNat_natCast] at hy
              have Hy := Lib.hid hy
              have HRd := Lib.hid (cread_any HSk.out.ok HSk.out.inv HSk.out.hF (by omega) (by have := HSk.out.hits; omega) (k : Int))
              obtain ⟨gn, on, capn, hvn, _, hgn, _, _, hcell, _⟩ := HSk.out.row.at0 (by rw [List.length_map, HSk.out.len]; omega)
              injection hvn with e1 e2 e3
              have cn0 := hcell k (by rw [List.length_map, HSk.out.len]; exact hkm)
              rw [List.getElem?_map, Cc.at_get (by rw [HSk.out.len]; exact hkm)] at cn0
              have Hcn := Lib.hid cn0
              have He1 := Lib.hid e1
              clear hy hcell cn0 e2 e3 e1
              go_wp2_with fail
              refine HRd.out.mono ?_
              rintro e w12 ⟨rfl, hok12, hk12⟩
              have HS12 := Lib.hid (HSk.out.read (fun k hk => hk) (k : Int) hok12 hk12)
              have cn2 := hk12.cell Hcn.out (fun h => h.2 (by rw [He1.out]; rfl))
              rw [show (Cc.read c4 (k : Int)).1.2 = 0 by rw [Hy.out], show (Cc.read c4 (k : Int)).1.1 = Cc.at' now k by rw [Hy.out], errV_0]
              generalize Cc.at' now k = s0 at *
              clear hok12 hk12 HRd
              rw [He1.out]
              go_wp2_with fail
              rw [← He1.out]
              go_roundg (gk - 1)
              case measure => have := Hk.out; omega
              case rel => exact ⟨k + 1, _, by have := Hk.out; omega, by go_num, by rw [← Nat.add_assoc]; exact HS12.out⟩
            · have hkm' : k = m := by have := Hk.out; omega
              go_wp2_with fail
              go_ret
              exact ⟨rfl, HSk.out.bel⟩
      ·
        have hfa := Cc.flush_all HS.out.inv
        have HL := Lib.hid (cflush_any HS.out.ok HS.out.inv HS.out.hF 1000)
        have Hfa1 := Lib.hid hfa.1
        have Hfa2 := Lib.hid hfa.2
        clear hfa
        go_wp2_with fail
        refine HL.out.mono ?_
        rintro e w7 ⟨v7, rfl, hO7, hok7, hk7⟩
        obtain ⟨c3, hc3⟩ : ∃ c3, c3 = (Cc.flush c 1000).2 := ⟨_, rfl⟩
        have HS7 : Hid (CSt w b room m j (.slice pn m cn) w7 c3 now) := Lib.hid (by
          rw [hc3]
          exact HS.out.turn (fun k hk => hk) (hok7.wide (fun k _ hk => hk.1)) hk7 (HS.out.inv.flush _) (HS.out.nw.flush HS.out.inv _) (Cc.flush_room c _).1 (by rw [(Cc.flush_room c _).2]; exact HS.out.hits))
        have hd0 : c3.dirty = [] := by rw [hc3]; exact Hfa2.out
        have hb0 : c3.below = now := HS7.out.nw.below hd0
        have Hd0 := Lib.hid hd0
        have HL8 := Lib.hid (cbelow_any HS7.out.ok (by rw [hb0, HS7.out.len]; omega))
        rw [hb0] at HL8
        rw [Hfa1.out, errV_0]
        clear hO7 hok7 hk7 HL hc3 hd0 hb0 HS
        go_wp2_with fail
        refine HL8.out.mono ?_
        rintro e w8 ⟨v8, rfl, hown8, hb8⟩
        have HS8 := Lib.hid (HS7.out.below hb8)
        have HT := Lib.hid (texts_eq now v8 (.slice pn m cn) w8 (row_of_owns hown8).1 HS8.out.row.row)
        clear hown8 hb8 HL8 HS7
        go_wp2_with fail
        refine HT.out.mono ?_
        rintro e w' ⟨rfl, nd, rfl⟩
        have HS9 := Lib.hid (HS8.out.below (bdrew (Below.refl _ _) nd))
        have HL9 := Lib.hid (cDirty_any HS9.out.ok (by rw [Hd0.out]; exact Nat.zero_le _))
        rw [Hd0.out] at HL9
        clear HT HS8
        go_wp2_with fail
        refine HL9.out.mono ?_
        rintro e w10 ⟨v10, rfl, hown10, hb10⟩
        have HS10 := Lib.hid (HS9.out.below hb10)
        obtain ⟨p10, c10, hv10, _⟩ := (row_of_owns hown10).1
        have hv10' : v10 = .slice p10 0 c10 := hv10
        subst hv10'
        have HCr := Lib.hid (ccrash_any HS10.out.ok HS10.out.hF)
        clear hown10 hb10 HL9 HS9 hv10
        go_wp2_with fail
        refine HCr.out.mono ?_
        rintro e w11 ⟨rfl, hok11, hk11⟩
        have HS11 : Hid (CSt w b room m j (.slice pn m cn) w11 (Cc.crash c3) now) := Lib.hid (HS10.out.turn (fun k hk => hk) hok11 hk11 HS10.out.inv.crash (HS10.out.nw.crash Hd0.out) rfl HS10.out.hits)
        clear hok11 hk11 HCr HS10
        go_wp2_with fail
        go_loopg [28] m (fun gk i wr => CSFin w b room m j (.slice pn m cn) now gk i wr)
        case atStart => exact ⟨0, _, by omega, rfl, HS11.out⟩
        case round =>
          obtain ⟨k, c4, hk, rfl, hS⟩ := hrel
          have Hk := Lib.hid hk
          have HSk := Lib.hid hS
          clear hk hS HS11
          by_cases hkm : k < m
          · have hy := Cc.read_yes HSk.out.nw HSk.out.inv (i := (k : Int)) (by omega) (by rw [HSk.out.len]; omega)
            rw [Int.toNat_natCast] at hy
            have Hy := Lib.hid hy
            have HRd := Lib.hid (cread_any HSk.out.ok HSk.out.inv HSk.out.hF (by omega) (by have := HSk.out.hits; omega) (k : Int))
            obtain ⟨gn, on, capn, hvn, _, hgn, _, _, hcell, _⟩ := HSk.out.row.at0 (by rw [List.length_map, HSk.out.len]; omega)
            injection hvn with e1 e2 e3
            have cn0 := hcell k (by rw [List.length_map, HSk.out.len]; exact hkm)
            rw [List.getElem?_map, Cc.at_get (by rw [HSk.out.len]; exact hkm)] at cn0
            have Hcn := Lib.hid cn0
            have He1 := Lib.hid e1
            clear hy hcell cn0 e2 e3 e1
            go_wp2_with fail
            refine HRd.out.mono ?_
            rintro e w12 ⟨rfl, hok12, hk12⟩
            have HS12 := Lib.hid (HSk.out.read (fun k hk => hk) (k : Int) hok12 hk12)
            have cn2 := hk12.cell Hcn.out (fun h => h.2 (by rw [He1.out]; rfl))
            rw [show (Cc.read c4 (k : Int)).1.2 = 0 by rw [Hy.out], show (Cc.read c4 (k : Int)).1.1 = Cc.at' now k by rw [Hy.out], errV_0]
            generalize Cc.at' now k = s0 at *
            clear hok12 hk12 HRd
            rw [He1.out]
            go_wp2_with fail
            rw [← He1.out]
            go_roundg (gk - 1)
            case measure => have := Hk.out; omega
            case rel => exact ⟨k + 1, _, by have := Hk.out; omega, by go_num, by rw [← Nat.add_assoc]; exact HS12.out⟩
          · have hkm' : k = m := by have := Hk.out; omega
            go_wp2_with fail
            go_ret
            exact ⟨rfl, HSk.out.bel⟩
end Go.Proofs.Ytangcjffiooapaa
