/- The walk of run.Run. · The walk of the law RunAnswers. -/
import Derived.Test.YtneebcniofolmaaGreatDoorSesI
import Derived.Test.YtneebcniofolmaaGreatDoorSesX
import Derived.Test.YtneebcniofolmaaGreatDoorSlI
import Derived.Test.YtneebcniofolmaaGreatDoorScrC
import Derived.Stop.RegionWithIn
import Derived.Test.YtneebcniofolmaaGreatDoorSesZ
import Derived.Test.YtneebcniofolmaaGreatDoorRArN
namespace Go.Proofs.YtneebcniofolmaaGreatDoor
open Go.ChangeShapes Go.WideShapes Go.ChangeAt Go.RowKit Go.Shelf
set_option linter.unusedVariables false
attribute [local go_sem] Oper.semAt_some
theorem builder_kept {T e : TypeId} {B b : Nat} {bs : List Value} {w w' : World} (h : Lib.IsBuilderF T e B b bs w) (hk : ∀ k u t fz, B ≤ k → w.heap[k]? = some (.cells u t fz) → (t = T ∨ t = e) → w'.heap[k]? = some (.cells u t fz)) : Lib.IsBuilderF T e B b bs w' := by
  have one : ∀ p, Lib.BuilderAtF T e B b p bs w → Lib.BuilderAtF T e B b p bs w' := fun p h => by
    obtain ⟨hB, v, hb, hown, hne⟩ := h
    refine ⟨hB, v, hk _ _ _ _ hB hb (.inl rfl), ?_, hne⟩
    obtain ⟨h1, h2⟩ := hown
    refine ⟨h1, ?_⟩
    rcases h2 with h2 | ⟨g, cap, cur, fz, hv, hg, hh, rest⟩
    · exact .inl h2
    · exact .inr ⟨g, cap, cur, fz, hv, hg, hk _ _ _ _ hg hh (.inr rfl), rest⟩
  exact h.elim (fun h => .inl (one _ h)) (fun h => .inr (one _ h))
/-- what holds of a session when some lines are answered -/
structure RunI (F : Nat → Prop) (a D : Nat) (w : World) (pre : List (List UInt8)) (W : World) : Prop where
  ary : AryOk F (4 * pre.length) W a (Ru.stateOf (Ar.s0 5 4 2) (pre.map Ru.trim))
  bld : Lib.IsBuilderF 46 5 D (D + 1) (Lib.byteCells (Ru.runs (Ar.s0 5 4 2) (pre.map Ru.trim))) W
  dsk : W.heap[D]? = some (.cells #[.pointer (some ⟨a, 0, none⟩)] 42 (0, 0))
  box : ∃ v, W.heap[D + 2]? = some (.cells #[v] 9 (0, 0))
  bel : Below w.heap.size w W
  len : (Ru.runs (Ar.s0 5 4 2) (pre.map Ru.trim)).length ≤ 41 * pre.length
theorem RunI.own {F : Nat → Prop} {a D B : Nat} {w : World} (hF : ∀ k, F k → k < D) (hw : w.heap.size ≤ D) (hB : D + 3 ≤ B) : OwnFrom B (RunI F a D w) := by
  intro s X Y row hs hg hr
  have hne : ∀ (k : Nat) (u : Array Value) (t : TypeId) (fz : Nat × Nat), X.heap[k]? = some (Obj.cells u t fz) → some k ≠ row := fun k u t fz hk e => by
    obtain ⟨_, o, ho, hc⟩ := hr k e.symm
    rw [ho] at hk
    injection hk with hk
    subst hk
    cases hc
  have hkb : ∀ (k : Nat) (u : Array Value) (t : TypeId) (fz : Nat × Nat), X.heap[k]? = some (Obj.cells u t fz) → Y.heap[k]? = some (Obj.cells u t fz) := fun k u t fz hk => (hg.block k (Array.getElem?_eq_some_iff.1 hk).1 (hne k u t fz hk)).trans hk
  refine ⟨hs.ary.kept (Kept.grown hg) (fun k hk e => ?_), builder_kept hs.bld (fun k u t fz _ hk _ => hkb k u t fz hk), hkb _ _ _ _ hs.dsk, hs.box.imp fun v hv => hkb _ _ _ _ hv, hs.bel.grown hg hs.bel.size (fun k e => ?_), hs.len⟩
  · have := (hr k e.symm).1
    have := hF k hk
    omega
  · have := (hr k e).1
    omega
theorem RunI.notBox {F : Nat → Prop} {a D : Nat} {w : World} (hF : ∀ k, F k → k < D) (hw : w.heap.size ≤ D) : NotBox (D + 2) (RunI F a D w) := by
  refine ⟨fun s A v hs => ?_, fun s A hs => ?_⟩
  · obtain ⟨v0, hv0⟩ := hs.box
    have hkb : ∀ (k : Nat) (o : Obj), k ≠ D + 2 → A.heap[k]? = some o → (A.setCell ⟨D + 2, 0, none⟩ v).heap[k]? = some o := fun k o hne hk => by
      rw [Below.heap_setCell _ _ _ _ hne]; exact hk
    refine ⟨hs.ary.kept ((Kept.self (D + 2) A).set1 0 v) (fun k hk e => by have := hF k hk; have h9 : k = D + 2 := e; omega), builder_kept hs.bld (fun k u t fz _ hk ht => hkb _ _ (fun e => ?_) hk), hkb _ _ (by omega) hs.dsk, ⟨v, ?_⟩, hs.bel.setCell (p := ⟨D + 2, 0, none⟩) (by show w.heap.size ≤ D + 2; omega) _, hs.len⟩
    · subst e
      rw [hv0] at hk
      injection hk with hk
      injection hk with _ hk _
      subst hk
      rcases ht with ht | ht <;> revert ht <;> decide
    · rw [heap_setCell_same _ _ _ _ _ _ hv0]; rfl
  · exact ⟨hs.ary.kept ((Kept.refl (fun _ => False) A).drewN 1) (fun _ _ h => h), builder_kept hs.bld (fun k u t fz _ hk _ => hk), hs.dsk, hs.box, hs.bel.drew, hs.len⟩
theorem lines_fn (s : ByteArray) (w : World) : Calls Tryz.prog 15 #[.string s] w fun e w' => e = .returned (.func (.func 36) #[] #[.pointer (some ⟨w.heap.size, 0, none⟩)]) ∧ w.alloc (.cells #[.string s] 9) = w' := by
  go_enter Tryz.func15, Tryz.ntmps15
  go_wp2
  go_ret
  exact ⟨rfl, rfl⟩
theorem run_long (t : List UInt8) (h : 3000 < t.length) (w : World) : Calls Tryz.prog 6 #[strB t] w fun e w' => e = .returned (strB [116, 111, 111, 32, 108, 111, 110, 103, 10]) ∧ w' = w := by
  have hsz : (ByteArray.mk t.toArray).size = t.length := rfl
  have h1 : (3000 : Int) < (t.length : Int) := by omega
  unfold strB
  go_enter Tryz.func6, Tryz.ntmps6
  go_wp2
  go_ret
  exact ⟨rfl, rfl⟩
set_option maxRecDepth 100000 in
set_option maxHeartbeats 4000000 in
theorem run_any (t : List UInt8) (ht : t.length ≤ 3000) (w : World) (hE : Env w) : Calls Tryz.prog 6 #[strB t] w fun e w' => e = .returned (strB (Ru.runs (Ar.s0 5 4 2) (Ru.lines t))) ∧ Below w.heap.size w w' := by
  have hsz : (ByteArray.mk t.toArray).size = t.length := rfl
  have h1 : ¬ (3000 : Int) < (t.length : Int) := by omega
  have HNew := Lib.hid (aNew_yes 5 4 2 (by omega) (by omega) (by omega) (by omega) (by omega) (by omega) w)
  have HE := Lib.hid hE
  clear hE
  unfold strB
  refine (callsIn_wide (n := 5)).1 ?_
  refine callsIn_of_wp_marks Tryz.func6 rfl trivial ?_ rfl
  simp only [Tryz.ntmps6, List.size_toArray, List.length_cons, List.length_nil, Nat.reduceAdd, Nat.reduceSub, Array.replicate_succ, Array.replicate_zero, List.push_toArray, List.append_toArray, List.nil_append, List.cons_append]
  gi_wp2_with (refine ⟨trivial, ?_⟩; gi_at_call 14; refine (callsIn_wide.2 HNew.out).mono ?_; rintro e w1 ⟨rfl, hA1, hb1⟩)
  have HA1 := Lib.hid hA1
  have Hb1 := Lib.hid hb1
  clear hA1 hb1
  gi_wp2_with (refine ⟨trivial, ?_⟩; gi_at_call 15; refine (callsIn_wide.2 (lines_fn _ _)).mono ?_; rintro e w' ⟨rfl, rfl⟩)
  obtain ⟨w3, hw3⟩ : ∃ w3, w3 = ((w1.alloc (.cells #[.pointer (some ⟨w.heap.size, 0, none⟩)] 42)).alloc (.cells #[.pointer none, .slice none 0 0] 46)).alloc (.cells #[.string ⟨t.toArray⟩] 9) := ⟨_, rfl⟩
  have hd3 : w3.heap[w1.heap.size]? = some (.cells #[.pointer (some ⟨w.heap.size, 0, none⟩)] 42 (0, 0)) := by rw [hw3, heap_alloc_old _ _ (by simp; omega), heap_alloc_old _ _ (by simp)]; exact heap_alloc_new _ _
  have hb3 : w3.heap[w1.heap.size + 1]? = some (.cells #[.pointer none, .slice none 0 0] 46 (0, 0)) := by
    have h9 := heap_alloc_new (w1.alloc (.cells #[.pointer (some ⟨w.heap.size, 0, none⟩)] 42)) (.cells #[.pointer none, .slice none 0 0] 46)
    rw [World.size_alloc] at h9
    rw [hw3, heap_alloc_old _ _ (by simp)]; exact h9
  have hx3 : w3.heap[w1.heap.size + 1 + 1]? = some (.cells #[.string ⟨t.toArray⟩] 9 (0, 0)) := by
    have h9 := heap_alloc_new ((w1.alloc (.cells #[.pointer (some ⟨w.heap.size, 0, none⟩)] 42)).alloc (.cells #[.pointer none, .slice none 0 0] 46)) (.cells #[.string ⟨t.toArray⟩] 9)
    rw [World.size_alloc, World.size_alloc] at h9
    rw [hw3]; exact h9
  have hz3 : w3.heap.size = w1.heap.size + 3 := by rw [hw3]; simp
  have hbl3 : Below w1.heap.size w1 w3 := by rw [hw3]; exact (((Below.refl _ _).alloc (Nat.le_refl _) _).alloc (by simp) _).alloc (by simp; omega) _
  rw [← hw3]
  clear hw3
  obtain ⟨a, ha⟩ : ∃ a, a = w.heap.size := ⟨_, rfl⟩
  obtain ⟨D, hD⟩ : ∃ D, D = w1.heap.size := ⟨_, rfl⟩
  have hwD : w.heap.size ≤ D := by rw [hD]; exact Hb1.out.size
  obtain ⟨F, hF⟩ : ∃ F : Nat → Prop, F = fun p => w.heap.size ≤ p ∧ p < w1.heap.size := ⟨_, rfl⟩
  have HF1 : Hid (∀ k, F k → k < D) := Lib.hid (fun k hk => by rw [hF] at hk; rw [hD]; exact hk.2)
  have HF2 : Hid (∀ k, F k → w.heap.size ≤ k) := Lib.hid (fun k hk => by rw [hF] at hk; exact hk.1)
  have HA3 : Hid (AryOk F 0 w3 w.heap.size (Ar.s0 5 4 2)) := Lib.hid ((HA1.out.wide (F' := F) (fun k hk h9 => by rw [hF]; exact ⟨h9, hk⟩)).below hbl3)
  have HB3 : Hid (Below w.heap.size w w3) := Lib.hid (Hb1.out.trans (hbl3.mono Hb1.out.size))
  have HI0 : Hid (RunI F w.heap.size D w [] w3) := Lib.hid ⟨HA3.out, .inl ⟨by omega, .slice none 0 0, by rw [hD]; exact hb3, ⟨rfl, .inl ⟨rfl, rfl⟩⟩, by simp [Value.ownBlock]⟩, by rw [hD]; exact hd3, ⟨_, by rw [hD]; exact hx3⟩, HB3.out, by simp [Ru.runs]⟩
  have Hbx : Hid (Boxed w3 (D + 2) 9 (strB t)) := Lib.hid (by rw [hD]; exact hx3)
  rw [← hD] at hz3 ⊢
  rw [← ha] at HI0 ⊢
  have Ha := Lib.hid ha
  clear hd3 hb3 hx3 hbl3 HA3 hD hF ha
  have hzI : D + 3 ≤ w3.heap.size := by omega
  refine range_box (P := Tryz.prog) rfl (by omega) (gf := 36) (lb := #[.pointer (some ⟨D + 1 + 1, 0, none⟩)]) rfl trivial (enters_of Tryz.func36 (by kernel_rfl) rfl) (ob := D + 2) (by omega)
    (lines_seq 4 (by omega) t (by omega) (D + 2) w3 Hbx.out) (fun _ => rfl)
    (RunI F a D w) (RunI.own HF1.out hwD hzI) (RunI.notBox HF1.out hwD) HI0.out
    (fun x => { tmps := #[.string ⟨t.toArray⟩, undef, .string ⟨#[]⟩, .pointer (some ⟨a, 0, none⟩), .nilIface, .pointer (some ⟨D, 0, none⟩), .pointer (some ⟨D + 1, 0, none⟩), strB x, .string ⟨t.toArray⟩, .int .i64 (t.length : Int), .bool false,
      .tuple #[.pointer (some ⟨a, 0, none⟩), .nilIface], .tuple #[.pointer (some ⟨a, 0, none⟩), .nilIface], .pointer (some ⟨a, 0, none⟩), .nilIface, .nilIface, .bool false, .pointer (some ⟨a, 0, none⟩), .agg #[.pointer (some ⟨a, 0, none⟩)], .string ⟨t.toArray⟩,
      .func (.func 36) #[] #[.pointer (some ⟨D + 1 + 1, 0, none⟩)], strB x, undef, undef, undef, undef, undef, undef, undef], defers := [] }) ?assign ?body ?done
  case assign =>
    intro l x W K hK
    gi_wp2
    exact hK
  case body =>
    rintro q pre x W hI ⟨rest, hN⟩
    have hmem : x ∈ Ru.raws t := by rw [← hN]; simp
    have hxl : (Ru.trim x).length ≤ 5000 := Nat.le_trans (Ru.trim_len x) (Nat.le_trans (Ru.raws_mem_len t x hmem) (by omega))
    have hxl2 : x.length ≤ 5000 := Nat.le_trans (Ru.raws_mem_len t x hmem) (by omega)
    have hpl : pre.length ≤ 3000 := by
      have h8 := congrArg List.length hN
      have h9 := Ru.raws_len t
      simp at h8
      omega
    obtain ⟨st, hst⟩ : ∃ st, st = Ru.stateOf (Ar.s0 5 4 2) (pre.map Ru.trim) := ⟨_, rfl⟩
    obtain ⟨out, hout⟩ : ∃ out, out = Ru.runs (Ar.s0 5 4 2) (pre.map Ru.trim) := ⟨_, rfl⟩
    have hlk : Ar.S.Like 5 4 2 st := by rw [hst]; exact Ru.stateOf_like _ ⟨rfl, rfl, rfl⟩
    have hary : AryOk F (4 * pre.length) W a st := by rw [hst]; exact hI.ary
    have hbld : Lib.IsBuilderF 46 5 D (D + 1) (Lib.byteCells out) W := by rw [hout]; exact hI.bld
    have hlen : out.length ≤ 41 * pre.length := by rw [hout]; exact hI.len
    have hLl := Ru.line_len ⟨hary.ok, hlk⟩ (Ru.trim x)
    have hs2 : Ru.stateOf (Ar.s0 5 4 2) ((pre ++ [x]).map Ru.trim) = (Ru.line st (Ru.trim x)).2 := by rw [List.map_append, List.map_cons, List.map_nil, Ru.stateOf_snoc, ← hst]
    have ho2 : Ru.runs (Ar.s0 5 4 2) ((pre ++ [x]).map Ru.trim) = out ++ ((Ru.line st (Ru.trim x)).1 ++ [10]) := by rw [List.map_append, List.map_cons, List.map_nil, Ru.runs_snoc, ← hst, ← hout]
    have hDW : D + 3 ≤ W.heap.size := by
      obtain ⟨v, hv⟩ := hI.box
      have := (Array.getElem?_eq_some_iff.1 hv).1
      omega
    have hAns := danswer (hary.kept ((Kept.refl (fun _ => False) W).drewN 1) (fun _ _ h => h)) (by omega) (fun k hk => by have := HF1.out k hk; show k < W.heap.size; omega) (fun k hk => by have := HF2.out k hk; have := HE.out.gs; omega) ((HE.out.new hI.bel).drewN 1) hlk (Ru.trim x) hxl
    obtain ⟨L, hL⟩ : ∃ L, L = (Ru.line st (Ru.trim x)).1 := ⟨_, rfl⟩
    obtain ⟨st2, hst2⟩ : ∃ st2, st2 = (Ru.line st (Ru.trim x)).2 := ⟨_, rfl⟩
    unfold AnsPost at hAns
    rw [← hL, ← hst2] at hAns
    rw [← hL] at ho2 hLl
    rw [← hst2] at hs2
    have HAns : Hid (Calls Tryz.prog 17 #[.agg #[.pointer (some ⟨a, 0, none⟩)], .string ⟨(Ru.trim x).toArray⟩] W.drew fun e w' => e = .returned (strB L) ∧ AryOk F (4 * pre.length + 4) w' a st2 ∧ Kept F W.drew w') := Lib.hid hAns
    have HTr : Hid (∀ W', Calls Tryz.prog 18 #[.string ⟨x.toArray⟩, .string ⟨#[10]⟩] W' fun e w' => e = .returned (.string ⟨(Ru.trim x).toArray⟩) ∧ W' = w') := Lib.hid (fun W' => (Tryz.strings_TrimSuffix ⟨x.toArray⟩ ⟨#[10]⟩ W' (by show x.length ≤ _; omega)).mono (by rintro e w' ⟨rfl, rfl⟩; exact ⟨by unfold Ru.trim; simp, rfl⟩))
    have hkF : ∀ w4, Kept F W.drew w4 → ∀ k o, ¬ F k → W.heap[k]? = some o → w4.heap[k]? = some o := fun w4 hk k o hn ho => hk.heap (w := W.drew) ho hn
    have HBd : Hid (∀ w4, Kept F W.drew w4 → Lib.IsBuilderF 46 5 D (D + 1) (Lib.byteCells out) w4) := Lib.hid (fun w4 hk => builder_kept hbld (fun k u t' fz hB ho _ => hkF w4 hk k _ (fun hFk => by have := HF1.out k hFk; omega) ho))
    have HWr : Hid (∀ w4, Kept F W.drew w4 → Calls Tryz.prog 16 #[.pointer (some ⟨D + 1, 0, none⟩), .string (ByteArray.mk L.toArray ++ ByteArray.mk #[10])] w4 fun e w' => (∃ v, e = .returned v) ∧ Lib.IsBuilderF 46 5 D (D + 1) (Lib.byteCells (out ++ (L ++ [10]))) w' ∧ Below D w4 w' ∧ Lib.OthersKept 5 (some (D + 1)) w4 w') := Lib.hid (fun w4 hk => by
      have hcs : Lib.strCells (ByteArray.mk L.toArray ++ ByteArray.mk #[10]) = Lib.byteCells (L ++ [10]) := by
        rw [Lib.strCells_eq]; congr 1
      refine (bwrite D (D + 1) (Lib.byteCells out) (ByteArray.mk L.toArray ++ ByteArray.mk #[10]) w4 (HBd.out w4 hk) ?_ (by have := hk.size; have h8 : W.drew.heap.size = W.heap.size := rfl; omega)).mono ?_
      · rw [Lib.byteCells_length]
        have h7 : (ByteArray.mk L.toArray ++ ByteArray.mk #[10]).size = L.length + 1 := by simp [ByteArray.size_append]; rfl
        omega
      · rintro e w' ⟨rfl, hb, hbl, hok⟩
        rw [hcs, ← Lib.byteCells_append] at hb
        exact ⟨⟨_, rfl⟩, .inr hb, hbl, hok⟩)
    have hLg : ¬ 9223372036854775807 < L.length + 1 := by omega
    have d0 : W.cell? ⟨D, 0, none⟩ = some (.pointer (some ⟨a, 0, none⟩)) := by rw [cell_of_row _ _ _ _ _ _ hI.dsk]; rfl
    have Hs2 := Lib.hid hs2
    have Ho2 := Lib.hid ho2
    have HI := Lib.hid hI
    have Hlen := Lib.hid hlen
    have HLl := Lib.hid hLl
    have HkF := Lib.hid hkF
    clear hst hout hlk hary hbld hlen hs2 ho2 hAns hL hst2 hI hmem hkF hLl
    unfold strB
    gi_wp2
    gi_region_with (first
      | (refine ⟨trivial, ?_⟩; gi_at_call 18; refine (CallsIn.inRound q (callsIn_wide.2 (HTr.out _))).mono ?_; rintro e w' ⟨rfl, rfl⟩)
      | (refine ⟨trivial, ?_⟩; gi_at_call 17; refine (CallsIn.inRound q (callsIn_wide.2 HAns.out)).mono ?_; rintro e w4 ⟨rfl, hA4, hk4⟩; have HA4 := Lib.hid hA4; have HK4 := Lib.hid hk4; clear hA4 hk4; unfold strB)
      | (refine ⟨trivial, ?_⟩; gi_at_call 16; refine (CallsIn.inRound q (callsIn_wide.2 (HWr.out _ HK4.out))).mono ?_; rintro e w5 ⟨⟨v5, rfl⟩, hb5, hbl5, hok5⟩; have HB5 := Lib.hid hb5; have HL5 := Lib.hid hbl5; have HO5 := Lib.hid hok5; clear hb5 hbl5 hok5))
    all_goals
      have hW5 : ∀ k o, D ≤ k → k ≠ D + 1 → (∀ c fz, o ≠ .cells c 5 fz) → W.heap[k]? = some o → w5.heap[k]? = some o := fun k o hk hne ho hW =>
        HO5.out k o (HkF.out w4 HK4.out k o (fun hFk => by have := HF1.out k hFk; omega) hW) (fun e => hne (Option.some.inj e)) ho
      obtain ⟨vb, hvb⟩ := HI.out.box
      have hK5 : Kept (fun k => F k ∨ D ≤ k) W w5 := ((Kept.refl (fun k => F k ∨ D ≤ k) W).drewN 1).also ((HK4.out.mono (T' := fun k => F k ∨ D ≤ k) (fun k _ h => .inl h)).trans (Kept.below HL5.out) (fun k _ h => .inr h))
      have hsz5 : W.heap.size ≤ w5.heap.size := hK5.size
      refine ⟨⟨hsz5, fun k o hBk hk hc => hW5 k o (by omega) (by omega) (fun c fz e => by subst e; cases hc) hk⟩, ?_, ?_⟩
      · rw [hvb]
        exact hW5 _ _ (by omega) (by omega) (fun c fz e => by injection e with _ e _; revert e; decide) hvb
      · refine ⟨?_, ?_, hW5 _ _ (Nat.le_refl _) (by omega) (fun c fz e => by injection e with _ e _; revert e; decide) HI.out.dsk, ⟨vb, hW5 _ _ (by omega) (by omega) (fun c fz e => by injection e with _ e _; revert e; decide) hvb⟩, ?_, ?_⟩
        · rw [Hs2.out]
          exact (HA4.out.kept (Kept.below HL5.out) (fun k hk h => by have := HF1.out k hk; omega)).more (by rw [List.length_append, List.length_cons, List.length_nil]; omega)
        · rw [Ho2.out]; exact HB5.out
        · exact HI.out.bel.trans (hK5.toBelow HI.out.bel.size (fun k _ h => h.elim (fun h => HF2.out k h) (fun h => by omega)))
        · rw [Ho2.out]
          have h1 := Hlen.out
          have h2 := HLl.out
          simp only [List.length_append, List.length_cons, List.length_nil]
          omega
  case done =>
    rintro De ys W hDe rfl hI hK
    have hout : Ru.runs (Ar.s0 5 4 2) ((Ru.raws t).map Ru.trim) = Ru.runs (Ar.s0 5 4 2) (Ru.lines t) := by rw [Ru.raws_lines _ t (Nat.le_refl _)]
    have hDW : D + 3 ≤ W.heap.size := by
      obtain ⟨v, hv⟩ := hI.box
      have := (Array.getElem?_eq_some_iff.1 hv).1
      omega
    have HS := Lib.hid (Tryz.Builder_String_any_k D (D + 1) _ W hI.bld (by omega))
    rw [hout] at HS
    have HI := Lib.hid hI
    clear hI
    gi_wp2_with (refine ⟨trivial, ?_⟩; gi_at_call 19; refine (callsIn_wide.2 HS.out).mono ?_; rintro e w5 ⟨rfl, hb5, hbl5, hok5⟩)
    have hK5 : w5.heap[De]? = some (.deferred (some [])) := hok5 De _ hK (fun e => by injection e with e; omega) (fun c fz e => by cases e)
    refine ⟨by simp, .inl ⟨_, _, rfl, run_takeDeferred hK5, ?_⟩⟩
    exact ⟨_, results_tmp rfl _ _ _, rfl, (HI.out.bel.trans (hbl5.mono hwD)).trans (belowK_b (w := w) (Nat.le_refl _) w5 De _ _ (by omega) hK5 rfl rfl)⟩
end Go.Proofs.YtneebcniofolmaaGreatDoor
namespace Go.Proofs.YtneebcniofolmaaGreatDoor
open Go.ChangeShapes Go.WideShapes Go.ChangeAt Go.RowKit
set_option linter.unusedVariables false
set_option maxHeartbeats 4000000
set_option maxRecDepth 100000
theorem rline {F : Nat → Prop} {w : World} {b : Nat} {s : Ar.S} (h : RAryOk F w b s) (hFw : ∀ k, F k → k < w.heap.size) (hl : Ar.S.Like 5 4 2 s) (l : List UInt8) (hs : l.length ≤ 5000) :
    Calls Tryz.prog 9 #[.pointer (some ⟨b, 0, none⟩), .string ⟨l.toArray⟩] w (RLPost F b (Ru.line s l) w) := by
  obtain ⟨w0, r, hcut⟩ : ∃ w0 r, Ru.cut 32 l = w0 :: r := by
    cases hc : Ru.cut 32 l with
    | nil => exact absurd hc (Ru.cut_ne 32 l)
    | cons a r => exact ⟨a, r, rfl⟩
  by_cases hns : w0 = Ru.Wd.scrub.txt ∧ r = []
  · obtain ⟨rfl, rfl⟩ := hns
    exact rline_scrub h hFw hl l hs hcut
  · exact rline_words h hFw hl l hs w0 r hcut hns
/-- the last of the cut lines, and the lines -/
theorem lines_last (t : List UInt8) (x : List UInt8) (m : Nat) (hm : (Ru.cut 10 t).length = m + 1) (hx : (Ru.cut 10 t)[m]? = some x) : Ru.lines t = if x = [] then (Ru.cut 10 t).take m else Ru.cut 10 t := by
  have hl : (Ru.cut 10 t).getLast? = some x := by rw [List.getLast?_eq_getElem?, hm]; exact hx
  unfold Ru.lines
  rw [hl]
  by_cases h0 : x = []
  · subst h0
    rw [if_pos rfl, if_pos rfl, List.dropLast_eq_take, hm]; rfl
  · rw [if_neg (fun e => h0 (Option.some.inj e)), if_neg h0]
/-- how far the law has asked -/
def AnRel (F : Nat → Prop) (b : Nat) (L : List (List UInt8)) (w : World) (gk : Nat) (v6 v7 : Value) (wr : World) : Prop :=
  ∃ k : Nat, k + gk = L.length ∧ v7 = iv k ∧ v6 = strB (Ru.runs (Ar.s0 5 4 2) (L.take k)) ∧ (Ru.runs (Ar.s0 5 4 2) (L.take k)).length ≤ 41 * k ∧ RAryOk F wr b (Ru.stateOf (Ar.s0 5 4 2) (L.take k)) ∧ Kept F w wr
theorem runAnswers_walk (t : ByteArray) (ht : t.size ≤ maxLen) (w : World) (hE : Env w) :
    Calls Tryz.prog 3 #[.string t] w fun e w' => e = .returned (.bool true) ∧ Below w.heap.size w w' := by
  obtain ⟨l, hl⟩ : ∃ l, l = t.data.toList := ⟨_, rfl⟩
  have hsl : t = ⟨l.toArray⟩ := by rw [hl]
  have hsz : t.size = l.length := by rw [hsl]; rfl
  have HE := Lib.hid hE
  subst hsl
  clear hE hl
  by_cases h3 : 3000 < l.length
  · have HLg := Lib.hid (run_long l h3 w)
    have h3I : (3000 : Int) < (l.length : Int) := by omega
    go_enter Tryz.func3, Tryz.ntmps3
    go_wp2_with fail
    refine HLg.out.mono ?_
    rintro e w1 ⟨rfl, rfl⟩
    unfold strB
    go_wp2_with fail
    go_ret
    exact ⟨rfl, Below.refl _ _⟩
  · have h3I : ¬ (3000 : Int) < (l.length : Int) := by omega
    have HR := Lib.hid (run_any l (by omega) w HE.out)
    obtain ⟨L, hL⟩ : ∃ L, L = Ru.lines l := ⟨_, rfl⟩
    obtain ⟨R, hR⟩ : ∃ R, R = Ru.runs (Ar.s0 5 4 2) (Ru.lines l) := ⟨_, rfl⟩
    rw [← hR] at HR
    rw [← hL] at hR
    have HRe := Lib.hid hR
    have HCut : Hid (∀ W, Calls Tryz.prog 7 #[.string ⟨l.toArray⟩, .int .u8 (10 : Int)] W (CutPost l 10 W)) := Lib.hid (fun W => rcut_any l 10 (by omega) W)
    obtain ⟨C, hC⟩ : ∃ C, C = Ru.cut 10 l := ⟨_, rfl⟩
    have hcl := Ru.cut_len 10 l
    have hcc := List.count_le_length (a := (10 : UInt8)) (l := l)
    have hcs := Ru.cut_small 10 l
    obtain ⟨m, hm⟩ : ∃ m, (Ru.cut 10 l).length = m + 1 := ⟨_, hcl⟩
    obtain ⟨x, hx⟩ : ∃ x, (Ru.cut 10 l)[m]? = some x := ⟨(Ru.cut 10 l)[m]'(by omega), List.getElem?_eq_getElem _⟩
    have hll := lines_last l x m hm hx
    unfold CutPost at HCut
    rw [← hC] at hcl hcs hm hx hll HCut
    rw [← hL] at hll
    have hm3 : m ≤ 3000 := by omega
    have Hx := Lib.hid hx
    have Hll := Lib.hid hll
    have Hcs := Lib.hid hcs
    have Hm := Lib.hid hm
    have hLC : ∀ (j : Nat) (y : List UInt8), L[j]? = some y → C[j]? = some y := fun j y h => by
      rw [hll] at h
      split at h
      · rw [List.getElem?_take] at h
        split at h
        · exact h
        · cases h
      · exact h
    have HLC := Lib.hid hLC
    have hLN : L.length = if x = [] then m else m + 1 := by
      rw [hll]; split
      · rw [List.length_take, hm]; omega
      · exact hm
    obtain ⟨N, hN⟩ : ∃ N, N = L.length := ⟨_, rfl⟩
    rw [← hN] at hLN
    have HN := Lib.hid hN
    have hw1 : IntKind.i64.wrap ((m : Int) + 1 - 1) = (m : Int) := by rw [IntWalk.i64_in _ (by omega)]; omega
    clear hL hR hC hcl hcc hcs hll hx hLC hN
    go_enter Tryz.func3, Tryz.ntmps3
    go_wp2_with fail
    refine HR.out.mono ?_
    rintro e w1 ⟨rfl, hb1⟩
    have HB1 := Lib.hid hb1
    clear hb1 HR
    go_wp2_with fail
    refine (HCut.out _).mono ?_
    rintro e w2 ⟨vv, rfl, hO, hb2⟩
    obtain ⟨g, cap, rfl, hgb, hgz, hgc, hg2⟩ := Txts.of_owns hO rfl (by omega)
    have HB2 := Lib.hid (HB1.out.trans (hb2.mono HB1.out.size))
    have Hg2 := Lib.hid hg2
    have cx := hg2 m x Hx.out
    rw [hm] at hgc ⊢
    have hmI : ¬ ((m : Int) + 1 ≤ (m : Int)) := by omega
    clear hO hb2 hg2 hm HCut
    go_upto_if 24 with (fail)
    go_cut [4] (fun z wq => z = .slice (some ⟨g, 0, none⟩) N cap ∧ w2 = wq)
    case first =>
      by_cases hx0 : x = []
      · rw [if_pos hx0] at hLN
        subst hx0 hLN
        go_wp2_with fail
        go_meet
        exact ⟨rfl, rfl⟩
      · rw [if_neg hx0] at hLN
        have hx1 : x.isEmpty = false := by simpa using hx0
        have hx2 : (x == []) = false := by simpa using hx0
        subst hLN
        rw [hx1]
        go_wp2_with fail
        go_meet
        exact ⟨rfl, rfl⟩
    case rest =>
      obtain ⟨rfl, rfl⟩ := hcut
      have hNc : N ≤ cap := by rw [hLN]; split <;> omega
      have hN3 : N ≤ 3001 := by rw [hLN]; split <;> omega
      have HNw : Hid (Calls Tryz.prog 8 #[iv 5, iv 4, iv 2] w2 (RNewPost 5 4 2 w2)) := Lib.hid (rNew 5 4 2 (by decide) (by decide) (by decide) (by decide) (by decide) (by decide) w2)
      unfold RNewPost at HNw
      clear hLN
      go_wp2_with fail
      refine HNw.out.mono ?_
      rintro e w3 ⟨rfl, hA3, hb3⟩
      obtain ⟨F, hF⟩ : ∃ F : Nat → Prop, F = fun p => w2.heap.size ≤ p ∧ p < w3.heap.size := ⟨_, rfl⟩
      have HA3 : Hid (RAryOk F w3 w2.heap.size (Ar.s0 5 4 2)) := Lib.hid (hA3.wide (fun k hk h => by rw [hF]; exact ⟨h, hk⟩))
      have HFlo : Hid (∀ k, F k → w2.heap.size ≤ k) := Lib.hid (fun k h => by rw [hF] at h; exact h.1)
      have HFhi : Hid (∀ k, F k → k < w3.heap.size) := Lib.hid (fun k h => by rw [hF] at h; exact h.2)
      have HB3 := Lib.hid (HB2.out.trans (hb3.mono HB2.out.size))
      have Hg3 : Hid (∀ j y, L[j]? = some y → w3.cell? ⟨g, j, none⟩ = some (.string ⟨y.toArray⟩)) := Lib.hid (fun j y h => below_cell0 hb3 (Hg2.out j y (HLC.out j y h)))
      have HnF : Hid (¬ F g) := Lib.hid (fun h => by have := HFlo.out g h; omega)
      obtain ⟨b, hb⟩ : ∃ b, b = w2.heap.size := ⟨_, rfl⟩
      rw [← hb] at HA3 ⊢
      clear hA3 hF hb3 hb
      go_wp2_with fail
      go_loopg [6, 7, 8] N (fun gk v6 v7 v8 wr => AnRel F b L w3 gk v6 v7 wr)
      case atStart => exact ⟨0, by rw [← HN.out]; omega, rfl, rfl, by show (0 : Nat) ≤ _; omega, HA3.out, Kept.refl F _⟩
      case round =>
        obtain ⟨k, hk, rfl, rfl, hlen, hA, hK⟩ := hrel
        rw [← HN.out] at hk
        have Hk := Lib.hid hk
        have HAk := Lib.hid hA
        have HKk := Lib.hid hK
        clear hk hA hK
        by_cases hlt : k < N
        · obtain ⟨y, hy⟩ : ∃ y, L[k]? = some y := ⟨L[k]'(by rw [← HN.out]; exact hlt), List.getElem?_eq_getElem _⟩
          have cy := HKk.out.cell (Hg3.out k y hy) HnF.out
          have hyl := Hcs.out y (List.mem_of_getElem? (HLC.out k y hy))
          have hyl9 : y.length ≤ 3000 := by omega
          have hltI : (k : Int) < (N : Int) := by omega
          have hw2 : IntKind.i64.wrap ((k : Int) + 1) = (k : Int) + 1 := IntWalk.i64_in _ (by omega)
          have hlike : Ar.S.Like 5 4 2 (Ru.stateOf (Ar.s0 5 4 2) (L.take k)) := Ru.stateOf_like _ ⟨rfl, rfl, rfl⟩
          have HLn := rline HAk.out (fun p hp => by have := HFhi.out p hp; have := HKk.out.size; omega) hlike y (by omega)
          have hol := Ru.line_len ⟨HAk.out.1, hlike⟩ y
          have htk : L.take (k + 1) = L.take k ++ [y] := by rw [List.take_add_one, hy]; rfl
          have hrs := Ru.runs_snoc (L.take k) y (Ar.s0 5 4 2)
          have hst := Ru.stateOf_snoc (L.take k) y (Ar.s0 5 4 2)
          rw [← htk] at hrs hst
          unfold RLPost at HLn
          rw [← hst] at HLn
          obtain ⟨S, hS⟩ : ∃ S, S = Ru.runs (Ar.s0 5 4 2) (L.take k) := ⟨_, rfl⟩
          obtain ⟨o, ho⟩ : ∃ o, o = (Ru.line (Ru.stateOf (Ar.s0 5 4 2) (L.take k)) y).1 := ⟨_, rfl⟩
          rw [← hS] at hrs hlen ⊢
          rw [← ho] at hrs hol HLn
          have HLnh := Lib.hid HLn
          have Hrs := Lib.hid hrs
          have hSl9 : S.length ≤ 200000 := by omega
          have Hlen := Lib.hid hlen
          have Hol := Lib.hid hol
          have HeS : Hid (ByteArray.mk S.toArray ++ ByteArray.mk o.toArray ++ ByteArray.mk #[10] = ByteArray.mk (Ru.runs (Ar.s0 5 4 2) (L.take (k + 1))).toArray) := Lib.hid (by
            rw [Hrs.out]
            apply ByteArray.ext; simp)
          clear hlike htk hst hS ho hy HLn hrs hlen
          unfold strB
          go_wp2_with fail
          refine HLnh.out.mono ?_
          rintro e w4 ⟨rfl, hA4, hk4⟩
          have HA4 := Lib.hid hA4
          have HK4 := Lib.hid (HKk.out.also hk4)
          clear hA4 hk4
          unfold strB
          go_wp2_with fail
          rw [HeS.out]
          go_roundg (gk - 1)
          case measure => have := Hk.out; omega
          case rel => exact ⟨k + 1, by rw [← HN.out]; have := Hk.out; omega, by go_num, rfl, by rw [Hrs.out, List.length_append, List.length_append]; have := Hlen.out; have := Hol.out; show _ + (_ + 1) ≤ _; omega, HA4.out, HK4.out⟩
        · have hkN : k = N := by have := Hk.out; omega
          have hS : Ru.runs (Ar.s0 5 4 2) (L.take k) = R := by rw [HRe.out, List.take_of_length_le (by rw [← HN.out]; omega)]
          rw [hS]
          have hltI : ¬ (k : Int) < (N : Int) := by omega
          clear hS
          unfold strB
          go_wp2_with fail
          go_ret
          exact ⟨rfl, HB3.out.trans (HKk.out.toBelow HB3.out.size (fun p hp hF => by have := HFlo.out p hF; have := HB2.out.size; omega))⟩
end Go.Proofs.YtneebcniofolmaaGreatDoor
