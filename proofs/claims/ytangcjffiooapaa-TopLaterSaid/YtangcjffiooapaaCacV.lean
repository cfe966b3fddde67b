/- The walks of a cache's methods. -/
import Derived.Test.YtangcjffiooapaaCacZ
namespace Go.Proofs.Ytangcjffiooapaa
open Go.ChangeShapes Go.WideShapes Go.ChangeAt Go.RowKit Go.Maps
set_option linter.unusedVariables false
theorem CacAt.more {w : World} {b mb n n' : Nat} {vb vr vd : Value} {D : DataW Unit} {ks : List Int} {c : Cc.C} (h : CacAt w b mb vb vr vd n D ks c) (hn : n ≤ n') : CacAt w b mb vb vr vd n' D ks c :=
  { h with has := { h.has with own := h.has.own.mono hn } }
theorem CacOk.more {F : Nat → Prop} {w : World} {b n n' : Nat} {c : Cc.C} (h : CacOk F w b n c) (hn : n ≤ n') : CacOk F w b n' c := by
  obtain ⟨mb, vb, vr, vd, D, h1, h2⟩ := h
  exact ⟨mb, vb, vr, vd, D, h1.more hn, h2⟩
def CReadPost (F : Nat → Prop) (b n : Nat) (r : (ByteArray × Int) × Cc.C) (w : World) (e : Ending) (w' : World) : Prop :=
  e = .returned (.tuple #[.string r.1.1, errV r.1.2]) ∧ CacOk F w' b (n + 1) r.2 ∧ Kept F w w'
set_option maxRecDepth 100000 in
set_option maxHeartbeats 1000000 in
theorem cread_any {w : World} {b n : Nat} {c : Cc.C} {F : Nat → Prop} (h : CacOk F w b n c) (hinv : Cc.Inv c) (hF : ∀ k, w.heap.size ≤ k → F k) (hn : n < 1000000) (hh : c.hits < 1000000) (i : Int) :
    Calls Try.prog 9 #[.pointer (some ⟨b, 0, none⟩), iv i] w (CReadPost F b n (Cc.read c i) w) := by
  obtain ⟨mb, vb, vr, vd, D, hA, hI⟩ := h
  have HA := Lib.hid hA
  have HI := Lib.hid hI
  have HF := Lib.hid hF
  have HInv := Lib.hid hinv
  have HT := Lib.hid (there_any hA i)
  by_cases ht : Cc.there c i = true
  · have hi := Cc.there_iff.1 ht
    obtain ⟨q, rfl⟩ : ∃ q : Nat, i = q := ⟨i.toNat, by omega⟩
    have hq : q < c.below.length := by omega
    have hl40 := hinv.len
    have hrd : Cc.read c q = ((Cc.get c q, 0), Cc.put (Cc.hit c q) q (Cc.get c q)) := by unfold Cc.read; rw [if_pos ht]
    have hgs := Cc.get_sz hinv hi
    rw [ht] at HT
    have Hrd := Lib.hid hrd
    obtain ⟨s0, hs0, hlk, hv0⟩ := hA.has.look_ok (i := q) (by omega) (by omega)
    have e0 := hA.c0
    have e2 := hA.c2
    have e5 := hA.c5
    have ef := hA.f
    obtain ⟨isr, hisr⟩ : ∃ isr, isr = c.row.contains (q : Int) := ⟨_, rfl⟩
    rw [← hisr] at hlk
    obtain ⟨g, o, cap, hvb, _, hgl, hnc, hcm, hcell, hfz⟩ := hA.below.at0 (by rw [List.length_map]; omega)
    rw [List.length_map] at hvb hnc hcell
    have fq := hcell q hq
    rw [List.getElem?_map, List.getElem?_eq_getElem hq] at fq
    have fq' : w.cell? ⟨g, o + q, none⟩ = some (.string (c.below.getD q ⟨#[]⟩)) := by
      rw [fq, List.getD_eq_getElem?_getD, List.getElem?_eq_getElem hq]; rfl
    rw [hvb] at e0
    obtain ⟨m, hmm⟩ : ∃ m, m = c.below.length := ⟨_, rfl⟩
    rw [← hmm] at e0
    have hqm : q < m := by omega
    have hqI : (q : Int) < (m : Int) := by omega
    unfold maxLen at hs0
    cases isr with
    | true =>
      have hmem : (q : Int) ∈ c.row := List.contains_iff_mem.1 hisr.symm
      have hg : Cc.get c q = s0 := by unfold Cc.get; rw [if_pos hisr.symm]; exact (hv0 hmem).symm
      have hhit : Cc.hit c q = { c with hits := c.hits + 1 } := by unfold Cc.hit; rw [if_pos hisr.symm]
      rw [hg, hhit] at hrd
      rw [hrd]
      rw [hg] at hgs
      have hA1 := hA.setHits (c.hits + 1)
      have HP := Lib.hid (cput_any (c := { c with hits := c.hits + 1 }) (F := F) hA1 (by have := hinv.hit q; rw [hhit] at this; exact this) (fun k hk => hF k (by simpa [World.setCell] using hk)) hI hn q hq s0 hgs)
      have HK1 : Hid (Kept F w (w.setCell ⟨b, 5, none⟩ (iv ((c.hits + 1 : Nat) : Int)))) := Lib.hid ((Kept.refl F w).setCell (p := ⟨b, 5, none⟩) (fun _ => hI.b) _)
      have hcast : ((c.hits : Nat) : Int) + 1 = ((c.hits + 1 : Nat) : Int) := by omega
      have Hcast := Lib.hid hcast
      clear hA hI hF hinv ht hi hrd hgs hv0 hisr hcell hfz fq fq' hvb hmm hmem hg hhit hA1 Hrd hcast hgl
      go_enter Try.func9, Try.ntmps9
      go_wp2_with fail
      refine HT.out.mono ?_
      rintro e w' ⟨rfl, rfl⟩
      go_wp2_with fail
      rw [Hcast.out]
      refine HP.out.mono ?_
      rintro e w2 ⟨rfl, hO2, hK2⟩
      have HO2 := Lib.hid hO2
      have HK2 := Lib.hid (HK1.out.also hK2)
      clear hO2 hK2
      go_wp2_with fail
      go_ret2
      exact ⟨rfl, HO2.out, HK2.out⟩
    | false =>
      have hg : Cc.get c q = c.below.getD q ⟨#[]⟩ := by unfold Cc.get; rw [if_neg (by rw [← hisr]; decide), Int.toNat_natCast]
      have hhit : Cc.hit c q = c := by unfold Cc.hit; rw [if_neg (by rw [← hisr]; decide)]
      rw [hg, hhit] at hrd
      rw [hrd]
      rw [hg] at hgs
      have HP := Lib.hid (cput_any (F := F) hA hinv hF hI hn q hq (c.below.getD q ⟨#[]⟩) hgs)
      obtain ⟨s1, hs1⟩ : ∃ s1, s1 = c.below.getD q ⟨#[]⟩ := ⟨_, rfl⟩
      rw [← hs1] at HP fq' ⊢
      clear hA hI hF hinv ht hi hrd hgs hv0 hisr hcell hfz fq hvb hmm hg hhit Hrd hs1 hgl
      go_enter Try.func9, Try.ntmps9
      go_wp2_with fail
      refine HT.out.mono ?_
      rintro e w' ⟨rfl, rfl⟩
      go_wp2_with fail
      refine HP.out.mono ?_
      rintro e w2 ⟨rfl, hO2, hK2⟩
      have HO2 := Lib.hid hO2
      have HK2 := Lib.hid hK2
      clear hO2 hK2
      go_wp2_with fail
      go_ret2
      exact ⟨rfl, HO2.out, HK2.out⟩
  · have ht0 : Cc.there c i = false := by simpa using ht
    have hrd : Cc.read c i = ((⟨#[]⟩, 1), c) := by unfold Cc.read; rw [if_neg ht]
    rw [hrd]
    rw [ht0] at HT
    clear hA hI hF hinv ht hrd ht0
    go_enter Try.func9, Try.ntmps9
    go_wp2_with fail
    refine HT.out.mono ?_
    rintro e w' ⟨rfl, rfl⟩
    go_wp2_with fail
    go_ret2
    exact ⟨rfl, CacOk.more ⟨mb, vb, vr, vd, D, HA.out, HI.out⟩ (by omega), Kept.refl _ _⟩
def CListPost (xs : List Int) (w : World) (e : Ending) (w' : World) : Prop :=
  ∃ v, e = .returned v ∧ w'.ownsRow w.heap.size 3 1 v xs.length (xs.map iv) ∧ Below w.heap.size w w'
theorem cHas_any {w : World} {b n : Nat} {c : Cc.C} {F : Nat → Prop} (h : CacOk F w b n c) (hl : c.row.length ≤ 1000) :
    Calls Try.prog 10 #[.pointer (some ⟨b, 0, none⟩)] w (CListPost c.row w) := by
  obtain ⟨mb, vb, vr, vd, D, hA, hI⟩ := h
  have HR := Lib.hid hA.row.row
  have c3 := hA.c3
  have c4 := hA.c4
  obtain ⟨pv, mv, cv, rfl⟩ := hA.row.slice
  clear hA hI
  go_enter Try.func10, Try.ntmps10
  go_wp2_with fail
  refine (clone_any (c.row.map iv) (by intro u hu; obtain ⟨x, _, rfl⟩ := List.mem_map.1 hu; rfl) (by rw [List.length_map]; omega) _ _ HR.out).mono ?_
  rintro e w' ⟨v, rfl, hown, hb⟩
  rw [List.length_map] at hown
  have Hown := Lib.hid hown
  clear hown
  go_wp2_with fail
  go_ret
  exact ⟨_, rfl, Hown.out, hb⟩
theorem cDirty_any {w : World} {b n : Nat} {c : Cc.C} {F : Nat → Prop} (h : CacOk F w b n c) (hl : c.dirty.length ≤ 1000) :
    Calls Try.prog 15 #[.pointer (some ⟨b, 0, none⟩)] w (CListPost c.dirty w) := by
  obtain ⟨mb, vb, vr, vd, D, hA, hI⟩ := h
  have HR := Lib.hid hA.dirty.row
  have c3 := hA.c3
  have c4 := hA.c4
  obtain ⟨pv, mv, cv, rfl⟩ := hA.dirty.slice
  clear hA hI
  go_enter Try.func15, Try.ntmps15
  go_wp2_with fail
  refine (clone_any (c.dirty.map iv) (by intro u hu; obtain ⟨x, _, rfl⟩ := List.mem_map.1 hu; rfl) (by rw [List.length_map]; omega) _ _ HR.out).mono ?_
  rintro e w' ⟨v, rfl, hown, hb⟩
  rw [List.length_map] at hown
  have Hown := Lib.hid hown
  clear hown
  go_wp2_with fail
  go_ret
  exact ⟨_, rfl, Hown.out, hb⟩
theorem chits_any {w : World} {b n : Nat} {c : Cc.C} {F : Nat → Prop} (h : CacOk F w b n c) :
    Calls Try.prog 11 #[.pointer (some ⟨b, 0, none⟩)] w fun e w' => e = .returned (iv c.hits) ∧ w = w' := by
  obtain ⟨mb, vb, vr, vd, D, hA, hI⟩ := h
  have c5 := hA.c5
  clear hA hI
  go_enter Try.func11, Try.ntmps11
  go_wp2_with fail
  go_ret
  exact ⟨rfl, rfl⟩
def CBelowPost (xs : List ByteArray) (w : World) (e : Ending) (w' : World) : Prop :=
  ∃ v, e = .returned v ∧ w'.ownsRow w.heap.size 9 1 v xs.length (xs.map Value.string) ∧ Below w.heap.size w w'
theorem cbelow_any {w : World} {b n : Nat} {c : Cc.C} {F : Nat → Prop} (h : CacOk F w b n c) (hl : c.below.length ≤ 1000) :
    Calls Try.prog 13 #[.pointer (some ⟨b, 0, none⟩)] w (CBelowPost c.below w) := by
  obtain ⟨mb, vb, vr, vd, D, hA, hI⟩ := h
  have HR := Lib.hid hA.below.row
  have c0 := hA.c0
  obtain ⟨pv, mv, cv, rfl⟩ := hA.below.slice
  clear hA hI
  go_enter Try.func13, Try.ntmps13
  go_wp2_with fail
  refine (clone_str (c.below.map Value.string) (by intro u hu; obtain ⟨x, _, rfl⟩ := List.mem_map.1 hu; rfl) (by rw [List.length_map]; omega) _ _ HR.out).mono ?_
  rintro e w' ⟨v, rfl, hown, hb⟩
  rw [List.length_map] at hown
  have Hown := Lib.hid hown
  clear hown
  go_wp2_with fail
  go_ret
  exact ⟨_, rfl, Hown.out, hb⟩
theorem cacNew_no (cells : List ByteArray) (x : Int) (h : x < 1 ∨ 1 ≤ x ∧ 12 < x) (h0 : cellsF cells = 0) (v : Value) (w : World) (hv : Row w v (cells.map Value.string)) :
    Calls Try.prog 8 #[v, iv x] w fun e w' => e = .returned (.tuple #[.pointer none, ev 1]) ∧ w = w' := by
  have HC := Lib.hid (cells_any cells v w hv)
  rw [h0] at HC
  clear h0 hv
  rcases h with h | ⟨h, h'⟩
  all_goals
    go_enter Try.func8, Try.ntmps8
    go_wp2_with fail
    refine HC.out.mono ?_
    rintro e w' ⟨he, rfl⟩
    obtain rfl : e = .returned .nilIface := he
    go_wp2_with fail
    go_ret2
    exact ⟨rfl, rfl⟩
theorem cacNew_bad (cells : List ByteArray) (x : Int) (h0 : cellsF cells ≠ 0) (v : Value) (w : World) (hv : Row w v (cells.map Value.string)) :
    Calls Try.prog 8 #[v, iv x] w fun e w' => e = .returned (.tuple #[.pointer none, ev (cellsF cells)]) ∧ w = w' := by
  have HC := Lib.hid (cells_any cells v w hv)
  rw [errV_ne h0] at HC
  generalize cellsF cells = k at *
  clear h0 hv
  go_enter Try.func8, Try.ntmps8
  go_wp2_with fail
  refine HC.out.mono ?_
  rintro e w' ⟨rfl, rfl⟩
  go_wp2_with fail
  go_ret2
  exact ⟨rfl, rfl⟩
end Go.Proofs.Ytangcjffiooapaa
