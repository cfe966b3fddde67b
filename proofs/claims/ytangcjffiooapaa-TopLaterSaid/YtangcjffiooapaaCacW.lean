/- The map of a cache, and the walk of its without. -/
import Derived.Test.YtangcjffiooapaaCacP
import Derived.Test.YtangcjffiooapaaDelF
import Derived.Test.YtangcjffiooapaaSlices
import Derived.Maps.StringElems
import Derived.Maps.OwnOps
import Derived.IntWalk
namespace Go.Proofs.Ytangcjffiooapaa
open Go.ChangeShapes Go.WideShapes Go.ChangeAt Go.RowKit Go.Maps
set_option linter.unusedVariables false
theorem intKeyedC : Keyed Try.prog 3 := int_keyed Try.underlying3
theorem zeroStr (w : World) : (zeroValue 9).run Try.prog w = .ok (.string ⟨#[]⟩) w := by kernel_rfl
theorem wfI {n : Int} (h : 0 ≤ n) (h2 : n ≤ 9223372036854775807) : (Lit.int .i64 n).wf = true := by
  simp [Lit.wf, IntKind.min, IntKind.max, IntKind.signed, IntKind.bits]; omega
abbrev kL (n : Int) : Lit := .int .i64 n
theorem keyI {n : Int} (h : 0 ≤ n) (h2 : n ≤ 1000000) : keyOf Try.prog 3 (iv n) = some (kL n) := keyOf_int_mk Try.underlying3 (wfI h (by omega))
theorem kL_inj {a b : Int} (h : kL a = kL b) : a = b := by injection h
theorem str_of {a b : ByteArray} (h : a.data.toList = b.data.toList) : a = b := by
  apply ByteArray.ext; exact Array.toList_inj.1 h
structure HasAt (w : World) (mb n : Nat) (row : List Int) (val : Int → ByteArray) (D : DataW Unit) : Prop where
  own : w.ownsMap Try.prog 3 (plainElem Try.prog 9) mb n D
  has : ∀ k : Int, Maps.has D (kL k) = row.contains k
  val : ∀ k ∈ row, ∀ zd, D.atKey (kL k) zd = .lit (.string (val k).data.toList)
namespace HasAt
variable {w w1 : World} {mb n : Nat} {row : List Int} {val : Int → ByteArray} {D : DataW Unit}
theorem made (w : World) (val : Int → ByteArray) : HasAt (w.alloc (.map #[] 0)) w.heap.size 0 [] val (.map []) :=
  ⟨World.ownsMap_made _ _ _ _, fun _ => rfl, (fun k h => by cases h)⟩
theorem kept {F : Nat → Prop} (h : HasAt w mb n row val D) (hk : Kept F w w1) (hn : ¬ F mb) : HasAt w1 mb n row val D := by
  obtain ⟨es, clock, hb, r⟩ := h.own
  exact { h with own := ⟨es, clock, hk.heap hb hn, r⟩ }
theorem lt (h : HasAt w mb n row val D) : mb < w.heap.size := h.own.lt
set_option maxRecDepth 100000 in
theorem look_ok (h : HasAt w mb n row val D) {i : Int} (h0 : 0 ≤ i) (h1 : i ≤ 1000000) : ∃ s : ByteArray, s.size ≤ maxLen ∧ (Instr.lookup 67 (.map (some mb)) (iv i) true).run Try.prog w = .ok (.tuple #[.string s, .bool (row.contains i)]) w ∧ (i ∈ row → s = val i) := by
  obtain ⟨v, ps, hrun, hv⟩ := h.own.look_ok intKeyedC Try.underlying67 (zeroStr w) (plainElem_string Try.underlying9 (s := ⟨#[]⟩) (Nat.zero_le _)) (keyI h0 h1)
  obtain ⟨s, rfl, hz, hs⟩ := plainElem_string_inv Try.underlying9 hv
  refine ⟨s, hs, by rw [← h.has i]; exact hrun, fun hm => ?_⟩
  have e := congrArg Prod.fst hz
  rw [h.val i hm] at e
  injection e with e
  injection e with e
  exact (str_of e).symm
set_option maxRecDepth 100000 in
theorem look (h : HasAt w mb n row val D) {i : Int} (h0 : 0 ≤ i) (h1 : i ≤ 1000000) (hm : i ∈ row) : (Instr.lookup 67 (.map (some mb)) (iv i) false).run Try.prog w = .ok (.string (val i)) w := by
  obtain ⟨v, ps, hrun, hv⟩ := h.own.lookup intKeyedC Try.underlying67 (zeroStr w) (plainElem_string Try.underlying9 (s := ⟨#[]⟩) (Nat.zero_le _)) (keyI h0 h1)
  obtain ⟨s, rfl, hz, hs⟩ := plainElem_string_inv Try.underlying9 hv
  have e := congrArg Prod.fst hz
  rw [h.val i hm] at e
  injection e with e
  injection e with e
  rw [← str_of e] at hrun
  exact hrun
theorem put {w1 : World} (h : HasAt w mb n row val D) {i : Int} (h0 : 0 ≤ i) (h1 : i ≤ 1000000) {b : ByteArray} {n' : Nat} {row' : List Int} (hr : ∀ k, k ∈ row' ↔ k = i ∨ k ∈ row) (ho : w1.ownsMap Try.prog 3 (plainElem Try.prog 9) mb n' (D.put (kL i) (.lit (.string b.data.toList)))) :
    HasAt w1 mb n' row' (Cc.upd val i b) (D.put (kL i) (.lit (.string b.data.toList))) := by
  have hm := h.own.isMap
  have hk : WideAt.IsKeyLit (kL i) := intKeyedC.key (keyI h0 h1)
  refine ⟨ho, fun k => ?_, fun k hk' zd => ?_⟩
  · by_cases e : k = i
    · subst e; rw [has_put_same hm hk]; symm; rw [List.contains_iff_mem]; exact (hr k).2 (.inl rfl)
    · rw [has_put_other (fun q => e (kL_inj q)), h.has k, Bool.eq_iff_iff, List.contains_iff_mem, List.contains_iff_mem, hr k]
      exact ⟨.inr, fun h => h.resolve_left e⟩
  · by_cases e : k = i
    · subst e; rw [atKey_put_same hm hk, Cc.upd_same]
    · rw [atKey_put_other (fun q => e (kL_inj q)), Cc.upd_other _ _ e]
      exact h.val k (((hr k).1 hk').resolve_left e) zd
theorem del {w1 : World} (h : HasAt w mb n row val D) {i : Int} {n' : Nat} {row' : List Int} (hr : ∀ k, k ∈ row' ↔ k ∈ row ∧ k ≠ i) (ho : w1.ownsMap Try.prog 3 (plainElem Try.prog 9) mb n' (D.del (kL i))) :
    HasAt w1 mb n' row' val (D.del (kL i)) := by
  refine ⟨ho, fun k => ?_, fun k hk' zd => ?_⟩
  · by_cases e : k = i
    · subst e; rw [has_del_same]; symm; rw [← Bool.not_eq_true, List.contains_iff_mem, hr k]; exact fun h => h.2 rfl
    · rw [has_del_other (fun q => e (kL_inj q)), h.has k, Bool.eq_iff_iff, List.contains_iff_mem, List.contains_iff_mem, hr k]
      exact ⟨fun h => ⟨h, e⟩, fun h => h.1⟩
  · obtain ⟨h1, h2⟩ := (hr k).1 hk'
    rw [atKey_del_other (fun q => h2 (kL_inj q))]
    exact h.val k h1 zd
end HasAt
/-- what without's own function says -/
theorem withoutP (B : Nat) (n : Int) : PredQ iv 60 #[.pointer (some ⟨B, 0, none⟩)] (fun x => x == n) (fun W => W.cell? ⟨B, 0, none⟩ = some (iv n)) := by
  intro W hc x
  show Calls Try.prog _ _ W fun e w' => e = .returned (.bool (x == n)) ∧ W = w'
  go_enter Try.func60, Try.ntmps60
  go_wp2
  go_ret
  exact ⟨rfl, rfl⟩
def WoPost (xs : List Int) (i : Int) (w : World) (e : Ending) (w' : World) : Prop :=
  ∃ v, e = .returned v ∧ OwnR w' w.heap.size 3 v ((Cc.wo xs i).map iv) ∧ Below w.heap.size w w'
theorem without_any (xs : List Int) (i : Int) (hn : xs.length ≤ 1000000) (v : Value) (w : World) (hv : Row w v (xs.map iv)) :
    Calls Try.prog 49 #[v, iv i] w (WoPost xs i w) := by
  have Hv := Lib.hid (hv.below ((Below.refl w.heap.size w).alloc (Nat.le_refl _) (.cells #[iv i] 3)))
  have eg := enters_of Try.func60 (by kernel_rfl) rfl
  obtain ⟨pv, cv, hpv, _⟩ := hv
  rw [List.length_map] at hpv
  subst hpv
  obtain ⟨w1, hw1⟩ : ∃ w1, w1 = w.alloc (.cells #[iv i] 3) := ⟨_, rfl⟩
  have hb1 : Below w.heap.size w w1 := by rw [hw1]; exact (Below.refl _ _).alloc (Nat.le_refl _) _
  have hz1 : w1.heap.size = w.heap.size + 1 := by rw [hw1]; simp
  have hc1 : w1.cell? ⟨w.heap.size, 0, none⟩ = some (iv i) := by rw [hw1]; simp
  have HC := Lib.hid (clone_any (xs.map iv) (by intro u hu; obtain ⟨x, _, rfl⟩ := List.mem_map.1 hu; rfl) (by rw [List.length_map]; exact hn) _ _ Hv.out)
  have HB1 := Lib.hid hb1
  rw [← hw1] at HC
  have HW1 := Lib.hid hw1
  clear hw1 hb1
  go_enter Try.func49, Try.ntmps49
  go_wp2_with fail
  rw [← HW1.out]
  refine HC.out.mono ?_
  rintro e w2 ⟨v2, rfl, hown2, hb2⟩
  have hO := OwnR.of_owns hown2
  have hc2 : w2.cell? ⟨w.heap.size, 0, none⟩ = some (iv i) := (hb2.cell (p := ⟨w.heap.size, 0, none⟩) (by show w.heap.size < w1.heap.size; omega)).trans hc1
  have hbs : ∀ g, v2.ownBlock = some g → w1.heap.size ≤ g := fun g hg => (hO.lt hg).1
  have HD := Lib.hid (deleteFunc_any xs (fun x => x == i) 60 #[.pointer (some ⟨w.heap.size, 0, none⟩)] eg v2 w2 w1.heap.size (fun W => W.cell? ⟨w.heap.size, 0, none⟩ = some (iv i)) hc2
    (fun W hk => hk.cell hc2 (fun e => by have := hbs _ e.symm; omega)) hO (withoutP w.heap.size i))
  have HB2 := Lib.hid (HB1.out.trans (hb2.mono (by omega)))
  have hz2 := hb2.size
  have Hbs := Lib.hid hbs
  clear hown2 hb2 hO hc1 hc2 hbs eg HC
  go_wp2_with fail
  refine HD.out.mono ?_
  rintro e w3 ⟨v3, rfl, hO3, hk3, hv3⟩
  have HO3 := Lib.hid hO3
  have HB3 := Lib.hid (HB2.out.trans (hk3.toBelow (by omega) (fun k _ e => by have := Hbs.out k e.symm; omega)))
  clear hO3 hk3 hv3
  go_wp2_with fail
  go_ret
  exact ⟨_, rfl, HO3.out.mono (by omega), HB3.out⟩
end Go.Proofs.Ytangcjffiooapaa
