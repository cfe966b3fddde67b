/- The walk of desk.answer. -/
import Derived.Test.YtneebcniofolmaaGreatDoorSesW
import Derived.Test.YtneebcniofolmaaGreatDoorRunI
import Derived.Test.YtneebcniofolmaaGreatDoorRunS
namespace Go.Proofs.YtneebcniofolmaaGreatDoor
open Go.ChangeShapes Go.WideShapes Go.ChangeAt Go.RowKit
set_option linter.unusedVariables false
set_option maxHeartbeats 4000000
set_option maxRecDepth 100000
theorem as_nilB (t : Addr) (w : World) : Calls Tryz.prog 40 #[.nilIface, .iface 90 (.pointer (some t))] w fun e w' => e = .returned (.bool false) ∧ w = w' := by
  go_enter Tryz.func40, Tryz.ntmps40
  go_wp2_with fail
  go_ret
  exact ⟨rfl, rfl⟩
theorem Ru.run1_err (s : Ar.S) (k : Ru.Wd) (v : List Nat) (b : List UInt8) : 0 ≤ (Ru.run1 s k v b).1.2 ∧ (Ru.run1 s k v b).1.2 ≤ 9 := by
  cases k with
  | read =>
    show 0 ≤ (s.read ((v.getD 0 0 : Nat) : Int)).2 ∧ (s.read ((v.getD 0 0 : Nat) : Int)).2 ≤ 9
    unfold Ar.S.read
    split
    · unfold Ar.S.readAt
      split
      · exact ⟨Int.le_refl _, (by decide : (0 : Int) ≤ 9)⟩
      · split
        · exact ⟨(by decide : (0 : Int) ≤ 8), (by decide : (8 : Int) ≤ 9)⟩
        · exact ⟨Int.le_refl _, (by decide : (0 : Int) ≤ 9)⟩
    · exact ⟨(by decide : (0 : Int) ≤ 1), (by decide : (1 : Int) ≤ 9)⟩
  | write =>
    show 0 ≤ (s.write ((v.getD 0 0 : Nat) : Int) ⟨b.toArray⟩).1 ∧ (s.write ((v.getD 0 0 : Nat) : Int) ⟨b.toArray⟩).1 ≤ 9
    unfold Ar.S.write
    split
    · split
      · split
        · exact ⟨(by decide : (0 : Int) ≤ 8), (by decide : (8 : Int) ≤ 9)⟩
        · exact ⟨Int.le_refl _, (by decide : (0 : Int) ≤ 9)⟩
      · exact ⟨(by decide : (0 : Int) ≤ 3), (by decide : (3 : Int) ≤ 9)⟩
    · exact ⟨(by decide : (0 : Int) ≤ 1), (by decide : (1 : Int) ≤ 9)⟩
  | fail =>
    show 0 ≤ (s.fail ((v.getD 0 0 : Nat) : Int)).1 ∧ (s.fail ((v.getD 0 0 : Nat) : Int)).1 ≤ 9
    unfold Ar.S.fail
    split
    · split
      · exact ⟨(by decide : (0 : Int) ≤ 6), (by decide : (6 : Int) ≤ 9)⟩
      · exact ⟨Int.le_refl _, (by decide : (0 : Int) ≤ 9)⟩
    · exact ⟨(by decide : (0 : Int) ≤ 1), (by decide : (1 : Int) ≤ 9)⟩
  | replace =>
    show 0 ≤ (s.replace ((v.getD 0 0 : Nat) : Int)).1 ∧ (s.replace ((v.getD 0 0 : Nat) : Int)).1 ≤ 9
    unfold Ar.S.replace
    split
    · split
      · exact ⟨Int.le_refl _, (by decide : (0 : Int) ≤ 9)⟩
      · exact ⟨(by decide : (0 : Int) ≤ 6), (by decide : (6 : Int) ≤ 9)⟩
    · exact ⟨(by decide : (0 : Int) ≤ 1), (by decide : (1 : Int) ≤ 9)⟩
  | poke =>
    show 0 ≤ (s.poke ((v.getD 0 0 : Nat) : Int) ((v.getD 1 0 : Nat) : Int) ⟨b.toArray⟩).1 ∧ (s.poke ((v.getD 0 0 : Nat) : Int) ((v.getD 1 0 : Nat) : Int) ⟨b.toArray⟩).1 ≤ 9
    unfold Ar.S.poke
    split
    · split
      · split
        · exact ⟨(by decide : (0 : Int) ≤ 6), (by decide : (6 : Int) ≤ 9)⟩
        · exact ⟨Int.le_refl _, (by decide : (0 : Int) ≤ 9)⟩
      · exact ⟨(by decide : (0 : Int) ≤ 3), (by decide : (3 : Int) ≤ 9)⟩
    · exact ⟨(by decide : (0 : Int) ≤ 1), (by decide : (1 : Int) ≤ 9)⟩
  | rebuild =>
    show 0 ≤ (s.rebuild ((v.getD 0 0 : Nat) : Int)).1.2 ∧ (s.rebuild ((v.getD 0 0 : Nat) : Int)).1.2 ≤ 9
    unfold Ar.S.rebuild
    split
    · split
      · exact ⟨(by decide : (0 : Int) ≤ 6), (by decide : (6 : Int) ≤ 9)⟩
      · split
        · exact ⟨(by decide : (0 : Int) ≤ 8), (by decide : (8 : Int) ≤ 9)⟩
        · exact ⟨Int.le_refl _, (by decide : (0 : Int) ≤ 9)⟩
    · exact ⟨(by decide : (0 : Int) ≤ 1), (by decide : (1 : Int) ≤ 9)⟩
  | lost =>
    show 0 ≤ s.rawF ((v.getD 0 0 : Nat) : Int) ∧ s.rawF ((v.getD 0 0 : Nat) : Int) ≤ 9
    unfold Ar.S.rawF
    split
    · exact ⟨Int.le_refl _, (by decide : (0 : Int) ≤ 9)⟩
    · exact ⟨(by decide : (0 : Int) ≤ 1), (by decide : (1 : Int) ≤ 9)⟩
  | scrub =>
    rw [Ru.run1_scrub]
    exact ⟨Int.le_refl _, (by decide : (0 : Int) ≤ 9)⟩
def AnsPost (F : Nat → Prop) (K b : Nat) (s : Ar.S) (l : List UInt8) (w : World) (e : Ending) (w' : World) : Prop :=
  e = .returned (strB (Ru.line s l).1) ∧ AryOk F K w' b (Ru.line s l).2 ∧ Kept F w w'
theorem danswer {F : Nat → Prop} {K : Nat} {w : World} {b : Nat} {s : Ar.S} (h : AryOk F K w b s) (hK : K < 900000) (hFw : ∀ k, F k → k < w.heap.size) (hFg : ∀ k, F k → 10 ≤ k) (hE : Env w) (hl : Ar.S.Like 5 4 2 s) (l : List UInt8) (hs : l.length ≤ 5000) :
    Calls Tryz.prog 17 #[.agg #[.pointer (some ⟨b, 0, none⟩)], strB l] w (AnsPost F (K + 4) b s l w) := by
  obtain ⟨wB, hwB⟩ : ∃ wB, wB = w.alloc (.cells #[.pointer (some ⟨b, 0, none⟩)] 42) := ⟨_, rfl⟩
  have hbB : Below w.heap.size w wB := by rw [hwB]; exact (Below.refl _ _).alloc (Nat.le_refl _) _
  have HL := dline (h.below hbB) hK (fun k hk => by have := hFw k hk; have := hbB.size; omega) hFg (hE.new hbB) hl l hs
  have HwB := Lib.hid hwB
  have HkB := Lib.hid (Kept.new F hbB)
  have HE := Lib.hid hE
  have HFw := Lib.hid hFw
  have HFg := Lib.hid hFg
  clear hwB hbB h hE hFw hFg
  cases hp : Ru.parse l with
  | none =>
    have hln : Ru.line s l = (Ru.bad, s) := by unfold Ru.line; rw [hp]
    unfold AnsPost
    rw [hln]
    unfold LnPost at HL
    rw [hp] at HL
    dsimp only at HL
    have HLh := Lib.hid HL
    clear HL hp hln
    unfold strB
    go_enter Tryz.func17, Tryz.ntmps17
    go_wp2_with fail
    rw [← HwB.out]
    refine HLh.out.mono ?_
    rintro e w2 ⟨rfl, hA2, hk2⟩
    have HA2 := Lib.hid hA2
    have HK2 := Lib.hid (HkB.out.also hk2)
    have hzB9 : w.heap.size ≤ w2.heap.size := HK2.out.size
    clear hA2 hk2
    obtain ⟨wA, hwA⟩ : ∃ wA, wA = (w2.alloc (.cells #[.nilIface] 88)).alloc (.cells #[iv 0] 72) := ⟨_, rfl⟩
    have hbA : Below w2.heap.size w2 wA := by rw [hwA]; exact ((Below.refl _ _).alloc (Nat.le_refl _) _).alloc (by simp) _
    have hT1 : wA.heap[w2.heap.size]? = some (.cells #[.nilIface] 88 (0, 0)) := by rw [hwA, heap_alloc_old _ _ (by simp)]; exact heap_alloc_new _ _
    have hT2 : wA.heap[w2.heap.size + 1]? = some (.cells #[iv 0] 72 (0, 0)) := by
      have h9 := heap_alloc_new (w2.alloc (.cells #[.nilIface] 88)) (.cells #[iv 0] 72)
      rw [World.size_alloc] at h9
      rw [hwA]; exact h9
    have HT1 := Lib.hid hT1
    have HT2 := Lib.hid hT2
    have HAA := Lib.hid (HA2.out.below hbA)
    have HKA := Lib.hid (HK2.out.also (Kept.new F hbA))
    have HEA : Hid (Env wA) := Lib.hid (HE.out.kept HKA.out (fun k hk hF => by have := HFg.out k hF; omega))
    have hzA := hbA.size
    have HwA := Lib.hid hwA
    have HnF : Hid (∀ x, w2.heap.size ≤ x → ¬ F x) := Lib.hid (fun x hx hF => by have := HFw.out x hF; omega)
    clear hwA hbA hT1 hT2
    have HC := Lib.hid (as_hitB 2 ⟨w2.heap.size, 0, none⟩ .nilIface wA HEA.out.hd (by rw [cell_of_row _ _ _ _ _ _ HT1.out]; rfl) (frozen_of_row _ _ _ _ _ HT1.out))
    go_wp2_with fail
    rw [← HwA.out]
    refine HC.out.mono ?_
    rintro e w3 ⟨rfl, hw3⟩
    have HW3 : Hid (Kept (fun k => w2.heap.size ≤ k) wA w3) := Lib.hid (by
      rw [hw3]
      exact ((((Kept.refl (fun k => w2.heap.size ≤ k) wA).alloc _).alloc _).alloc _ |>.alloc _).setCell (p := ⟨w2.heap.size, 0, none⟩) (fun _ => Nat.le_refl _) _)
    clear hw3
    go_wp2_with fail
    go_ret
    exact ⟨rfl, HAA.out.kept HW3.out (fun x hx h9 => HnF.out x h9 hx), HKA.out.trans HW3.out (fun x hx h9 => by omega)⟩
  | some t =>
    obtain ⟨k, v, x⟩ := t
    have her := Ru.run1_err s k v x
    have hln : Ru.line s l = (Ru.told (Ru.run1 s k v x).1, (Ru.run1 s k v x).2) := Ru.line_of hp
    unfold AnsPost
    rw [hln]
    unfold LnPost at HL
    rw [hp] at HL
    dsimp only at HL
    unfold DeskPost at HL
    clear hp hln
    obtain ⟨⟨⟨o, e0⟩, t⟩, hr⟩ : ∃ r, r = Ru.run1 s k v x := ⟨_, rfl⟩
    rw [← hr] at HL her ⊢
    clear hr
    dsimp only at HL her ⊢
    by_cases h0 : e0 = 0
    · subst h0
      rw [errV_0] at HL
      have Ht : Hid (Ru.told (o, 0) = o) := Lib.hid rfl
      have HLh := Lib.hid HL
      clear HL
      unfold strB
      go_enter Tryz.func17, Tryz.ntmps17
      go_wp2_with fail
      rw [← HwB.out]
      refine HLh.out.mono ?_
      rintro e w2 ⟨rfl, hA2, hk2⟩
      have HA2 := Lib.hid hA2
      have HK2 := Lib.hid (HkB.out.also hk2)
      have hzB9 : w.heap.size ≤ w2.heap.size := HK2.out.size
      clear hA2 hk2
      obtain ⟨wA, hwA⟩ : ∃ wA, wA = (w2.alloc (.cells #[.nilIface] 88)).alloc (.cells #[iv 0] 72) := ⟨_, rfl⟩
      have hbA : Below w2.heap.size w2 wA := by rw [hwA]; exact ((Below.refl _ _).alloc (Nat.le_refl _) _).alloc (by simp) _
      have hT1 : wA.heap[w2.heap.size]? = some (.cells #[.nilIface] 88 (0, 0)) := by rw [hwA, heap_alloc_old _ _ (by simp)]; exact heap_alloc_new _ _
      have hT2 : wA.heap[w2.heap.size + 1]? = some (.cells #[iv 0] 72 (0, 0)) := by
        have h9 := heap_alloc_new (w2.alloc (.cells #[.nilIface] 88)) (.cells #[iv 0] 72)
        rw [World.size_alloc] at h9
        rw [hwA]; exact h9
      have HT1 := Lib.hid hT1
      have HT2 := Lib.hid hT2
      have HAA := Lib.hid (HA2.out.below hbA)
      have HKA := Lib.hid (HK2.out.also (Kept.new F hbA))
      have HEA : Hid (Env wA) := Lib.hid (HE.out.kept HKA.out (fun k hk hF => by have := HFg.out k hF; omega))
      have hzA := hbA.size
      have HwA := Lib.hid hwA
      have HnF : Hid (∀ x, w2.heap.size ≤ x → ¬ F x) := Lib.hid (fun x hx hF => by have := HFw.out x hF; omega)
      clear hwA hbA hT1 hT2
      go_wp2_with fail
      rw [← HwA.out]
      refine (as_nilB _ wA).mono ?_
      rintro e w' ⟨rfl, rfl⟩
      go_wp2_with fail
      refine (as_nilA _ wA).mono ?_
      rintro e w' ⟨rfl, rfl⟩
      go_wp2_with fail
      go_ret
      exact ⟨by rw [Ht.out]; rfl, HAA.out, HKA.out⟩
    · have Ht : Hid (Ru.told (o, e0) = Ru.name e0) := Lib.hid (by unfold Ru.told; rw [if_neg (show ¬ (o, e0).2 = 0 from h0)])
      rw [errV_ne h0] at HL
      have HLh := Lib.hid HL
      have HN := Lib.hid (fun W => errno_any e0 her.1 her.2 W)
      clear HL her h0
      unfold strB
      go_enter Tryz.func17, Tryz.ntmps17
      go_wp2_with fail
      rw [← HwB.out]
      refine HLh.out.mono ?_
      rintro e w2 ⟨rfl, hA2, hk2⟩
      have HA2 := Lib.hid hA2
      have HK2 := Lib.hid (HkB.out.also hk2)
      have hzB9 : w.heap.size ≤ w2.heap.size := HK2.out.size
      clear hA2 hk2
      obtain ⟨wA, hwA⟩ : ∃ wA, wA = (w2.alloc (.cells #[.nilIface] 88)).alloc (.cells #[iv 0] 72) := ⟨_, rfl⟩
      have hbA : Below w2.heap.size w2 wA := by rw [hwA]; exact ((Below.refl _ _).alloc (Nat.le_refl _) _).alloc (by simp) _
      have hT1 : wA.heap[w2.heap.size]? = some (.cells #[.nilIface] 88 (0, 0)) := by rw [hwA, heap_alloc_old _ _ (by simp)]; exact heap_alloc_new _ _
      have hT2 : wA.heap[w2.heap.size + 1]? = some (.cells #[iv 0] 72 (0, 0)) := by
        have h9 := heap_alloc_new (w2.alloc (.cells #[.nilIface] 88)) (.cells #[iv 0] 72)
        rw [World.size_alloc] at h9
        rw [hwA]; exact h9
      have HT1 := Lib.hid hT1
      have HT2 := Lib.hid hT2
      have HAA := Lib.hid (HA2.out.below hbA)
      have HKA := Lib.hid (HK2.out.also (Kept.new F hbA))
      have HEA : Hid (Env wA) := Lib.hid (HE.out.kept HKA.out (fun k hk hF => by have := HFg.out k hF; omega))
      have hzA := hbA.size
      have HwA := Lib.hid hwA
      have HnF : Hid (∀ x, w2.heap.size ≤ x → ¬ F x) := Lib.hid (fun x hx hF => by have := HFw.out x hF; omega)
      clear hwA hbA hT1 hT2
      have HC := Lib.hid (as_missB e0 ⟨w2.heap.size, 0, none⟩ wA HEA.out.hd)
      go_wp2_with fail
      rw [← HwA.out]
      refine HC.out.mono ?_
      rintro e w3 ⟨rfl, hb3⟩
      have hT3 : w3.heap[w2.heap.size + 1]? = some (.cells #[iv 0] 72 (0, 0)) := by rw [hb3.block _ (Array.getElem?_eq_some_iff.1 HT2.out).1]; exact HT2.out
      have HC3 := Lib.hid (as_hitA e0 (w2.heap.size + 1) w3 ((HEA.out.new hb3).hd) hT3)
      have HA3 := Lib.hid (HAA.out.below hb3)
      have HK3 := Lib.hid (HKA.out.also (Kept.new F hb3))
      clear hb3 hT3
      go_wp2_with fail
      refine HC3.out.mono ?_
      rintro e w4 ⟨rfl, hc4, hk4⟩
      have HA4 := Lib.hid (HA3.out.kept hk4 (fun x hx h9 => by have h8 : x = w2.heap.size + 1 := h9; exact HnF.out x (by omega) hx))
      have HK4 := Lib.hid (HK3.out.trans hk4 (fun x hx h9 => by have h8 : x = w2.heap.size + 1 := h9; omega))
      clear hk4
      go_wp2_with fail
      refine (HN.out _).mono ?_
      rintro e w5 ⟨rfl, rfl⟩
      go_wp2_with fail
      go_ret
      exact ⟨by rw [Ht.out]; rfl, HA4.out, HK4.out⟩
end Go.Proofs.YtneebcniofolmaaGreatDoor
