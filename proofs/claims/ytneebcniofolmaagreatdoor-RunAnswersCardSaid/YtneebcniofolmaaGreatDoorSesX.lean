/- The walk of desk.answer. · What a scrub has told of some rows, in plain. · The walk of the reference's Line: 'scrub' alone; a line of one word. -/
import Derived.Test.YtneebcniofolmaaGreatDoorSesW
import Derived.Test.YtneebcniofolmaaGreatDoorRunI
import Derived.Test.YtneebcniofolmaaGreatDoorRunT
import Derived.Test.YtneebcniofolmaaGreatDoorSesN
import Derived.Test.YtneebcniofolmaaGreatDoorRunU
import Derived.Test.YtneebcniofolmaaGreatDoorRunN
import Derived.Test.YtneebcniofolmaaGreatDoorRArS
import Derived.Test.YtneebcniofolmaaGreatDoorRArT
import Derived.Test.YtneebcniofolmaaGreatDoorRArU
import Derived.Test.YtneebcniofolmaaGreatDoorRArZ
namespace Go.Proofs.YtneebcniofolmaaGreatDoor
open Go.ChangeShapes Go.WideShapes Go.ChangeAt Go.RowKit
set_option linter.unusedVariables false
set_option maxHeartbeats 4000000
set_option maxRecDepth 100000
theorem as_nilB (t : Addr) (w : World) : Calls Tryz.prog 40 #[.nilIface, .iface 90 (.pointer (some t))] w fun e w' => e = .returned (.bool false) ∧ w = w' := by
  go_enter Tryz.func40, Tryz.ntmps40
  go_wp2_with fail
  go_ret
  exact ⟨rfl, rfl⟩
theorem Ru.run1_err (s : Ar.S) (k : Ru.Wd) (v : List Nat) (b : List UInt8) : 0 ≤ (Ru.run1 s k v b).1.2 ∧ (Ru.run1 s k v b).1.2 ≤ 9 := by
  cases k with
  | read =>
    show 0 ≤ (s.read ((v.getD 0 0 : Nat) : Int)).2 ∧ (s.read ((v.getD 0 0 : Nat) : Int)).2 ≤ 9
    unfold Ar.S.read
    split
    · unfold Ar.S.readAt
      split
      · exact ⟨Int.le_refl _, (by decide : (0 : Int) ≤ 9)⟩
      · split
        · exact ⟨(by decide : (0 : Int) ≤ 8), (by decide : (8 : Int) ≤ 9)⟩
        · exact ⟨Int.le_refl _, (by decide : (0 : Int) ≤ 9)⟩
    · exact ⟨(by decide : (0 : Int) ≤ 1), (by decide : (1 : Int) ≤ 9)⟩
  | write =>
    show 0 ≤ (s.write ((v.getD 0 0 : Nat) : Int) ⟨b.toArray⟩).1 ∧ (s.write ((v.getD 0 0 : Nat) : Int) ⟨b.toArray⟩).1 ≤ 9
    unfold Ar.S.write
    split
    · split
      · split
        · exact ⟨(by decide : (0 : Int) ≤ 8), (by decide : (8 : Int) ≤ 9)⟩
        · exact ⟨Int.le_refl _, (by decide : (0 : Int) ≤ 9)⟩
      · exact ⟨(by decide : (0 : Int) ≤ 3), (by decide : (3 : Int) ≤ 9)⟩
    · exact ⟨(by decide : (0 : Int) ≤ 1), (by decide : (1 : Int) ≤ 9)⟩
  | fail =>
    show 0 ≤ (s.fail ((v.getD 0 0 : Nat) : Int)).1 ∧ (s.fail ((v.getD 0 0 : Nat) : Int)).1 ≤ 9
    unfold Ar.S.fail
    split
    · split
      · exact ⟨(by decide : (0 : Int) ≤ 6), (by decide : (6 : Int) ≤ 9)⟩
      · exact ⟨Int.le_refl _, (by decide : (0 : Int) ≤ 9)⟩
    · exact ⟨(by decide : (0 : Int) ≤ 1), (by decide : (1 : Int) ≤ 9)⟩
  | replace =>
    show 0 ≤ (s.replace ((v.getD 0 0 : Nat) : Int)).1 ∧ (s.replace ((v.getD 0 0 : Nat) : Int)).1 ≤ 9
    unfold Ar.S.replace
    split
    · split
      · exact ⟨Int.le_refl _, (by decide : (0 : Int) ≤ 9)⟩
      · exact ⟨(by decide : (0 : Int) ≤ 6), (by decide : (6 : Int) ≤ 9)⟩
    · exact ⟨(by decide : (0 : Int) ≤ 1), (by decide : (1 : Int) ≤ 9)⟩
  | poke =>
    show 0 ≤ (s.poke ((v.getD 0 0 : Nat) : Int) ((v.getD 1 0 : Nat) : Int) ⟨b.toArray⟩).1 ∧ (s.poke ((v.getD 0 0 : Nat) : Int) ((v.getD 1 0 : Nat) : Int) ⟨b.toArray⟩).1 ≤ 9
    unfold Ar.S.poke
    split
    · split
      · split
        · exact ⟨(by decide : (0 : Int) ≤ 6), (by decide : (6 : Int) ≤ 9)⟩
        · exact ⟨Int.le_refl _, (by decide : (0 : Int) ≤ 9)⟩
      · exact ⟨(by decide : (0 : Int) ≤ 3), (by decide : (3 : Int) ≤ 9)⟩
    · exact ⟨(by decide : (0 : Int) ≤ 1), (by decide : (1 : Int) ≤ 9)⟩
  | rebuild =>
    show 0 ≤ (s.rebuild ((v.getD 0 0 : Nat) : Int)).1.2 ∧ (s.rebuild ((v.getD 0 0 : Nat) : Int)).1.2 ≤ 9
    unfold Ar.S.rebuild
    split
    · split
      · exact ⟨(by decide : (0 : Int) ≤ 6), (by decide : (6 : Int) ≤ 9)⟩
      · split
        · exact ⟨(by decide : (0 : Int) ≤ 8), (by decide : (8 : Int) ≤ 9)⟩
        · exact ⟨Int.le_refl _, (by decide : (0 : Int) ≤ 9)⟩
    · exact ⟨(by decide : (0 : Int) ≤ 1), (by decide : (1 : Int) ≤ 9)⟩
  | lost =>
    show 0 ≤ s.rawF ((v.getD 0 0 : Nat) : Int) ∧ s.rawF ((v.getD 0 0 : Nat) : Int) ≤ 9
    unfold Ar.S.rawF
    split
    · exact ⟨Int.le_refl _, (by decide : (0 : Int) ≤ 9)⟩
    · exact ⟨(by decide : (0 : Int) ≤ 1), (by decide : (1 : Int) ≤ 9)⟩
  | scrub =>
    rw [Ru.run1_scrub]
    exact ⟨Int.le_refl _, (by decide : (0 : Int) ≤ 9)⟩
def AnsPost (F : Nat → Prop) (K b : Nat) (s : Ar.S) (l : List UInt8) (w : World) (e : Ending) (w' : World) : Prop :=
  e = .returned (strB (Ru.line s l).1) ∧ AryOk F K w' b (Ru.line s l).2 ∧ Kept F w w'
theorem danswer {F : Nat → Prop} {K : Nat} {w : World} {b : Nat} {s : Ar.S} (h : AryOk F K w b s) (hK : K < 900000) (hFw : ∀ k, F k → k < w.heap.size) (hFg : ∀ k, F k → 10 ≤ k) (hE : Env w) (hl : Ar.S.Like 5 4 2 s) (l : List UInt8) (hs : l.length ≤ 5000) :
    Calls Tryz.prog 17 #[.agg #[.pointer (some ⟨b, 0, none⟩)], strB l] w (AnsPost F (K + 4) b s l w) := by
  obtain ⟨wB, hwB⟩ : ∃ wB, wB = w.alloc (.cells #[.pointer (some ⟨b, 0, none⟩)] 42) := ⟨_, rfl⟩
  have hbB : Below w.heap.size w wB := by rw [hwB]; exact (Below.refl _ _).alloc (Nat.le_refl _) _
  have HL := dline (h.below hbB) hK (fun k hk => by have := hFw k hk; have := hbB.size; omega) hFg (hE.new hbB) hl l hs
  have HwB := Lib.hid hwB
  have HkB := Lib.hid (Kept.new F hbB)
  have HE := Lib.hid hE
  have HFw := Lib.hid hFw
  have HFg := Lib.hid hFg
  clear hwB hbB h hE hFw hFg
  cases hp : Ru.parse l with
  | none =>
    have hln : Ru.line s l = (Ru.bad, s) := by unfold Ru.line; rw [hp]
    unfold AnsPost
    rw [hln]
    unfold LnPost at HL
    rw [hp] at HL
    dsimp only at HL
    have HLh := Lib.hid HL
    clear HL hp hln
    unfold strB
    go_enter Tryz.func17, Tryz.ntmps17
    go_wp2_with fail
    rw [← HwB.out]
    refine HLh.out.mono ?_
    rintro e w2 ⟨rfl, hA2, hk2⟩
    have HA2 := Lib.hid hA2
    have HK2 := Lib.hid (HkB.out.also hk2)
    have hzB9 : w.heap.size ≤ w2.heap.size := HK2.out.size
    clear hA2 hk2
    obtain ⟨wA, hwA⟩ : ∃ wA, wA = (w2.alloc (.cells #[.nilIface] 88)).alloc (.cells #[iv 0] 72) := ⟨_, rfl⟩
    have hbA : Below w2.heap.size w2 wA := by rw [hwA]; exact ((Below.refl _ _).alloc (Nat.le_refl _) _).alloc (by simp) _
    have hT1 : wA.heap[w2.heap.size]? = some (.cells #[.nilIface] 88 (0, 0)) := by rw [hwA, heap_alloc_old _ _ (by simp)]; exact heap_alloc_new _ _
    have hT2 : wA.heap[w2.heap.size + 1]? = some (.cells #[iv 0] 72 (0, 0)) := by
      have h9 := heap_alloc_new (w2.alloc (.cells #[.nilIface] 88)) (.cells #[iv 0] 72)
      rw [World.size_alloc] at h9
      rw [hwA]; exact h9
    have HT1 := Lib.hid hT1
    have HT2 := Lib.hid hT2
    have HAA := Lib.hid (HA2.out.below hbA)
    have HKA := Lib.hid (HK2.out.also (Kept.new F hbA))
    have HEA : Hid (Env wA) := Lib.hid (HE.out.kept HKA.out (fun k hk hF => by have := HFg.out k hF; omega))
    have hzA := hbA.size
    have HwA := Lib.hid hwA
    have HnF : Hid (∀ x, w2.heap.size ≤ x → ¬ F x) := Lib.hid (fun x hx hF => by have := HFw.out x hF; omega)
    clear hwA hbA hT1 hT2
    have HC := Lib.hid (as_hitB 2 ⟨w2.heap.size, 0, none⟩ .nilIface wA HEA.out.hd (by rw [cell_of_row _ _ _ _ _ _ HT1.out]; rfl) (frozen_of_row _ _ _ _ _ HT1.out))
    go_wp2_with fail
    rw [← HwA.out]
    refine HC.out.mono ?_
    rintro e w3 ⟨rfl, hw3⟩
    have HW3 : Hid (Kept (fun k => w2.heap.size ≤ k) wA w3) := Lib.hid (by
      rw [hw3]
      exact ((((Kept.refl (fun k => w2.heap.size ≤ k) wA).alloc _).alloc _).alloc _ |>.alloc _).setCell (p := ⟨w2.heap.size, 0, none⟩) (fun _ => Nat.le_refl _) _)
    clear hw3
    go_wp2_with fail
    go_ret
    exact ⟨rfl, HAA.out.kept HW3.out (fun x hx h9 => HnF.out x h9 hx), HKA.out.trans HW3.out (fun x hx h9 => by omega)⟩
  | some t =>
    obtain ⟨k, v, x⟩ := t
    have her := Ru.run1_err s k v x
    have hln : Ru.line s l = (Ru.told (Ru.run1 s k v x).1, (Ru.run1 s k v x).2) := Ru.line_of hp
    unfold AnsPost
    rw [hln]
    unfold LnPost at HL
    rw [hp] at HL
    dsimp only at HL
    unfold DeskPost at HL
    clear hp hln
    obtain ⟨⟨⟨o, e0⟩, t⟩, hr⟩ : ∃ r, r = Ru.run1 s k v x := ⟨_, rfl⟩
    rw [← hr] at HL her ⊢
    clear hr
    dsimp only at HL her ⊢
    by_cases h0 : e0 = 0
    · subst h0
      rw [errV_0] at HL
      have Ht : Hid (Ru.told (o, 0) = o) := Lib.hid rfl
      have HLh := Lib.hid HL
      clear HL
      unfold strB
      go_enter Tryz.func17, Tryz.ntmps17
      go_wp2_with fail
      rw [← HwB.out]
      refine HLh.out.mono ?_
      rintro e w2 ⟨rfl, hA2, hk2⟩
      have HA2 := Lib.hid hA2
      have HK2 := Lib.hid (HkB.out.also hk2)
      have hzB9 : w.heap.size ≤ w2.heap.size := HK2.out.size
      clear hA2 hk2
      obtain ⟨wA, hwA⟩ : ∃ wA, wA = (w2.alloc (.cells #[.nilIface] 88)).alloc (.cells #[iv 0] 72) := ⟨_, rfl⟩
      have hbA : Below w2.heap.size w2 wA := by rw [hwA]; exact ((Below.refl _ _).alloc (Nat.le_refl _) _).alloc (by simp) _
      have hT1 : wA.heap[w2.heap.size]? = some (.cells #[.nilIface] 88 (0, 0)) := by rw [hwA, heap_alloc_old _ _ (by simp)]; exact heap_alloc_new _ _
      have hT2 : wA.heap[w2.heap.size + 1]? = some (.cells #[iv 0] 72 (0, 0)) := by
        have h9 := heap_alloc_new (w2.alloc (.cells #[.nilIface] 88)) (.cells #[iv 0] 72)
        rw [World.size_alloc] at h9
        rw [hwA]; exact h9
      have HT1 := Lib.hid hT1
      have HT2 := Lib.hid hT2
      have HAA := Lib.hid (HA2.out.below hbA)
      have HKA := Lib.hid (HK2.out.also (Kept.new F hbA))
      have HEA : Hid (Env wA) := Lib.hid (HE.out.kept HKA.out (fun k hk hF => by have := HFg.out k hF; omega))
      have hzA := hbA.size
      have HwA := Lib.hid hwA
      have HnF : Hid (∀ x, w2.heap.size ≤ x → ¬ F x) := Lib.hid (fun x hx hF => by have := HFw.out x hF; omega)
      clear hwA hbA hT1 hT2
      go_wp2_with fail
      rw [← HwA.out]
      refine (as_nilB _ wA).mono ?_
      rintro e w' ⟨rfl, rfl⟩
      go_wp2_with fail
      refine (as_nilA _ wA).mono ?_
      rintro e w' ⟨rfl, rfl⟩
      go_wp2_with fail
      go_ret
      exact ⟨by rw [Ht.out]; rfl, HAA.out, HKA.out⟩
    · have Ht : Hid (Ru.told (o, e0) = Ru.name e0) := Lib.hid (by unfold Ru.told; rw [if_neg (show ¬ (o, e0).2 = 0 from h0)])
      rw [errV_ne h0] at HL
      have HLh := Lib.hid HL
      have HN := Lib.hid (fun W => errno_any e0 her.1 her.2 W)
      clear HL her h0
      unfold strB
      go_enter Tryz.func17, Tryz.ntmps17
      go_wp2_with fail
      rw [← HwB.out]
      refine HLh.out.mono ?_
      rintro e w2 ⟨rfl, hA2, hk2⟩
      have HA2 := Lib.hid hA2
      have HK2 := Lib.hid (HkB.out.also hk2)
      have hzB9 : w.heap.size ≤ w2.heap.size := HK2.out.size
      clear hA2 hk2
      obtain ⟨wA, hwA⟩ : ∃ wA, wA = (w2.alloc (.cells #[.nilIface] 88)).alloc (.cells #[iv 0] 72) := ⟨_, rfl⟩
      have hbA : Below w2.heap.size w2 wA := by rw [hwA]; exact ((Below.refl _ _).alloc (Nat.le_refl _) _).alloc (by simp) _
      have hT1 : wA.heap[w2.heap.size]? = some (.cells #[.nilIface] 88 (0, 0)) := by rw [hwA, heap_alloc_old _ _ (by simp)]; exact heap_alloc_new _ _
      have hT2 : wA.heap[w2.heap.size + 1]? = some (.cells #[iv 0] 72 (0, 0)) := by
        have h9 := heap_alloc_new (w2.alloc (.cells #[.nilIface] 88)) (.cells #[iv 0] 72)
        rw [World.size_alloc] at h9
        rw [hwA]; exact h9
      have HT1 := Lib.hid hT1
      have HT2 := Lib.hid hT2
      have HAA := Lib.hid (HA2.out.below hbA)
      have HKA := Lib.hid (HK2.out.also (Kept.new F hbA))
      have HEA : Hid (Env wA) := Lib.hid (HE.out.kept HKA.out (fun k hk hF => by have := HFg.out k hF; omega))
      have hzA := hbA.size
      have HwA := Lib.hid hwA
      have HnF : Hid (∀ x, w2.heap.size ≤ x → ¬ F x) := Lib.hid (fun x hx hF => by have := HFw.out x hF; omega)
      clear hwA hbA hT1 hT2
      have HC := Lib.hid (as_missB e0 ⟨w2.heap.size, 0, none⟩ wA HEA.out.hd)
      go_wp2_with fail
      rw [← HwA.out]
      refine HC.out.mono ?_
      rintro e w3 ⟨rfl, hb3⟩
      have hT3 : w3.heap[w2.heap.size + 1]? = some (.cells #[iv 0] 72 (0, 0)) := by rw [hb3.block _ (Array.getElem?_eq_some_iff.1 HT2.out).1]; exact HT2.out
      have HC3 := Lib.hid (as_hitA e0 (w2.heap.size + 1) w3 ((HEA.out.new hb3).hd) hT3)
      have HA3 := Lib.hid (HAA.out.below hb3)
      have HK3 := Lib.hid (HKA.out.also (Kept.new F hb3))
      clear hb3 hT3
      go_wp2_with fail
      refine HC3.out.mono ?_
      rintro e w4 ⟨rfl, hc4, hk4⟩
      have HA4 := Lib.hid (HA3.out.kept hk4 (fun x hx h9 => by have h8 : x = w2.heap.size + 1 := h9; exact HnF.out x (by omega) hx))
      have HK4 := Lib.hid (HK3.out.trans hk4 (fun x hx h9 => by have h8 : x = w2.heap.size + 1 := h9; omega))
      clear hk4
      go_wp2_with fail
      refine (HN.out _).mono ?_
      rintro e w5 ⟨rfl, rfl⟩
      go_wp2_with fail
      go_ret
      exact ⟨by rw [Ht.out]; rfl, HA4.out, HK4.out⟩
end Go.Proofs.YtneebcniofolmaaGreatDoor
namespace Go.Proofs.YtneebcniofolmaaGreatDoor
set_option linter.unusedVariables false
/-- what a scrub has told of k rows -/
def scT (l : List (Nat × Nat)) : List UInt8 := [32].intercalate (l.map Ru.spotT)
theorem scT_snoc (l : List (Nat × Nat)) (x : Nat × Nat) : scT (l ++ [x]) = if l = [] then Ru.spotT x else scT l ++ [32] ++ Ru.spotT x := by
  unfold scT
  rw [List.map_append]
  cases l with
  | nil => simp [List.intercalate]
  | cons a r =>
    rw [if_neg (by simp)]
    generalize hq : (a :: r).map Ru.spotT = xs
    have hne : xs ≠ [] := by rw [← hq]; simp
    have : ∀ (xs : List (List UInt8)) (y : List UInt8), xs ≠ [] → [32].intercalate (xs ++ [y]) = [32].intercalate xs ++ [32] ++ y := by
      intro xs y hne
      induction xs with
      | nil => exact absurd rfl hne
      | cons z zs ih =>
        cases zs with
        | nil => simp [List.intercalate]
        | cons z2 zs =>
          have ih := ih (by simp)
          have e1 : ∀ (t : List (List UInt8)), [32].intercalate (z :: z2 :: t) = z ++ (32 :: [32].intercalate (z2 :: t)) := fun t => by simp [List.intercalate, List.intersperse]
          show [32].intercalate (z :: z2 :: (zs ++ [y])) = _
          rw [e1, e1]
          have ih' : [32].intercalate (z2 :: (zs ++ [y])) = [32].intercalate (z2 :: zs) ++ [32] ++ y := ih
          rw [ih']
          simp
    exact this xs _ hne
theorem scT_nil (l : List (Nat × Nat)) : scT l = [] ↔ l = [] := by
  constructor
  · intro h
    cases l with
    | nil => rfl
    | cons a r =>
      exfalso
      have h1 : ∀ x : Nat × Nat, Ru.spotT x ≠ [] := fun x => by unfold Ru.spotT; simp
      unfold scT at h
      cases r with
      | nil => exact h1 a (by simpa [List.intercalate] using h)
      | cons c r =>
        have e : [32].intercalate (Ru.spotT a :: Ru.spotT c :: r.map Ru.spotT) = Ru.spotT a ++ (32 :: [32].intercalate (Ru.spotT c :: r.map Ru.spotT)) := by simp [List.intercalate, List.intersperse]
        rw [List.map_cons, List.map_cons, e] at h
        simp at h
  · rintro rfl; rfl
theorem scT_spots (l : List (Nat × Nat)) : Ru.spotsT l = if scT l = [] then [45] else scT l := by
  unfold Ru.spotsT
  by_cases h : l = []
  · rw [if_pos h, if_pos ((scT_nil l).2 h)]
  · rw [if_neg h, if_neg (fun e => h ((scT_nil l).1 e))]; rfl
theorem scT_len (l : List (Nat × Nat)) (hl : l.length ≤ 4) (hb : ∀ x ∈ l, x.1 < 100 ∧ x.2 < 100) : (scT l).length ≤ 40 := by
  have h := Ru.spots_len l hl hb
  rw [scT_spots] at h
  split at h
  · rename_i e; rw [e]; simp
  · exact h
end Go.Proofs.YtneebcniofolmaaGreatDoor
namespace Go.Proofs.YtneebcniofolmaaGreatDoor
open Go.ChangeShapes Go.WideShapes Go.ChangeAt Go.RowKit
set_option linter.unusedVariables false
set_option maxHeartbeats 4000000
set_option maxRecDepth 100000
/-- what the reference's Line hands back -/
def RLPost (F : Nat → Prop) (b : Nat) (r : List UInt8 × Ar.S) (w : World) (e : Ending) (w' : World) : Prop :=
  e = .returned (strB r.1) ∧ RAryOk F w' b r.2 ∧ Kept F w w'
theorem line_bad {s : Ar.S} {l : List UInt8} (h : Ru.parse l = none) : Ru.line s l = (Ru.bad, s) := by unfold Ru.line; rw [h]
def RsRel (F : Nat → Prop) (b : Nat) (s : Ar.S) (w : World) (gk : Nat) (v6 v7 : Value) (wr : World) : Prop :=
  ∃ k : Nat, k + gk = 4 ∧ v7 = iv k ∧ v6 = strB (scT (s.scrubTo k).2) ∧ RAryOk F wr b (s.scrubTo k).1 ∧ Kept F w wr
section
variable {F : Nat → Prop} {w : World} {b : Nat} {s : Ar.S}
theorem rline_scrub (h : RAryOk F w b s) (hFw : ∀ k, F k → k < w.heap.size) (hl : Ar.S.Like 5 4 2 s) (l : List UInt8) (hs : l.length ≤ 5000) (hcut : Ru.cut 32 l = [Ru.Wd.scrub.txt]) :
    Calls Tryz.prog 9 #[.pointer (some ⟨b, 0, none⟩), .string ⟨l.toArray⟩] w (RLPost F b (Ru.line s l) w) := by
  have hpar : Ru.parse l = some (.scrub, [], []) := Ru.parse_plain (r := []) hcut (Ru.wd_txt .scrub) rfl rfl rfl
  have hln : Ru.line s l = (Ru.spotsT (s.scrubTo 4).2, (s.scrubTo 4).1) := by
    rw [Ru.line_of hpar, Ru.run1_scrub]
    unfold Ru.told
    rw [if_pos rfl]
  have Hln := Lib.hid hln
  have HCut := Lib.hid (rcut_any l 32 (by omega) w)
  unfold CutPost at HCut
  rw [hcut] at HCut
  have HA := Lib.hid h
  have HFw := Lib.hid hFw
  clear h hFw hpar hln hcut
  go_enter Tryz.func9, Tryz.ntmps9
  go_wp2_with fail
  refine HCut.out.mono ?_
  rintro e w2 ⟨vv, rfl, hO, hb2⟩
  obtain ⟨g, cap, rfl, hgb, hgz, hgc, hg2⟩ := Txts.of_owns hO rfl (by decide)
  have k0 := hg2 0 _ rfl
  have hn1 : ([Ru.Wd.scrub.txt] : List (List UInt8)).length = 1 := rfl
  rw [hn1] at hgc ⊢
  have HA2 := Lib.hid (HA.out.below hb2)
  have HK2 := Lib.hid (Kept.new F hb2)
  have hz2 := hb2.size
  clear hO hb2 hg2
  unfold Ru.Wd.txt at k0
  go_wp2_with fail
  go_loopg [6, 7, 8, 9, 10, 11] 4 (fun gk v6 v7 v8 v9 v10 v11 wr => RsRel F b s w gk v6 v7 wr)
  case atStart => exact ⟨0, rfl, rfl, rfl, HA2.out, HK2.out⟩
  case round =>
    obtain ⟨k, hk, rfl, rfl, hA, hK⟩ := hrel
    have Hk := Lib.hid hk
    have HAk := Lib.hid hA
    have HKk := Lib.hid hK
    have hkc : k = 4 ∨ k < 4 := by omega
    have hsm := s.scrubTo_same k
    have hlen := s.scrubTo_len k
    have hbd := s.scrubTo_bd (by rw [hl.1]; omega) k
    have hw1 : IntKind.i64.wrap ((k : Int) + 1) = (k : Int) + 1 := IntWalk.i64_in _ (by omega)
    clear hk hA hK
    rcases hkc with hk4 | hk4
    · subst hk4
      rw [hl.1] at hbd
      obtain ⟨R, hR⟩ : ∃ R, R = s.scrubTo 4 := ⟨_, rfl⟩
      rw [← hR] at HAk Hln hlen hbd ⊢
      clear hR hsm
      have HSl := Lib.hid (scT_len R.2 (by omega) (fun x hx => by have := hbd x hx; omega))
      have Hsp : Hid (Ru.spotsT R.2 = if scT R.2 = [] then [45] else scT R.2) := Lib.hid (scT_spots _)
      obtain ⟨S, hS⟩ : ∃ S, S = scT R.2 := ⟨_, rfl⟩
      rw [← hS] at Hsp ⊢
      have Hl1 : Hid ((Ru.line s l).1 = if S = [] then [45] else S) := Lib.hid (by rw [Hln.out]; exact Hsp.out)
      have Hl2 : Hid ((Ru.line s l).2 = R.1) := Lib.hid (by rw [Hln.out])
      clear hlen hbd hS
      unfold strB
      by_cases hS0 : S = []
      · have Hl3 : Hid ((Ru.line s l).1 = [45]) := Lib.hid (by rw [Hl1.out, if_pos hS0])
        clear Hl1 Hsp
        subst hS0
        go_wp2_with fail
        go_ret
        exact ⟨by rw [Hl3.out]; rfl, by rw [Hl2.out]; exact HAk.out, HKk.out⟩
      · have Hne := Lib.hid hS0
        have hS1 : S.isEmpty = false := by simpa using hS0
        have hS2 : (S == []) = false := by simpa using hS0
        go_wp2_with fail
        go_ret
        exact ⟨by rw [Hl1.out, if_neg Hne.out]; rfl, by rw [Hl2.out]; exact HAk.out, HKk.out⟩
    · have hkI : (k : Int) < 4 := by omega
      have HSc := Lib.hid (rScrub HAk.out k (by rw [hsm.2.1, hl.2.1]; exact hk4))
      have her := Ar.S.scrubAt_err (s.scrubTo k).1 k
      have hb1 := Ar.S.scrubAt_bd (s.scrubTo k).1 k
      have hlt := Ar.S.scrubAt_lt (s.scrubTo k).1 (by rw [hsm.1, hl.1]; omega) k
      rw [hsm.1, hl.1] at hlt
      rw [hl.1] at hbd
      have hst : s.scrubTo (k + 1) = (((s.scrubTo k).1.scrubAt k).2, if ((s.scrubTo k).1.scrubAt k).1.2 = 0 ∧ 0 ≤ ((s.scrubTo k).1.scrubAt k).1.1 then (s.scrubTo k).2 ++ [(((s.scrubTo k).1.scrubAt k).1.1.toNat, k)] else (s.scrubTo k).2) := rfl
      obtain ⟨ll, hll⟩ : ∃ ll, ll = (s.scrubTo k).2 := ⟨_, rfl⟩
      obtain ⟨t, ht⟩ : ∃ t, t = ((s.scrubTo k).1.scrubAt k).2 := ⟨_, rfl⟩
      obtain ⟨rx, hrx⟩ : ∃ rx, rx = ((s.scrubTo k).1.scrubAt k).1.1 := ⟨_, rfl⟩
      obtain ⟨re, hre⟩ : ∃ re, re = ((s.scrubTo k).1.scrubAt k).1.2 := ⟨_, rfl⟩
      unfold RRbPost at HSc
      rw [← hrx, ← hre, ← ht] at HSc
      rw [← hrx, ← hre, ← ht, ← hll] at hst
      rw [← hre] at her
      rw [← hre, ← hrx] at hb1
      rw [← hrx] at hlt
      rw [← hll] at hlen hbd
      rw [← hll]
      have Hst := Lib.hid hst
      clear hsm hll ht hrx hre hst
      have HSl := Lib.hid (scT_len ll (by omega) (fun x hx => by have := hbd x hx; omega))
      obtain ⟨S, hS⟩ : ∃ S, S = scT ll := ⟨_, rfl⟩
      rw [← hS] at HSl ⊢
      have HS := Lib.hid hS
      have Hbd := Lib.hid hbd
      have hSl := HSl.out
      clear hS hbd
      by_cases hr0 : re = 0
      · have hb1 := hb1 hr0
        subst hr0
        by_cases h0 : 0 ≤ rx
        · obtain ⟨d, rfl⟩ : ∃ d : Nat, rx = d := ⟨rx.toNat, by omega⟩
          have hst := Hst.out
          rw [if_pos ⟨rfl, h0⟩, Int.toNat_natCast] at hst
          have Hst2 := Lib.hid hst
          have HD1 : Hid (∀ W, Calls Tryz.prog 12 #[iv d] W fun e w' => e = .returned (.string ⟨(Lib.decDigits d).toArray⟩) ∧ Below W.heap.size W w') := Lib.hid (fun W => digits_any (n := d) (by omega) W)
          have HD2 : Hid (∀ W, Calls Tryz.prog 12 #[iv k] W fun e w' => e = .returned (.string ⟨(Lib.decDigits k).toArray⟩) ∧ Below W.heap.size W w') := Lib.hid (fun W => digits_any (n := k) (by omega) W)
          have hd1 := dec_len d (by omega)
          have hd2 := dec_len k (by omega)
          have hsp : Ru.spotT (d, k) = Lib.decDigits d ++ [46] ++ Lib.decDigits k := rfl
          have hsc := scT_snoc ll (d, k)
          rw [hsp] at hsc
          have Hsc := Lib.hid hsc
          generalize Lib.decDigits d = du at *
          generalize Lib.decDigits k = dv at *
          have hdn : ¬ (d : Int) < 0 := by omega
          clear hst Hst hsc hsp
          by_cases hS0 : S = []
          · have hl0 : ll = [] := (scT_nil ll).1 (by rw [← HS.out]; exact hS0)
            have Hl0 := Lib.hid hl0
            clear hl0
            have HeS : Hid (ByteArray.mk #[] ++ ByteArray.mk du.toArray ++ ByteArray.mk #[46] ++ ByteArray.mk dv.toArray = ByteArray.mk (scT (s.scrubTo (k + 1)).2).toArray) := Lib.hid (by
              rw [Hst2.out]
              dsimp only
              rw [Hsc.out, if_pos Hl0.out]
              apply ByteArray.ext; simp)
            subst hS0
            go_wp2_with fail
            refine HSc.out.mono ?_
            rintro e w3 ⟨rfl, hA3, hk3⟩
            have HA3 := Lib.hid hA3
            have HK3 := Lib.hid (HKk.out.also hk3)
            clear hA3 hk3
            unfold strB
            go_wp2_with fail
            refine (HD1.out _).mono ?_
            rintro e w4 ⟨rfl, hb4⟩
            have HA4 := Lib.hid (HA3.out.below hb4)
            have HK4 := Lib.hid (HK3.out.also (Kept.new F hb4))
            clear hb4
            go_wp2_with fail
            refine (HD2.out _).mono ?_
            rintro e w5 ⟨rfl, hb5⟩
            have HA5 := Lib.hid (HA4.out.below hb5)
            have HK5 := Lib.hid (HK4.out.also (Kept.new F hb5))
            clear hb5
            go_wp2_with fail
            rw [HeS.out]
            go_roundg (gk - 1)
            case measure => have := Hk.out; omega
            case rel => exact ⟨k + 1, by have := Hk.out; omega, by go_num, rfl, by rw [Hst2.out]; exact HA5.out, HK5.out⟩
          · have HeS : Hid (ByteArray.mk S.toArray ++ ByteArray.mk #[32] ++ ByteArray.mk du.toArray ++ ByteArray.mk #[46] ++ ByteArray.mk dv.toArray = ByteArray.mk (scT (s.scrubTo (k + 1)).2).toArray) := Lib.hid (by
              rw [Hst2.out]
              dsimp only
              rw [Hsc.out, if_neg (fun e => hS0 (by rw [HS.out, e]; rfl)), ← HS.out]
              apply ByteArray.ext; simp)
            have hS1 : S.isEmpty = false := by simpa using hS0
            have hS2 : (S == []) = false := by simpa using hS0
            go_wp2_with fail
            refine HSc.out.mono ?_
            rintro e w3 ⟨rfl, hA3, hk3⟩
            have HA3 := Lib.hid hA3
            have HK3 := Lib.hid (HKk.out.also hk3)
            clear hA3 hk3
            unfold strB
            go_wp2_with fail
            refine (HD1.out _).mono ?_
            rintro e w4 ⟨rfl, hb4⟩
            have HA4 := Lib.hid (HA3.out.below hb4)
            have HK4 := Lib.hid (HK3.out.also (Kept.new F hb4))
            clear hb4
            go_wp2_with fail
            refine (HD2.out _).mono ?_
            rintro e w5 ⟨rfl, hb5⟩
            have HA5 := Lib.hid (HA4.out.below hb5)
            have HK5 := Lib.hid (HK4.out.also (Kept.new F hb5))
            clear hb5
            go_wp2_with fail
            rw [HeS.out]
            go_roundg (gk - 1)
            case measure => have := Hk.out; omega
            case rel => exact ⟨k + 1, by have := Hk.out; omega, by go_num, rfl, by rw [Hst2.out]; exact HA5.out, HK5.out⟩
        · have Hno : Hid (¬ ((0 : Int) = 0 ∧ 0 ≤ rx)) := Lib.hid (fun h => h0 h.2)
          have hneg : rx < 0 := by omega
          have Hst2 := Lib.hid Hst.out
          clear Hst
          go_wp2_with fail
          refine HSc.out.mono ?_
          rintro e w3 ⟨rfl, hA3, hk3⟩
          have HA3 := Lib.hid hA3
          have HK3 := Lib.hid (HKk.out.also hk3)
          clear hA3 hk3
          go_wp2_with fail
          go_roundg (gk - 1)
          case measure => have := Hk.out; omega
          case rel => exact ⟨k + 1, by have := Hk.out; omega, by go_num, by rw [Hst2.out, if_neg Hno.out]; show _ = strB (scT ll); rw [HS.out], by rw [Hst2.out]; exact HA3.out, HK3.out⟩
      · have Hno : Hid (¬ (re = 0 ∧ 0 ≤ rx)) := Lib.hid (fun h => hr0 h.1)
        have Hst2 := Lib.hid Hst.out
        clear Hst
        go_wp2_with fail
        refine HSc.out.mono ?_
        rintro e w3 ⟨rfl, hA3, hk3⟩
        have HA3 := Lib.hid hA3
        have HK3 := Lib.hid (HKk.out.also hk3)
        clear hA3 hk3
        go_wp2_with fail
        go_roundg (gk - 1)
        case measure => have := Hk.out; omega
        case rel => exact ⟨k + 1, by have := Hk.out; omega, by go_num, by rw [Hst2.out, if_neg Hno.out]; show _ = strB (scT ll); rw [HS.out], by rw [Hst2.out]; exact HA3.out, HK3.out⟩
end
end Go.Proofs.YtneebcniofolmaaGreatDoor
