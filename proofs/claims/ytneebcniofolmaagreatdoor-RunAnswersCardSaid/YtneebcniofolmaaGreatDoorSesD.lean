/- The walk of desk.do. -/
import Derived.Test.YtneebcniofolmaaGreatDoorSesN
import Derived.Test.YtneebcniofolmaaGreatDoorRunH
import Derived.Test.YtneebcniofolmaaGreatDoorAryU
import Derived.Test.YtneebcniofolmaaGreatDoorAryT
import Derived.Test.YtneebcniofolmaaGreatDoorAryG
namespace Go.Proofs.YtneebcniofolmaaGreatDoor
open Go.ChangeShapes Go.WideShapes Go.ChangeAt Go.RowKit
set_option linter.unusedVariables false
set_option maxHeartbeats 4000000
set_option maxRecDepth 100000
section
variable {F : Nat → Prop} {K : Nat} {w : World} {b : Nat} {s : Ar.S}
theorem do_fail (h : AryOk F K w b s) (hK : K < 900000) (n0 n1 : Nat) (hn0 : n0 < 10000) (x l : List UInt8) (v : List Nat) (hv : v.getD 0 0 = n0) :
    Calls Tryz.prog 61 #[.agg #[.pointer (some ⟨b, 0, none⟩)], strB Ru.Wd.fail.txt, .agg #[iv n0, iv n1], strB x] w (DeskPost F (K + 4) b (Ru.run1 s .fail v l) w) := by
  have hrun : Ru.run1 s .fail v l = ((Ru.ok, (s.fail (n0 : Int)).1), (s.fail (n0 : Int)).2) := by rw [← hv]; rfl
  unfold strB Ru.Wd.txt
  have hI0 : (0 : Int) ≤ (n0 : Int) := by omega
  obtain ⟨wB, hwB⟩ : ∃ wB, wB = (w.alloc (.cells #[.pointer (some ⟨b, 0, none⟩)] 42)).alloc (.cells #[iv n0, iv n1] 116) := ⟨_, rfl⟩
  have hbB : Below w.heap.size w wB := by rw [hwB]; exact ((Below.refl _ _).alloc (Nat.le_refl _) _).alloc (by simp) _
  have HwB := Lib.hid hwB
  have HbB := Lib.hid hbB
  have HkB := Lib.hid (Kept.new F hbB)
  have HA := Lib.hid (h.below hbB)
  clear hwB hbB
  have HC := Lib.hid (aFail HA.out (n0 : Int))
  clear h
  obtain ⟨r, hr⟩ : ∃ r, r = s.fail (n0 : Int) := ⟨_, rfl⟩
  rw [← hr] at HC
  have Hr := Lib.hid hr
  clear hr
  go_enter Tryz.func61, Tryz.ntmps61
  go_wp2_with fail
  rw [← HwB.out]
  refine HC.out.mono ?_
  rintro e w2 ⟨rfl, hA, hK2⟩
  have HA2 := Lib.hid hA
  have HK2 := Lib.hid (HkB.out.also hK2)
  clear hA hK2
  go_wp2_with fail
  go_ret2
  exact ⟨by rw [hrun, ← Hr.out]; rfl, by rw [hrun, ← Hr.out]; exact HA2.out.more (by omega), HK2.out⟩
theorem do_replace (h : AryOk F K w b s) (hK : K < 900000) (n0 n1 : Nat) (hn0 : n0 < 10000) (x l : List UInt8) (v : List Nat) (hv : v.getD 0 0 = n0) :
    Calls Tryz.prog 61 #[.agg #[.pointer (some ⟨b, 0, none⟩)], strB Ru.Wd.replace.txt, .agg #[iv n0, iv n1], strB x] w (DeskPost F (K + 4) b (Ru.run1 s .replace v l) w) := by
  have hrun : Ru.run1 s .replace v l = ((Ru.ok, (s.replace (n0 : Int)).1), (s.replace (n0 : Int)).2) := by rw [← hv]; rfl
  unfold strB Ru.Wd.txt
  have hI0 : (0 : Int) ≤ (n0 : Int) := by omega
  obtain ⟨wB, hwB⟩ : ∃ wB, wB = (w.alloc (.cells #[.pointer (some ⟨b, 0, none⟩)] 42)).alloc (.cells #[iv n0, iv n1] 116) := ⟨_, rfl⟩
  have hbB : Below w.heap.size w wB := by rw [hwB]; exact ((Below.refl _ _).alloc (Nat.le_refl _) _).alloc (by simp) _
  have HwB := Lib.hid hwB
  have HbB := Lib.hid hbB
  have HkB := Lib.hid (Kept.new F hbB)
  have HA := Lib.hid (h.below hbB)
  clear hwB hbB
  have HC := Lib.hid (aReplace HA.out (n0 : Int))
  clear h
  obtain ⟨r, hr⟩ : ∃ r, r = s.replace (n0 : Int) := ⟨_, rfl⟩
  rw [← hr] at HC
  have Hr := Lib.hid hr
  clear hr
  go_enter Tryz.func61, Tryz.ntmps61
  go_wp2_with fail
  rw [← HwB.out]
  refine HC.out.mono ?_
  rintro e w2 ⟨rfl, hA, hK2⟩
  have HA2 := Lib.hid hA
  have HK2 := Lib.hid (HkB.out.also hK2)
  clear hA hK2
  go_wp2_with fail
  go_ret2
  exact ⟨by rw [hrun, ← Hr.out]; rfl, by rw [hrun, ← Hr.out]; exact HA2.out.more (by omega), HK2.out⟩
theorem do_write (h : AryOk F K w b s) (hK : K < 900000) (n0 n1 : Nat) (hn0 : n0 < 10000) (x : List UInt8) (hx : x.length ≤ 100000) (v : List Nat) (hv : v.getD 0 0 = n0) :
    Calls Tryz.prog 61 #[.agg #[.pointer (some ⟨b, 0, none⟩)], strB Ru.Wd.write.txt, .agg #[iv n0, iv n1], strB x] w (DeskPost F (K + 4) b (Ru.run1 s .write v x) w) := by
  have hrun : Ru.run1 s .write v x = ((Ru.ok, (s.write (n0 : Int) ⟨x.toArray⟩).1), (s.write (n0 : Int) ⟨x.toArray⟩).2) := by rw [← hv]; rfl
  have hsz : (ByteArray.mk x.toArray).size ≤ maxLen := by show x.length ≤ maxLen; unfold maxLen; omega
  unfold strB Ru.Wd.txt
  have hI0 : (0 : Int) ≤ (n0 : Int) := by omega
  obtain ⟨wB, hwB⟩ : ∃ wB, wB = (w.alloc (.cells #[.pointer (some ⟨b, 0, none⟩)] 42)).alloc (.cells #[iv n0, iv n1] 116) := ⟨_, rfl⟩
  have hbB : Below w.heap.size w wB := by rw [hwB]; exact ((Below.refl _ _).alloc (Nat.le_refl _) _).alloc (by simp) _
  have HwB := Lib.hid hwB
  have HbB := Lib.hid hbB
  have HkB := Lib.hid (Kept.new F hbB)
  have HA := Lib.hid (h.below hbB)
  clear hwB hbB
  have HC := Lib.hid (aWrite HA.out (by omega) (n0 : Int) (by omega) (by omega) ⟨x.toArray⟩ hsz)
  clear h
  obtain ⟨r, hr⟩ : ∃ r, r = s.write (n0 : Int) ⟨x.toArray⟩ := ⟨_, rfl⟩
  rw [← hr] at HC
  have Hr := Lib.hid hr
  clear hr
  go_enter Tryz.func61, Tryz.ntmps61
  go_wp2_with fail
  rw [← HwB.out]
  refine HC.out.mono ?_
  rintro e w2 ⟨rfl, hA, hK2⟩
  have HA2 := Lib.hid hA
  have HK2 := Lib.hid (HkB.out.also hK2)
  clear hA hK2
  go_wp2_with fail
  go_ret2
  exact ⟨by rw [hrun, ← Hr.out]; rfl, by rw [hrun, ← Hr.out]; exact HA2.out.more (by omega), HK2.out⟩
theorem do_poke (h : AryOk F K w b s) (hK : K < 900000) (n0 n1 : Nat) (hn0 : n0 < 10000) (hn1 : n1 < 10000) (x : List UInt8) (hx : x.length ≤ 100000) (v : List Nat) (hv : v.getD 0 0 = n0) (hv1 : v.getD 1 0 = n1) :
    Calls Tryz.prog 61 #[.agg #[.pointer (some ⟨b, 0, none⟩)], strB Ru.Wd.poke.txt, .agg #[iv n0, iv n1], strB x] w (DeskPost F (K + 4) b (Ru.run1 s .poke v x) w) := by
  have hrun : Ru.run1 s .poke v x = ((Ru.ok, (s.poke (n0 : Int) (n1 : Int) ⟨x.toArray⟩).1), (s.poke (n0 : Int) (n1 : Int) ⟨x.toArray⟩).2) := by rw [← hv, ← hv1]; rfl
  have hsz : (ByteArray.mk x.toArray).size ≤ maxLen := by show x.length ≤ maxLen; unfold maxLen; omega
  unfold strB Ru.Wd.txt
  have hI0 : (0 : Int) ≤ (n0 : Int) := by omega
  obtain ⟨wB, hwB⟩ : ∃ wB, wB = (w.alloc (.cells #[.pointer (some ⟨b, 0, none⟩)] 42)).alloc (.cells #[iv n0, iv n1] 116) := ⟨_, rfl⟩
  have hbB : Below w.heap.size w wB := by rw [hwB]; exact ((Below.refl _ _).alloc (Nat.le_refl _) _).alloc (by simp) _
  have HwB := Lib.hid hwB
  have HbB := Lib.hid hbB
  have HkB := Lib.hid (Kept.new F hbB)
  have HA := Lib.hid (h.below hbB)
  clear hwB hbB
  have HC := Lib.hid (aPoke HA.out (by omega) (n0 : Int) (n1 : Int) ⟨x.toArray⟩ hsz)
  clear h
  obtain ⟨r, hr⟩ : ∃ r, r = s.poke (n0 : Int) (n1 : Int) ⟨x.toArray⟩ := ⟨_, rfl⟩
  rw [← hr] at HC
  have Hr := Lib.hid hr
  clear hr
  go_enter Tryz.func61, Tryz.ntmps61
  go_wp2_with fail
  rw [← HwB.out]
  refine HC.out.mono ?_
  rintro e w2 ⟨rfl, hA, hK2⟩
  have HA2 := Lib.hid hA
  have HK2 := Lib.hid (HkB.out.also hK2)
  clear hA hK2
  go_wp2_with fail
  go_ret2
  exact ⟨by rw [hrun, ← Hr.out]; rfl, by rw [hrun, ← Hr.out]; exact HA2.out.more (by omega), HK2.out⟩
theorem do_read (h : AryOk F K w b s) (hK : K < 900000) (n0 n1 : Nat) (hn0 : n0 < 10000) (x l : List UInt8) (v : List Nat) (hv : v.getD 0 0 = n0) :
    Calls Tryz.prog 61 #[.agg #[.pointer (some ⟨b, 0, none⟩)], strB Ru.Wd.read.txt, .agg #[iv n0, iv n1], strB x] w (DeskPost F (K + 4) b (Ru.run1 s .read v l) w) := by
  have hrun : Ru.run1 s .read v l = ((Ru.hex (s.read (n0 : Int)).1.data.toList, (s.read (n0 : Int)).2), s) := by rw [← hv]; rfl
  have hz := Ar.S.read_size h.ok (n0 : Int)
  have hz2 := h.ok.z16
  unfold strB Ru.Wd.txt
  have hI0 : (0 : Int) ≤ (n0 : Int) := by omega
  obtain ⟨wB, hwB⟩ : ∃ wB, wB = (w.alloc (.cells #[.pointer (some ⟨b, 0, none⟩)] 42)).alloc (.cells #[iv n0, iv n1] 116) := ⟨_, rfl⟩
  have hbB : Below w.heap.size w wB := by rw [hwB]; exact ((Below.refl _ _).alloc (Nat.le_refl _) _).alloc (by simp) _
  have HwB := Lib.hid hwB
  have HbB := Lib.hid hbB
  have HkB := Lib.hid (Kept.new F hbB)
  have HA := Lib.hid (h.below hbB)
  clear hwB hbB
  have HC := Lib.hid (aRead HA.out (n0 : Int) (by omega) (by omega))
  clear h
  obtain ⟨r, hr⟩ : ∃ r, r = s.read (n0 : Int) := ⟨_, rfl⟩
  rw [← hr] at HC hz
  have Hr := Lib.hid hr
  clear hr
  obtain ⟨y, e0⟩ := r
  have HX := Lib.hid (fun W => hex_any y (by dsimp only at hz; omega) W)
  dsimp only at HC hz
  go_enter Tryz.func61, Tryz.ntmps61
  go_wp2_with fail
  rw [← HwB.out]
  refine HC.out.mono ?_
  rintro e w2 ⟨rfl, hb2⟩
  have HA2 := Lib.hid (HA.out.below hb2)
  have HK2 := Lib.hid (HkB.out.also (Kept.new F hb2))
  clear hb2
  go_wp2_with fail
  refine (HX.out _).mono ?_
  rintro e w3 ⟨rfl, hb3⟩
  have HA3 := Lib.hid (HA2.out.below hb3)
  have HK3 := Lib.hid (HK2.out.also (Kept.new F hb3))
  clear hb3
  go_wp2_with fail
  go_ret2
  exact ⟨by rw [hrun, ← Hr.out]; rfl, by rw [hrun]; exact HA3.out.more (by omega), HK3.out⟩
theorem do_lost (h : AryOk F K w b s) (hK : K < 900000) (n0 n1 : Nat) (hn0 : n0 < 10000) (x l : List UInt8) (v : List Nat) (hv : v.getD 0 0 = n0) :
    Calls Tryz.prog 61 #[.agg #[.pointer (some ⟨b, 0, none⟩)], strB Ru.Wd.lost.txt, .agg #[iv n0, iv n1], strB x] w (DeskPost F (K + 4) b (Ru.run1 s .lost v l) w) := by
  have hrun : Ru.run1 s .lost v l = ((Lib.decDigits (s.lostN (n0 : Int)), s.rawF (n0 : Int)), s) := by rw [← hv]; rfl
  have hz := s.lostN_le (n0 : Int)
  have hz2 := h.ok.n10
  unfold strB Ru.Wd.txt
  have hI0 : (0 : Int) ≤ (n0 : Int) := by omega
  obtain ⟨wB, hwB⟩ : ∃ wB, wB = (w.alloc (.cells #[.pointer (some ⟨b, 0, none⟩)] 42)).alloc (.cells #[iv n0, iv n1] 116) := ⟨_, rfl⟩
  have hbB : Below w.heap.size w wB := by rw [hwB]; exact ((Below.refl _ _).alloc (Nat.le_refl _) _).alloc (by simp) _
  have HwB := Lib.hid hwB
  have HbB := Lib.hid hbB
  have HkB := Lib.hid (Kept.new F hbB)
  have HA := Lib.hid (h.below hbB)
  clear hwB hbB
  have HC := Lib.hid (aLost HA.out (n0 : Int))
  clear h
  obtain ⟨y, hy⟩ : ∃ y, y = s.lostN (n0 : Int) := ⟨_, rfl⟩
  obtain ⟨e0, he⟩ : ∃ e0, e0 = s.rawF (n0 : Int) := ⟨_, rfl⟩
  rw [← hy] at HC hz hrun
  rw [← he] at HC hrun
  have Hrun := Lib.hid hrun
  have HX := Lib.hid (fun W => Tryz.strconv_Itoa_small y (by omega) W)
  clear hy he hrun
  go_enter Tryz.func61, Tryz.ntmps61
  go_wp2_with fail
  rw [← HwB.out]
  refine HC.out.mono ?_
  rintro e w2 ⟨rfl, rfl⟩
  go_wp2_with fail
  refine (HX.out _).mono ?_
  rintro e w3 ⟨rfl, rfl⟩
  go_wp2_with fail
  go_ret2
  exact ⟨by rw [Hrun.out]; rfl, by rw [Hrun.out]; exact HA.out.more (by omega), HkB.out⟩
theorem do_rebuild (h : AryOk F K w b s) (hK : K < 900000) (n0 n1 : Nat) (hn0 : n0 < 10000) (x l : List UInt8) (v : List Nat) (hv : v.getD 0 0 = n0) :
    Calls Tryz.prog 61 #[.agg #[.pointer (some ⟨b, 0, none⟩)], strB Ru.Wd.rebuild.txt, .agg #[iv n0, iv n1], strB x] w (DeskPost F (K + 4) b (Ru.run1 s .rebuild v l) w) := by
  have hrun : Ru.run1 s .rebuild v l = ((Lib.decDigits (s.rebuild (n0 : Int)).1.1.toNat, (s.rebuild (n0 : Int)).1.2), (s.rebuild (n0 : Int)).2) := by rw [← hv]; rfl
  have hz := Ar.S.rebuild_bd h.ok (n0 : Int)
  have hz2 := h.ok.r20
  unfold strB Ru.Wd.txt
  have hI0 : (0 : Int) ≤ (n0 : Int) := by omega
  obtain ⟨wB, hwB⟩ : ∃ wB, wB = (w.alloc (.cells #[.pointer (some ⟨b, 0, none⟩)] 42)).alloc (.cells #[iv n0, iv n1] 116) := ⟨_, rfl⟩
  have hbB : Below w.heap.size w wB := by rw [hwB]; exact ((Below.refl _ _).alloc (Nat.le_refl _) _).alloc (by simp) _
  have HwB := Lib.hid hwB
  have HbB := Lib.hid hbB
  have HkB := Lib.hid (Kept.new F hbB)
  have HA := Lib.hid (h.below hbB)
  clear hwB hbB
  have HC := Lib.hid (aRebuild HA.out (by omega) (n0 : Int))
  clear h
  obtain ⟨r, hr⟩ : ∃ r, r = s.rebuild (n0 : Int) := ⟨_, rfl⟩
  rw [← hr] at HC hz hrun
  clear hr
  obtain ⟨⟨y, e0⟩, t⟩ := r
  dsimp only at hz hrun
  obtain ⟨z, rfl⟩ : ∃ z : Nat, y = z := ⟨y.toNat, by omega⟩
  rw [Int.toNat_natCast] at hrun
  have Hrun := Lib.hid hrun
  have HX := Lib.hid (fun W => Tryz.strconv_Itoa_small z (by omega) W)
  clear hrun
  unfold RbPost at HC
  dsimp only at HC
  go_enter Tryz.func61, Tryz.ntmps61
  go_wp2_with fail
  rw [← HwB.out]
  refine HC.out.mono ?_
  rintro e w2 ⟨rfl, hA2, hk2⟩
  have HA2 := Lib.hid hA2
  have HK2 := Lib.hid (HkB.out.also hk2)
  clear hA2 hk2
  go_wp2_with fail
  refine (HX.out _).mono ?_
  rintro e w3 ⟨rfl, rfl⟩
  go_wp2_with fail
  go_ret2
  exact ⟨by rw [Hrun.out]; rfl, by rw [Hrun.out]; exact HA2.out.more (by omega), HK2.out⟩
theorem do_scrub (h : AryOk F K w b s) (hK : K < 900000) (hFw : ∀ k, F k → k < w.heap.size) (hH : ∀ w', Kept F w w' → Handle w') (hl : Ar.S.Like 5 4 2 s) (n0 n1 : Nat) (x : List UInt8) :
    Calls Tryz.prog 61 #[.agg #[.pointer (some ⟨b, 0, none⟩)], strB Ru.Wd.scrub.txt, .agg #[iv n0, iv n1], strB x] w (DeskPost F (K + 4) b (Ru.run1 s .scrub [] []) w) := by
  unfold strB Ru.Wd.txt
  have hI0 : (0 : Int) ≤ (n0 : Int) := by omega
  obtain ⟨wB, hwB⟩ : ∃ wB, wB = (w.alloc (.cells #[.pointer (some ⟨b, 0, none⟩)] 42)).alloc (.cells #[iv n0, iv n1] 116) := ⟨_, rfl⟩
  have hbB : Below w.heap.size w wB := by rw [hwB]; exact ((Below.refl _ _).alloc (Nat.le_refl _) _).alloc (by simp) _
  have HwB := Lib.hid hwB
  have HbB := Lib.hid hbB
  have HkB := Lib.hid (Kept.new F hbB)
  have HA := Lib.hid (h.below hbB)
  clear hwB hbB
  have hzB := HbB.out.size
  have HC := Lib.hid (dscrub HA.out hK (fun k hk => by have := hFw k hk; omega) (fun w' hk => hH w' (HkB.out.also hk)) hl.1 hl.2.1)
  clear h hFw hH hl
  generalize Ru.run1 s .scrub [] [] = r at *
  unfold DeskPost at HC
  obtain ⟨⟨y, e0⟩, t⟩ := r
  dsimp only at HC
  go_enter Tryz.func61, Tryz.ntmps61
  go_wp2_with fail
  rw [← HwB.out]
  refine HC.out.mono ?_
  rintro e w2 ⟨rfl, hA2, hk2⟩
  have HA2 := Lib.hid hA2
  have HK2 := Lib.hid (HkB.out.also hk2)
  clear hA2 hk2
  go_wp2_with fail
  go_ret2
  exact ⟨rfl, HA2.out, HK2.out⟩
/-- whatever its word is -/
theorem do_any (h : AryOk F K w b s) (hK : K < 900000) (hFw : ∀ k, F k → k < w.heap.size) (hH : ∀ w', Kept F w w' → Handle w') (hl : Ar.S.Like 5 4 2 s) (k : Ru.Wd) (v : List Nat) (x : List UInt8) (h0 : v.getD 0 0 < 10000) (h1 : v.getD 1 0 < 10000) (hx : x.length ≤ 100000) (hs : k = .scrub → v = [] ∧ x = []) :
    Calls Tryz.prog 61 #[.agg #[.pointer (some ⟨b, 0, none⟩)], strB k.txt, .agg #[iv (v.getD 0 0 : Nat), iv (v.getD 1 0 : Nat)], strB x] w (DeskPost F (K + 4) b (Ru.run1 s k v x) w) := by
  cases k with
  | read => exact do_read h hK _ _ h0 x x v rfl
  | write => exact do_write h hK _ _ h0 x hx v rfl
  | fail => exact do_fail h hK _ _ h0 x x v rfl
  | replace => exact do_replace h hK _ _ h0 x x v rfl
  | poke => exact do_poke h hK _ _ h0 h1 x hx v rfl rfl
  | rebuild => exact do_rebuild h hK _ _ h0 x x v rfl
  | lost => exact do_lost h hK _ _ h0 x x v rfl
  | scrub =>
    obtain ⟨rfl, rfl⟩ := hs rfl
    exact do_scrub h hK hFw hH hl _ _ _
end
end Go.Proofs.YtneebcniofolmaaGreatDoor
