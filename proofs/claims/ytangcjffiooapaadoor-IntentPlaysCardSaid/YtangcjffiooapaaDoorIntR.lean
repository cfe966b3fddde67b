/- The reference's Intent: its object, List, Clean. -/
import Derived.Test.YtangcjffiooapaaDoorIntZ
import Derived.RegionTactic
namespace Go.Proofs.YtangcjffiooapaaDoor
open Go.ChangeShapes Go.WideShapes Go.ChangeAt Go.RowKit Go.Maps
set_option linter.unusedVariables false
namespace Nt
open Classical in
/-- Clean a region: is it clean now that was dirty? -/
noncomputable def clean (s : S) (wide r : Nat) : Bool × S := if busy s wide r then (false, s) else (s.dirty r, cln s r)
theorem clean_busy {s : S} {wide r : Nat} (h : busy s wide r) : clean s wide r = (false, s) := by unfold clean; rw [if_pos h]
theorem clean_free {s : S} {wide r : Nat} (h : ¬ busy s wide r) : clean s wide r = (s.dirty r, cln s r) := by unfold clean; rw [if_neg h]
theorem lo_zero (f : Nat → Bool) : lo f 0 = [] := rfl
theorem lo_succ (f : Nat → Bool) (k : Nat) : lo f (k + 1) = lo f k ++ (if f k then [(k : Int)] else []) := by
  unfold lo
  rw [List.range_succ, List.filter_append, List.map_append]
  cases h : f k <;> simp [h]
theorem lo_all (f : Nat → Bool) : lo f 40 = L f := rfl
theorem lo_length (f : Nat → Bool) (k : Nat) : (lo f k).length ≤ k := by
  unfold lo
  rw [List.length_map]
  exact Nat.le_trans (List.length_filter_le _ _) (by simp)
end Nt
structure RIntAt (w : World) (c wide : Nat) (s : Nt.S) : Prop where
  ex : ∃ cs, w.heap[c]? = some (.cells cs 58 (0, 0))
  w1 : 1 ≤ wide
  w40 : wide ≤ 40
  c0 : w.cell? ⟨c, 0, none⟩ = some (iv wide)
  many : ∀ k, k < 40 → w.cell? ⟨c, 1 + k, none⟩ = some (iv (s.many k))
  dirty : ∀ k, k < 40 → w.cell? ⟨c, 41 + k, none⟩ = some (.bool (s.dirty k))
namespace RIntAt
variable {w w' : World} {c wide : Nat} {s : Nt.S}
theorem lt (h : RIntAt w c wide s) : c < w.heap.size := by obtain ⟨cs, h⟩ := h.ex; exact (Array.getElem?_eq_some_iff.1 h).1
theorem f (h : RIntAt w c wide s) (j : Nat) : w.frozen? ⟨c, j, none⟩ = false := by obtain ⟨cs, h⟩ := h.ex; exact frozen_of_row _ _ _ _ _ h
theorem kept {F : Nat → Prop} (h : RIntAt w c wide s) (hk : Kept F w w') (hn : ¬ F c) : RIntAt w' c wide s := by
  obtain ⟨cs, h1⟩ := h.ex
  exact ⟨⟨cs, hk.heap h1 hn⟩, h.w1, h.w40, hk.cell h.c0 hn, fun k hk' => hk.cell (h.many k hk') hn, fun k hk' => hk.cell (h.dirty k hk') hn⟩
theorem below (h : RIntAt w c wide s) (hb : Below w.heap.size w w') : RIntAt w' c wide s := h.kept (Kept.new (fun _ => False) hb) (fun e => e)
theorem other {o o' : Nat} {u v : Value} (h : w.cell? ⟨c, o', none⟩ = some v) (hne : o ≠ o') : (w.setCell ⟨c, o, none⟩ u).cell? ⟨c, o', none⟩ = some v := by
  rw [World.cell?_setCell_other _ _ _ _ (by intro q; injection q with _ q2; exact hne q2)]; exact h
theorem setM (h : RIntAt w c wide s) {q : Nat} (hq : q < 40) (v : Nat) : RIntAt (w.setCell ⟨c, 1 + q, none⟩ (iv v)) c wide ⟨Nt.upd s.many q v, s.dirty⟩ := by
  obtain ⟨cs, h1⟩ := h.ex
  refine ⟨⟨_, heap_setCell_same _ _ _ _ _ _ h1⟩, h.w1, h.w40, other h.c0 (by omega), fun k hk => ?_, fun k hk => other (h.dirty k hk) (by omega)⟩
  by_cases e : k = q
  · subst e; rw [World.cell?_setCell_same _ _ _ (h.many k hk)]; show _ = some (iv ((Nt.upd s.many k v k : Nat) : Int)); rw [Nt.upd_same]
  · rw [other (h.many k hk) (by omega)]; show _ = some (iv ((Nt.upd s.many q v k : Nat) : Int)); rw [Nt.upd_other _ _ e]
theorem setD (h : RIntAt w c wide s) {q : Nat} (hq : q < 40) (b : Bool) : RIntAt (w.setCell ⟨c, 41 + q, none⟩ (.bool b)) c wide ⟨s.many, Nt.upd s.dirty q b⟩ := by
  obtain ⟨cs, h1⟩ := h.ex
  refine ⟨⟨_, heap_setCell_same _ _ _ _ _ _ h1⟩, h.w1, h.w40, other h.c0 (by omega), fun k hk => other (h.many k hk) (by omega), fun k hk => ?_⟩
  by_cases e : k = q
  · subst e; rw [World.cell?_setCell_same _ _ _ (h.dirty k hk)]; show _ = some (Value.bool (Nt.upd s.dirty k b k)); rw [Nt.upd_same]
  · rw [other (h.dirty k hk) (by omega)]; show _ = some (Value.bool (Nt.upd s.dirty q b k)); rw [Nt.upd_other _ _ e]
end RIntAt
def RListRel (f : Nat → Bool) (w : World) (gk : Nat) (v i : Value) (wr : World) : Prop :=
  ∃ k : Nat, k + gk = 40 ∧ i = iv k ∧ wr.ownsRow w.heap.size 3 1 v (Nt.lo f k).length ((Nt.lo f k).map iv) ∧ Below w.heap.size w wr
set_option maxRecDepth 100000 in
theorem rlist_any {w : World} {c wide : Nat} {s : Nt.S} (h : RIntAt w c wide s) :
    Calls Tryd.prog 33 #[.pointer (some ⟨c, 0, none⟩)] w (DirtyPost s.dirty w) := by
  have H := Lib.hid h
  clear h
  go_enter Tryd.func33, Tryd.ntmps33
  go_wp2_with fail
  go_loopg [3, 4] 40 (fun gk v i wr => RListRel s.dirty w gk v i wr)
  case atStart => exact ⟨0, rfl, rfl, World.ownsRow_nil _ _ _ _, Below.refl _ _⟩
  case round =>
    obtain ⟨k, hk, rfl, hown, hb⟩ := hrel
    have Hk := Lib.hid hk
    have Hown := Lib.hid hown
    have Hb := Lib.hid hb
    have hbz := hb.size
    by_cases hk40 : k < 40
    · have cd := (H.out.below hb).dirty k hk40
      have hll := Nt.lo_length s.dirty k
      obtain ⟨b0, hb0⟩ : ∃ b0, b0 = s.dirty k := ⟨_, rfl⟩
      rw [← hb0] at cd
      have hsucc := Nt.lo_succ s.dirty k
      rw [← hb0] at hsucc
      have Hsucc := Lib.hid hsucc
      clear hk hown hb hb0 hsucc
      cases b0 with
      | false =>
        have hs : Nt.lo s.dirty (k + 1) = Nt.lo s.dirty k := by rw [Hsucc.out]; simp
        have Hs := Lib.hid hs
        clear hs
        go_wp2_with fail
        go_roundg (gk - 1)
        case measure => have := Hk.out; omega
        case rel => exact ⟨k + 1, by have := Hk.out; omega, by go_num, by rw [Hs.out]; exact Hown.out, Hb.out⟩
      | true =>
        have hs : (Nt.lo s.dirty k).map iv ++ [iv k] = (Nt.lo s.dirty (k + 1)).map iv := by rw [Hsucc.out]; simp
        have hl : (Nt.lo s.dirty k).length + 1 = (Nt.lo s.dirty (k + 1)).length := by rw [Hsucc.out]; simp
        have Hs := Lib.hid hs
        have Hl := Lib.hid hl
        obtain ⟨n0, hn0⟩ : ∃ n0, n0 = (Nt.lo s.dirty k).length := ⟨_, rfl⟩
        have Hn0 := Lib.hid hn0
        rw [← hn0] at hll
        clear hs hl hn0
        go_wp2_with (at_builtin; refine app1 wr wr _ 3 34 rfl _ _ rfl w.heap.size Tryd.underlying34 info_int rfl _ (Nt.lo s.dirty k).length _ rfl _ rfl rfl Hown.out rfl ?c1 ?c2 hbz (Below.refl _ _) ?_)
        case c1 => have := Hn0.out; omega
        try case c2 => omega
        intro v' w1 hown1 hb1 _ _
        rw [Hs.out, Hl.out] at hown1
        have Hown1 := Lib.hid hown1
        have Hb1 := Lib.hid (Hb.out.trans hb1)
        clear hown1 hb1
        go_wp2_with fail
        go_roundg (gk - 1)
        case measure => have := Hk.out; omega
        case rel => exact ⟨k + 1, by have := Hk.out; omega, by go_num, Hown1.out, Hb1.out⟩
    · have hk' : k = 40 := by omega
      subst hk'
      clear hk hown hb
      go_wp2_with fail
      go_ret
      exact ⟨_, rfl, Hown.out, Hb.out⟩
def RCleanPost (c wide : Nat) (r : Bool × Nt.S) (w : World) (e : Ending) (w' : World) : Prop := e = .returned (.bool r.1) ∧ RIntAt w' c wide r.2 ∧ Kept (· = c) w w'
set_option maxRecDepth 100000 in
theorem rclean_any {w : World} {c wide : Nat} {s : Nt.S} (h : RIntAt w c wide s) (r : Nat) (hr : r < 40) :
    Calls Tryd.prog 30 #[.pointer (some ⟨c, 0, none⟩), iv r] w (RCleanPost c wide (Nt.clean s wide r) w) := by
  have H := Lib.hid h
  have c0 := h.c0
  have hw1 := h.w1
  have hw40 := h.w40
  have hw0 : ¬ wide = 0 := by omega
  have cd := h.dirty r hr
  have cf := h.f
  clear h
  go_enter Tryd.func30, Tryd.ntmps30
  go_wp2_with fail
  go_loopg [5] 40 (fun gk i wr => ∃ k : Nat, k + gk = 40 ∧ i = iv k ∧ w = wr ∧ ∀ j, j < k → s.many j ≠ 0 → j / wide ≠ r)
  case atStart => exact ⟨0, rfl, rfl, rfl, fun j hj => by omega⟩
  case round =>
    obtain ⟨k, hk, rfl, rfl, hseen⟩ := hrel
    have Hk := Lib.hid hk
    have Hseen := Lib.hid hseen
    by_cases hk40 : k < 40
    · have cm := H.out.many k hk40
      have hkm : k ≤ 1000000 := by omega
      have hqo := wrap_quo k wide _ hkm rfl
      have hqp := wrap_quo' k wide _ hkm rfl
      obtain ⟨q, hqe⟩ : ∃ q, q = k / wide := ⟨_, rfl⟩
      rw [← hqe] at hqo hqp
      have Hq := Lib.hid hqe
      clear hqe hk hseen
      by_cases hqr : q = r
      · have tq : ((q : Int) == (r : Int)) = true := beq_t (by rw [hqr])
        by_cases hm0 : s.many k = 0
        · rw [hm0] at cm
          have Hm0 := Lib.hid hm0
          clear hm0 hqr
          go_wp2_with fail
          go_roundg (gk - 1)
          case measure => have := Hk.out; omega
          case rel => exact ⟨k + 1, by have := Hk.out; omega, by go_num, rfl, fun j hj hm => by
            by_cases e : j = k
            · subst e; exact absurd Hm0.out hm
            · exact Hseen.out j (by omega) hm⟩
        · have tm' : decide (0 < s.many k) = true := dec_t (Nat.pos_of_ne_zero hm0)
          have tm : decide ((0 : Int) < (s.many k : Int)) = true := dec_t (Int.ofNat_lt.2 (Nat.pos_of_ne_zero hm0))
          have hbusy : Nt.busy s wide r := ⟨k, hk40, hm0, by rw [← Hq.out]; exact hqr⟩
          have Hbusy := Lib.hid hbusy
          clear hbusy hm0 hqr
          go_wp2_with fail
          go_ret
          rw [RCleanPost, Nt.clean_busy Hbusy.out]
          exact ⟨rfl, H.out, Kept.refl _ _⟩
      · have tq : ((q : Int) == (r : Int)) = false := beq_f (fun e => hqr (Int.ofNat_inj.1 e))
        have Hqr := Lib.hid hqr
        clear hqr
        go_wp2_with fail
        go_roundg (gk - 1)
        case measure => have := Hk.out; omega
        case rel => exact ⟨k + 1, by have := Hk.out; omega, by go_num, rfl, fun j hj hm => by
            by_cases e : j = k
            · subst e; rw [← Hq.out]; exact Hqr.out
            · exact Hseen.out j (by omega) hm⟩
    · have hk' : k = 40 := by omega
      subst hk'
      have hnb : ¬ Nt.busy s wide r := by
        rintro ⟨j, hj, hm, he⟩; exact hseen j hj hm he
      have Hnb := Lib.hid hnb
      clear hnb hk hseen
      go_wp2_with fail
      go_ret
      rw [RCleanPost, Nt.clean_free Hnb.out]
      exact ⟨rfl, H.out.setD hr false, (Kept.self c _).set1 _ _⟩
end Go.Proofs.YtangcjffiooapaaDoor
