/- The walk of run.block and the reference's Unhex. -/
import Derived.Test.YtneebcniofolmaaGreatDoorRunH
import Derived.Test.YtneebcniofolmaaGreatDoorRunN
namespace Go.Proofs.YtneebcniofolmaaGreatDoor
open Go.ChangeShapes Go.WideShapes Go.ChangeAt Go.RowKit
set_option linter.unusedVariables false
set_option maxHeartbeats 2000000
def UnhPost (l : List UInt8) (w : World) (e : Ending) (w' : World) : Prop := (∃ b : ByteArray, e = .returned (.tuple #[.string b, .bool (Ru.unhex l).isSome]) ∧ ∀ x, Ru.unhex l = some x → b = ⟨x.toArray⟩) ∧ Below w.heap.size w w'
theorem sg_range (c : UInt8) : -1 ≤ Ru.sg c ∧ Ru.sg c < 16 := by
  have := c.toNat_lt
  unfold Ru.sg
  split
  · omega
  · split <;> omega
theorem index_sg (c : UInt8) (w : World) : Calls Tryz.prog 78 #[.string ⟨#[48, 49, 50, 51, 52, 53, 54, 55, 56, 57, 97, 98, 99, 100, 101, 102]⟩, .string ⟨#[c]⟩] w fun e w' => e = .returned (iv (Ru.sg c)) ∧ w' = w := by
  have h := Tryz.strings_Index_one ⟨#[48, 49, 50, 51, 52, 53, 54, 55, 56, 57, 97, 98, 99, 100, 101, 102]⟩ c w
  rw [show (ByteArray.mk #[48, 49, 50, 51, 52, 53, 54, 55, 56, 57, 97, 98, 99, 100, 101, 102]).data.toList = [48, 49, 50, 51, 52, 53, 54, 55, 56, 57, 97, 98, 99, 100, 101, 102] from rfl, Ru.sg_index] at h
  exact h
set_option maxRecDepth 100000 in
theorem block_no (l : List UInt8) (hs : l.length ≤ 100000) (h : l.length ≠ 4) (w : World) :
    Calls Tryz.prog 60 #[.string ⟨l.toArray⟩] w (UnhPost l w) := by
  have hsz : (ByteArray.mk l.toArray).size = l.length := rfl
  have hn : Ru.unhex l = none := by
    match l, h with
    | [], _ => rfl
    | [_], _ => rfl
    | [_, _], _ => rfl
    | [_, _, _], _ => rfl
    | [_, _, _, _], h => exact absurd rfl h
    | _ :: _ :: _ :: _ :: _ :: _, _ => rfl
  have Hn := Lib.hid hn
  have h' : ¬ ((l.length : Int) = 4) := by omega
  go_enter Tryz.func60, Tryz.ntmps60
  go_wp2_with fail
  go_ret2
  exact ⟨⟨_, by rw [Hn.out]; rfl, fun x hx => by rw [Hn.out] at hx; cases hx⟩, Below.refl _ _⟩
def byt (p q : Int) : UInt8 := UInt8.ofNat (16 * p.toNat + q.toNat)
/-- the first k bytes are there -/
def UnhRel (u v : Nat → UInt8) (w : World) (m gk : Nat) (t i : Value) (wr : World) : Prop :=
  ∃ k : Nat, k + gk = 2 ∧ i = iv (m * k) ∧ (∀ j, j < k → 0 ≤ Ru.sg (u j) ∧ 0 ≤ Ru.sg (v j)) ∧ wr.ownsRow w.heap.size 5 1 t k ((List.range k).map fun j => .int .u8 ((byt (Ru.sg (u j)) (Ru.sg (v j))).toNat : Int)) ∧ Below w.heap.size w wr
theorem i1_sg (c : UInt8) (w : World) : Calls Tryz.prog 78 #[.string ⟨#[48, 49, 50, 51, 52, 53, 54, 55, 56, 57, 97, 98, 99, 100, 101, 102]⟩, .string ⟨#[c]⟩] w fun e w' => e = .returned (iv (Ru.sg c)) ∧ w = w' := by
  refine (index_sg c w).mono ?_
  rintro e w' ⟨rfl, rfl⟩
  exact ⟨rfl, rfl⟩
theorem i1_sgp (c : UInt8) (p : Int) (h : Ru.sg c = p) : ∀ w, Calls Tryz.prog 78 #[.string ⟨#[48, 49, 50, 51, 52, 53, 54, 55, 56, 57, 97, 98, 99, 100, 101, 102]⟩, .string ⟨#[c]⟩] w fun e w' => e = .returned (iv p) ∧ w = w' := by
  subst h; exact i1_sg c
theorem ext4 (a b c d : UInt8) : ByteArray.extract ⟨#[a, b, c, d]⟩ 0 1 = ⟨#[a]⟩ ∧ ByteArray.extract ⟨#[a, b, c, d]⟩ 1 2 = ⟨#[b]⟩ ∧ ByteArray.extract ⟨#[a, b, c, d]⟩ 2 3 = ⟨#[c]⟩ ∧ ByteArray.extract ⟨#[a, b, c, d]⟩ 3 4 = ⟨#[d]⟩ := ⟨rfl, rfl, rfl, rfl⟩
theorem or_nib (p q : Nat) (hp : p < 16) (hq : q < 16) : bits .or .i64 ((p : Int) * 16) (q : Int) = ((byt p q).toNat : Int) := by
  have : ∀ p q : Fin 16, bits .or .i64 ((p.val : Int) * 16) (q.val : Int) = ((byt p.val q.val).toNat : Int) := by decide +kernel
  exact this ⟨p, hp⟩ ⟨q, hq⟩
theorem add_nib (p q : Nat) (hp : p < 16) (hq : q < 16) : 16 * (p : Int) + (q : Int) = ((byt p q).toNat : Int) := by
  have : ∀ p q : Fin 16, 16 * (p.val : Int) + (q.val : Int) = ((byt p.val q.val).toNat : Int) := by decide +kernel
  exact this ⟨p, hp⟩ ⟨q, hq⟩
theorem own_conv {w : World} {base n : Nat} {t : Value} {l : List UInt8} (h : w.ownsRow base 5 1 t n (l.map fun x => .int .u8 (x.toNat : Int))) (hn : l.length = n) (h0 : 0 < n) :
    (convert 44 9 t).run Tryz.prog w = .ok (.string ⟨l.toArray⟩) w := by
  rcases h.2 with ⟨rfl, h1⟩ | ⟨g, cap, cur, rfl, hb, hg, hnc, hcm, hcs, ht⟩
  · omega
  · subst hn
    refine run_convert_bytes_back w _ _ 5 ⟨g, 0, none⟩ cap l Tryz.underlying44 Tryz.underlying5 Tryz.underlying9 (fun j hj => ?_)
    rw [Addr.add_lit, Nat.zero_add, h.cellAt j (by simpa using hj), List.getElem?_map, List.getElem?_eq_getElem hj]; rfl
set_option maxRecDepth 100000 in
theorem block_yes (a b c d : UInt8) (w : World) :
    Calls Tryz.prog 60 #[.string ⟨#[a, b, c, d]⟩] w (UnhPost [a, b, c, d] w) := by
  obtain ⟨i0, hi, hz0, hz1, hz2⟩ := info_parts Tryz.Builder_Extra_169.infoByte
  have HI : Hid (Tryz.prog.info? 5 = some i0) := Lib.hid hi
  obtain ⟨x1, x2, x3, x4⟩ := ext4 a b c d
  obtain ⟨u, hu⟩ : ∃ u : Nat → UInt8, u = fun j => if j = 0 then a else c := ⟨_, rfl⟩
  obtain ⟨v, hv⟩ : ∃ v : Nat → UInt8, v = fun j => if j = 0 then b else d := ⟨_, rfl⟩
  have hu0 : u 0 = a := by rw [hu]; rfl
  have hu1 : u 1 = c := by rw [hu]; rfl
  have hv0 : v 0 = b := by rw [hv]; rfl
  have hv1 : v 1 = d := by rw [hv]; rfl
  have HU0 := Lib.hid hu0
  have HU1 := Lib.hid hu1
  have HV0 := Lib.hid hv0
  have HV1 := Lib.hid hv1
  clear hu hv hi hu0 hu1 hv0 hv1
  go_enter Tryz.func60, Tryz.ntmps60
  go_wp2_with fail
  go_loopg [4, 11] 2 (fun gk t i wr => UnhRel u v w 1 gk t i wr)
  case atStart => exact ⟨0, by omega, rfl, fun j h => by omega, ⟨rfl, .inl ⟨rfl, rfl⟩⟩, Below.refl _ _⟩
  case round =>
    obtain ⟨k, hk, rfl, hl, hO, hB⟩ := hrel
    have hk3 : k = 0 ∨ k = 1 ∨ k = 2 := by omega
    have HL := Lib.hid hl
    have HO := Lib.hid hO
    have HB := Lib.hid hB
    clear hl hO hB
    rcases hk3 with rfl | rfl | rfl
    · have hsa := sg_range a
      have hsb := sg_range b
      have z0 : IntKind.i64.wrap 0 = 0 := rfl
      have z1 : IntKind.i64.wrap 1 = 1 := rfl
      have z2 : IntKind.i64.wrap 2 = 2 := rfl
      have z3 : IntKind.i64.wrap 3 = 3 := rfl
      have z4 : IntKind.i64.wrap 4 = 4 := rfl
      by_cases hp : 0 ≤ Ru.sg a ∧ 0 ≤ Ru.sg b
      · obtain ⟨p, hp0⟩ : ∃ p : Nat, Ru.sg a = p := ⟨(Ru.sg a).toNat, by omega⟩
        obtain ⟨q, hq0⟩ : ∃ q : Nat, Ru.sg b = q := ⟨(Ru.sg b).toNat, by omega⟩
        have HA := Lib.hid (i1_sgp a p hp0)
        have HB' := Lib.hid (i1_sgp b q hq0)
        rw [hp0] at hsa
        rw [hq0] at hsb
        have hor := or_nib p q (by omega) (by omega)
        obtain ⟨z, hz⟩ : ∃ z, z = byt p q := ⟨_, rfl⟩
        rw [← hz] at hor
        have hzm : (z.toNat : Int) % 256 = z.toNat := by have := z.toNat_lt; omega
        have Hz := Lib.hid hz
        have Hp0 := Lib.hid hp0
        have Hq0 := Lib.hid hq0
        have HpP := Lib.hid hp
        clear hz hp0 hq0 hp
        go_wp2_with fail
        go_quiet (first | (go_at_call 78; exact quiet_left (HA.out _)) | (go_at_call 78; exact quiet_left (HB'.out _)))
        obtain ⟨wq, hwq⟩ : ∃ wq, wq = wr.drewN nq := ⟨_, rfl⟩
        have HOq : Hid (wq.ownsRow w.heap.size 5 1 u4 0 ((List.range 0).map fun j => .int .u8 ((byt (Ru.sg (u j)) (Ru.sg (v j))).toNat : Int))) := Lib.hid (by rw [hwq]; exact HO.out)
        have HBq : Hid (Below w.heap.size w wq) := Lib.hid (by rw [hwq]; exact bdrew HB.out _)
        rw [← hwq]
        clear hwq
        have hi := HI.out
        go_wp2_with (at_builtin; (refine wpList_append_own _ rfl _ _ 44 rfl w.heap.size 5 i0 (.int .u8 0) 1 1 Tryz.underlying44 hi hz0 hz1 hz2 rfl (by decide) _ 0 _ rfl (HOq.out.alloc _) ⟨wq.heap.size, 0, none⟩ 1 1 [.int .u8 (z.toNat : Int)] rfl rfl ?k1 ?k2 ?k3 ?k4 ?k5 ?_))
        case k1 =>
          intro j u hj
          have hj2 : j = 0 := by have := (List.getElem?_eq_some_iff.1 hj).1; simp at this; omega
          subst hj2
          rw [Addr.add_lit, Nat.zero_add, World.cell?_alloc_at _ _ _ _ rfl]
          exact hj
        case k2 => intro u hu; simp at hu; rcases hu with rfl; rfl
        case k3 => unfold maxLen; omega
        case k4 => omega
        case k5 => have := HBq.out.size; simp; omega
        intro v9 w9 hO9 hg9 _
        have HB9 : Hid (Below w.heap.size w w9) := Lib.hid ((HBq.out.alloc HBq.out.size _).grown hg9 (by have := HBq.out.size; simp; omega) (fun k hk => (HOq.out.lt k hk).1))
        have HO9 : Hid (w9.ownsRow w.heap.size 5 1 v9 (0 + 1) ((List.range (0 + 1)).map fun j => .int .u8 ((byt (Ru.sg (u j)) (Ru.sg (v j))).toNat : Int))) := Lib.hid (by
          rw [List.range_succ, List.map_append]
          show w9.ownsRow _ _ 1 v9 _ (_ ++ [.int .u8 ((byt (Ru.sg (u 0)) (Ru.sg (v 0))).toNat : Int)])
          rw [HU0.out, HV0.out, Hp0.out, Hq0.out, ← Hz.out]; exact hO9)
        have HL9 : Hid (∀ j, j < 0 + 1 → 0 ≤ Ru.sg (u j) ∧ 0 ≤ Ru.sg (v j)) := Lib.hid (fun j hj => by
          by_cases e : j < 0
          · exact HL.out j e
          · obtain rfl : j = 0 := by omega
            rw [HU0.out, HV0.out]; exact HpP.out)
        clear hO9 hg9 hi
        go_wp2_with fail
        go_roundg (gk - 1)
        case measure => omega
        case rel => exact ⟨0 + 1, by omega, rfl, HL9.out, HO9.out, HB9.out⟩
      · have Hn : Hid (Ru.unhex [a, b, c, d] = none) := Lib.hid (by show (if _ then none else _) = _; rw [if_pos (by omega)])
        obtain ⟨p, hp0⟩ : ∃ p : Int, Ru.sg a = p := ⟨_, rfl⟩
        obtain ⟨q, hq0⟩ : ∃ q : Int, Ru.sg b = q := ⟨_, rfl⟩
        have HA := Lib.hid (i1_sgp a p hp0)
        have HB' := Lib.hid (i1_sgp b q hq0)
        rw [hp0] at hsa hp
        rw [hq0] at hsb hp
        clear hp0 hq0
        by_cases hpn : p < 0
        · go_wp2_with fail
          go_quiet (first | (go_at_call 78; exact quiet_left (HA.out _)) | (go_at_call 78; exact quiet_left (HB'.out _)))
          go_wp2_with fail
          go_ret2
          exact ⟨⟨_, by rw [Hn.out]; rfl, fun x hx => by rw [Hn.out] at hx; cases hx⟩, bdrew HB.out _⟩
        · have hqn : q < 0 := by omega
          go_wp2_with fail
          go_quiet (first | (go_at_call 78; exact quiet_left (HA.out _)) | (go_at_call 78; exact quiet_left (HB'.out _)))
          go_wp2_with fail
          go_ret2
          exact ⟨⟨_, by rw [Hn.out]; rfl, fun x hx => by rw [Hn.out] at hx; cases hx⟩, bdrew HB.out _⟩
    · have hsa := sg_range c
      have hsb := sg_range d
      have z0 : IntKind.i64.wrap 0 = 0 := rfl
      have z1 : IntKind.i64.wrap 1 = 1 := rfl
      have z2 : IntKind.i64.wrap 2 = 2 := rfl
      have z3 : IntKind.i64.wrap 3 = 3 := rfl
      have z4 : IntKind.i64.wrap 4 = 4 := rfl
      by_cases hp : 0 ≤ Ru.sg c ∧ 0 ≤ Ru.sg d
      · obtain ⟨p, hp0⟩ : ∃ p : Nat, Ru.sg c = p := ⟨(Ru.sg c).toNat, by omega⟩
        obtain ⟨q, hq0⟩ : ∃ q : Nat, Ru.sg d = q := ⟨(Ru.sg d).toNat, by omega⟩
        have HA := Lib.hid (i1_sgp c p hp0)
        have HB' := Lib.hid (i1_sgp d q hq0)
        rw [hp0] at hsa
        rw [hq0] at hsb
        have hor := or_nib p q (by omega) (by omega)
        obtain ⟨z, hz⟩ : ∃ z, z = byt p q := ⟨_, rfl⟩
        rw [← hz] at hor
        have hzm : (z.toNat : Int) % 256 = z.toNat := by have := z.toNat_lt; omega
        have Hz := Lib.hid hz
        have Hp0 := Lib.hid hp0
        have Hq0 := Lib.hid hq0
        have HpP := Lib.hid hp
        clear hz hp0 hq0 hp
        go_wp2_with fail
        go_quiet (first | (go_at_call 78; exact quiet_left (HA.out _)) | (go_at_call 78; exact quiet_left (HB'.out _)))
        obtain ⟨wq, hwq⟩ : ∃ wq, wq = wr.drewN nq := ⟨_, rfl⟩
        have HOq : Hid (wq.ownsRow w.heap.size 5 1 u4 1 ((List.range 1).map fun j => .int .u8 ((byt (Ru.sg (u j)) (Ru.sg (v j))).toNat : Int))) := Lib.hid (by rw [hwq]; exact HO.out)
        have HBq : Hid (Below w.heap.size w wq) := Lib.hid (by rw [hwq]; exact bdrew HB.out _)
        rw [← hwq]
        clear hwq
        have hi := HI.out
        go_wp2_with (at_builtin; (refine wpList_append_own _ rfl _ _ 44 rfl w.heap.size 5 i0 (.int .u8 0) 1 1 Tryz.underlying44 hi hz0 hz1 hz2 rfl (by decide) _ 1 _ rfl (HOq.out.alloc _) ⟨wq.heap.size, 0, none⟩ 1 1 [.int .u8 (z.toNat : Int)] rfl rfl ?k1 ?k2 ?k3 ?k4 ?k5 ?_))
        case k1 =>
          intro j u hj
          have hj2 : j = 0 := by have := (List.getElem?_eq_some_iff.1 hj).1; simp at this; omega
          subst hj2
          rw [Addr.add_lit, Nat.zero_add, World.cell?_alloc_at _ _ _ _ rfl]
          exact hj
        case k2 => intro u hu; simp at hu; rcases hu with rfl; rfl
        case k3 => unfold maxLen; omega
        case k4 => omega
        case k5 => have := HBq.out.size; simp; omega
        intro v9 w9 hO9 hg9 _
        have HB9 : Hid (Below w.heap.size w w9) := Lib.hid ((HBq.out.alloc HBq.out.size _).grown hg9 (by have := HBq.out.size; simp; omega) (fun k hk => (HOq.out.lt k hk).1))
        have HO9 : Hid (w9.ownsRow w.heap.size 5 1 v9 (1 + 1) ((List.range (1 + 1)).map fun j => .int .u8 ((byt (Ru.sg (u j)) (Ru.sg (v j))).toNat : Int))) := Lib.hid (by
          rw [List.range_succ, List.map_append]
          show w9.ownsRow _ _ 1 v9 _ (_ ++ [.int .u8 ((byt (Ru.sg (u 1)) (Ru.sg (v 1))).toNat : Int)])
          rw [HU1.out, HV1.out, Hp0.out, Hq0.out, ← Hz.out]; exact hO9)
        have HL9 : Hid (∀ j, j < 1 + 1 → 0 ≤ Ru.sg (u j) ∧ 0 ≤ Ru.sg (v j)) := Lib.hid (fun j hj => by
          by_cases e : j < 1
          · exact HL.out j e
          · obtain rfl : j = 1 := by omega
            rw [HU1.out, HV1.out]; exact HpP.out)
        clear hO9 hg9 hi
        go_wp2_with fail
        go_roundg (gk - 1)
        case measure => omega
        case rel => exact ⟨1 + 1, by omega, rfl, HL9.out, HO9.out, HB9.out⟩
      · have Hn : Hid (Ru.unhex [a, b, c, d] = none) := Lib.hid (by show (if _ then none else _) = _; rw [if_pos (by omega)])
        obtain ⟨p, hp0⟩ : ∃ p : Int, Ru.sg c = p := ⟨_, rfl⟩
        obtain ⟨q, hq0⟩ : ∃ q : Int, Ru.sg d = q := ⟨_, rfl⟩
        have HA := Lib.hid (i1_sgp c p hp0)
        have HB' := Lib.hid (i1_sgp d q hq0)
        rw [hp0] at hsa hp
        rw [hq0] at hsb hp
        clear hp0 hq0
        by_cases hpn : p < 0
        · go_wp2_with fail
          go_quiet (first | (go_at_call 78; exact quiet_left (HA.out _)) | (go_at_call 78; exact quiet_left (HB'.out _)))
          go_wp2_with fail
          go_ret2
          exact ⟨⟨_, by rw [Hn.out]; rfl, fun x hx => by rw [Hn.out] at hx; cases hx⟩, bdrew HB.out _⟩
        · have hqn : q < 0 := by omega
          go_wp2_with fail
          go_quiet (first | (go_at_call 78; exact quiet_left (HA.out _)) | (go_at_call 78; exact quiet_left (HB'.out _)))
          go_wp2_with fail
          go_ret2
          exact ⟨⟨_, by rw [Hn.out]; rfl, fun x hx => by rw [Hn.out] at hx; cases hx⟩, bdrew HB.out _⟩
    · have hl := HL.out
      have l0 := hl 0 (by omega)
      have l1 := hl 1 (by omega)
      rw [HU0.out, HV0.out] at l0
      rw [HU1.out, HV1.out] at l1
      have Hy : Hid (Ru.unhex [a, b, c, d] = some [byt (Ru.sg a) (Ru.sg b), byt (Ru.sg c) (Ru.sg d)]) := Lib.hid (by show (if _ then none else _) = _; rw [if_neg (by omega)]; rfl)
      have hO := HO.out
      have ho2 : wr.ownsRow w.heap.size 5 1 u4 2 ([byt (Ru.sg a) (Ru.sg b), byt (Ru.sg c) (Ru.sg d)].map fun x => .int .u8 (x.toNat : Int)) := by
        have e : (List.range 2).map (fun j => Value.int .u8 ((byt (Ru.sg (u j)) (Ru.sg (v j))).toNat : Int)) = [byt (Ru.sg a) (Ru.sg b), byt (Ru.sg c) (Ru.sg d)].map fun x => .int .u8 (x.toNat : Int) := by
          show [_, _] = [_, _]
          simp only [HU0.out, HV0.out, HU1.out, HV1.out]
        rw [← e]; exact hO
      have hcv := own_conv ho2 rfl (by omega)
      clear hl l0 l1 hO ho2
      generalize [byt (Ru.sg a) (Ru.sg b), byt (Ru.sg c) (Ru.sg d)] = ys at *
      go_wp2_with fail
      go_ret2
      exact ⟨⟨_, by rw [Hy.out]; rfl, fun x hx => by rw [Hy.out] at hx; injection hx with hx; rw [hx]⟩, HB.out⟩
end Go.Proofs.YtneebcniofolmaaGreatDoor
