/- The walk of the law CacheRoom: it returns true. -/
import Derived.Test.YtangcjffiooapaaCacV
import Derived.Test.YtangcjffiooapaaInts
namespace Go.Proofs.Ytangcjffiooapaa
open Go.ChangeShapes Go.WideShapes Go.ChangeAt Go.RowKit Go.Maps
set_option linter.unusedVariables false
namespace Cc
def lst (lo n : Nat) : List Int := (List.range' lo n).map (fun k : Nat => (k : Int))
theorem lst_len (lo n : Nat) : (lst lo n).length = n := by unfold lst; simp
theorem lst_snoc (lo n : Nat) : lst lo (n + 1) = lst lo n ++ [((lo + n : Nat) : Int)] := by
  unfold lst; rw [← List.range'_append_1 (s := lo) (m := n) (n := 1)]; simp
theorem lst_cons (lo n : Nat) : lst lo (n + 1) = (lo : Int) :: lst (lo + 1) n := by unfold lst; rw [List.range'_succ]; rfl
theorem lst_mem {lo n : Nat} {x : Int} : x ∈ lst lo n ↔ (lo : Int) ≤ x ∧ x < ((lo + n : Nat) : Int) := by
  unfold lst
  rw [List.mem_map]
  constructor
  · rintro ⟨k, hk, rfl⟩; rw [List.mem_range'_1] at hk; omega
  · rintro ⟨h1, h2⟩; exact ⟨x.toNat, by rw [List.mem_range'_1]; omega, by omega⟩
theorem lst_get {lo n i : Nat} (h : i < n) : (lst lo n)[i]? = some (((lo + i : Nat)) : Int) := by
  unfold lst; rw [List.getElem?_map, List.getElem?_range' (by omega)]; simp
theorem lst_nodup (lo n : Nat) : (lst lo n).Nodup := by
  unfold lst
  exact List.pairwise_map.2 (List.Pairwise.imp (fun {a b} h e => h (by exact Int.ofNat_inj.1 e)) (List.nodup_range' (s := lo) (n := n) (step := 1)))
/-- so many were read, one behind the other -/
structure Read (c : C) (room k : Nat) : Prop where
  inv : Inv c
  rm : c.room = room
  len : c.below.length = 40
  row : c.row = lst (k - min k room) (min k room)
  dirty : c.dirty = []
  hits : c.hits = 0
theorem read_new {cells : List ByteArray} {room : Nat} (h1 : 1 ≤ room) (h2 : room ≤ 12) (h3 : cells.length = 40) (h4 : ∀ b ∈ cells, b.size ≤ 16) : Read (new cells room) room 0 :=
  ⟨Inv.new h1 h2 (by omega) h4, rfl, h3, by rw [Nat.zero_min]; rfl, rfl, rfl⟩
theorem read_step {c : C} {room k : Nat} (h : Read c room k) (hk : k < 40) : Read (read c k).2 room (k + 1) ∧ (read c k).1.2 = 0 := by
  have ht : there c k = true := there_iff.2 (by have := h.len; omega)
  have hinv := h.inv.read k
  have hnm : (k : Int) ∉ c.row := by rw [h.row, lst_mem]; omega
  have hh : hit c k = c := by unfold hit; rw [if_neg (by rw [List.contains_iff_mem]; exact hnm)]
  have hw : wo c.row k = c.row := wo_same hnm
  have h1 := h.inv.room1
  have hrd : read c k = ((get c k, 0), put c k (get c k)) := by unfold read; rw [if_pos ht, hh]
  rw [hrd] at hinv ⊢
  refine ⟨?_, rfl⟩
  have hl : c.row.length = min k room := by rw [h.row, lst_len]
  have hroom := h.rm
  by_cases hf : c.row.length = c.room
  · have hkr : room ≤ k := by omega
    have hp : put c k (get c k) = { (drop c (c.row.headD 0) c.row.tail) with row := c.row.tail ++ [(k : Int)], val := upd (drop c (c.row.headD 0) c.row.tail).val k (get c k) } := by
      unfold put; simp only [hw, hf, if_true]; rfl
    have hd : drop c (c.row.headD 0) c.row.tail = { c with row := c.row.tail } := by
      have hc : c.dirty.contains (c.row.headD 0) = false := by rw [h.dirty]; rfl
      unfold drop; rw [if_neg (by rw [hc]; decide)]
    rw [hp, hd] at hinv ⊢
    refine ⟨hinv, h.rm, h.len, ?_, h.dirty, h.hits⟩
    show c.row.tail ++ [(k : Int)] = _
    rw [h.row, Nat.min_eq_right hkr, Nat.min_eq_right (by omega : room ≤ k + 1)]
    obtain ⟨r0, rfl⟩ : ∃ r0, room = r0 + 1 := ⟨room - 1, by omega⟩
    rw [lst_cons, List.tail_cons, show k + 1 - (r0 + 1) = k - (r0 + 1) + 1 by omega, lst_snoc]
    congr 3; omega
  · have hkr : k < room := by have := h.inv.fit; omega
    have hp : put c k (get c k) = { c with row := c.row ++ [(k : Int)], val := upd c.val k (get c k) } := by
      unfold put; simp only [hw, hf, if_false]
    rw [hp] at hinv ⊢
    refine ⟨hinv, h.rm, h.len, ?_, h.dirty, h.hits⟩
    show c.row ++ [(k : Int)] = _
    rw [h.row, Nat.min_eq_left (by omega), Nat.min_eq_left (by omega : k + 1 ≤ room), Nat.sub_self, Nat.sub_self, lst_snoc, Nat.zero_add]
/-- so many of them were read again -/
structure Again (c : C) (room : Nat) (h : List Int) (j : Nat) : Prop where
  inv : Inv c
  rm : c.room = room
  len : c.below.length = 40
  row : c.row = h.drop j ++ h.take j
  hits : c.hits = j
theorem again_step {c : C} {room : Nat} {h : List Int} {j : Nat} {x : Int} (a : Again c room h j) (hx : h[j]? = some x) (hn : h.Nodup) (hl : h.length ≤ room) (hb : 0 ≤ x ∧ x < 40) : Again (read c x).2 room h (j + 1) ∧ (read c x).1.2 = 0 := by
  have hjl := (List.getElem?_eq_some_iff.1 hx).1
  have ht : there c x = true := there_iff.2 (by have := a.len; omega)
  have hinv := a.inv.read x
  have hdj : h.drop j = x :: h.drop (j + 1) := by
    rw [List.drop_eq_getElem_cons hjl]; congr 1
    rw [List.getElem?_eq_getElem hjl] at hx; exact Option.some.inj hx
  have hm : x ∈ c.row := by rw [a.row, hdj]; simp
  have hh : hit c x = { c with hits := c.hits + 1 } := by unfold hit; rw [if_pos (List.contains_iff_mem.2 hm)]
  have htk : h.take (j + 1) = h.take j ++ [x] := by rw [List.take_add_one, hx]; rfl
  have hsplit : h = h.take j ++ (x :: h.drop (j + 1)) := by rw [← hdj, List.take_append_drop]
  have hxn : x ∉ h.take j ∧ x ∉ h.drop (j + 1) := by
    rw [hsplit, List.nodup_append] at hn
    refine ⟨fun hm => hn.2.2 x hm x List.mem_cons_self rfl, (List.nodup_cons.1 hn.2.1).1⟩
  have hw : wo c.row x = h.drop (j + 1) ++ h.take j := by
    rw [a.row, hdj]
    unfold wo
    rw [List.filter_append, List.filter_cons]
    have e1 : (h.drop (j + 1)).filter (fun y => !(y == x)) = h.drop (j + 1) := wo_same hxn.2
    have e2 : (h.take j).filter (fun y => !(y == x)) = h.take j := wo_same hxn.1
    rw [e1, e2]; simp
  have hlen : (wo c.row x).length ≠ c.room := by
    rw [hw, List.length_append, List.length_drop, List.length_take, a.rm]; omega
  have hrd : read c x = ((get c x, 0), put (hit c x) x (get c x)) := by unfold read; rw [if_pos ht]
  rw [hrd] at hinv ⊢
  refine ⟨?_, rfl⟩
  have hp : put (hit c x) x (get c x) = { (hit c x) with row := wo c.row x ++ [x], val := upd (hit c x).val x (get c x) } := by
    rw [hh]; unfold put; simp only [hlen, if_false]
  rw [hp, hh] at hinv ⊢
  refine ⟨hinv, a.rm, a.len, ?_, ?_⟩
  · show wo c.row x ++ [x] = _
    rw [hw, htk, List.append_assoc]
  · show c.hits + 1 = j + 1; rw [a.hits]
end Cc
theorem make_strs (w : World) : (Instr.makeSlice 22 (.int .i64 40) (.int .i64 40)).run Try.prog w = .ok (.slice (some ⟨w.heap.size, 0, none⟩) 40 40) (w.alloc (.cells (madeCells #[.string ⟨#[]⟩] 40) 9)) := by
  have h := run_make_row' 22 9 (.string ⟨#[]⟩) 16 Try.underlying22 info_strS rfl .i64 .i64 40 (by omega) (by omega) w
  exact h
def em40 : List ByteArray := List.replicate 40 ⟨#[]⟩
theorem em_row (w : World) : Row (w.alloc (.cells (madeCells #[.string ⟨#[]⟩] 40) 9)) (.slice (some ⟨w.heap.size, 0, none⟩) 40 40) (em40.map Value.string) := by
  refine ⟨some ⟨w.heap.size, 0, none⟩, 40, rfl, Nat.le_refl _, by decide, (fun h => by cases h), fun _ => ⟨w.heap.size, 0, rfl, fun j hj => ?_⟩⟩
  rw [cell_of_row _ _ _ _ _ _ (heap_alloc_new w (.cells (madeCells #[.string ⟨#[]⟩] 40) 9)), Nat.zero_add, ← Array.getElem?_toList, toList_madeCells_one]
  unfold em40; rw [List.map_replicate]
theorem em_F : cellsF em40 = 0 := by decide +kernel
def CR1 (w : World) (b room n gk : Nat) (i : Value) (wr : World) : Prop :=
  ∃ (k : Nat) (c : Cc.C), k + gk = n ∧ i = iv k ∧ Cc.Read c room k ∧ CacOk (fun k => w.heap.size ≤ k) wr b k c ∧ Below w.heap.size w wr
def CR2 (F : Nat → Prop) (w3 : World) (b room n : Nat) (h : List Int) (gk : Nat) (i : Value) (wr : World) : Prop :=
  ∃ (j : Nat) (c : Cc.C), j + gk = h.length ∧ i = iv j ∧ Cc.Again c room h j ∧ CacOk F wr b (n + j) c ∧ Kept F w3 wr
set_option maxRecDepth 100000 in
set_option maxHeartbeats 4000000 in
theorem cacheRoom_core (room n : Nat) (h1 : 1 ≤ room) (h2 : room ≤ 12) (h3 : n ≤ 40) (w : World) :
    Calls Try.prog 3 #[iv room, iv n] w fun e w' => e = .returned (.bool true) ∧ Below w.heap.size w w' := by
  have hmk := make_strs
  have HN := Lib.hid (cacNew_any em40 room h1 h2 em_F _ _ (em_row w))
  have hb0 : Below w.heap.size w (w.alloc (.cells (madeCells #[.string ⟨#[]⟩] 40) 9)) := (Below.refl _ _).alloc (Nat.le_refl _) _
  have HB0 := Lib.hid hb0
  have hz0 := hb0.size
  clear hb0
  go_enter Try.func3, Try.ntmps3
  go_wp2_with fail
  refine HN.out.mono ?_
  rintro e w1 ⟨b, rfl, hO, hb1⟩
  have HO1 : Hid (CacOk (fun k => w.heap.size ≤ k) w1 b 0 (Cc.new em40 room)) := Lib.hid (hO.wide (fun k _ hk => Nat.le_trans hz0 hk))
  have HB1 := Lib.hid (HB0.out.trans (hb1.mono hz0))
  have HR0 := Lib.hid (Cc.read_new (cells := em40) h1 h2 (by decide) (by intro b hb; unfold em40 at hb; rw [List.eq_of_mem_replicate hb]; decide))
  clear hO hb1 HN HB0 hmk hz0
  go_wp2_with fail
  go_loopg [8] n (fun gk i wr => CR1 w b room n gk i wr)
  case atStart => exact ⟨0, _, by omega, rfl, HR0.out, HO1.out, HB1.out⟩
  case round =>
    obtain ⟨k, c, hk, rfl, hR, hO, hB⟩ := hrel
    have Hk := Lib.hid hk
    have HR := Lib.hid hR
    have HO := Lib.hid hO
    have HB := Lib.hid hB
    have hz := hB.size
    have hrow := hR.row
    by_cases hlt : k < n
    · obtain ⟨hs, hs2⟩ := Cc.read_step hR (by omega)
      have HS := Lib.hid hs
      have HS2 := Lib.hid hs2
      have HC := Lib.hid (cread_any hO hR.inv (fun k hk => Nat.le_trans hz hk) (by omega) (by rw [hR.hits]; omega) k)
      clear hk hR hO hB hrow hs hs2 HR0 HO1 HB1
      go_wp2_with fail
      refine HC.out.mono ?_
      rintro e w2 ⟨rfl, hO2, hK2⟩
      have HO2 := Lib.hid hO2
      have HB2 := Lib.hid (HB.out.trans (hK2.toBelow hz (fun k _ h => h)))
      rw [HS2.out, errV_0]
      clear hO2 hK2
      go_wp2_with fail
      go_roundg (gk - 1)
      case measure => have := Hk.out; omega
      case rel => exact ⟨k + 1, _, by have := Hk.out; omega, by go_num, HS.out, HO2.out, HB2.out⟩
    · have hkn : k = n := by omega
      subst hkn
      obtain ⟨want, hwant⟩ : ∃ want, want = min k room := ⟨_, rfl⟩
      rw [← hwant] at hrow
      have hww : want ≤ k ∧ want ≤ room := by omega
      have HL := Lib.hid (cHas_any hO (by rw [hrow, Cc.lst_len]; omega))
      have Hwant := Lib.hid hwant
      have Hrow := Lib.hid hrow
      clear hk hR hO hB hrow hwant HR0 HO1 HB1
      go_upto_if 59 with (fail)
      go_cut [11] (fun z wq => z = iv want ∧ wr = wq)
      case first =>
        by_cases hkr : room < k
        · have he : want = room := by rw [Hwant.out]; omega
          have He := Lib.hid he
          have t0 : decide ((room : Int) < (k : Int)) = true := dec_t (by omega)
          have t0' : decide (room < k) = true := dec_t hkr
          clear he
          go_wp2_with fail
          go_meet
          exact ⟨by rw [He.out], rfl⟩
        · have he : want = k := by rw [Hwant.out]; omega
          have He := Lib.hid he
          have t0 : decide ((room : Int) < (k : Int)) = false := dec_f (by omega)
          have t0' : decide (room < k) = false := dec_f hkr
          clear he
          go_wp2_with fail
          go_meet
          exact ⟨by rw [He.out], rfl⟩
      case rest =>
        obtain ⟨rfl, rfl⟩ := hcut
        go_wp2_with fail
        refine HL.out.mono ?_
        rintro e w3 ⟨vh, rfl, hown, hb3⟩
        have HR3 := Lib.hid (row_of_owns hown).1
        obtain ⟨F, hF⟩ : ∃ F : Nat → Prop, F = fun k => w.heap.size ≤ k ∧ vh.ownBlock ≠ some k := ⟨_, rfl⟩
        have HO3 : Hid (CacOk F w3 b k c) := Lib.hid (CacOk.below (HO.out.wide (fun q hq hk => by rw [hF]; exact ⟨hk, fun e => by have := (hown.lt q e).1; omega⟩)) hb3)
        have HFo : Hid (∀ k, F k → w.heap.size ≤ k) := Lib.hid (by intro k hk; rw [hF] at hk; exact hk.1)
        have HFl : Hid (∀ g, vh.ownBlock = some g → ¬ F g) := Lib.hid (by intro g hg hk; rw [hF] at hk; exact hk.2 hg)
        have hz3 := hb3.size
        have HFn : Hid (∀ q, w3.heap.size ≤ q → F q) := Lib.hid (by
          intro q hk; rw [hF]
          exact ⟨by omega, fun e => by have := (hown.lt q e).2; omega⟩)
        have HB3 := Lib.hid (HB.out.trans (hb3.mono hz))
        obtain ⟨h, hh⟩ : ∃ h, h = c.row := ⟨_, rfl⟩
        rw [← hh] at HR3
        have hhl : h = Cc.lst (k - want) want := by rw [hh]; exact Hrow.out
        have hlen : h.length = want := by rw [hhl, Cc.lst_len]
        have Hh := Lib.hid hh
        have Hhl := Lib.hid hhl
        have Hlen := Lib.hid hlen
        obtain ⟨ph, ch, hvh, hl1, hl2, hcl⟩ := HR3.out.get
        rw [List.length_map, hlen] at hvh hl1 hcl
        subst hvh
        have Hcl := Lib.hid hcl
        have HH := Lib.hid (chits_any HO3.out)
        rw [HR.out.hits] at HH
        have tw : ((want : Int) != (want : Int)) = false := bne_f rfl
        have HA0 : Hid (Cc.Again c room h 0) := Lib.hid ⟨HR.out.inv, HR.out.rm, HR.out.len, by rw [List.drop_zero, List.take_zero, List.append_nil]; exact Hh.out.symm, HR.out.hits⟩
        have hzz := HB3.out.size
        have l0 : h.length = want := hlen
        clear hown hb3 hF hh hhl hlen hcl HL l0
        go_wp2_with fail
        refine HH.out.mono ?_
        rintro e w' ⟨rfl, rfl⟩
        go_wp2_with fail
        go_loopg [13] want (fun gk i wr => CR2 F w3 b room k h gk i wr)
        case atStart => exact ⟨0, c, by rw [Hlen.out]; omega, rfl, HA0.out, HO3.out, Kept.refl _ _⟩
        case round =>
          obtain ⟨j, c2, hj, rfl, hA, hO4, hK4⟩ := hrel
          rw [Hlen.out] at hj
          have Hj := Lib.hid hj
          have HA := Lib.hid hA
          have HO4 := Lib.hid hO4
          have HK4 := Lib.hid hK4
          have hz4 := hK4.size
          have HB4 : Hid (Below w.heap.size w wr) := Lib.hid (HB3.out.trans (hK4.toBelow hzz (fun k _ hk => HFo.out k hk)))
          by_cases hjw : j < want
          · obtain ⟨gh, oh, hph, hcj, _⟩ := Hcl.out j hjw
            have hx : h[j]? = some (((k - want + j : Nat)) : Int) := by rw [Hhl.out]; exact Cc.lst_get hjw
            rw [List.getElem?_map, hx] at hcj
            have cj : wr.cell? ⟨gh, oh + j, none⟩ = some (iv ((k - want + j : Nat) : Int)) := hK4.cell hcj (HFl.out gh (by rw [hph]; rfl))
            obtain ⟨hs, hs2⟩ := Cc.again_step hA hx (by rw [Hhl.out]; exact Cc.lst_nodup _ _) (by rw [Hlen.out]; exact hww.2) (by omega)
            have HS := Lib.hid hs
            have HS2 := Lib.hid hs2
            obtain ⟨x, hxx⟩ : ∃ x : Nat, x = k - want + j := ⟨_, rfl⟩
            rw [← hxx] at cj HS HS2
            have hxe : (k : Int) - (want : Int) + (j : Int) = (x : Int) := by omega
            have HC := Lib.hid (cread_any hO4 hA.inv (fun k hk => HFn.out k (by omega)) (by omega) (by rw [hA.hits]; omega) x)
            have Hxe := Lib.hid hxe
            rw [hph]
            have Hph := Lib.hid hph
            have cf := HFl.out gh (by rw [hph]; rfl)
            have HnF := Lib.hid cf
            have Hcj := Lib.hid cj
            clear hj hA hO4 hK4 hcj hx hs hs2 hxx hxe hph cf
            go_wp2_with fail
            refine HC.out.mono ?_
            rintro e w5 ⟨rfl, hO5, hK5⟩
            have HO5 := Lib.hid hO5
            have HK5 := Lib.hid (HK4.out.also hK5)
            have cj5 := hK5.cell Hcj.out HnF.out
            rw [HS2.out, errV_0]
            clear hO5 hK5 cj
            have hje := Hxe.out
            rw [← hje] at cj5
            go_wp2_with fail
            rw [show some (⟨gh, oh, none⟩ : Addr) = ph from Hph.out.symm]
            go_roundg (gk - 1)
            case measure => have := Hj.out; omega
            case rel => exact ⟨j + 1, _, by have := Hj.out; have := Hlen.out; omega, by go_num, HS.out, by rw [← Nat.add_assoc]; exact HO5.out, HK5.out⟩
          · have hjw' : j = want := by have := Hj.out; omega
            have HL := Lib.hid (chits_any hO4)
            rw [hA.hits, hjw'] at HL
            clear hj hA hO4 hK4 hjw'
            go_wp2_with fail
            refine HL.out.mono ?_
            rintro e w' ⟨rfl, rfl⟩
            go_wp2_with fail
            go_ret
            exact ⟨rfl, HB4.out⟩
theorem cacheRoom_bad (x y : Int) (h : x < 1 ∨ 1 ≤ x ∧ 12 < x) (w : World) :
    Calls Try.prog 3 #[iv x, iv y] w fun e w' => e = .returned (.bool true) ∧ Below w.heap.size w w' := by
  have hmk := make_strs
  have HN := Lib.hid (cacNew_no em40 x h em_F _ _ (em_row w))
  rcases h with h | ⟨h, h'⟩
  all_goals
    go_enter Try.func3, Try.ntmps3
    go_wp2_with fail
    refine HN.out.mono ?_
    rintro e w' ⟨rfl, rfl⟩
    go_wp2_with fail
    go_ret
    exact ⟨rfl, (Below.refl _ _).alloc (Nat.le_refl _) _⟩
theorem cacheRoom_out (room : Nat) (y : Int) (h1 : 1 ≤ room) (h2 : room ≤ 12) (h : y < 0 ∨ 0 ≤ y ∧ 40 < y) (w : World) :
    Calls Try.prog 3 #[iv room, iv y] w fun e w' => e = .returned (.bool true) ∧ Below w.heap.size w w' := by
  have hmk := make_strs
  have HN := Lib.hid (cacNew_any em40 room h1 h2 em_F _ _ (em_row w))
  rcases h with h | ⟨h, h'⟩
  all_goals
    go_enter Try.func3, Try.ntmps3
    go_wp2_with fail
    refine HN.out.mono ?_
    rintro e w1 ⟨b, rfl, hO, hb1⟩
    have HB1 := Lib.hid (((Below.refl w.heap.size w).alloc (Nat.le_refl _) (.cells (madeCells #[.string ⟨#[]⟩] 40) 9)).trans (hb1.mono (by simp)))
    clear hO hb1
    go_wp2_with fail
    go_ret
    exact ⟨rfl, HB1.out⟩
theorem cacheRoom_walk (x y : Int) (hx : (Lit.int .i64 x).wf = true) (hy : (Lit.int .i64 y).wf = true) (w : World) :
    Calls Try.prog 3 #[iv x, iv y] w fun e w' => e = .returned (.bool true) ∧ Below w.heap.size w w' := by
  by_cases h : 1 ≤ x ∧ x ≤ 12
  · obtain ⟨m, rfl⟩ : ∃ m : Nat, x = m := ⟨x.toNat, by omega⟩
    by_cases h' : 0 ≤ y ∧ y ≤ 40
    · obtain ⟨n, rfl⟩ : ∃ n : Nat, y = n := ⟨y.toNat, by omega⟩
      exact cacheRoom_core m n (by omega) (by omega) (by omega) w
    · exact cacheRoom_out m y (by omega) (by omega) (by omega) w
  · exact cacheRoom_bad x y (by omega) w
end Go.Proofs.Ytangcjffiooapaa
