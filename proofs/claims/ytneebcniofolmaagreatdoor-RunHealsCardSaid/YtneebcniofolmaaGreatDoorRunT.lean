/- The walk of the reference's Number. -/
import Derived.Test.YtneebcniofolmaaGreatDoorRunS
namespace Go.Proofs.YtneebcniofolmaaGreatDoor
open Go.ChangeShapes Go.WideShapes Go.ChangeAt Go.RowKit
set_option linter.unusedVariables false
set_option maxHeartbeats 2000000
set_option maxRecDepth 100000
def fld (l : List UInt8) : Nat := l.foldl (fun n x => n * 10 + (x.toNat - 48)) 0
theorem fld_snoc (l : List UInt8) (c : UInt8) : fld (l ++ [c]) = fld l * 10 + (c.toNat - 48) := by unfold fld; rw [List.foldl_append]; rfl
theorem fld_go : ∀ (l : List UInt8) (a : Nat), (∀ x ∈ l, Ru.dg x = true) → l.foldl (fun n x => n * 10 + (x.toNat - 48)) a + 1 ≤ (a + 1) * 10 ^ l.length
  | [], a, _ => by simp
  | c :: l, a, h => by
    have h2 : Ru.dg c = true := h c (by simp)
    unfold Ru.dg at h2
    have h3 := of_decide_eq_true h2
    have ih := fld_go l (a * 10 + (c.toNat - 48)) (fun x hx => h x (by simp [hx]))
    show l.foldl _ (a * 10 + (c.toNat - 48)) + 1 ≤ _
    rw [List.length_cons, Nat.pow_succ]
    have h4 : (a * 10 + (c.toNat - 48) + 1) * 10 ^ l.length ≤ ((a + 1) * 10) * 10 ^ l.length := Nat.mul_le_mul_right _ (by omega)
    have h5 : (a + 1) * 10 * 10 ^ l.length = (a + 1) * (10 ^ l.length * 10) := by rw [Nat.mul_assoc, Nat.mul_comm 10]
    omega
theorem fld_lt {l : List UInt8} (h : ∀ x ∈ l, Ru.dg x = true) (h4 : l.length ≤ 4) : fld l < 10000 := by
  have := fld_go l 0 h
  have h2 : 10 ^ l.length ≤ 10 ^ 4 := Nat.pow_le_pow_right (by decide) h4
  unfold fld
  omega
def RnRel (l : List UInt8) (w : World) (gk : Nat) (t i : Value) (wr : World) : Prop :=
  ∃ k : Nat, k + gk = l.length ∧ i = iv k ∧ t = iv (fld (l.take k)) ∧ (∀ x ∈ l.take k, Ru.dg x = true) ∧ wr = w
theorem num_none {l : List UInt8} (h : l = [] ∨ 4 < l.length ∨ (l.headD 0 = 48 ∧ 1 < l.length) ∨ l.all Ru.dg = false) : Ru.num l = none := by
  unfold Ru.num
  rw [if_pos h]
theorem num_yes {l : List UInt8} (h : ¬ (l = [] ∨ 4 < l.length ∨ (l.headD 0 = 48 ∧ 1 < l.length) ∨ l.all Ru.dg = false)) : Ru.num l = some (fld l) := by
  unfold Ru.num
  rw [if_neg h]; rfl
theorem rnumber_any (l : List UInt8) (hs : l.length ≤ 100000) (w : World) :
    Calls Tryz.prog 22 #[.string ⟨l.toArray⟩] w (NumPost l w) := by
  by_cases h0 : l = []
  · subst h0
    go_enter Tryz.func22, Tryz.ntmps22
    go_wp2_with fail
    go_ret2
    exact ⟨0, rfl, fun k hk => (by cases hk), Below.refl _ _⟩
  obtain ⟨s, hsd⟩ : ∃ s, s = ByteArray.mk l.toArray := ⟨_, rfl⟩
  have hsz : s.size = l.length := by rw [hsd]; rfl
  have hdl : s.data.toList = l := by rw [hsd]
  have hem : s.toList.isEmpty = false := by
    rw [Lib.toList_data, hdl]; simpa using h0
  rw [← hsd]
  have Hg : Hid (∀ k c (h : k < s.size), l[k]? = some c → s[k] = c) := Lib.hid (fun k c h hk => byte_at h (by rw [hdl]; exact hk))
  clear hsd hdl
  by_cases h4 : 4 < l.length
  · have Hn := Lib.hid (num_none (l := l) (Or.inr (Or.inl h4)))
    have h4' : 4 < (l.length : Int) := by omega
    go_enter Tryz.func22, Tryz.ntmps22
    go_wp2_with fail
    go_ret2
    exact ⟨0, by rw [Hn.out]; rfl, fun k hk => (by rw [Hn.out] at hk; cases hk), Below.refl _ _⟩
  have h4' : ¬ 4 < (l.length : Int) := by omega
  obtain ⟨c0, r, hl⟩ : ∃ c r, l = c :: r := by
    cases l with
    | nil => exact absurd rfl h0
    | cons c r => exact ⟨c, r, rfl⟩
  have h1s : 0 < s.size := by rw [hsz, hl]; simp
  have hc0 := Hg.out 0 c0 h1s (by rw [hl]; rfl)
  have hhd : l.headD 0 = c0 := by rw [hl]; rfl
  have hc0l := c0.toNat_lt
  have Hhd := Lib.hid hhd
  clear hhd
  clear hl
  by_cases hz : c0 = 48 ∧ 1 < l.length
  · have Hn := Lib.hid (num_none (l := l) (Or.inr (Or.inr (Or.inl ⟨by rw [Hhd.out]; exact hz.1, hz.2⟩))))
    obtain ⟨hz1, hz2⟩ := hz
    have hz3 : c0.toNat = 48 := by rw [hz1]; rfl
    have hz4 : 1 < (l.length : Int) := by omega
    clear hz1
    go_enter Tryz.func22, Tryz.ntmps22
    go_wp2_with fail
    go_ret2
    exact ⟨0, by rw [Hn.out]; rfl, fun k hk => (by rw [Hn.out] at hk; cases hk), Below.refl _ _⟩
  have Hz := Lib.hid hz
  have hzc : c0.toNat = 48 ∨ ¬ c0.toNat = 48 := Decidable.em _
  have hlo : c0.toNat = 48 → ¬ 1 < (l.length : Int) := fun h1 h2 => hz ⟨UInt8.toNat_inj.1 h1, by omega⟩
  have Hlo := Lib.hid hlo
  clear hz hlo
  have Hl4 : Hid (l.length ≤ 4) := Lib.hid (by omega)
  obtain ⟨m, hm⟩ : ∃ m, m = l.length := ⟨_, rfl⟩
  rw [← hm] at hsz h4' Hlo
  have Hm := Lib.hid hm
  clear hm
  rcases hzc with hz1 | hz1
  · have hlo := Hlo.out hz1
    go_enter Tryz.func22, Tryz.ntmps22
    go_wp2_with fail
    go_loopg [4, 5] m (fun gk t i wr => RnRel l w gk t i wr)
    case atStart => exact ⟨0, by rw [← Hm.out]; omega, rfl, rfl, by simp, rfl⟩
    case round =>
      obtain ⟨k, hk, rfl, rfl, hd, rfl⟩ := hrel
      rw [← Hm.out] at hk
      have Hd := Lib.hid hd
      have Hk := Lib.hid hk
      have hf := fld_lt hd (by rw [List.length_take]; omega)
      have Hf := Lib.hid hf
      clear hd hc0 hz1 hc0l
      by_cases hlt : k < m
      · obtain ⟨c, hcc⟩ : ∃ c, l[k]? = some c := ⟨l[k]'(by rw [← Hm.out]; exact hlt), List.getElem?_eq_getElem _⟩
        have hlt2 : k < s.size := by omega
        have c1 := Hg.out k c hlt2 hcc
        have hcl := c.toNat_lt
        by_cases hdc : Ru.dg c = true
        · have h2 := hdc
          unfold Ru.dg at h2
          obtain ⟨h3, h5⟩ := of_decide_eq_true h2
          have h6 : ¬ c.toNat < 48 := by omega
          have h7 : ¬ 57 < c.toNat := by omega
          have Hs : Hid (fld (l.take (k + 1)) = fld (l.take k) * 10 + (c.toNat - 48)) := Lib.hid (by rw [List.take_add_one, hcc]; exact fld_snoc _ _)
          have Hd2 : Hid (∀ x ∈ l.take (k + 1), Ru.dg x = true) := Lib.hid (by
            rw [List.take_add_one, hcc]
            intro x hx
            simp only [Option.toList_some, List.mem_append, List.mem_singleton] at hx
            rcases hx with hx | rfl
            · exact Hd.out x hx
            · exact hdc)
          generalize fld (l.take k) = y at *
          have w1 : IntKind.i64.wrap ((y : Int) * 10) = (y : Int) * 10 := IntWalk.i64_in _ (by omega)
          have w2 : wrap64 (c.toNat : Int) = c.toNat := IntWalk.wrap64_in _ (by omega)
          have w3 : IntKind.i64.wrap ((y : Int) * 10 + (c.toNat : Int)) = (y : Int) * 10 + (c.toNat : Int) := IntWalk.i64_in _ (by omega)
          have w4 : IntKind.i64.wrap ((y : Int) * 10 + (c.toNat : Int) - 48) = ((y * 10 + (c.toNat - 48) : Nat) : Int) := by rw [IntWalk.i64_in _ (by omega)]; omega
          have w5 : IntKind.i64.wrap (c.toNat : Int) = c.toNat := IntWalk.i64_in _ (by omega)
          clear h2 hk hcc hdc hf
          go_wp2_with fail
          go_roundg (gk - 1)
          case measure => have := Hk.out; omega
          case rel => exact ⟨k + 1, by rw [← Hm.out]; have := Hk.out; omega, by go_num, (by rw [Hs.out]; show Value.int .i64 _ = Value.int .i64 _; congr 1), Hd2.out, rfl⟩
        · have Hn := Lib.hid (num_none (l := l) (Or.inr (Or.inr (Or.inr (by
            cases hall : l.all Ru.dg with
            | false => rfl
            | true => exact absurd (List.all_eq_true.1 hall c (List.mem_of_getElem? hcc)) hdc)))))
          have h2 : ¬ (48 ≤ c.toNat ∧ c.toNat ≤ 57) := fun h => hdc (by unfold Ru.dg; exact decide_eq_true h)
          clear hk hcc hdc hf
          by_cases h6 : c.toNat < 48
          · go_wp2_with fail
            go_ret2
            exact ⟨0, by rw [Hn.out]; rfl, fun k hk => (by rw [Hn.out] at hk; cases hk), Below.refl _ _⟩
          · have h7 : 57 < c.toNat := by omega
            clear h2
            go_wp2_with fail
            go_ret2
            exact ⟨0, by rw [Hn.out]; rfl, fun k hk => (by rw [Hn.out] at hk; cases hk), Below.refl _ _⟩
      · obtain rfl : k = m := by omega
        have Hy : Hid (Ru.num l = some (fld (l.take k))) := Lib.hid (by
          rw [num_yes (by
            rintro (h | h | h | h)
            · exact h0 h
            · exact h4 h
            · exact Hz.out ⟨by rw [← Hhd.out]; exact h.1, h.2⟩
            · rw [List.all_eq_true.2 (by rw [← List.take_of_length_le (show l.length ≤ k by rw [Hm.out]; omega)]; exact Hd.out)] at h
              cases h), List.take_of_length_le (show l.length ≤ k by rw [Hm.out]; omega)])
        clear hk hf
        go_wp2_with fail
        go_ret2
        exact ⟨_, by rw [Hy.out]; rfl, fun j hj => (by rw [Hy.out] at hj; injection hj with hj; rw [hj]), Below.refl _ _⟩
  · go_enter Tryz.func22, Tryz.ntmps22
    go_wp2_with fail
    go_loopg [4, 5] m (fun gk t i wr => RnRel l w gk t i wr)
    case atStart => exact ⟨0, by rw [← Hm.out]; omega, rfl, rfl, by simp, rfl⟩
    case round =>
      obtain ⟨k, hk, rfl, rfl, hd, rfl⟩ := hrel
      rw [← Hm.out] at hk
      have Hd := Lib.hid hd
      have Hk := Lib.hid hk
      have hf := fld_lt hd (by rw [List.length_take]; omega)
      have Hf := Lib.hid hf
      clear hd hc0 hz1 hc0l
      by_cases hlt : k < m
      · obtain ⟨c, hcc⟩ : ∃ c, l[k]? = some c := ⟨l[k]'(by rw [← Hm.out]; exact hlt), List.getElem?_eq_getElem _⟩
        have hlt2 : k < s.size := by omega
        have c1 := Hg.out k c hlt2 hcc
        have hcl := c.toNat_lt
        by_cases hdc : Ru.dg c = true
        · have h2 := hdc
          unfold Ru.dg at h2
          obtain ⟨h3, h5⟩ := of_decide_eq_true h2
          have h6 : ¬ c.toNat < 48 := by omega
          have h7 : ¬ 57 < c.toNat := by omega
          have Hs : Hid (fld (l.take (k + 1)) = fld (l.take k) * 10 + (c.toNat - 48)) := Lib.hid (by rw [List.take_add_one, hcc]; exact fld_snoc _ _)
          have Hd2 : Hid (∀ x ∈ l.take (k + 1), Ru.dg x = true) := Lib.hid (by
            rw [List.take_add_one, hcc]
            intro x hx
            simp only [Option.toList_some, List.mem_append, List.mem_singleton] at hx
            rcases hx with hx | rfl
            · exact Hd.out x hx
            · exact hdc)
          generalize fld (l.take k) = y at *
          have w1 : IntKind.i64.wrap ((y : Int) * 10) = (y : Int) * 10 := IntWalk.i64_in _ (by omega)
          have w2 : wrap64 (c.toNat : Int) = c.toNat := IntWalk.wrap64_in _ (by omega)
          have w3 : IntKind.i64.wrap ((y : Int) * 10 + (c.toNat : Int)) = (y : Int) * 10 + (c.toNat : Int) := IntWalk.i64_in _ (by omega)
          have w4 : IntKind.i64.wrap ((y : Int) * 10 + (c.toNat : Int) - 48) = ((y * 10 + (c.toNat - 48) : Nat) : Int) := by rw [IntWalk.i64_in _ (by omega)]; omega
          have w5 : IntKind.i64.wrap (c.toNat : Int) = c.toNat := IntWalk.i64_in _ (by omega)
          clear h2 hk hcc hdc hf
          go_wp2_with fail
          go_roundg (gk - 1)
          case measure => have := Hk.out; omega
          case rel => exact ⟨k + 1, by rw [← Hm.out]; have := Hk.out; omega, by go_num, (by rw [Hs.out]; show Value.int .i64 _ = Value.int .i64 _; congr 1), Hd2.out, rfl⟩
        · have Hn := Lib.hid (num_none (l := l) (Or.inr (Or.inr (Or.inr (by
            cases hall : l.all Ru.dg with
            | false => rfl
            | true => exact absurd (List.all_eq_true.1 hall c (List.mem_of_getElem? hcc)) hdc)))))
          have h2 : ¬ (48 ≤ c.toNat ∧ c.toNat ≤ 57) := fun h => hdc (by unfold Ru.dg; exact decide_eq_true h)
          clear hk hcc hdc hf
          by_cases h6 : c.toNat < 48
          · go_wp2_with fail
            go_ret2
            exact ⟨0, by rw [Hn.out]; rfl, fun k hk => (by rw [Hn.out] at hk; cases hk), Below.refl _ _⟩
          · have h7 : 57 < c.toNat := by omega
            clear h2
            go_wp2_with fail
            go_ret2
            exact ⟨0, by rw [Hn.out]; rfl, fun k hk => (by rw [Hn.out] at hk; cases hk), Below.refl _ _⟩
      · obtain rfl : k = m := by omega
        have Hy : Hid (Ru.num l = some (fld (l.take k))) := Lib.hid (by
          rw [num_yes (by
            rintro (h | h | h | h)
            · exact h0 h
            · exact h4 h
            · exact Hz.out ⟨by rw [← Hhd.out]; exact h.1, h.2⟩
            · rw [List.all_eq_true.2 (by rw [← List.take_of_length_le (show l.length ≤ k by rw [Hm.out]; omega)]; exact Hd.out)] at h
              cases h), List.take_of_length_le (show l.length ≤ k by rw [Hm.out]; omega)])
        clear hk hf
        go_wp2_with fail
        go_ret2
        exact ⟨_, by rw [Hy.out]; rfl, fun j hj => (by rw [Hy.out] at hj; injection hj with hj; rw [hj]), Below.refl _ _⟩
end Go.Proofs.YtneebcniofolmaaGreatDoor
