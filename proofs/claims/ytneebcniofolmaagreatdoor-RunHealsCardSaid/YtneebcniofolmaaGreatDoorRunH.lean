/- Numbers of at most four digits: what Atoi and Itoa say of them. · The walks of run.hex and the reference's Hex. -/
import Derived.Test.YtneebcniofolmaaGreatDoorRunP
import Derived.Test.YtneebcniofolmaaGreatDoorVecW
import Derived.Deep.LoopGhost
import Derived.IntWalk
import Derived.BigQuiet
namespace Go.Proofs.YtneebcniofolmaaGreatDoor
namespace Ru
set_option linter.unusedVariables false
def dc (n : Nat) : UInt8 := UInt8.ofNat (48 + n)
def d4 (v : Nat) : List UInt8 := if v < 10 then [dc v] else if v < 100 then [dc (v / 10), dc (v % 10)] else if v < 1000 then [dc (v / 100), dc (v / 10 % 10), dc (v % 10)] else [dc (v / 1000), dc (v / 100 % 10), dc (v / 10 % 10), dc (v % 10)]
theorem dec_s {v : Nat} (h : v < 10) : Lib.decDigits v = [dc v] := by rw [Lib.decDigits, dif_pos h]; rfl
theorem dec_b {v : Nat} (h : ¬ v < 10) : Lib.decDigits v = Lib.decDigits (v / 10) ++ [dc (v % 10)] := by rw [Lib.decDigits, dif_neg h]; rfl
theorem dec_d4 {v : Nat} (h : v < 10000) : Lib.decDigits v = d4 v := by
  unfold d4
  by_cases h1 : v < 10
  · rw [if_pos h1, dec_s h1]
  rw [if_neg h1, dec_b h1]
  by_cases h2 : v < 100
  · rw [if_pos h2, dec_s (by omega)]; rfl
  rw [if_neg h2, dec_b (v := v / 10) (by omega)]
  by_cases h3 : v < 1000
  · rw [if_pos h3, dec_s (by omega), show v / 10 / 10 = v / 100 by omega]; rfl
  rw [if_neg h3, dec_b (v := v / 10 / 10) (by omega), dec_s (by omega), show v / 10 / 10 / 10 = v / 1000 by omega, show v / 10 / 10 % 10 = v / 100 % 10 by omega]; rfl
theorem num_d1 : ∀ a : Fin 10, num [dc a] = some a.val ∧ Lib.atoiAll [dc a] = .ok a.val := by decide +kernel
theorem num_d2 : ∀ a b : Fin 10, a.val ≠ 0 → num [dc a, dc b] = some (a.val * 10 + b.val) ∧ Lib.atoiAll [dc a, dc b] = .ok (a.val * 10 + b.val : Nat) := by decide +kernel
theorem num_d3 : ∀ a b c : Fin 10, a.val ≠ 0 → num [dc a, dc b, dc c] = some (a.val * 100 + b.val * 10 + c.val) ∧ Lib.atoiAll [dc a, dc b, dc c] = .ok (a.val * 100 + b.val * 10 + c.val : Nat) := by decide +kernel
theorem num_d4 : ∀ a b c d : Fin 10, a.val ≠ 0 → num [dc a, dc b, dc c, dc d] = some (a.val * 1000 + b.val * 100 + c.val * 10 + d.val) ∧ Lib.atoiAll [dc a, dc b, dc c, dc d] = .ok (a.val * 1000 + b.val * 100 + c.val * 10 + d.val : Nat) := by decide +kernel
theorem dg_dc {x : UInt8} (h : dg x = true) : ∃ a : Fin 10, x = dc a := by
  unfold dg at h
  have h2 := of_decide_eq_true h
  refine ⟨⟨x.toNat - 48, by omega⟩, ?_⟩
  unfold dc
  show x = UInt8.ofNat (48 + (x.toNat - 48))
  rw [show 48 + (x.toNat - 48) = x.toNat by omega]
  simp
theorem dc_head (a : Fin 10) (h : dc a ≠ 48) : a.val ≠ 0 := fun e => h (by unfold dc; rw [e]; rfl)
theorem num_some {l : List UInt8} {v : Nat} (h : num l = some v) : v < 10000 ∧ l.length ≤ 4 ∧ Lib.itoa v = l ∧ Lib.atoiAll l = .ok v := by
  have hc : ¬ (l = [] ∨ 4 < l.length ∨ (l.headD 0 = 48 ∧ 1 < l.length) ∨ l.all dg = false) := fun e => by unfold num at h; rw [if_pos e] at h; cases h
  have hit : ∀ k : Nat, Lib.itoa k = Lib.decDigits k := fun k => by unfold Lib.itoa; rw [if_neg (by omega)]; rfl
  rw [hit]
  simp only [not_or, not_and] at hc
  obtain ⟨h0, h1, h2, h3⟩ := hc
  have h3' : l.all dg = true := by simpa using h3
  match l, h0, h1, h2, h3', h with
  | [a], _, _, _, h3, h =>
    simp at h3
    obtain ⟨a, rfl⟩ := dg_dc h3
    have := num_d1 a
    rw [this.1] at h
    obtain rfl := Option.some.inj h
    exact ⟨by omega, by simp, dec_s a.isLt, this.2⟩
  | [a, b], _, _, h2, h3, h =>
    simp at h3 h2
    obtain ⟨a, rfl⟩ := dg_dc h3.1
    obtain ⟨b, rfl⟩ := dg_dc h3.2
    have ha := dc_head a h2
    have := num_d2 a b ha
    rw [this.1] at h
    obtain rfl := Option.some.inj h
    refine ⟨by omega, by simp, ?_, this.2⟩
    rw [dec_d4 (by omega), d4, if_neg (by omega), if_pos (by omega), show (a.val * 10 + b.val) / 10 = a.val by omega, show (a.val * 10 + b.val) % 10 = b.val by omega]
  | [a, b, c], _, _, h2, h3, h =>
    simp at h3 h2
    obtain ⟨a, rfl⟩ := dg_dc h3.1
    obtain ⟨b, rfl⟩ := dg_dc h3.2.1
    obtain ⟨c, rfl⟩ := dg_dc h3.2.2
    have ha := dc_head a h2
    have := num_d3 a b c ha
    rw [this.1] at h
    obtain rfl := Option.some.inj h
    refine ⟨by omega, by simp, ?_, this.2⟩
    rw [dec_d4 (by omega), d4, if_neg (by omega), if_neg (by omega), if_pos (by omega), show (a.val * 100 + b.val * 10 + c.val) / 100 = a.val by omega, show (a.val * 100 + b.val * 10 + c.val) / 10 % 10 = b.val by omega, show (a.val * 100 + b.val * 10 + c.val) % 10 = c.val by omega]
  | [a, b, c, d], _, _, h2, h3, h =>
    simp at h3 h2
    obtain ⟨a, rfl⟩ := dg_dc h3.1
    obtain ⟨b, rfl⟩ := dg_dc h3.2.1
    obtain ⟨c, rfl⟩ := dg_dc h3.2.2.1
    obtain ⟨d, rfl⟩ := dg_dc h3.2.2.2
    have ha := dc_head a h2
    have := num_d4 a b c d ha
    rw [this.1] at h
    obtain rfl := Option.some.inj h
    refine ⟨by omega, by simp, ?_, this.2⟩
    rw [dec_d4 (by omega), d4, if_neg (by omega), if_neg (by omega), if_neg (by omega), show (a.val * 1000 + b.val * 100 + c.val * 10 + d.val) / 1000 = a.val by omega, show (a.val * 1000 + b.val * 100 + c.val * 10 + d.val) / 100 % 10 = b.val by omega, show (a.val * 1000 + b.val * 100 + c.val * 10 + d.val) / 10 % 10 = c.val by omega, show (a.val * 1000 + b.val * 100 + c.val * 10 + d.val) % 10 = d.val by omega]
  | _ :: _ :: _ :: _ :: _ :: _, _, h1, _, _, _ => simp at h1
theorem num_d4v {v : Nat} (h : v < 10000) : num (d4 v) = some v := by
  unfold d4
  by_cases h1 : v < 10
  · rw [if_pos h1]; exact (num_d1 ⟨v, h1⟩).1
  rw [if_neg h1]
  by_cases h2 : v < 100
  · rw [if_pos h2]
    have := (num_d2 ⟨v / 10, by omega⟩ ⟨v % 10, by omega⟩ (by simp <;> omega)).1
    rw [this]; simp <;> omega
  rw [if_neg h2]
  by_cases h3 : v < 1000
  · rw [if_pos h3]
    have := (num_d3 ⟨v / 100, by omega⟩ ⟨v / 10 % 10, by omega⟩ ⟨v % 10, by omega⟩ (by simp <;> omega)).1
    rw [this]; simp <;> omega
  rw [if_neg h3]
  have := (num_d4 ⟨v / 1000, by omega⟩ ⟨v / 100 % 10, by omega⟩ ⟨v / 10 % 10, by omega⟩ ⟨v % 10, by omega⟩ (by simp <;> omega)).1
  rw [this]; simp <;> omega
theorem num_of_itoa {l : List UInt8} {v : Int} (h0 : 0 ≤ v) (hl : l.length ≤ 4) (h : Lib.itoa v = l) : num l = some v.toNat := by
  obtain ⟨n, rfl⟩ : ∃ n : Nat, v = n := ⟨v.toNat, by omega⟩
  have hit : Lib.itoa (n : Int) = Lib.decDigits n := by unfold Lib.itoa; rw [if_neg (by omega)]; rfl
  rw [hit] at h
  have hn : n < 10000 := by
    have h1 := Lib.lt_pow_nDigits n
    have h2 : Lib.nDigits n ≤ 4 := by
      rw [← h, Lib.decDigits_eq] at hl
      simpa using hl
    have h3 : 10 ^ Lib.nDigits n ≤ 10 ^ 4 := Nat.pow_le_pow_right (by decide) h2
    omega
  rw [← h, dec_d4 hn, num_d4v hn]
  simp
/-- what the program's test says -/
theorem num_test {l : List UInt8} {v : Int} (h : Lib.atoiAll l = .ok v) : (num l).isSome = (decide (0 ≤ v) && decide (l.length ≤ 4) && decide (Lib.itoa v = l)) ∧ ∀ k, num l = some k → v = k := by
  refine ⟨?_, fun k hk => ?_⟩
  · by_cases hc : 0 ≤ v ∧ l.length ≤ 4 ∧ Lib.itoa v = l
    · rw [num_of_itoa hc.1 hc.2.1 hc.2.2]
      simp [hc.1, hc.2.1, hc.2.2]
    · cases hn : num l with
      | none =>
        symm
        simp only [Option.isSome_none, Bool.and_eq_false_iff, decide_eq_false_iff_not]
        by_cases a : 0 ≤ v
        · by_cases b : l.length ≤ 4
          · exact Or.inr (fun c => hc ⟨a, b, c⟩)
          · exact Or.inl (Or.inr b)
        · exact Or.inl (Or.inl a)
      | some k =>
        obtain ⟨_, a, b, c⟩ := num_some hn
        rw [c] at h
        injection h with h
        subst h
        exact absurd ⟨by omega, a, b⟩ hc
  · obtain ⟨_, a, b, c⟩ := num_some hk
    rw [c] at h
    injection h with h
    exact h.symm
theorem num_not {l : List UInt8} (h : ∀ v, Lib.atoiAll l ≠ .ok v) : num l = none := by
  cases hn : num l with
  | none => rfl
  | some k => exact absurd (num_some hn).2.2.2 (h _)
theorem num_le {l : List UInt8} {v : Nat} (h : num l = some v) : v < 10000 := (num_some h).1
end Ru
end Go.Proofs.YtneebcniofolmaaGreatDoor
namespace Go.Proofs.YtneebcniofolmaaGreatDoor
open Go.ChangeShapes Go.WideShapes Go.ChangeAt Go.RowKit
set_option linter.unusedVariables false
set_option maxHeartbeats 2000000
def strB (l : List UInt8) : Value := .string ⟨l.toArray⟩
def HexRel (l : List UInt8) (n : Nat) (w2 : World) (gk : Nat) (t i : Value) (wr : World) : Prop :=
  ∃ k nd : Nat, k + gk = n ∧ i = iv k ∧ t = strB (Ru.hex (l.take k)) ∧ wr = w2.drewN nd
theorem hx_ext (x : Nat) (h : x < 16) : ByteArray.extract ⟨#[48, 49, 50, 51, 52, 53, 54, 55, 56, 57, 97, 98, 99, 100, 101, 102]⟩ x (x + 1) = ⟨#[Ru.hx x]⟩ := by
  have : ∀ x : Fin 16, ByteArray.extract ⟨#[48, 49, 50, 51, 52, 53, 54, 55, 56, 57, 97, 98, 99, 100, 101, 102]⟩ x.val (x.val + 1) = ⟨#[Ru.hx x.val]⟩ := by decide +kernel
  exact this ⟨x, h⟩
theorem cat2 (x : List UInt8) (a b : UInt8) : Value.string (ByteArray.mk x.toArray ++ (ByteArray.mk #[a] ++ ByteArray.mk #[b])) = .string ⟨(x ++ [a, b]).toArray⟩ := by
  congr 1
theorem cat2' (x : List UInt8) (a b : UInt8) : Value.string (ByteArray.mk x.toArray ++ ByteArray.mk #[a] ++ ByteArray.mk #[b]) = .string ⟨(x ++ [a, b]).toArray⟩ := by
  congr 1; apply ByteArray.ext; simp
theorem hex_len (l : List UInt8) : (Ru.hex l).length = 2 * l.length := by
  induction l with
  | nil => rfl
  | cons c l ih => show ([_, _] ++ Ru.hex l).length = _; rw [List.length_append, ih]; simp; omega
theorem hex_snoc (l : List UInt8) (c : UInt8) : Ru.hex (l ++ [c]) = Ru.hex l ++ [Ru.hx (c.toNat / 16), Ru.hx (c.toNat % 16)] := by unfold Ru.hex; rw [List.flatMap_append]; rfl
theorem sign_slice (a : Nat) (ha : a < 16) (k k' : IntKind) (W : World) : (Instr.slice 9 (.string ⟨#[48, 49, 50, 51, 52, 53, 54, 55, 56, 57, 97, 98, 99, 100, 101, 102]⟩) (some (.int k (a : Int))) (some (.int k' ((a : Int) + 1))) none).run Tryz.prog W = .ok (.string ⟨#[Ru.hx a]⟩) W := by
  rw [run_slice_string W 9 _ k k' _ _ Tryz.underlying9 (by omega) (by omega) (by
    have : ByteArray.size ⟨#[48, 49, 50, 51, 52, 53, 54, 55, 56, 57, 97, 98, 99, 100, 101, 102]⟩ = 16 := rfl
    rw [this]; omega)]
  rw [show ((a : Int) + 1).toNat = a + 1 by omega, show (a : Int).toNat = a by omega, hx_ext a ha]
theorem byte_at {s : ByteArray} {k : Nat} {c : UInt8} (h : k < s.size) (hk : s.data.toList[k]? = some c) : s[k] = c := by
  have h2 : k < s.data.size := h
  rw [Array.getElem?_toList, Array.getElem?_eq_getElem h2] at hk
  exact Option.some.inj hk
theorem w64_small {x : Nat} (h : x < 2 ^ 8) : wrap64 (x : Int) = (x : Int) := by
  exact IntWalk.wrap64_in _ (by omega)
theorem u8_small {x : Nat} (h : x < 255) : IntKind.u8.wrap ((x : Int) + 1) = ((x + 1 : Nat) : Int) := by
  have : ∀ x : Fin 255, IntKind.u8.wrap ((x.val : Int) + 1) = ((x.val + 1 : Nat) : Int) := by decide +kernel
  exact this ⟨x, h⟩
theorem and15 (c : UInt8) : bits .and .u8 (c.toNat : Int) 15 = ((c.toNat % 16 : Nat) : Int) := by
  have : ∀ x : Fin 256, bits .and .u8 (x.val : Int) 15 = ((x.val % 16 : Nat) : Int) := by decide +kernel
  exact this ⟨c.toNat, c.toNat_lt⟩
set_option maxRecDepth 100000 in
theorem hex_any (s : ByteArray) (hs : s.size ≤ 100000) (w : World) :
    Calls Tryz.prog 80 #[.string s] w fun e w' => e = .returned (strB (Ru.hex s.data.toList)) ∧ Below w.heap.size w w' := by
  obtain ⟨cap, w2, hrun, hb, hz, hc, _⟩ := conv_bytes w s
  have Hb := Lib.hid hb
  have Hc := Lib.hid hc
  have hll : s.data.toList.length = s.size := by simp
  generalize hl : s.data.toList = l at *
  generalize hn : s.size = n at *
  have Hll := Lib.hid hll
  clear hb hc hz hl hll
  go_enter Tryz.func80, Tryz.ntmps80
  go_wp2_with fail
  go_loopg [3, 9] n (fun gk t i wr => HexRel l n w2 gk t i wr)
  case atStart => exact ⟨0, 0, by omega, rfl, rfl, rfl⟩
  case round =>
    obtain ⟨k, nd, hk, rfl, rfl, rfl⟩ := hrel
    have Hk := Lib.hid hk
    by_cases hlt : k < n
    · obtain ⟨c, hcc⟩ : ∃ c, l[k]? = some c := ⟨l[k]'(by rw [Hll.out]; exact hlt), List.getElem?_eq_getElem _⟩
      have c1 := Hc.out k c hcc
      have hsn : Ru.hex (l.take (k + 1)) = Ru.hex (l.take k) ++ [Ru.hx (c.toNat / 16), Ru.hx (c.toNat % 16)] := by
        rw [List.take_add_one, hcc]; exact hex_snoc _ _
      have Hsn := Lib.hid hsn
      have hcl := c.toNat_lt
      have hxl : (Ru.hex (l.take k)).length ≤ 200000 := by rw [hex_len, List.length_take]; omega
      generalize Ru.hex (l.take k) = x at *
      have hxs : ¬ 9223372036854775807 < x.length + 2 := by omega
      unfold strB
      obtain ⟨a, ha⟩ : ∃ a, a = c.toNat / 16 := ⟨_, rfl⟩
      obtain ⟨b, hb⟩ : ∃ b, b = c.toNat % 16 := ⟨_, rfl⟩
      have ha1 : a < 16 := by omega
      have hb1 : b < 16 := by omega
      have he : (c.toNat : Int) / 16 = (a : Int) := by omega
      have hw : IntKind.u8.wrap ((a : Int) + 1) = ((a + 1 : Nat) : Int) := u8_small (by omega)
      have hw2 : IntKind.u8.wrap ((b : Int) + 1) = ((b + 1 : Nat) : Int) := u8_small (by omega)
      have hbb : bits .and .u8 (c.toNat : Int) 15 = (b : Int) := by rw [hb]; exact and15 c
      rw [← ha, ← hb] at Hsn
      have hs1 := sign_slice a ha1 .u8 .u8
      have hs2 := sign_slice b hb1 .u8 .u8
      clear hk hcc hsn ha hb
      go_wp2_with fail
      go_quiet (fail)
      go_wp2_with fail
      go_roundg (gk - 1)
      case measure => have := Hk.out; omega
      case rel => exact ⟨k + 1, _, by have := Hk.out; omega, by go_num, by rw [Hsn.out]; unfold strB; rw [cat2], rfl⟩
    · obtain rfl : k = n := by omega
      have Ht := Lib.hid (List.take_of_length_le (Nat.le_of_eq Hll.out))
      clear hk
      go_wp2_with fail
      go_ret
      exact ⟨by rw [Ht.out]; rfl, bdrew Hb.out _⟩
end Go.Proofs.YtneebcniofolmaaGreatDoor
