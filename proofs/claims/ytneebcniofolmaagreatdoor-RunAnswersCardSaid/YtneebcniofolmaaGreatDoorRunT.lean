/- The walk of the reference's Hex. · The walks of the names of errors; the reference's digit, Number, Digits, told. · The walks of the reference's Number and Digits. · The walk of the reference's Number. -/
import Derived.Test.YtneebcniofolmaaGreatDoorRunH
import Derived.Test.YtneebcniofolmaaGreatDoorRunN
import Derived.Test.YtneebcniofolmaaGreatDoorRunK
namespace Go.Proofs.YtneebcniofolmaaGreatDoor
open Go.ChangeShapes Go.WideShapes Go.ChangeAt Go.RowKit
set_option linter.unusedVariables false
set_option maxHeartbeats 2000000
theorem tm16 (n : Nat) : (n : Int).tmod 16 = ((n % 16 : Nat) : Int) := by rw [Int.tmod_eq_emod_of_nonneg (by omega)]; omega
theorem td16 (n : Nat) : (n : Int).tdiv 16 = ((n / 16 : Nat) : Int) := by rw [Int.tdiv_eq_ediv_of_nonneg (by omega)]; omega
theorem i64_s1 {a : Nat} (h : a < 16) : IntKind.i64.wrap ((a : Int) + 1) = (a : Int) + 1 := IntWalk.i64_in _ (by omega)
theorem w64_16 {a : Nat} (h : a < 16) : wrap64 (a : Int) = a := w64_small (by omega)
set_option maxRecDepth 100000 in
theorem rhex_any (s : ByteArray) (hs : s.size ≤ 100000) (w : World) :
    Calls Tryz.prog 13 #[.string s] w fun e w' => e = .returned (strB (Ru.hex s.data.toList)) ∧ ∃ n, w.drewN n = w' := by
  have hll : s.data.toList.length = s.size := by simp
  have Hg : Hid (∀ k c (h : k < s.size), s.data.toList[k]? = some c → s[k] = c) := Lib.hid (fun k c h hk => byte_at h hk)
  obtain ⟨l, hl⟩ : ∃ l, l = s.data.toList := ⟨_, rfl⟩
  rw [← hl] at hll Hg ⊢
  obtain ⟨n, hn⟩ : ∃ n, n = s.size := ⟨_, rfl⟩
  have Hll := Lib.hid hll
  have Hl := Lib.hid hl
  clear hll hl
  go_enter Tryz.func13, Tryz.ntmps13
  go_wp2_with fail
  go_loopg [4, 5] n (fun gk t i wr => HexRel l n w gk t i wr)
  case atStart => exact ⟨0, 0, by omega, rfl, rfl, rfl⟩
  case round =>
    obtain ⟨k, nd, hk, rfl, rfl, rfl⟩ := hrel
    have Hk := Lib.hid hk
    by_cases hlt : k < n
    · obtain ⟨c, hcc⟩ : ∃ c, l[k]? = some c := ⟨l[k]'(by rw [Hll.out]; omega), List.getElem?_eq_getElem _⟩
      have hlt2 : k < s.size := by omega
      have c1 := Hg.out k c hlt2 hcc
      have hwc : wrap64 (c.toNat : Int) = c.toNat := w64_small c.toNat_lt
      have hsn : Ru.hex (l.take (k + 1)) = Ru.hex (l.take k) ++ [Ru.hx (c.toNat / 16), Ru.hx (c.toNat % 16)] := by
        rw [List.take_add_one, hcc]; exact hex_snoc _ _
      have Hsn := Lib.hid hsn
      have hcl := c.toNat_lt
      have hxl : (Ru.hex (l.take k)).length ≤ 200000 := by rw [hex_len, List.length_take]; omega
      generalize Ru.hex (l.take k) = x at *
      have hxs : ¬ 9223372036854775807 < x.length + 2 := by omega
      have hxs1 : ¬ 9223372036854775807 < x.length + 1 := by omega
      unfold strB
      obtain ⟨a, ha⟩ : ∃ a, a = c.toNat / 16 := ⟨_, rfl⟩
      obtain ⟨b, hb⟩ : ∃ b, b = c.toNat % 16 := ⟨_, rfl⟩
      have ha1 : a < 16 := by omega
      have hb1 : b < 16 := by omega
      have he3 : (c.toNat : Int).tmod 16 = (b : Int) := by rw [hb]; exact tm16 _
      have he4 : (c.toNat : Int).tdiv 16 = (a : Int) := by rw [ha]; exact td16 _
      rw [← ha, ← hb] at Hsn
      have hwa : wrap64 (a : Int) = a := w64_16 ha1
      have hw1 : IntKind.i64.wrap ((a : Int) + 1) = (a : Int) + 1 := i64_s1 ha1
      have hw2 : IntKind.i64.wrap ((b : Int) + 1) = (b : Int) + 1 := i64_s1 hb1
      have hs1 := sign_slice a ha1 .i64 .i64
      have hs2 := sign_slice b hb1 .i64 .i64
      clear hk hcc hsn ha hb
      go_wp2_with fail
      go_quiet (fail)
      go_wp2_with fail
      go_roundg (gk - 1)
      case measure => have := Hk.out; omega
      case rel => exact ⟨k + 1, _, by have := Hk.out; omega, by go_num, by rw [Hsn.out]; unfold strB; rw [cat2'], rfl⟩
    · obtain rfl : k = n := by omega
      have Ht := Lib.hid (List.take_of_length_le (by rw [Hll.out, ← hn]; omega : l.length ≤ k))
      clear hk
      go_wp2_with fail
      go_ret
      exact ⟨by rw [Ht.out]; rfl, _, rfl⟩
end Go.Proofs.YtneebcniofolmaaGreatDoor
namespace Go.Proofs.YtneebcniofolmaaGreatDoor
open Go.ChangeShapes Go.WideShapes Go.ChangeAt Go.RowKit
set_option linter.unusedVariables false
set_option maxHeartbeats 2000000
set_option maxRecDepth 100000
theorem errno_any (e : Int) (h0 : 0 ≤ e) (h1 : e ≤ 9) (w : World) : Calls Tryz.prog 41 #[iv e] w fun x w' => x = .returned (strB (Ru.name e)) ∧ w = w' := by
  have hc : e = 0 ∨ e = 1 ∨ e = 2 ∨ e = 3 ∨ e = 4 ∨ e = 5 ∨ e = 6 ∨ e = 7 ∨ e = 8 ∨ e = 9 := by omega
  clear h0 h1
  rcases hc with rfl | rfl | rfl | rfl | rfl | rfl | rfl | rfl | rfl | rfl <;>
  · go_enter Tryz.func41, Tryz.ntmps41
    go_wp2_with fail
    go_ret
    exact ⟨rfl, rfl⟩
theorem rname_any (e : Int) (h0 : 0 ≤ e) (h1 : e ≤ 9) (w : World) : Calls Tryz.prog 30 #[iv e] w fun x w' => x = .returned (strB (Ru.name e)) ∧ Below w.heap.size w w' := by
  have hc : e = 0 ∨ e = 1 ∨ e = 2 ∨ e = 3 ∨ e = 4 ∨ e = 5 ∨ e = 6 ∨ e = 7 ∨ e = 8 ∨ e = 9 := by omega
  clear h0 h1
  rcases hc with rfl | rfl | rfl | rfl | rfl | rfl | rfl | rfl | rfl | rfl <;>
  · go_enter Tryz.func30, Tryz.ntmps30
    go_wp2_with fail
    go_ret
    exact ⟨rfl, (Below.refl _ _).alloc (Nat.le_refl _) _⟩
theorem rtold_any (e : Int) (h0 : 0 ≤ e) (h1 : e ≤ 9) (l : List UInt8) (w : World) : Calls Tryz.prog 23 #[iv e, strB l] w fun x w' => x = .returned (strB (Ru.told (l, e))) ∧ Below w.heap.size w w' := by
  unfold Ru.told
  by_cases he : e = 0
  · subst he
    go_enter Tryz.func23, Tryz.ntmps23
    go_wp2_with fail
    go_ret
    exact ⟨rfl, Below.refl _ _⟩
  · rw [if_neg (show ¬ (l, e).2 = 0 from he)]
    have Hn := Lib.hid (rname_any e h0 h1)
    go_enter Tryz.func23, Tryz.ntmps23
    go_wp2_with fail
    refine (Hn.out _).mono ?_
    rintro x w1 ⟨rfl, hb⟩
    have Hb := Lib.hid hb
    clear hb
    go_wp2_with fail
    go_ret
    exact ⟨rfl, Hb.out⟩
theorem rdigit_any (c : UInt8) (w : World) : Calls Tryz.prog 47 #[.int .u8 (c.toNat : Int)] w fun x w' => x = .returned (iv (Ru.sg c)) ∧ w = w' := by
  have hc := c.toNat_lt
  unfold Ru.sg
  by_cases h1 : 48 ≤ c.toNat ∧ c.toNat ≤ 57
  · rw [if_pos h1]
    obtain ⟨h2, h3⟩ := h1
    have h4 : IntKind.i64.wrap ((c.toNat : Int) - 48) = (c.toNat : Int) - 48 := IntWalk.i64_in _ (by omega)
    have h5 : wrap64 (c.toNat : Int) = c.toNat := w64_small hc
    have h6 : IntKind.i64.wrap (c.toNat : Int) = c.toNat := IntWalk.i64_in _ (by omega)
    go_enter Tryz.func47, Tryz.ntmps47
    go_wp2_with fail
    go_ret
    exact ⟨rfl, rfl⟩
  · rw [if_neg h1]
    by_cases h2 : 97 ≤ c.toNat ∧ c.toNat ≤ 102
    · rw [if_pos h2]
      obtain ⟨h2, h3⟩ := h2
      have h4 : IntKind.i64.wrap ((c.toNat : Int) - 87) = (c.toNat : Int) - 87 := IntWalk.i64_in _ (by omega)
      have h5 : wrap64 (c.toNat : Int) = c.toNat := w64_small hc
      have h6 : IntKind.i64.wrap (c.toNat : Int) = c.toNat := IntWalk.i64_in _ (by omega)
      have h7 : ¬ c.toNat ≤ 57 := by omega
      go_enter Tryz.func47, Tryz.ntmps47
      go_wp2_with fail
      go_ret
      exact ⟨rfl, rfl⟩
    · rw [if_neg h2]
      by_cases h3 : 48 ≤ c.toNat
      · have h4 : ¬ c.toNat ≤ 57 := by omega
        by_cases h5 : 97 ≤ c.toNat
        · have h6 : ¬ c.toNat ≤ 102 := by omega
          go_enter Tryz.func47, Tryz.ntmps47
          go_wp2_with fail
          go_ret
          exact ⟨rfl, rfl⟩
        · go_enter Tryz.func47, Tryz.ntmps47
          go_wp2_with fail
          go_ret
          exact ⟨rfl, rfl⟩
      · have h5 : ¬ 97 ≤ c.toNat := by omega
        go_enter Tryz.func47, Tryz.ntmps47
        go_wp2_with fail
        go_ret
        exact ⟨rfl, rfl⟩
end Go.Proofs.YtneebcniofolmaaGreatDoor
namespace Go.Proofs.YtneebcniofolmaaGreatDoor
open Go.ChangeShapes Go.WideShapes Go.ChangeAt Go.RowKit
set_option linter.unusedVariables false
set_option maxHeartbeats 2000000
set_option maxRecDepth 100000
theorem dec_ext (x : Nat) (h : x < 10) : ByteArray.extract ⟨#[48, 49, 50, 51, 52, 53, 54, 55, 56, 57]⟩ x (x + 1) = ⟨#[Ru.dc x]⟩ := by
  have : ∀ x : Fin 10, ByteArray.extract ⟨#[48, 49, 50, 51, 52, 53, 54, 55, 56, 57]⟩ x.val (x.val + 1) = ⟨#[Ru.dc x.val]⟩ := by decide +kernel
  exact this ⟨x, h⟩
theorem dec_slice (a : Nat) (ha : a < 10) (k k' : IntKind) (W : World) : (Instr.slice 9 (.string ⟨#[48, 49, 50, 51, 52, 53, 54, 55, 56, 57]⟩) (some (.int k (a : Int))) (some (.int k' ((a : Int) + 1))) none).run Tryz.prog W = .ok (.string ⟨#[Ru.dc a]⟩) W := by
  rw [run_slice_string W 9 _ k k' _ _ Tryz.underlying9 (by omega) (by omega) (by
    have : ByteArray.size ⟨#[48, 49, 50, 51, 52, 53, 54, 55, 56, 57]⟩ = 10 := rfl
    rw [this]; omega)]
  rw [show ((a : Int) + 1).toNat = a + 1 by omega, show (a : Int).toNat = a by omega, dec_ext a ha]
theorem wrap1 {a : Nat} (h : a < 1000000) : IntKind.i64.wrap ((a : Int) + 1) = (a : Int) + 1 := IntWalk.i64_in _ (by omega)
theorem w64n {a : Nat} (h : a < 1000000) : wrap64 (a : Int) = a := IntWalk.wrap64_in _ (by omega)
theorem i64n {a : Nat} (h : a < 1000000) : IntKind.i64.wrap (a : Int) = a := IntWalk.i64_in _ (by omega)
theorem dec_small {n : Nat} (h : n < 10) (w : World) : Calls Tryz.prog 12 #[iv n] w fun x w' => x = .returned (strB (Lib.decDigits n)) ∧ Below w.heap.size w w' := by
  have hs := dec_slice n h .i64 .i64
  have hw := wrap1 (a := n) (by omega)
  rw [Ru.dec_s h]
  go_enter Tryz.func12, Tryz.ntmps12
  go_wp2_with fail
  go_ret
  exact ⟨rfl, Below.refl _ _⟩
theorem tm10 (n : Nat) : (n : Int).tmod 10 = ((n % 10 : Nat) : Int) := by rw [Int.tmod_eq_emod_of_nonneg (by omega)]; omega
theorem td10 (n : Nat) : (n : Int).tdiv 10 = ((n / 10 : Nat) : Int) := by rw [Int.tdiv_eq_ediv_of_nonneg (by omega)]; omega
theorem dec_len (n : Nat) (h : n < 100) : (Lib.decDigits n).length ≤ 2 := by
  rw [Ru.dec_d4 (by omega)]; unfold Ru.d4
  by_cases h1 : n < 10
  · rw [if_pos h1]; simp
  · rw [if_neg h1, if_pos h]; simp
theorem cat1 (x : List UInt8) (a : UInt8) : Value.string (ByteArray.mk x.toArray ++ ByteArray.mk #[a]) = .string ⟨(x ++ [a]).toArray⟩ := by
  congr 1
theorem digits_any {n : Nat} (h : n < 100) (w : World) : Calls Tryz.prog 12 #[iv n] w fun x w' => x = .returned (strB (Lib.decDigits n)) ∧ Below w.heap.size w w' := by
  by_cases h1 : n < 10
  · exact dec_small h1 w
  · rw [Ru.dec_b h1]
    obtain ⟨a, ha⟩ : ∃ a, a = n / 10 := ⟨_, rfl⟩
    obtain ⟨b, hb⟩ : ∃ b, b = n % 10 := ⟨_, rfl⟩
    rw [← ha, ← hb]
    have ha1 : a < 10 := by omega
    have hb1 : b < 10 := by omega
    have HS := Lib.hid (dec_small ha1)
    have hs := dec_slice b hb1 .i64 .i64
    have hw := wrap1 (a := b) (by omega)
    have e1 : (n : Int).tmod 10 = (b : Int) := by rw [hb]; exact tm10 n
    have e2 : (n : Int).tdiv 10 = (a : Int) := by rw [ha]; exact td10 n
    have e3 := w64n (a := a) (by omega)
    have e4 := w64n (a := b) (by omega)
    have e5 := i64n (a := a) (by omega)
    have hn : ¬ (n : Int) < 10 := by omega
    have hl := dec_len a (by omega)
    generalize Lib.decDigits a = x at *
    have hx1 : ¬ 9223372036854775807 < x.length + 1 := by omega
    clear ha hb
    go_enter Tryz.func12, Tryz.ntmps12
    go_wp2_with fail
    refine (HS.out _).mono ?_
    rintro e w1 ⟨rfl, hbl⟩
    have Hbl := Lib.hid hbl
    clear hbl
    unfold strB
    go_wp2_with fail
    go_ret
    exact ⟨by unfold strB; rw [← cat1]; rfl, Hbl.out⟩
end Go.Proofs.YtneebcniofolmaaGreatDoor
namespace Go.Proofs.YtneebcniofolmaaGreatDoor
open Go.ChangeShapes Go.WideShapes Go.ChangeAt Go.RowKit
set_option linter.unusedVariables false
set_option maxHeartbeats 2000000
set_option maxRecDepth 100000
def fld (l : List UInt8) : Nat := l.foldl (fun n x => n * 10 + (x.toNat - 48)) 0
theorem fld_snoc (l : List UInt8) (c : UInt8) : fld (l ++ [c]) = fld l * 10 + (c.toNat - 48) := by unfold fld; rw [List.foldl_append]; rfl
theorem fld_go : ∀ (l : List UInt8) (a : Nat), (∀ x ∈ l, Ru.dg x = true) → l.foldl (fun n x => n * 10 + (x.toNat - 48)) a + 1 ≤ (a + 1) * 10 ^ l.length
  | [], a, _ => by simp
  | c :: l, a, h => by
    have h2 : Ru.dg c = true := h c (by simp)
    unfold Ru.dg at h2
    have h3 := of_decide_eq_true h2
    have ih := fld_go l (a * 10 + (c.toNat - 48)) (fun x hx => h x (by simp [hx]))
    show l.foldl _ (a * 10 + (c.toNat - 48)) + 1 ≤ _
    rw [List.length_cons, Nat.pow_succ]
    have h4 : (a * 10 + (c.toNat - 48) + 1) * 10 ^ l.length ≤ ((a + 1) * 10) * 10 ^ l.length := Nat.mul_le_mul_right _ (by omega)
    have h5 : (a + 1) * 10 * 10 ^ l.length = (a + 1) * (10 ^ l.length * 10) := by rw [Nat.mul_assoc, Nat.mul_comm 10]
    omega
theorem fld_lt {l : List UInt8} (h : ∀ x ∈ l, Ru.dg x = true) (h4 : l.length ≤ 4) : fld l < 10000 := by
  have := fld_go l 0 h
  have h2 : 10 ^ l.length ≤ 10 ^ 4 := Nat.pow_le_pow_right (by decide) h4
  unfold fld
  omega
def RnRel (l : List UInt8) (w : World) (gk : Nat) (t i : Value) (wr : World) : Prop :=
  ∃ k : Nat, k + gk = l.length ∧ i = iv k ∧ t = iv (fld (l.take k)) ∧ (∀ x ∈ l.take k, Ru.dg x = true) ∧ wr = w
theorem num_none {l : List UInt8} (h : l = [] ∨ 4 < l.length ∨ (l.headD 0 = 48 ∧ 1 < l.length) ∨ l.all Ru.dg = false) : Ru.num l = none := by
  unfold Ru.num
  rw [if_pos h]
theorem num_yes {l : List UInt8} (h : ¬ (l = [] ∨ 4 < l.length ∨ (l.headD 0 = 48 ∧ 1 < l.length) ∨ l.all Ru.dg = false)) : Ru.num l = some (fld l) := by
  unfold Ru.num
  rw [if_neg h]; rfl
theorem rnumber_any (l : List UInt8) (hs : l.length ≤ 100000) (w : World) :
    Calls Tryz.prog 22 #[.string ⟨l.toArray⟩] w (NumPost l w) := by
  by_cases h0 : l = []
  · subst h0
    go_enter Tryz.func22, Tryz.ntmps22
    go_wp2_with fail
    go_ret2
    exact ⟨0, rfl, fun k hk => (by cases hk), Below.refl _ _⟩
  obtain ⟨s, hsd⟩ : ∃ s, s = ByteArray.mk l.toArray := ⟨_, rfl⟩
  have hsz : s.size = l.length := by rw [hsd]; rfl
  have hdl : s.data.toList = l := by rw [hsd]
  have hem : s.toList.isEmpty = false := by
    rw [Lib.toList_data, hdl]; simpa using h0
  rw [← hsd]
  have Hg : Hid (∀ k c (h : k < s.size), l[k]? = some c → s[k] = c) := Lib.hid (fun k c h hk => byte_at h (by rw [hdl]; exact hk))
  clear hsd hdl
  by_cases h4 : 4 < l.length
  · have Hn := Lib.hid (num_none (l := l) (Or.inr (Or.inl h4)))
    have h4' : 4 < (l.length : Int) := by omega
    go_enter Tryz.func22, Tryz.ntmps22
    go_wp2_with fail
    go_ret2
    exact ⟨0, by rw [Hn.out]; rfl, fun k hk => (by rw [Hn.out] at hk; cases hk), Below.refl _ _⟩
  have h4' : ¬ 4 < (l.length : Int) := by omega
  obtain ⟨c0, r, hl⟩ : ∃ c r, l = c :: r := by
    cases l with
    | nil => exact absurd rfl h0
    | cons c r => exact ⟨c, r, rfl⟩
  have h1s : 0 < s.size := by rw [hsz, hl]; simp
  have hc0 := Hg.out 0 c0 h1s (by rw [hl]; rfl)
  have hhd : l.headD 0 = c0 := by rw [hl]; rfl
  have hc0l := c0.toNat_lt
  have Hhd := Lib.hid hhd
  clear hhd
  clear hl
  by_cases hz : c0 = 48 ∧ 1 < l.length
  · have Hn := Lib.hid (num_none (l := l) (Or.inr (Or.inr (Or.inl ⟨by rw [Hhd.out]; exact hz.1, hz.2⟩))))
    obtain ⟨hz1, hz2⟩ := hz
    have hz3 : c0.toNat = 48 := by rw [hz1]; rfl
    have hz4 : 1 < (l.length : Int) := by omega
    clear hz1
    go_enter Tryz.func22, Tryz.ntmps22
    go_wp2_with fail
    go_ret2
    exact ⟨0, by rw [Hn.out]; rfl, fun k hk => (by rw [Hn.out] at hk; cases hk), Below.refl _ _⟩
  have Hz := Lib.hid hz
  have hzc : c0.toNat = 48 ∨ ¬ c0.toNat = 48 := Decidable.em _
  have hlo : c0.toNat = 48 → ¬ 1 < (l.length : Int) := fun h1 h2 => hz ⟨UInt8.toNat_inj.1 h1, by omega⟩
  have Hlo := Lib.hid hlo
  clear hz hlo
  have Hl4 : Hid (l.length ≤ 4) := Lib.hid (by omega)
  obtain ⟨m, hm⟩ : ∃ m, m = l.length := ⟨_, rfl⟩
  rw [← hm] at hsz h4' Hlo
  have Hm := Lib.hid hm
  clear hm
  rcases hzc with hz1 | hz1
  · have hlo := Hlo.out hz1
    go_enter Tryz.func22, Tryz.ntmps22
    go_wp2_with fail
    go_loopg [4, 5] m (fun gk t i wr => RnRel l w gk t i wr)
    case atStart => exact ⟨0, by rw [← Hm.out]; omega, rfl, rfl, by simp, rfl⟩
    case round =>
      obtain ⟨k, hk, rfl, rfl, hd, rfl⟩ := hrel
      rw [← Hm.out] at hk
      have Hd := Lib.hid hd
      have Hk := Lib.hid hk
      have hf := fld_lt hd (by rw [List.length_take]; omega)
      have Hf := Lib.hid hf
      clear hd hc0 hz1 hc0l
      by_cases hlt : k < m
      · obtain ⟨c, hcc⟩ : ∃ c, l[k]? = some c := ⟨l[k]'(by rw [← Hm.out]; exact hlt), List.getElem?_eq_getElem _⟩
        have hlt2 : k < s.size := by omega
        have c1 := Hg.out k c hlt2 hcc
        have hcl := c.toNat_lt
        by_cases hdc : Ru.dg c = true
        · have h2 := hdc
          unfold Ru.dg at h2
          obtain ⟨h3, h5⟩ := of_decide_eq_true h2
          have h6 : ¬ c.toNat < 48 := by omega
          have h7 : ¬ 57 < c.toNat := by omega
          have Hs : Hid (fld (l.take (k + 1)) = fld (l.take k) * 10 + (c.toNat - 48)) := Lib.hid (by rw [List.take_add_one, hcc]; exact fld_snoc _ _)
          have Hd2 : Hid (∀ x ∈ l.take (k + 1), Ru.dg x = true) := Lib.hid (by
            rw [List.take_add_one, hcc]
            intro x hx
            simp only [Option.toList_some, List.mem_append, List.mem_singleton] at hx
            rcases hx with hx | rfl
            · exact Hd.out x hx
            · exact hdc)
          generalize fld (l.take k) = y at *
          have w1 : IntKind.i64.wrap ((y : Int) * 10) = (y : Int) * 10 := IntWalk.i64_in _ (by omega)
          have w2 : wrap64 (c.toNat : Int) = c.toNat := IntWalk.wrap64_in _ (by omega)
          have w3 : IntKind.i64.wrap ((y : Int) * 10 + (c.toNat : Int)) = (y : Int) * 10 + (c.toNat : Int) := IntWalk.i64_in _ (by omega)
          have w4 : IntKind.i64.wrap ((y : Int) * 10 + (c.toNat : Int) - 48) = ((y * 10 + (c.toNat - 48) : Nat) : Int) := by rw [IntWalk.i64_in _ (by omega)]; omega
          have w5 : IntKind.i64.wrap (c.toNat : Int) = c.toNat := IntWalk.i64_in _ (by omega)
          clear h2 hk hcc hdc hf
          go_wp2_with fail
          go_roundg (gk - 1)
          case measure => have := Hk.out; omega
          case rel => exact ⟨k + 1, by rw [← Hm.out]; have := Hk.out; omega, by go_num, (by rw [Hs.out]; show Value.int .i64 _ = Value.int .i64 _; congr 1), Hd2.out, rfl⟩
        · have Hn := Lib.hid (num_none (l := l) (Or.inr (Or.inr (Or.inr (by
            cases hall : l.all Ru.dg with
            | false => rfl
            | true => exact absurd (List.all_eq_true.1 hall c (List.mem_of_getElem? hcc)) hdc)))))
          have h2 : ¬ (48 ≤ c.toNat ∧ c.toNat ≤ 57) := fun h => hdc (by unfold Ru.dg; exact decide_eq_true h)
          clear hk hcc hdc hf
          by_cases h6 : c.toNat < 48
          · go_wp2_with fail
            go_ret2
            exact ⟨0, by rw [Hn.out]; rfl, fun k hk => (by rw [Hn.out] at hk; cases hk), Below.refl _ _⟩
          · have h7 : 57 < c.toNat := by omega
            clear h2
            go_wp2_with fail
            go_ret2
            exact ⟨0, by rw [Hn.out]; rfl, fun k hk => (by rw [Hn.out] at hk; cases hk), Below.refl _ _⟩
      · obtain rfl : k = m := by omega
        have Hy : Hid (Ru.num l = some (fld (l.take k))) := Lib.hid (by
          rw [num_yes (by
            rintro (h | h | h | h)
            · exact h0 h
            · exact h4 h
            · exact Hz.out ⟨by rw [← Hhd.out]; exact h.1, h.2⟩
            · rw [List.all_eq_true.2 (by rw [← List.take_of_length_le (show l.length ≤ k by rw [Hm.out]; omega)]; exact Hd.out)] at h
              cases h), List.take_of_length_le (show l.length ≤ k by rw [Hm.out]; omega)])
        clear hk hf
        go_wp2_with fail
        go_ret2
        exact ⟨_, by rw [Hy.out]; rfl, fun j hj => (by rw [Hy.out] at hj; injection hj with hj; rw [hj]), Below.refl _ _⟩
  · go_enter Tryz.func22, Tryz.ntmps22
    go_wp2_with fail
    go_loopg [4, 5] m (fun gk t i wr => RnRel l w gk t i wr)
    case atStart => exact ⟨0, by rw [← Hm.out]; omega, rfl, rfl, by simp, rfl⟩
    case round =>
      obtain ⟨k, hk, rfl, rfl, hd, rfl⟩ := hrel
      rw [← Hm.out] at hk
      have Hd := Lib.hid hd
      have Hk := Lib.hid hk
      have hf := fld_lt hd (by rw [List.length_take]; omega)
      have Hf := Lib.hid hf
      clear hd hc0 hz1 hc0l
      by_cases hlt : k < m
      · obtain ⟨c, hcc⟩ : ∃ c, l[k]? = some c := ⟨l[k]'(by rw [← Hm.out]; exact hlt), List.getElem?_eq_getElem _⟩
        have hlt2 : k < s.size := by omega
        have c1 := Hg.out k c hlt2 hcc
        have hcl := c.toNat_lt
        by_cases hdc : Ru.dg c = true
        · have h2 := hdc
          unfold Ru.dg at h2
          obtain ⟨h3, h5⟩ := of_decide_eq_true h2
          have h6 : ¬ c.toNat < 48 := by omega
          have h7 : ¬ 57 < c.toNat := by omega
          have Hs : Hid (fld (l.take (k + 1)) = fld (l.take k) * 10 + (c.toNat - 48)) := Lib.hid (by rw [List.take_add_one, hcc]; exact fld_snoc _ _)
          have Hd2 : Hid (∀ x ∈ l.take (k + 1), Ru.dg x = true) := Lib.hid (by
            rw [List.take_add_one, hcc]
            intro x hx
            simp only [Option.toList_some, List.mem_append, List.mem_singleton] at hx
            rcases hx with hx | rfl
            · exact Hd.out x hx
            · exact hdc)
          generalize fld (l.take k) = y at *
          have w1 : IntKind.i64.wrap ((y : Int) * 10) = (y : Int) * 10 := IntWalk.i64_in _ (by omega)
          have w2 : wrap64 (c.toNat : Int) = c.toNat := IntWalk.wrap64_in _ (by omega)
          have w3 : IntKind.i64.wrap ((y : Int) * 10 + (c.toNat : Int)) = (y : Int) * 10 + (c.toNat : Int) := IntWalk.i64_in _ (by omega)
          have w4 : IntKind.i64.wrap ((y : Int) * 10 + (c.toNat : Int) - 48) = ((y * 10 + (c.toNat - 48) : Nat) : Int) := by rw [IntWalk.i64_in _ (by omega)]; omega
          have w5 : IntKind.i64.wrap (c.toNat : Int) = c.toNat := IntWalk.i64_in _ (by omega)
          clear h2 hk hcc hdc hf
          go_wp2_with fail
          go_roundg (gk - 1)
          case measure => have := Hk.out; omega
          case rel => exact ⟨k + 1, by rw [← Hm.out]; have := Hk.out; omega, by go_num, (by rw [Hs.out]; show Value.int .i64 _ = Value.int .i64 _; congr 1), Hd2.out, rfl⟩
        · have Hn := Lib.hid (num_none (l := l) (Or.inr (Or.inr (Or.inr (by
            cases hall : l.all Ru.dg with
            | false => rfl
            | true => exact absurd (List.all_eq_true.1 hall c (List.mem_of_getElem? hcc)) hdc)))))
          have h2 : ¬ (48 ≤ c.toNat ∧ c.toNat ≤ 57) := fun h => hdc (by unfold Ru.dg; exact decide_eq_true h)
          clear hk hcc hdc hf
          by_cases h6 : c.toNat < 48
          · go_wp2_with fail
            go_ret2
            exact ⟨0, by rw [Hn.out]; rfl, fun k hk => (by rw [Hn.out] at hk; cases hk), Below.refl _ _⟩
          · have h7 : 57 < c.toNat := by omega
            clear h2
            go_wp2_with fail
            go_ret2
            exact ⟨0, by rw [Hn.out]; rfl, fun k hk => (by rw [Hn.out] at hk; cases hk), Below.refl _ _⟩
      · obtain rfl : k = m := by omega
        have Hy : Hid (Ru.num l = some (fld (l.take k))) := Lib.hid (by
          rw [num_yes (by
            rintro (h | h | h | h)
            · exact h0 h
            · exact h4 h
            · exact Hz.out ⟨by rw [← Hhd.out]; exact h.1, h.2⟩
            · rw [List.all_eq_true.2 (by rw [← List.take_of_length_le (show l.length ≤ k by rw [Hm.out]; omega)]; exact Hd.out)] at h
              cases h), List.take_of_length_le (show l.length ≤ k by rw [Hm.out]; omega)])
        clear hk hf
        go_wp2_with fail
        go_ret2
        exact ⟨_, by rw [Hy.out]; rfl, fun j hj => (by rw [Hy.out] at hj; injection hj with hj; rw [hj]), Below.refl _ _⟩
end Go.Proofs.YtneebcniofolmaaGreatDoor
