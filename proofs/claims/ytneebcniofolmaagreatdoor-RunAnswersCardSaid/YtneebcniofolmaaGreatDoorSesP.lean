/- Sessions in plain: lines of joined texts, answers without newlines, the answers to a beginning. -/
import Derived.Test.YtneebcniofolmaaGreatDoorRunH
namespace Go.Proofs.YtneebcniofolmaaGreatDoor
namespace Ru
set_option linter.unusedVariables false
theorem cut_self (c : UInt8) (l : List UInt8) : cut c (c :: l) = [] :: cut c l := by show (if c = c then _ else _) = _; rw [if_pos rfl]
theorem cut_other {x c : UInt8} (h : x ≠ c) (l : List UInt8) : cut c (x :: l) = (x :: (cut c l).headD []) :: (cut c l).tail := by show (if x = c then _ else _) = _; rw [if_neg h]
theorem cut_mid (c : UInt8) : ∀ p r, cut c (p ++ c :: r) = cut c p ++ cut c r
  | [], r => cut_self c r
  | x :: p, r => by
    have ih := cut_mid c p r
    by_cases h : x = c
    · subst h
      show cut x (x :: (p ++ x :: r)) = _
      rw [cut_self, cut_self, ih]; rfl
    · show cut c (x :: (p ++ c :: r)) = _
      rw [cut_other h, cut_other h, ih]
      cases hq : cut c p with
      | nil => exact absurd hq (cut_ne c p)
      | cons a b => rfl
theorem lines_nil : lines [] = [] := by decide
theorem lines_mid (p r : List UInt8) : lines (p ++ 10 :: r) = cut 10 p ++ lines r := by
  obtain ⟨b, x, hb⟩ : ∃ b x, cut 10 r = b ++ [x] := ⟨_, _, (List.dropLast_concat_getLast (cut_ne 10 r)).symm⟩
  unfold lines
  rw [cut_mid, hb, ← List.append_assoc, List.getLast?_concat, List.getLast?_concat, List.dropLast_concat, List.dropLast_concat]
  split
  · rfl
  · rw [List.append_assoc]
theorem lines_end (p : List UInt8) : lines (p ++ [10]) = cut 10 p := by rw [lines_mid, lines_nil, List.append_nil]
/-- the answers to a beginning that ends with a line -/
theorem runs_begin (s : Ar.S) (t : List UInt8) (k : Nat) (h : t.length ≤ k ∨ k = 0 ∨ t[k - 1]? = some 10) : ∃ r, runs s (lines t) = runs s (lines (t.take k)) ++ r := by
  rcases h with h | h | h
  · exact ⟨[], by rw [List.take_of_length_le h, List.append_nil]⟩
  · subst h
    exact ⟨runs s (lines t), by rw [List.take_zero, lines_nil]; rfl⟩
  · have hk := (List.getElem?_eq_some_iff.1 h).1
    by_cases h0 : k = 0
    · subst h0
      exact ⟨runs s (lines t), by rw [List.take_zero, lines_nil]; rfl⟩
    · have e1 : t.take k = t.take (k - 1) ++ [10] := by
        have : k = (k - 1) + 1 := by omega
        conv => lhs; rw [this, List.take_add_one, h]
        rfl
      have e2 : t = t.take (k - 1) ++ 10 :: t.drop k := by
        conv => lhs; rw [← List.take_append_drop k t, e1, List.append_assoc]
        rfl
      refine ⟨runs (stateOf s (cut 10 (t.take (k - 1)))) (lines (t.drop k)), ?_⟩
      rw [e1, lines_end]
      conv => lhs; rw [e2, lines_mid, runs_append]
/-- the answers, one by one -/
def ans : Ar.S → List (List UInt8) → List (List UInt8)
  | _, [] => []
  | s, l :: r => (line s l).1 :: ans (line s l).2 r
def joined (l : List (List UInt8)) : List UInt8 := l.flatMap (· ++ [10])
theorem runs_ans : ∀ (l : List (List UInt8)) (s : Ar.S), runs s l = joined (ans s l)
  | [], _ => rfl
  | x :: l, s => by
    show (line s x).1 ++ [10] ++ runs (line s x).2 l = _
    rw [runs_ans l]; rfl
theorem cut_joined : ∀ (l : List (List UInt8)), (∀ x ∈ l, (10 : UInt8) ∉ x) → cut 10 (joined l) = l ++ [[]]
  | [], _ => rfl
  | x :: l, h => by
    show cut 10 (x ++ [10] ++ joined l) = _
    rw [List.append_assoc]
    show cut 10 (x ++ 10 :: joined l) = _
    rw [cut_mid, cut_no 10 x (h x (by simp)), cut_joined l (fun y hy => h y (by simp [hy]))]; rfl
theorem lines_joined (l : List (List UInt8)) (h : ∀ x ∈ l, (10 : UInt8) ∉ x) : lines (joined l) = l := by
  unfold lines
  rw [cut_joined l h, List.getLast?_concat, if_pos rfl, List.dropLast_concat]
theorem name_no (e : Int) : (10 : UInt8) ∉ name e := by
  unfold name
  intro h
  have hm : ∀ x ∈ ([[79, 75], [69, 114, 114, 82, 97, 110, 103, 101], [69, 114, 114, 83, 121, 110, 116, 97, 120], [69, 114, 114, 83, 104, 97, 112, 101], [69, 114, 114, 70, 117, 108, 108], [69, 114, 114, 78, 111, 110, 101], [69, 114, 114, 83, 116, 97, 116, 101], [69, 114, 114, 67, 108, 97, 115, 104], [69, 114, 114, 76, 111, 115, 116], [69, 114, 114, 68, 101, 110, 105, 101, 100]] : List (List UInt8)), (10 : UInt8) ∉ x := by decide
  rw [List.getD_eq_getElem?_getD] at h
  cases hq : ([[79, 75], [69, 114, 114, 82, 97, 110, 103, 101], [69, 114, 114, 83, 121, 110, 116, 97, 120], [69, 114, 114, 83, 104, 97, 112, 101], [69, 114, 114, 70, 117, 108, 108], [69, 114, 114, 78, 111, 110, 101], [69, 114, 114, 83, 116, 97, 116, 101], [69, 114, 114, 67, 108, 97, 115, 104], [69, 114, 114, 76, 111, 115, 116], [69, 114, 114, 68, 101, 110, 105, 101, 100]] : List (List UInt8))[e.toNat]? with
  | none => rw [hq] at h; simp at h
  | some y => rw [hq] at h; exact hm y (List.mem_of_getElem? hq) h
theorem dc_big : ∀ v, ∀ x ∈ Lib.decDigits v, 48 ≤ x.toNat ∧ x.toNat ≤ 57 := by
  intro v
  induction v using Nat.strongRecOn with
  | _ v ih =>
    have hd : ∀ n : Fin 10, 48 ≤ (dc n.val).toNat ∧ (dc n.val).toNat ≤ 57 := by decide
    intro x hx
    by_cases h : v < 10
    · rw [dec_s h] at hx
      rw [List.mem_singleton.1 hx]; exact hd ⟨v, h⟩
    · rw [dec_b h] at hx
      rcases List.mem_append.1 hx with hx | hx
      · exact ih (v / 10) (by omega) x hx
      · rw [List.mem_singleton.1 hx]; exact hd ⟨v % 10, by omega⟩
theorem dec_no (v : Nat) : (10 : UInt8) ∉ Lib.decDigits v := fun h => by have := (dc_big v 10 h).1; revert this; decide
theorem dec_no32 (v : Nat) : (32 : UInt8) ∉ Lib.decDigits v := fun h => by have := (dc_big v 32 h).1; revert this; decide
theorem hx_big : ∀ n, hx n = 0 ∨ 48 ≤ (hx n).toNat := by
  intro n
  by_cases h : n < 16
  · have : ∀ n : Fin 16, hx n.val = 0 ∨ 48 ≤ (hx n.val).toNat := by decide
    exact this ⟨n, h⟩
  · left; unfold hx; rw [List.getD_eq_getElem?_getD, List.getElem?_eq_none (by simp; omega)]; rfl
theorem hex_big (l : List UInt8) : ∀ x ∈ hex l, x = 0 ∨ 48 ≤ x.toNat := by
  intro x hx'
  unfold hex at hx'
  obtain ⟨c, _, hc⟩ := List.mem_flatMap.1 hx'
  simp only [List.mem_cons, List.not_mem_nil, or_false] at hc
  rcases hc with rfl | rfl <;> exact hx_big _
theorem hex_no (l : List UInt8) : (10 : UInt8) ∉ hex l := fun h => by have := hex_big l 10 h; revert this; decide
theorem hex_no32 (l : List UInt8) : (32 : UInt8) ∉ hex l := fun h => by have := hex_big l 32 h; revert this; decide
theorem inter_no : ∀ l : List (List UInt8), (∀ x ∈ l, (10 : UInt8) ∉ x) → (10 : UInt8) ∉ [32].intercalate l
  | [], _ => by simp [List.intercalate]
  | [x], h => by simpa [List.intercalate] using h x (by simp)
  | x :: y :: l, h => by
    have ih := inter_no (y :: l) (fun z hz => h z (List.mem_cons_of_mem _ hz))
    have hx := h x (by simp)
    have e : [32].intercalate (x :: y :: l) = x ++ (32 :: [32].intercalate (y :: l)) := by simp [List.intercalate, List.intersperse]
    rw [e]
    simp only [List.mem_append, List.mem_cons, not_or]
    exact ⟨hx, by decide, ih⟩
theorem spots_no (l : List (Nat × Nat)) : (10 : UInt8) ∉ spotsT l := by
  unfold spotsT
  split
  · decide
  · refine inter_no _ (fun x hx => ?_)
    obtain ⟨y, _, rfl⟩ := List.mem_map.1 hx
    unfold spotT
    simp only [List.mem_append, List.mem_singleton, not_or]
    exact ⟨⟨dec_no _, by decide⟩, dec_no _⟩
theorem run1_scrub (s : Ar.S) (v : List Nat) (b : List UInt8) : run1 s .scrub v b = ((spotsT (s.scrubTo 4).2, 0), (s.scrubTo 4).1) := by simp only [run1]
theorem run1_no (s : Ar.S) (k : Wd) (v : List Nat) (b : List UInt8) : (10 : UInt8) ∉ (run1 s k v b).1.1 := by
  have ho : (10 : UInt8) ∉ ok := by decide
  cases k
  · show (10 : UInt8) ∉ hex (s.read ((v.getD 0 0 : Nat) : Int)).1.data.toList
    exact hex_no _
  · show (10 : UInt8) ∉ ok
    exact ho
  · show (10 : UInt8) ∉ ok
    exact ho
  · show (10 : UInt8) ∉ ok
    exact ho
  · show (10 : UInt8) ∉ ok
    exact ho
  · show (10 : UInt8) ∉ Lib.decDigits (s.rebuild ((v.getD 0 0 : Nat) : Int)).1.1.toNat
    exact dec_no _
  · show (10 : UInt8) ∉ Lib.decDigits (s.lostN ((v.getD 0 0 : Nat) : Int))
    exact dec_no _
  · rw [run1_scrub]; dsimp only; exact spots_no _
theorem line_no (s : Ar.S) (l : List UInt8) : (10 : UInt8) ∉ (line s l).1 := by
  unfold line
  split
  · show (10 : UInt8) ∉ bad
    decide
  · show (10 : UInt8) ∉ told _
    unfold told
    split
    · exact run1_no _ _ _ _
    · exact name_no _
theorem ans_no : ∀ (l : List (List UInt8)) (s : Ar.S), ∀ x ∈ ans s l, (10 : UInt8) ∉ x
  | [], _, x, h => by cases h
  | y :: l, s, x, h => by
    rcases List.mem_cons.1 h with h | h
    · rw [h]; exact line_no s y
    · exact ans_no l _ x h
theorem ans_len : ∀ (l : List (List UInt8)) (s : Ar.S), (ans s l).length = l.length
  | [], _ => rfl
  | y :: l, s => by show (_ :: ans _ l).length = _; rw [List.length_cons, ans_len l, List.length_cons]
theorem runs_cut (s : Ar.S) (l : List (List UInt8)) : cut 10 (runs s l) = ans s l ++ [[]] := by rw [runs_ans, cut_joined _ (ans_no l s)]
/-- what some lines ask -/
theorem txt_no (k : Wd) : (32 : UInt8) ∉ k.txt := by cases k <;> decide
theorem parse_one {k : Wd} (hm : k.many = 1) (hb : k.blk = false) {d : List UInt8} {v : Nat} (hd : num d = some v) (hs : (32 : UInt8) ∉ d) : parse (k.txt ++ 32 :: d) = some (k, [v], []) := by
  unfold parse
  rw [cut_at 32 _ _ (txt_no k), cut_no 32 _ hs]
  simp only [List.headD_cons, wd_txt, hm, hb, List.length_cons, List.length_nil, List.tail_cons, nums, hd]
  rfl
theorem parse_write {d h b : List UInt8} {v : Nat} (hd : num d = some v) (hs : (32 : UInt8) ∉ d) (hh : (32 : UInt8) ∉ h) (hu : unhex h = some b) : parse (Wd.write.txt ++ 32 :: (d ++ 32 :: h)) = some (.write, [v], b) := by
  unfold parse
  rw [cut_at 32 _ _ (txt_no .write), cut_at 32 _ _ hs, cut_no 32 _ hh]
  simp only [List.headD_cons, wd_txt, Wd.many, Wd.blk, List.length_cons, List.length_nil, List.tail_cons, nums, hd, List.getLastD_cons, List.getLastD_nil, hu]
  rfl
theorem hx_sg : ∀ n : Fin 16, sg (hx n.val) = n.val := by decide
theorem unhex_hex (x y : UInt8) : unhex (hex [x, y]) = some [x, y] := by
  have hx1 := x.toNat_lt
  have hy1 := y.toNat_lt
  have a1 := hx_sg ⟨x.toNat / 16, by omega⟩
  have a2 := hx_sg ⟨x.toNat % 16, by omega⟩
  have a3 := hx_sg ⟨y.toNat / 16, by omega⟩
  have a4 := hx_sg ⟨y.toNat % 16, by omega⟩
  show (if sg (hx (x.toNat / 16)) < 0 ∨ sg (hx (x.toNat % 16)) < 0 ∨ sg (hx (y.toNat / 16)) < 0 ∨ sg (hx (y.toNat % 16)) < 0 then none else some [UInt8.ofNat (16 * (sg (hx (x.toNat / 16))).toNat + (sg (hx (x.toNat % 16))).toNat), UInt8.ofNat (16 * (sg (hx (y.toNat / 16))).toNat + (sg (hx (y.toNat % 16))).toNat)]) = _
  simp only at a1 a2 a3 a4
  rw [a1, a2, a3, a4, if_neg (by omega)]
  simp only [Int.toNat_natCast]
  rw [show 16 * (x.toNat / 16) + x.toNat % 16 = x.toNat by omega, show 16 * (y.toNat / 16) + y.toNat % 16 = y.toNat by omega, UInt8.ofNat_toNat, UInt8.ofNat_toNat]
theorem line_of {s : Ar.S} {l : List UInt8} {k : Wd} {v : List Nat} {b : List UInt8} (h : parse l = some (k, v, b)) : line s l = (told (run1 s k v b).1, (run1 s k v b).2) := by unfold line; rw [h]
end Ru
end Go.Proofs.YtneebcniofolmaaGreatDoor
