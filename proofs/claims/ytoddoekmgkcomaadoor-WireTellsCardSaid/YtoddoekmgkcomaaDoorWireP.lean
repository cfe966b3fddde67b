/- Rows as bytes, in plain lists. -/
import Derived.Test.YtoddoekmgkcomaaDoorErr
import Derived.Lib.ConvBytes
import Derived.Laws.IdiomStrings
namespace Go.Proofs.YtoddoekmgkcomaaDoor
/-- sum of bytes -/
def wsum (l : List UInt8) : Nat := l.foldl (fun n c => (n * 256 + c.toNat) % 65521) 0
theorem wsum_snoc (l : List UInt8) (c : UInt8) : wsum (l ++ [c]) = (wsum l * 256 + c.toNat) % 65521 := by
  unfold wsum; rw [List.foldl_append]; rfl
theorem wsum_lt (l : List UInt8) : wsum l < 65521 := by
  rcases List.eq_nil_or_concat l with rfl | ⟨l', c, rfl⟩
  · decide
  · rw [List.concat_eq_append, wsum_snoc]; exact Nat.mod_lt _ (by decide)
/-- the fault of blocks -/
def blkF (ss : List ByteArray) : Int :=
  match ss with
  | [] => 0
  | s0 :: _ => if ss.all (fun s => s.size == s0.size) then (if s0.size > 16 then 1 else 0) else 3
def size0 (ss : List ByteArray) : Nat := match ss with | [] => 0 | s :: _ => s.size
theorem blkF_bad {ss : List ByteArray} {k : Nat} {s s0 : ByteArray} (h0 : ss[0]? = some s0) (hk : ss[k]? = some s) (h : s.size ≠ s0.size) : blkF ss = 3 := by
  cases ss with
  | nil => simp at h0
  | cons a l =>
    simp at h0
    subst h0
    unfold blkF
    simp only
    rw [if_neg]
    intro hall
    rw [List.all_eq_true] at hall
    have := hall s (List.mem_of_getElem? hk)
    simp at this
    exact h this
theorem blkF_good {ss : List ByteArray} {s0 : ByteArray} (h0 : ss[0]? = some s0) (h : ∀ (j : Nat) (s : ByteArray), ss[j]? = some s → s.size = s0.size) : blkF ss = if s0.size > 16 then 1 else 0 := by
  cases ss with
  | nil => simp at h0
  | cons a l =>
    simp at h0
    subst h0
    unfold blkF
    simp only
    rw [if_pos]
    rw [List.all_eq_true]
    intro s hs
    obtain ⟨j, hj⟩ := List.mem_iff_getElem?.1 hs
    simpa using h j s hj
theorem blkF_zero {ss : List ByteArray} (h : blkF ss = 0) : (∀ s ∈ ss, s.size = size0 ss) ∧ size0 ss ≤ 16 := by
  cases ss with
  | nil => exact ⟨(by intro s hs; cases hs), Nat.zero_le _⟩
  | cons a l =>
    unfold blkF at h
    simp only at h
    split at h
    · rename_i hall
      rw [List.all_eq_true] at hall
      split at h
      · omega
      · exact ⟨fun s hs => by simpa [size0] using hall s hs, by simp only [size0]; omega⟩
    · omega
/-- the bytes of a row, ahead of the sum -/
def body (row : Nat) (ss : List ByteArray) : Nat → ByteArray
  | 0 => ⟨#[UInt8.ofNat row, UInt8.ofNat ss.length, UInt8.ofNat (size0 ss)]⟩
  | k + 1 => body row ss k ++ ss.getD k ByteArray.empty
def packB (row : Nat) (ss : List ByteArray) : ByteArray :=
  let b := body row ss ss.length
  b ++ ⟨#[UInt8.ofNat (wsum b.data.toList / 256), UInt8.ofNat (wsum b.data.toList % 256)]⟩
theorem body_size {row : Nat} {ss : List ByteArray} (h : ∀ s ∈ ss, s.size = size0 ss) : ∀ k, k ≤ ss.length → (body row ss k).size = 3 + k * size0 ss
  | 0, _ => by simp [body, ByteArray.size]
  | k + 1, hk => by
    rw [body, ByteArray.size_append, body_size h k (by omega)]
    have hm : ss.getD k ByteArray.empty = ss[k] := by simp [List.getD_eq_getElem?_getD, List.getElem?_eq_getElem (show k < ss.length by omega)]
    rw [hm, h _ (List.getElem_mem _), Nat.add_mul]; omega
theorem packB_size {row : Nat} {ss : List ByteArray} (h : ∀ s ∈ ss, s.size = size0 ss) : (packB row ss).size = 5 + ss.length * size0 ss := by
  unfold packB
  simp only
  rw [ByteArray.size_append, body_size h _ (Nat.le_refl _)]
  simp [ByteArray.size]; omega
/-- the fault of a row -/
def rowF (row : Int) (ss : List ByteArray) : Int := if row < 0 ∨ 20 ≤ row then 1 else if 12 < ss.length then 4 else blkF ss
end Go.Proofs.YtoddoekmgkcomaaDoor
