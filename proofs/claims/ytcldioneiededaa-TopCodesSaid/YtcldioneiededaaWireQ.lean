/- One byte that is not known is known again: plain lists. -/
import Derived.Test.YtcldioneiededaaWireW
namespace Go.Proofs.Ytcldioneiededaa
theorem step_inj {n m c : Nat} (hn : n < 65521) (hm : m < 65521) (h : (n * 256 + c) % 65521 = (m * 256 + c) % 65521) : n = m := by omega
theorem step_inj2 {n c d : Nat} (hc : c < 256) (hd : d < 256) (h : (n * 256 + c) % 65521 = (n * 256 + d) % 65521) : c = d := by omega
def wfold (n : Nat) (l : List UInt8) : Nat := l.foldl (fun n c => (n * 256 + c.toNat) % 65521) n
theorem wfold_inj : ∀ (l : List UInt8) (n m : Nat), n < 65521 → m < 65521 → wfold n l = wfold m l → n = m
  | [], _, _, _, _, h => h
  | c :: l, n, m, hn, hm, h => step_inj hn hm (wfold_inj l _ _ (Nat.mod_lt _ (by decide)) (Nat.mod_lt _ (by decide)) h)
theorem wsum_app (A : List UInt8) (B : List UInt8) : wsum (A ++ B) = wfold (wsum A) B := by unfold wsum wfold; rw [List.foldl_append]
theorem wsum_one {A B : List UInt8} {c d : UInt8} (h : wsum (A ++ c :: B) = wsum (A ++ d :: B)) : c = d := by
  rw [wsum_app, wsum_app] at h
  have h2 := wfold_inj B ((wsum A * 256 + c.toNat) % 65521) ((wsum A * 256 + d.toNat) % 65521) (Nat.mod_lt _ (by decide)) (Nat.mod_lt _ (by decide)) h
  exact UInt8.toNat_inj.1 (step_inj2 c.toNat_lt d.toNat_lt h2)
/-- bytes whose last two are the sum of the others -/
def SumEnd (l : List UInt8) : Prop := ∃ M, l = M ++ [UInt8.ofNat (wsum M / 256), UInt8.ofNat (wsum M % 256)]
theorem sumEnd_one {A B : List UInt8} {c d : UInt8} (h : SumEnd (A ++ c :: B)) (h' : SumEnd (A ++ d :: B)) : c = d := by
  obtain ⟨M, hM⟩ := h
  obtain ⟨M', hM'⟩ := h'
  have hl : M.length = M'.length := by
    have h1 := congrArg List.length hM
    have h2 := congrArg List.length hM'
    simp at h1 h2; omega
  have hlen : A.length + B.length + 1 = M.length + 2 := by have h1 := congrArg List.length hM; simp at h1; omega
  by_cases hA : A.length < M.length
  · -- the byte lies ahead of the sum
    have hB : 2 ≤ B.length := by omega
    obtain ⟨B1, x, y, rfl⟩ : ∃ B1 x y, B = B1 ++ [x, y] := by
      refine ⟨B.take (B.length - 2), B[B.length - 2], B[B.length - 1], ?_⟩
      apply List.ext_getElem?
      intro i
      rw [List.getElem?_append, List.length_take, List.getElem?_take]
      by_cases h1 : i < B.length - 2
      · rw [if_pos (by omega), if_pos h1]
      · rw [if_neg (by omega), Nat.min_eq_left (by omega)]
        by_cases h2 : i = B.length - 2
        · subst h2; simp <;> omega
        · by_cases h3 : i = B.length - 1
          · subst h3
            rw [show B.length - 1 - (B.length - 2) = 1 by omega]; simp <;> omega
          · rw [List.getElem?_eq_none (by omega), List.getElem?_eq_none (by simp; omega)]
    have e1 : A ++ c :: (B1 ++ [x, y]) = (A ++ c :: B1) ++ [x, y] := by simp
    have e2 : A ++ d :: (B1 ++ [x, y]) = (A ++ d :: B1) ++ [x, y] := by simp
    rw [e1] at hM
    rw [e2] at hM'
    obtain ⟨m1, m2⟩ := List.append_inj' hM rfl
    obtain ⟨n1, n2⟩ := List.append_inj' hM' rfl
    simp only [List.cons.injEq, and_true] at m2 n2
    have hw := wsum_lt M
    have hw' := wsum_lt M'
    have k1 : wsum M / 256 = wsum M' / 256 := by
      have := congrArg UInt8.toNat (m2.1.symm.trans n2.1)
      simp only [UInt8.toNat_ofNat'] at this
      omega
    have k2 : wsum M % 256 = wsum M' % 256 := by
      have := congrArg UInt8.toNat (m2.2.symm.trans n2.2)
      simp only [UInt8.toNat_ofNat'] at this
      omega
    have k : wsum M = wsum M' := by omega
    rw [← m1, ← n1] at k
    exact wsum_one k
  · -- the byte is one of the sum's own two
    have e : M = M' := by
      have h1 : M = (A ++ c :: B).take M.length := by rw [hM]; simp
      have h2 : M' = (A ++ d :: B).take M.length := by rw [hM', hl]; simp
      rw [h1, h2, List.take_append_of_le_length (by omega), List.take_append_of_le_length (by omega)]
    subst e
    have := hM.trans hM'.symm
    have := List.append_cancel_left this
    injection this
def byteAt (b : ByteArray) (i : Nat) : Nat := (b.data.toList.getD i 0).toNat
def partsB (b : ByteArray) : List ByteArray := (List.range (byteAt b 1)).map fun j => b.extract (3 + j * byteAt b 2) (3 + j * byteAt b 2 + byteAt b 2)
structure OkB (b : ByteArray) : Prop where
  five : 5 ≤ b.size
  size : b.size = 5 + byteAt b 1 * byteAt b 2
  fault : rowF (byteAt b 0) (partsB b) = 0
  same : packB (byteAt b 0) (partsB b) = b
theorem packB_end (row : Nat) (ss : List ByteArray) : SumEnd (packB row ss).data.toList :=
  ⟨(body row ss ss.length).data.toList, by unfold packB; simp only; rw [ByteArray.data_append, Array.toList_append]⟩
theorem OkB.sumEnd {b : ByteArray} (h : OkB b) : SumEnd b.data.toList := by rw [← h.same]; exact packB_end _ _
theorem okB_one {b b' : ByteArray} {A B : List UInt8} {c d : UInt8} (h : OkB b) (h' : OkB b') (e : b.data.toList = A ++ c :: B) (e' : b'.data.toList = A ++ d :: B) : b = b' := by
  have h1 := h.sumEnd
  have h2 := h'.sumEnd
  rw [e] at h1
  rw [e'] at h2
  have := sumEnd_one h1 h2
  subst this
  exact ByteArray.ext (Array.toList_inj.1 (e.trans e'.symm))
/-- the bytes of the body as a list -/
theorem body_list (row : Nat) (ss : List ByteArray) : ∀ k, k ≤ ss.length → (body row ss k).data.toList = [UInt8.ofNat row, UInt8.ofNat ss.length, UInt8.ofNat (size0 ss)] ++ ((ss.take k).map fun s => s.data.toList).flatten
  | 0, _ => by simp [body]
  | k + 1, hk => by
    have hm : ss[k]? = some ss[k] := List.getElem?_eq_getElem (by omega)
    rw [body, ByteArray.data_append, Array.toList_append, body_list row ss k (by omega), List.take_add_one, hm, List.getD_eq_getElem?_getD, hm]
    simp
    rw [List.take_add_one, List.getElem?_map, hm]; simp
theorem flat_len {z : Nat} : ∀ (l : List ByteArray), (∀ s ∈ l, s.size = z) → ((l.map fun s => s.data.toList).flatten).length = l.length * z
  | [], _ => by simp
  | s :: l, h => by
    have h1 : s.data.toList.length = z := by have := h s (by simp); simpa using this
    rw [List.map_cons, List.flatten_cons, List.length_append, flat_len l (fun t ht => h t (by simp [ht])), h1, List.length_cons, Nat.add_mul]; omega
theorem flat_piece {z : Nat} : ∀ (l : List ByteArray) (k : Nat) (s : ByteArray) (T : List UInt8), (∀ s ∈ l, s.size = z) → l[k]? = some s → (((l.map fun s => s.data.toList).flatten ++ T).drop (k * z)).take z = s.data.toList
  | [], k, s, T, _, h => by simp at h
  | a :: l, 0, s, T, hz, h => by
    simp at h; subst h
    have h1 : a.data.toList.length = z := by have := hz a (by simp); simpa using this
    rw [Nat.zero_mul, List.drop_zero, List.map_cons, List.flatten_cons, List.append_assoc, List.take_append_of_le_length (by omega), List.take_of_length_le (by omega)]
  | a :: l, k + 1, s, T, hz, h => by
    have h1 : a.data.toList.length = z := by have := hz a (by simp); simpa using this
    rw [List.map_cons, List.flatten_cons, List.append_assoc, show (k + 1) * z = a.data.toList.length + k * z by rw [h1, Nat.add_mul]; omega, ← List.drop_drop, List.drop_left]
    exact flat_piece l k s T (fun t ht => hz t (by simp [ht])) (by simpa using h)
theorem packB_list {row : Nat} {ss : List ByteArray} : ∃ T : List UInt8, (packB row ss).data.toList = [UInt8.ofNat row, UInt8.ofNat ss.length, UInt8.ofNat (size0 ss)] ++ ((ss.map fun s => s.data.toList).flatten ++ T) := by
  refine ⟨[UInt8.ofNat (wsum (body row ss ss.length).data.toList / 256), UInt8.ofNat (wsum (body row ss ss.length).data.toList % 256)], ?_⟩
  unfold packB
  simp only
  rw [ByteArray.data_append, Array.toList_append, body_list row ss _ (Nat.le_refl _), List.take_length]
  simp
theorem rowF_zero {row : Int} {ss : List ByteArray} (h : rowF row ss = 0) : 0 ≤ row ∧ row < 20 ∧ ss.length ≤ 12 ∧ blkF ss = 0 := by
  unfold rowF at h
  split at h
  · omega
  · split at h
    · omega
    · exact ⟨by omega, by omega, by omega, h⟩
theorem pack_back {row : Nat} {ss : List ByteArray} (h : rowF row ss = 0) : byteAt (packB row ss) 0 = row ∧ byteAt (packB row ss) 1 = ss.length ∧ byteAt (packB row ss) 2 = size0 ss ∧ partsB (packB row ss) = ss := by
  obtain ⟨h0, h1, h2, h3⟩ := rowF_zero h
  obtain ⟨ha, hb⟩ := blkF_zero h3
  obtain ⟨T, hT⟩ := packB_list (row := row) (ss := ss)
  have e0 : byteAt (packB row ss) 0 = row := by unfold byteAt; rw [hT]; simp; omega
  have e1 : byteAt (packB row ss) 1 = ss.length := by unfold byteAt; rw [hT]; simp; omega
  have e2 : byteAt (packB row ss) 2 = size0 ss := by unfold byteAt; rw [hT]; simp; omega
  refine ⟨e0, e1, e2, ?_⟩
  unfold partsB
  rw [e1, e2]
  apply List.ext_getElem?
  intro k
  rw [List.getElem?_map]
  by_cases hk : k < ss.length
  · rw [List.getElem?_range hk, List.getElem?_eq_getElem hk]
    show some _ = some _
    refine congrArg some ?_
    apply ByteArray.ext
    apply Array.toList_inj.1
    have hp := flat_piece ss k ss[k] T ha (List.getElem?_eq_getElem hk)
    rw [← hp]
    have : (packB row ss).data.toList.drop 3 = (ss.map fun s => s.data.toList).flatten ++ T := by rw [hT]; rfl
    rw [← this, List.drop_drop]
    rw [ByteArray.data_extract, Array.toList_extract, List.extract_eq_take_drop]
    congr 1
    omega
  · rw [List.getElem?_eq_none (by simpa using hk), List.getElem?_eq_none (by omega)]; rfl
theorem pack_ok {row : Nat} {ss : List ByteArray} (h : rowF row ss = 0) : OkB (packB row ss) := by
  obtain ⟨e0, e1, e2, e3⟩ := pack_back h
  obtain ⟨_, _, _, h3⟩ := rowF_zero h
  obtain ⟨ha, _⟩ := blkF_zero h3
  have hs := packB_size (row := row) ha
  exact ⟨by omega, by rw [e1, e2]; exact hs, by rw [e0, e3]; exact h, by rw [e0, e3]⟩
/-- with one byte another one -/
def setB (b : ByteArray) (i : Nat) (c : UInt8) : ByteArray := ⟨b.data.setIfInBounds i c⟩
theorem setB_size (b : ByteArray) (i : Nat) (c : UInt8) : (setB b i c).size = b.size := by
  unfold setB; show (b.data.setIfInBounds i c).size = b.data.size; exact Array.size_setIfInBounds
theorem setB_list {b : ByteArray} {i : Nat} (c : UInt8) (h : i < b.size) : (setB b i c).data.toList = b.data.toList.take i ++ c :: b.data.toList.drop (i + 1) := by
  unfold setB
  simp only [Array.toList_setIfInBounds]
  rw [List.set_eq_take_append_cons_drop, if_pos (by simpa using h)]
theorem setB_set (b : ByteArray) (i : Nat) (c d : UInt8) : setB (setB b i c) i d = setB b i d := by
  unfold setB; simp only [Array.setIfInBounds_setIfInBounds]
theorem setB_same {b : ByteArray} {i : Nat} (h : i < b.size) : setB b i (b.data.toList.getD i 0) = b := by
  apply ByteArray.ext
  apply Array.toList_inj.1
  have hl : i < b.data.toList.length := by simpa using h
  unfold setB
  simp only [Array.toList_setIfInBounds]
  rw [List.getD_eq_getElem?_getD, List.getElem?_eq_getElem hl]
  exact List.set_getElem_self hl
theorem setB_ok {b : ByteArray} {i : Nat} {c : UInt8} (h : OkB b) (hi : i < b.size) : OkB (setB b i c) ↔ c = b.data.toList.getD i 0 := by
  constructor
  · intro h'
    have e := okB_one h' h (setB_list c hi) (by have := setB_list (b.data.toList.getD i 0) hi; rw [setB_same hi] at this; exact this)
    have e1 := setB_list c hi
    have e2 := setB_list (b.data.toList.getD i 0) hi
    rw [setB_same hi] at e2
    rw [e] at e1
    have := List.append_cancel_left (e1.symm.trans e2)
    injection this with h1 _
  · rintro rfl
    rw [setB_same hi]; exact h
end Go.Proofs.Ytcldioneiededaa
