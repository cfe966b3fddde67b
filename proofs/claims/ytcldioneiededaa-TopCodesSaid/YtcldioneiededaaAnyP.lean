/- What the law CodeAny asks: parity that is right, a byte that is another one, any so many parts. Plain. -/
import Derived.Test.YtcldioneiededaaCodP
import Derived.Test.YtcldioneiededaaCodR
namespace Go.Proofs.Ytcldioneiededaa
set_option linter.unusedVariables false
open Mx Gv
theorem cPart_data {k i : Nat} {data : List ByteArray} (hd : data.length = k) (hall : ∀ s ∈ data, s.size = size0 data) (hi : i < k) : data[i]? = some (cPart k data i) := by
  rw [List.getElem?_eq_getElem (by omega)]
  congr 1
  unfold cPart sumS comb
  have hsz : data[i].size = size0 data := hall _ (List.getElem_mem _)
  have hl : data[i].data.toList.length = size0 data := by rw [Array.length_toList]; exact hsz
  have hrow : tab (size0 data) (fun j => xsum data.length (fun r => Gf.mul (cG k i r) (ent data r j))) = data[i].data.toList := by
    rw [← tab_self data[i].data.toList, hl]
    refine tab_ext (fun j hj => ?_)
    have e : xsum data.length (fun r => Gf.mul (cG k i r) (ent data r j)) = xsum k (fun r => Gf.mul (un i r) (ent data r j)) := by
      rw [hd]
      exact xsum_congr (fun r _ => by unfold cG; rw [if_pos hi])
    rw [e, pick_mm hi (fun r => ent data r j)]
    unfold ent
    rw [List.getD_eq_getElem?_getD, List.getElem?_eq_getElem (by omega)]; rfl
  rw [hrow, txt_self]
def allP (k m : Nat) (data : List ByteArray) : List ByteArray := data ++ encR k m data
theorem allP_len {k m : Nat} {data : List ByteArray} (hd : data.length = k) : (allP k m data).length = k + m := by unfold allP; rw [List.length_append, encR_len, hd]
theorem allP_get {k m i : Nat} {data : List ByteArray} (hd : data.length = k) (hall : ∀ s ∈ data, s.size = size0 data) (hi : i < k + m) : (allP k m data)[i]? = some (cPart k data i) := by
  unfold allP
  by_cases h : i < k
  · rw [List.getElem?_append_left (by omega)]; exact cPart_data hd hall h
  · rw [List.getElem?_append_right (by omega), hd, encR_get data (by omega), show k + (i - k) = i by omega]
theorem blkF_all {ss : List ByteArray} {n0 : Nat} (h : ∀ s ∈ ss, s.size = n0) (hn : n0 ≤ 16) : blkF ss = 0 := by
  cases ss with
  | nil => rfl
  | cons a t =>
    rw [blkF_good (s0 := a) rfl (fun j s hs => by rw [h s (List.mem_of_getElem? hs), h a (List.mem_cons_self ..)]), if_neg (by have := h a (List.mem_cons_self ..); omega)]
theorem allP_size {k m : Nat} {data : List ByteArray} (hd : data.length = k) (hall : ∀ s ∈ data, s.size = size0 data) : ∀ s ∈ allP k m data, s.size = size0 data := fun s hs => by
  obtain ⟨i, hi⟩ := List.mem_iff_getElem?.1 hs
  have hl := (List.getElem?_eq_some_iff.1 hi).1
  rw [allP_len hd] at hl
  rw [allP_get hd hall hl] at hi
  rw [← Option.some.inj hi]; exact cPart_size _ _ _
theorem codF_ok {k m : Nat} (h1 : 1 ≤ k) (h2 : k + m ≤ 12) : codF (k : Int) (m : Int) = 0 := by unfold codF; rw [if_neg (by omega)]
theorem any_right {k m : Nat} {data : List ByteArray} (h1 : 1 ≤ k) (h2 : k + m ≤ 12) (hd : data.length = k) (hall : ∀ s ∈ data, s.size = size0 data) (hn : size0 data ≤ 16) :
    rightF k m (allP k m data) = 0 ∧ rightB k m (allP k m data) = true := by
  have hF : rightF k m (allP k m data) = 0 := by
    unfold rightF
    rw [codF_ok h1 h2, if_neg (by simp), if_neg (by rw [allP_len hd]; simp)]
    exact blkF_all (allP_size hd hall) hn
  refine ⟨hF, ?_⟩
  unfold rightB
  rw [decide_eq_true_eq]
  refine ⟨hF, ?_⟩
  show encR k m ((allP k m data).take k) = (allP k m data).drop k
  unfold allP
  rw [← hd, List.take_left, List.drop_left]
theorem xsum_one {n i : Nat} (hi : i < n) {f g : Nat → UInt8} (h : ∀ r, r < n → r ≠ i → f r = g r) (hne : f i ≠ g i) : xsum n f ≠ xsum n g := by
  intro e
  have h2 : xsum n (fun r => f r ^^^ g r) = 0 := by rw [xsum_xor, e, Gf.add_self]
  rw [xsum_single hi _ (fun r hr hri => by rw [h r hr hri, Gf.add_self])] at h2
  exact hne (Gf.add_eq_zero.1 h2)
/-- with one byte another one parity is wrong -/
theorem any_wrong {k m i j : Nat} {data : List ByteArray} {s' : ByteArray} (h1 : 1 ≤ k) (h2 : k + m ≤ 12) (hm : 0 < m) (hd : data.length = k) (hall : ∀ s ∈ data, s.size = size0 data) (hn : size0 data ≤ 16) (hi : i < k + m) (hj : j < size0 data)
    (hs : s'.size = size0 data) (hne : at' s'.data.toList j ≠ at' (cPart k data i).data.toList j) :
    rightF k m ((allP k m data).set i s') = 0 ∧ rightB k m ((allP k m data).set i s') = false := by
  have hsz : ∀ s ∈ (allP k m data).set i s', s.size = size0 data := fun s hs' => by
    rcases List.mem_or_eq_of_mem_set hs' with h | h
    · exact allP_size hd hall s h
    · rw [h]; exact hs
  have hF : rightF k m ((allP k m data).set i s') = 0 := by
    unfold rightF
    rw [codF_ok h1 h2, if_neg (by simp), if_neg (by rw [List.length_set, allP_len hd]; simp)]
    exact blkF_all hsz hn
  refine ⟨hF, ?_⟩
  unfold rightB
  refine dec_f (fun hc => ?_)
  have he : encR k m (((allP k m data).set i s').take k) = ((allP k m data).set i s').drop k := hc.2
  by_cases hik : i < k
  · -- a block of data
    have ht : ((allP k m data).set i s').take k = data.set i s' := by
      rw [List.take_set]
      unfold allP
      rw [← hd, List.take_left]
    have hdr : ((allP k m data).set i s').drop k = encR k m data := by
      rw [List.drop_set, if_pos hik]
      unfold allP
      rw [← hd, List.drop_left]
    rw [ht, hdr] at he
    have h0 : (encR k m (data.set i s'))[0]? = (encR k m data)[0]? := by rw [he]
    rw [encR_get _ hm, encR_get _ hm] at h0
    have h3 := Option.some.inj h0
    have hz : size0 (data.set i s') = size0 data := by
      cases hdc : data with
      | nil => rw [hdc] at hd; simp at hd; omega
      | cons a t =>
        cases i with
        | zero => show s'.size = a.size; rw [hs, hdc]; rfl
        | succ i => rfl
    have h4 : at' (cPart k (data.set i s') (k + 0)).data.toList j = at' (cPart k data (k + 0)).data.toList j := by rw [h3]
    unfold cPart at h4
    rw [ent_sum (by rw [hz]; exact hj), ent_sum hj, List.length_set, hd] at h4
    refine xsum_one (i := i) hik (fun r hr hri => ?_) ?_ h4
    · congr 1
      unfold ent
      rw [List.getD_eq_getElem?_getD, List.getElem?_set_ne (Ne.symm hri), ← List.getD_eq_getElem?_getD]
    · intro hc2
      have e1 : ent (data.set i s') i j = at' s'.data.toList j := by
        unfold ent
        rw [List.getD_eq_getElem?_getD, List.getElem?_set_self (by omega)]; rfl
      have e2 : ent data i j = at' (cPart k data i).data.toList j := by
        unfold ent
        rw [List.getD_eq_getElem?_getD, cPart_data hd hall hik]; rfl
      rw [e1, e2] at hc2
      refine hne (Gf.mul_cancel ?_ hc2)
      unfold cG
      rw [if_neg (by omega)]
      refine Gf.inv_ne (ne_add (fun e => ?_))
      have := by8_inj (by omega) (by omega) e
      omega
  · have ht : ((allP k m data).set i s').take k = data := by
      rw [List.take_set_of_le (by omega)]
      unfold allP
      rw [← hd, List.take_left]
    rw [ht] at he
    have h0 : (encR k m data)[i - k]? = (((allP k m data).set i s').drop k)[i - k]? := by rw [he]
    rw [encR_get _ (by omega), List.getElem?_drop, show k + (i - k) = i by omega, List.getElem?_set_self (by rw [allP_len hd]; exact hi)] at h0
    apply hne
    rw [← Option.some.inj h0]
/-- what is left of the parts -/
def junkP (ps : List ByteArray) (ls : List Bool) (junk : ByteArray) (q : Nat) : List ByteArray := (List.range ps.length).map (fun i => if i < q ∧ los ls i = true then junk else ps.getD i ⟨#[]⟩)
theorem junk_len (ps : List ByteArray) (ls : List Bool) (junk : ByteArray) (q : Nat) : (junkP ps ls junk q).length = ps.length := by unfold junkP; simp
theorem junk_get {ps : List ByteArray} {ls : List Bool} {junk : ByteArray} {q i : Nat} (hi : i < ps.length) : (junkP ps ls junk q)[i]? = some (if i < q ∧ los ls i = true then junk else ps.getD i ⟨#[]⟩) := by
  unfold junkP; rw [List.getElem?_map, List.getElem?_range hi]; rfl
theorem junk_zero (ps : List ByteArray) (ls : List Bool) (junk : ByteArray) : junkP ps ls junk 0 = ps := by
  apply List.ext_getElem?
  intro i
  by_cases hi : i < ps.length
  · rw [junk_get hi, if_neg (by omega), List.getD_eq_getElem?_getD, List.getElem?_eq_getElem hi]; rfl
  · rw [List.getElem?_eq_none (by rw [junk_len]; omega), List.getElem?_eq_none (by omega)]
theorem junk_no {ps : List ByteArray} {ls : List Bool} {junk : ByteArray} {q : Nat} (h : los ls q = false) : junkP ps ls junk (q + 1) = junkP ps ls junk q := by
  unfold junkP
  refine List.map_congr_left (fun i _ => ?_)
  by_cases e : i = q
  · subst e; rw [if_neg (fun hc => by rw [h] at hc; cases hc.2), if_neg (fun hc => by omega)]
  · by_cases c : i < q ∧ los ls i = true
    · rw [if_pos c, if_pos ⟨by omega, c.2⟩]
    · rw [if_neg c, if_neg (fun hc => c ⟨by omega, hc.2⟩)]
theorem junk_yes {ps : List ByteArray} {ls : List Bool} {junk : ByteArray} {q : Nat} (h : los ls q = true) : (junkP ps ls junk q).set q junk = junkP ps ls junk (q + 1) := by
  apply List.ext_getElem?
  intro i
  rw [List.getElem?_set, junk_len]
  by_cases hi : i < ps.length
  · rw [junk_get hi, junk_get hi]
    by_cases e : q = i
    · subst e; rw [if_pos rfl, if_pos hi, if_pos ⟨by omega, h⟩]
    · rw [if_neg e]
      by_cases c : i < q ∧ los ls i = true
      · rw [if_pos c, if_pos ⟨by omega, c.2⟩]
      · rw [if_neg c, if_neg (fun hc => c ⟨by omega, hc.2⟩)]
  · rw [List.getElem?_eq_none (by rw [junk_len]; omega), List.getElem?_eq_none (by rw [junk_len]; omega)]
    split
    · rw [if_neg (by omega)]
    · rfl
theorem hx_los {ls : List Bool} {n i : Nat} (h : i < (hx ls n).length) : los ls ((hx ls n).getD i 0) = false := by
  rw [List.getD_eq_getElem?_getD, List.getElem?_eq_getElem h]
  have := List.getElem_mem h
  have h2 : (hx ls n)[i] ∈ (List.range n).filter (fun i => !(los ls i)) := this
  rw [List.mem_filter] at h2
  have h3 := h2.2
  show los ls (hx ls n)[i] = false
  cases hh : los ls (hx ls n)[i] with
  | false => rfl
  | true => rw [hh] at h3; cases h3
theorem any_dec {k m : Nat} {data : List ByteArray} {ls : List Bool} {junk : ByteArray} (h1 : 1 ≤ k) (h2 : k + m ≤ 12) (hd : data.length = k) (hall : ∀ s ∈ data, s.size = size0 data) (hn : size0 data ≤ 16) :
    decF k (k + m) (junkP (allP k m data) ls junk (k + m)) ls = (if (hx ls (k + m)).length < k then 8 else 0) ∧
    (¬ (hx ls (k + m)).length < k → decR k (k + m) (junkP (allP k m data) ls junk (k + m)) ls = data) := by
  have hv : ∀ i, i < (hx ls (k + m)).length → (hvS (junkP (allP k m data) ls junk (k + m)) ls (k + m))[i]? = some (cPart k data ((hx ls (k + m)).getD i 0)) := fun i hi => by
    have hlt := hx_lt hi
    rw [hvS_at hi, List.getD_eq_getElem?_getD, junk_get (by rw [allP_len hd]; exact hlt), if_neg (fun hc => by rw [hx_los hi] at hc; cases hc.2), List.getD_eq_getElem?_getD, allP_get hd hall hlt]; rfl
  constructor
  · unfold decF
    by_cases hc : (hx ls (k + m)).length < k
    · rw [if_pos hc, if_pos hc]
    · rw [if_neg hc, if_neg hc]
      have hb : blkF (hvS (junkP (allP k m data) ls junk (k + m)) ls (k + m)) = 0 := blkF_all (n0 := size0 data) (fun s hs => by
        obtain ⟨i, hi⟩ := List.mem_iff_getElem?.1 hs
        have hl := (List.getElem?_eq_some_iff.1 hi).1
        rw [hvS_len] at hl
        rw [hv i hl] at hi
        rw [← Option.some.inj hi]; exact cPart_size _ _ _) hn
      rw [hb, if_neg (by simp), dN_full (by omega) h2, if_neg (by omega)]
  · intro hc
    exact dec_right (by omega) h2 hd h1 hall (fun i hi => hv i (by omega))
end Go.Proofs.Ytcldioneiededaa
