/- Parts that are healed by P and Q: plain. · Parts of which two at most are lost: all come back. Plain. -/
import Derived.Test.YtneebcniofolmaaGreatDoorPqE
namespace Go.Proofs.YtneebcniofolmaaGreatDoor
set_option linter.unusedVariables false
namespace Gv
/-- an entry of a block -/
def en (b : ByteArray) (j : Nat) : UInt8 := at' b.data.toList j
theorem en_txt {n : Nat} (f : Nat → UInt8) {j : Nat} (h : j < n) : en (txt (tab n f)) j = f j := by unfold en; rw [txt_data]; exact tab_at f h
theorem block_ext {a b : ByteArray} {n : Nat} (ha : a.size = n) (hb : b.size = n) (h : ∀ j, j < n → en a j = en b j) : a = b := by
  rw [← txt_self a, ← txt_self b]
  congr 1
  have la : a.data.toList.length = n := by rw [Array.length_toList]; exact ha
  have lb : b.data.toList.length = n := by rw [Array.length_toList]; exact hb
  exact ext (by rw [la, lb]) (fun j hj => h j (by omega))
theorem size_cons (b : ByteArray) (l : List ByteArray) : size0 (b :: l) = b.size := rfl
def plusS (a b : ByteArray) : ByteArray := sumS [a, b] (fun _ => 1)
def timesS (a : ByteArray) (c : UInt8) : ByteArray := sumS [a] (fun _ => c)
theorem plus_size (a b : ByteArray) : (plusS a b).size = a.size := sumS_size _ _
theorem times_size (a : ByteArray) (c : UInt8) : (timesS a c).size = a.size := sumS_size _ _
theorem en_sumS (ls : List ByteArray) (t : Nat → UInt8) {j : Nat} (h : j < size0 ls) : en (sumS ls t) j = xsum ls.length (fun i => Gf.mul (t i) (ent ls i j)) := by
  unfold sumS comb; rw [en_txt _ h]
theorem en_plus (a b : ByteArray) {j : Nat} (h : j < a.size) : en (plusS a b) j = en a j ^^^ en b j := by
  unfold plusS
  rw [en_sumS _ _ (show j < size0 [a, b] from h)]
  show (0 ^^^ Gf.mul 1 (en a j)) ^^^ Gf.mul 1 (en b j) = _
  rw [Gf.one_mul, Gf.one_mul, Gf.zero_add]
theorem en_times (a : ByteArray) (c : UInt8) {j : Nat} (h : j < a.size) : en (timesS a c) j = Gf.mul c (en a j) := by
  unfold timesS
  rw [en_sumS _ _ (show j < size0 [a] from h)]
  show 0 ^^^ Gf.mul c (en a j) = _
  rw [Gf.zero_add]
theorem size0_of {ls : List ByteArray} {n : Nat} (h : ∀ s ∈ ls, s.size = n) (h0 : 0 < ls.length) : size0 ls = n := by
  cases ls with
  | nil => simp at h0
  | cons a l => exact h a List.mem_cons_self
theorem ent_en (ls : List ByteArray) (i j : Nat) : ent ls i j = en (ls.getD i ⟨#[]⟩) j := rfl
theorem P_size {ls : List ByteArray} : (P ls).size = size0 ls := sumS_size _ _
theorem Q_size {ls : List ByteArray} : (Q ls).size = size0 ls := sumS_size _ _
theorem en_P {ls : List ByteArray} {n : Nat} (h : ∀ s ∈ ls, s.size = n) (h0 : 0 < ls.length) {j : Nat} (hj : j < n) : en (P ls) j = xsum ls.length (fun i => ent ls i j) := by
  unfold P
  rw [en_sumS _ _ (by rw [size0_of h h0]; exact hj)]
  exact xsum_congr (fun i _ => Gf.one_mul _)
theorem en_Q {ls : List ByteArray} {n : Nat} (h : ∀ s ∈ ls, s.size = n) (h0 : 0 < ls.length) {j : Nat} (hj : j < n) : en (Q ls) j = xsum ls.length (fun i => Gf.mul (Gf.pow 2 i) (ent ls i j)) := by
  unfold Q
  rw [en_sumS _ _ (by rw [size0_of h h0]; exact hj)]
/-- noughts -/
def zer (n : Nat) : ByteArray := txt (tab n (fun _ => 0))
theorem zer_size (n : Nat) : (zer n).size = n := by unfold zer; rw [txt_size, tab_len]
theorem en_zer {n j : Nat} (h : j < n) : en (zer n) j = 0 := en_txt _ h
/-- lost data healed -/
def healed (data : List ByteArray) (gone : List Nat) (p q : ByteArray) (lostP lostQ : Bool) : List ByteArray :=
  match gone with
  | [i, k] =>
    let x := timesS (plusS (timesS (plusS (P data) p) (Gf.pow 2 k)) (plusS (Q data) q)) (Gf.inv (Gf.pow 2 i ^^^ Gf.pow 2 k))
    (data.set i x).set k (plusS (plusS (P data) p) x)
  | [i] => if lostP = false then data.set i (plusS (P data) p) else if lostQ = false then data.set i (timesS (plusS (Q data) q) (Gf.inv (Gf.pow 2 i))) else data
  | _ => data
theorem xsum_two {n i k : Nat} (hi : i < n) (hk : k < n) (hik : i ≠ k) (f : Nat → UInt8) (h : ∀ j, j < n → j ≠ i → j ≠ k → f j = 0) : xsum n f = f i ^^^ f k := by
  have e : xsum n f = xsum n (fun j => (if j = i then f i else 0) ^^^ (if j = k then f k else 0)) := xsum_congr (fun j hj => by
    by_cases h1 : j = i
    · subst h1; rw [if_pos rfl, if_neg hik, Gf.add_zero]
    · by_cases h2 : j = k
      · subst h2; rw [if_neg h1, if_pos rfl, Gf.zero_add]
      · rw [if_neg h1, if_neg h2, h j hj h1 h2]; rfl)
  rw [e, xsum_xor, xsum_single hi _ (fun j _ hj => by rw [if_neg hj]), xsum_single hk _ (fun j _ hj => by rw [if_neg hj]), if_pos rfl, if_pos rfl]
/-- data of which some are noughts: what is wrong with P and Q -/
structure Less (ds data : List ByteArray) (n : Nat) (gone : List Nat) : Prop where
  len : data.length = ds.length
  pos : 0 < ds.length
  sz : ∀ s ∈ ds, s.size = n
  same : ∀ i, i < ds.length → i ∉ gone → data.getD i ⟨#[]⟩ = ds.getD i ⟨#[]⟩
  zero : ∀ i, i < ds.length → i ∈ gone → data.getD i ⟨#[]⟩ = zer n
  low : ∀ i ∈ gone, i < ds.length
theorem getD_mem {ls : List ByteArray} {i : Nat} (h : i < ls.length) : ls.getD i ⟨#[]⟩ ∈ ls := by
  rw [List.getD_eq_getElem?_getD, List.getElem?_eq_getElem h]; exact List.getElem_mem h
theorem Less.dsz {ds data : List ByteArray} {n : Nat} {gone : List Nat} (h : Less ds data n gone) : ∀ s ∈ data, s.size = n := by
  intro s hs
  obtain ⟨i, hi⟩ := List.mem_iff_getElem?.1 hs
  have hil := (List.getElem?_eq_some_iff.1 hi).1
  have e : data.getD i ⟨#[]⟩ = s := by rw [List.getD_eq_getElem?_getD, hi]; rfl
  rw [← e]
  by_cases hg : i ∈ gone
  · rw [h.zero i (by rw [← h.len]; exact hil) hg, zer_size]
  · rw [h.same i (by rw [← h.len]; exact hil) hg]; exact h.sz _ (getD_mem (by rw [← h.len]; exact hil))
theorem Less.dp {ds data : List ByteArray} {n : Nat} {gone : List Nat} (h : Less ds data n gone) {j : Nat} (hj : j < n) :
    en (plusS (P data) (P ds)) j = xsum ds.length (fun i => if i ∈ gone then ent ds i j else 0) ∧ en (plusS (Q data) (Q ds)) j = xsum ds.length (fun i => if i ∈ gone then Gf.mul (Gf.pow 2 i) (ent ds i j) else 0) := by
  have hd := h.dsz
  have h0 : 0 < data.length := by rw [h.len]; exact h.pos
  rw [en_plus _ _ (by rw [P_size, size0_of hd h0]; exact hj), en_plus _ _ (by rw [Q_size, size0_of hd h0]; exact hj), en_P hd h0 hj, en_P h.sz h.pos hj, en_Q hd h0 hj, en_Q h.sz h.pos hj, h.len, ← xsum_xor, ← xsum_xor]
  have key : ∀ i, i < ds.length → ent data i j = if i ∈ gone then 0 else ent ds i j := by
    intro i hi
    rw [ent_en, ent_en]
    by_cases hg : i ∈ gone
    · rw [h.zero i hi hg, if_pos hg, en_zer hj]
    · rw [h.same i hi hg, if_neg hg]
  constructor
  · refine xsum_congr (fun i hi => ?_)
    show ent data i j ^^^ ent ds i j = _
    rw [key i hi]
    by_cases hg : i ∈ gone
    · rw [if_pos hg, if_pos hg, Gf.zero_add]
    · rw [if_neg hg, if_neg hg, Gf.add_self]
  · refine xsum_congr (fun i hi => ?_)
    show Gf.mul _ (ent data i j) ^^^ Gf.mul _ (ent ds i j) = _
    rw [key i hi]
    by_cases hg : i ∈ gone
    · rw [if_pos hg, if_pos hg, Gf.mul_zero, Gf.zero_add]
    · rw [if_neg hg, if_neg hg, Gf.add_self]
theorem pow_ne {i k : Nat} (hi : i < 255) (hk : k < 255) (h : i ≠ k) : Gf.pow 2 i ^^^ Gf.pow 2 k ≠ 0 := fun e => h (Gf.pow_two_inj hi hk (Gf.add_eq_zero.1 e))
theorem set_getD {ls : List ByteArray} {i k : Nat} {x : ByteArray} (hi : i < ls.length) : (ls.set i x).getD k ⟨#[]⟩ = if k = i then x else ls.getD k ⟨#[]⟩ := by
  rw [List.getD_eq_getElem?_getD, List.getElem?_set]
  by_cases e : i = k
  · subst e; rw [if_pos rfl, if_pos hi, if_pos rfl]; rfl
  · rw [if_neg e, if_neg (fun h => e h.symm), List.getD_eq_getElem?_getD]
theorem list_ext {a b : List ByteArray} (hl : a.length = b.length) (h : ∀ i, i < a.length → a.getD i ⟨#[]⟩ = b.getD i ⟨#[]⟩) : a = b := by
  apply List.ext_getElem? 
  intro i
  by_cases hi : i < a.length
  · have := h i hi
    rw [List.getD_eq_getElem?_getD, List.getD_eq_getElem?_getD, List.getElem?_eq_getElem hi, List.getElem?_eq_getElem (by omega)] at this
    rw [List.getElem?_eq_getElem hi, List.getElem?_eq_getElem (by omega)]
    exact congrArg some this
  · rw [List.getElem?_eq_none (by omega), List.getElem?_eq_none (by omega)]
/-- two lost -/
theorem healed_two {ds data : List ByteArray} {n i k : Nat} (h : Less ds data n [i, k]) (hik : i ≠ k) (h255 : ds.length ≤ 255) (lp lq : Bool) : healed data [i, k] (P ds) (Q ds) lp lq = ds := by
  have hi := h.low i (by simp)
  have hk := h.low k (by simp)
  have hd := h.dsz
  have h0 : 0 < data.length := by rw [h.len]; exact h.pos
  have hz : (P data).size = n := by rw [P_size, size0_of hd h0]
  have hzq : (Q data).size = n := by rw [Q_size, size0_of hd h0]
  have ep : ∀ j, j < n → en (plusS (P data) (P ds)) j = ent ds i j ^^^ ent ds k j := by
    intro j hj
    rw [(h.dp hj).1, xsum_two hi hk hik _ (fun q _ h1 h2 => by rw [if_neg (by simp [h1, h2])]), if_pos (by simp), if_pos (by simp)]
  have eq : ∀ j, j < n → en (plusS (Q data) (Q ds)) j = Gf.mul (Gf.pow 2 i) (ent ds i j) ^^^ Gf.mul (Gf.pow 2 k) (ent ds k j) := by
    intro j hj
    rw [(h.dp hj).2, xsum_two hi hk hik _ (fun q _ h1 h2 => by rw [if_neg (by simp [h1, h2])]), if_pos (by simp), if_pos (by simp)]
  have ex : timesS (plusS (timesS (plusS (P data) (P ds)) (Gf.pow 2 k)) (plusS (Q data) (Q ds))) (Gf.inv (Gf.pow 2 i ^^^ Gf.pow 2 k)) = ds.getD i ⟨#[]⟩ := by
    have s1 : (plusS (P data) (P ds)).size = n := by rw [plus_size, hz]
    have s2 : (timesS (plusS (P data) (P ds)) (Gf.pow 2 k)).size = n := by rw [times_size, s1]
    have s3 : (plusS (timesS (plusS (P data) (P ds)) (Gf.pow 2 k)) (plusS (Q data) (Q ds))).size = n := by rw [plus_size, s2]
    refine block_ext (n := n) (by rw [times_size, s3]) (h.sz _ (getD_mem hi)) (fun j hj => ?_)
    rw [en_times _ _ (by rw [s3]; exact hj), en_plus _ _ (by rw [s2]; exact hj), en_times _ _ (by rw [s1]; exact hj), ep j hj, eq j hj, Gf.mul_add (Gf.pow 2 k)]
    show Gf.mul _ (Gf.mul (Gf.pow 2 k) (ent ds i j) ^^^ Gf.mul (Gf.pow 2 k) (ent ds k j) ^^^ (Gf.mul (Gf.pow 2 i) (ent ds i j) ^^^ Gf.mul (Gf.pow 2 k) (ent ds k j))) = ent ds i j
    have e : Gf.mul (Gf.pow 2 k) (ent ds i j) ^^^ Gf.mul (Gf.pow 2 k) (ent ds k j) ^^^ (Gf.mul (Gf.pow 2 i) (ent ds i j) ^^^ Gf.mul (Gf.pow 2 k) (ent ds k j)) = Gf.mul (Gf.pow 2 i ^^^ Gf.pow 2 k) (ent ds i j) := by
      rw [Gf.add_mul]
      generalize Gf.mul (Gf.pow 2 k) (ent ds i j) = u
      generalize Gf.mul (Gf.pow 2 k) (ent ds k j) = v
      generalize Gf.mul (Gf.pow 2 i) (ent ds i j) = t
      rw [Gf.add_assoc, Gf.add_left_comm v t v, Gf.add_self, Gf.add_zero, Gf.add_comm]
    rw [e, ← Gf.mul_assoc, Gf.inv_mul (pow_ne (by omega) (by omega) hik), Gf.one_mul]
  have ey : plusS (plusS (P data) (P ds)) (ds.getD i ⟨#[]⟩) = ds.getD k ⟨#[]⟩ := by
    have s1 : (plusS (P data) (P ds)).size = n := by rw [plus_size, hz]
    refine block_ext (n := n) (by rw [plus_size, s1]) (h.sz _ (getD_mem hk)) (fun j hj => ?_)
    rw [en_plus _ _ (by rw [s1]; exact hj), ep j hj]
    show (ent ds i j ^^^ ent ds k j) ^^^ ent ds i j = ent ds k j
    rw [Gf.add_comm (ent ds i j) (ent ds k j), Gf.add_assoc, Gf.add_self, Gf.add_zero]
  show ((data.set i _).set k _) = ds
  rw [ex, ey]
  refine list_ext (by rw [List.length_set, List.length_set, h.len]) (fun q hq => ?_)
  rw [List.length_set, List.length_set, h.len] at hq
  rw [set_getD (by rw [List.length_set, h.len]; exact hk), set_getD (by rw [h.len]; exact hi)]
  by_cases e1 : q = k
  · rw [if_pos e1, e1]
  · rw [if_neg e1]
    by_cases e2 : q = i
    · rw [if_pos e2, e2]
    · rw [if_neg e2]; exact h.same q hq (by simp [e1, e2])
/-- one lost, by P -/
theorem healed_p {ds data : List ByteArray} {n i : Nat} (h : Less ds data n [i]) (q : ByteArray) (lq : Bool) : healed data [i] (P ds) q false lq = ds := by
  have hi := h.low i (by simp)
  have hd := h.dsz
  have h0 : 0 < data.length := by rw [h.len]; exact h.pos
  have hz : (P data).size = n := by rw [P_size, size0_of hd h0]
  have ex : plusS (P data) (P ds) = ds.getD i ⟨#[]⟩ := by
    refine block_ext (n := n) (by rw [plus_size, hz]) (h.sz _ (getD_mem hi)) (fun j hj => ?_)
    rw [(h.dp hj).1, xsum_single hi _ (fun q _ h1 => by rw [if_neg (by simp [h1])]), if_pos (by simp)]
    rfl
  have e0 : healed data [i] (P ds) q false lq = data.set i (plusS (P data) (P ds)) := rfl
  rw [e0, ex]
  refine list_ext (by rw [List.length_set, h.len]) (fun q hq => ?_)
  rw [List.length_set, h.len] at hq
  rw [set_getD (by rw [h.len]; exact hi)]
  by_cases e2 : q = i
  · rw [if_pos e2, e2]
  · rw [if_neg e2]; exact h.same q hq (by simp [e2])
/-- one lost, by Q -/
theorem healed_q {ds data : List ByteArray} {n i : Nat} (h : Less ds data n [i]) (p : ByteArray) : healed data [i] p (Q ds) true false = ds := by
  have hi := h.low i (by simp)
  have hd := h.dsz
  have h0 : 0 < data.length := by rw [h.len]; exact h.pos
  have hz : (Q data).size = n := by rw [Q_size, size0_of hd h0]
  have s1 : (plusS (Q data) (Q ds)).size = n := by rw [plus_size, hz]
  have ex : timesS (plusS (Q data) (Q ds)) (Gf.inv (Gf.pow 2 i)) = ds.getD i ⟨#[]⟩ := by
    refine block_ext (n := n) (by rw [times_size, s1]) (h.sz _ (getD_mem hi)) (fun j hj => ?_)
    rw [en_times _ _ (by rw [s1]; exact hj), (h.dp hj).2, xsum_single hi _ (fun q _ h1 => by rw [if_neg (by simp [h1])]), if_pos (by simp), ← Gf.mul_assoc, Gf.inv_mul (Gf.pow_two_ne i), Gf.one_mul]
    rfl
  have e0 : healed data [i] p (Q ds) true false = data.set i (timesS (plusS (Q data) (Q ds)) (Gf.inv (Gf.pow 2 i))) := rfl
  rw [e0, ex]
  refine list_ext (by rw [List.length_set, h.len]) (fun q hq => ?_)
  rw [List.length_set, h.len] at hq
  rw [set_getD (by rw [h.len]; exact hi)]
  by_cases e2 : q = i
  · rw [if_pos e2, e2]
  · rw [if_neg e2]; exact h.same q hq (by simp [e2])
/-- none lost -/
theorem healed_none {ds data : List ByteArray} {n : Nat} (h : Less ds data n []) (p q : ByteArray) (lp lq : Bool) : healed data [] p q lp lq = ds :=
  list_ext (a := data) h.len (fun i hi => h.same i (by rw [← h.len]; exact hi) (by simp))
end Gv
end Go.Proofs.YtneebcniofolmaaGreatDoor
namespace Go.Proofs.YtneebcniofolmaaGreatDoor
set_option linter.unusedVariables false
namespace Gv
def lo (ls : List Bool) (i : Nat) : Bool := ls.getD i false
/-- how long the last of the first i is that is not lost -/
def lastSz (ps : List ByteArray) (ls : List Bool) : Nat → Nat
  | 0 => 0
  | i + 1 => if lo ls i then lastSz ps ls i else (ps.getD i ⟨#[]⟩).size
/-- with noughts for the first m that are lost -/
def outs (ps : List ByteArray) (ls : List Bool) (sz m : Nat) : List ByteArray := (List.range ps.length).map (fun i => if i < m ∧ lo ls i = true then zer sz else ps.getD i ⟨#[]⟩)
def goneL (ls : List Bool) (k : Nat) : List Nat := (List.range k).filter (fun j => lo ls j)
def heal (ps : List ByteArray) (ls : List Bool) : List ByteArray :=
  let k := ps.length - 2
  let o := outs ps ls (lastSz ps ls ps.length) ps.length
  let d := healed (o.take k) (goneL ls k) (o.getD k ⟨#[]⟩) (o.getD (k + 1) ⟨#[]⟩) (lo ls k) (lo ls (k + 1))
  d ++ [P d, Q d]
theorem outs_len (ps : List ByteArray) (ls : List Bool) (sz m : Nat) : (outs ps ls sz m).length = ps.length := by unfold outs; simp
theorem outs_at (ps : List ByteArray) (ls : List Bool) (sz m : Nat) {i : Nat} (h : i < ps.length) : (outs ps ls sz m).getD i ⟨#[]⟩ = if i < m ∧ lo ls i = true then zer sz else ps.getD i ⟨#[]⟩ := by
  unfold outs
  rw [List.getD_eq_getElem?_getD, List.getElem?_map, List.getElem?_range h]; rfl
theorem outs_zero (ps : List ByteArray) (ls : List Bool) (sz : Nat) : outs ps ls sz 0 = ps :=
  list_ext (outs_len _ _ _ _) (fun i hi => by rw [outs_len] at hi; rw [outs_at _ _ _ _ hi, if_neg (by omega)])
theorem outs_no (ps : List ByteArray) (ls : List Bool) (sz m : Nat) (h : lo ls m = false) : outs ps ls sz (m + 1) = outs ps ls sz m :=
  list_ext (by rw [outs_len, outs_len]) (fun i hi => by
    rw [outs_len] at hi
    rw [outs_at _ _ _ _ hi, outs_at _ _ _ _ hi]
    by_cases e : i = m
    · subst e; rw [if_neg (by rw [h]; simp), if_neg (by rw [h]; simp)]
    · by_cases c : i < m ∧ lo ls i = true
      · rw [if_pos ⟨by omega, c.2⟩, if_pos c]
      · rw [if_neg (fun hc => c ⟨by omega, hc.2⟩), if_neg c])
theorem outs_yes (ps : List ByteArray) (ls : List Bool) (sz m : Nat) (hm : m < ps.length) (h : lo ls m = true) : outs ps ls sz (m + 1) = (outs ps ls sz m).set m (zer sz) :=
  list_ext (by rw [outs_len, List.length_set, outs_len]) (fun i hi => by
    rw [outs_len] at hi
    rw [outs_at _ _ _ _ hi, set_getD (by rw [outs_len]; exact hm), outs_at _ _ _ _ hi]
    by_cases e : i = m
    · subst e; rw [if_pos ⟨by omega, h⟩, if_pos rfl]
    · rw [if_neg e]
      by_cases c : i < m ∧ lo ls i = true
      · rw [if_pos ⟨by omega, c.2⟩, if_pos c]
      · rw [if_neg (fun hc => c ⟨by omega, hc.2⟩), if_neg c])
theorem gone_succ (ls : List Bool) (k : Nat) : goneL ls (k + 1) = if lo ls k then goneL ls k ++ [k] else goneL ls k := by
  unfold goneL
  rw [List.range_succ, List.filter_append]
  by_cases h : lo ls k = true
  · rw [if_pos h]; simp [h]
  · rw [if_neg h]; simp [h]
theorem gone_mem {ls : List Bool} {k j : Nat} : j ∈ goneL ls k ↔ j < k ∧ lo ls j = true := by
  unfold goneL; rw [List.mem_filter, List.mem_range]
theorem gone_nodup (ls : List Bool) (k : Nat) : (goneL ls k).Nodup := List.Pairwise.filter _ List.nodup_range
theorem lastSz_eq {ps : List ByteArray} {ls : List Bool} {n : Nat} : ∀ m, (∀ i, i < m → lo ls i = false → (ps.getD i ⟨#[]⟩).size = n) → (∃ i, i < m ∧ lo ls i = false) → lastSz ps ls m = n
  | 0, _, ⟨i, hi, _⟩ => by omega
  | m + 1, h, ⟨i, hi, h0⟩ => by
    unfold lastSz
    by_cases c : lo ls m = true
    · rw [if_pos c]
      refine lastSz_eq m (fun q hq => h q (by omega)) ⟨i, ?_, h0⟩
      have : i ≠ m := fun e => by rw [e, c] at h0; cases h0
      omega
    · rw [if_neg c]
      exact h m (by omega) (by simpa using c)
theorem all_len3 {k : Nat} {ds : List ByteArray} (h : ds.length = k) : (ds ++ [P ds, Q ds]).length = k + 2 := by rw [List.length_append, h]; rfl
theorem all_at {ds : List ByteArray} {i : Nat} (h : i < ds.length) : (ds ++ [P ds, Q ds]).getD i ⟨#[]⟩ = ds.getD i ⟨#[]⟩ := by
  rw [List.getD_eq_getElem?_getD, List.getElem?_append_left h, List.getD_eq_getElem?_getD]
theorem all_p (ds : List ByteArray) : (ds ++ [P ds, Q ds]).getD ds.length ⟨#[]⟩ = P ds := by
  rw [List.getD_eq_getElem?_getD, List.getElem?_append_right (Nat.le_refl _), Nat.sub_self]; rfl
theorem all_q (ds : List ByteArray) : (ds ++ [P ds, Q ds]).getD (ds.length + 1) ⟨#[]⟩ = Q ds := by
  rw [List.getD_eq_getElem?_getD, List.getElem?_append_right (by omega), show ds.length + 1 - ds.length = 1 by omega]; rfl
theorem heal_right {ds ps : List ByteArray} {ls : List Bool} {n x y : Nat} (hsz : ∀ s ∈ ds, s.size = n) (hpos : 0 < ds.length) (h255 : ds.length ≤ 255) (hlen : ps.length = ds.length + 2)
    (hps : ∀ i, i < ds.length + 2 → lo ls i = false → ps.getD i ⟨#[]⟩ = (ds ++ [P ds, Q ds]).getD i ⟨#[]⟩) (hxy : ∀ i, lo ls i = true → i = x ∨ i = y) : heal ps ls = ds ++ [P ds, Q ds] := by
  have hall : ∀ s ∈ ds ++ [P ds, Q ds], s.size = n := by
    intro s hs
    rcases List.mem_append.1 hs with h | h
    · exact hsz s h
    · simp at h
      rcases h with rfl | rfl
      · rw [P_size, size0_of hsz hpos]
      · rw [Q_size, size0_of hsz hpos]
  have hs : lastSz ps ls ps.length = n := by
    refine lastSz_eq _ (fun i hi h => ?_) ?_
    · rw [hps i (by omega) h]; exact hall _ (getD_mem (by rw [all_len3 rfl]; omega))
    · by_cases c0 : lo ls 0 = false
      · exact ⟨0, by omega, c0⟩
      · by_cases c1 : lo ls 1 = false
        · exact ⟨1, by omega, c1⟩
        · refine ⟨2, by omega, ?_⟩
          cases c2 : lo ls 2 with
          | false => rfl
          | true =>
            exfalso
            have h0 := hxy 0 (by simpa using c0)
            have h1 := hxy 1 (by simpa using c1)
            have h2 := hxy 2 c2
            omega
  have hk : ps.length - 2 = ds.length := by omega
  obtain ⟨o, ho⟩ : ∃ o, o = outs ps ls n ps.length := ⟨_, rfl⟩
  have hol : o.length = ds.length + 2 := by rw [ho, outs_len, hlen]
  have hoa : ∀ i, i < ds.length + 2 → o.getD i ⟨#[]⟩ = if lo ls i = true then zer n else (ds ++ [P ds, Q ds]).getD i ⟨#[]⟩ := by
    intro i hi
    rw [ho, outs_at _ _ _ _ (by omega)]
    by_cases c : lo ls i = true
    · rw [if_pos ⟨by omega, c⟩, if_pos c]
    · rw [if_neg (fun h => c h.2), if_neg c]; exact hps i hi (by simpa using c)
  have hless : Less ds (o.take ds.length) n (goneL ls ds.length) := by
    have hta : ∀ i, i < ds.length → (o.take ds.length).getD i ⟨#[]⟩ = o.getD i ⟨#[]⟩ := by
      intro i hi
      rw [List.getD_eq_getElem?_getD, List.getElem?_take, if_pos hi, List.getD_eq_getElem?_getD]
    refine ⟨by rw [List.length_take, hol]; omega, hpos, hsz, fun i hi hg => ?_, fun i hi hg => ?_, fun i hi => (gone_mem.1 hi).1⟩
    · rw [hta i hi, hoa i (by omega), if_neg (fun h => hg (gone_mem.2 ⟨hi, h⟩)), all_at hi]
    · rw [hta i hi, hoa i (by omega), if_pos (gone_mem.1 hg).2]
  have hp : lo ls ds.length = false → o.getD ds.length ⟨#[]⟩ = P ds := fun h => by rw [hoa _ (by omega), if_neg (by rw [h]; decide), all_p]
  have hq : lo ls (ds.length + 1) = false → o.getD (ds.length + 1) ⟨#[]⟩ = Q ds := fun h => by rw [hoa _ (by omega), if_neg (by rw [h]; decide), all_q]
  have hd : healed (o.take ds.length) (goneL ls ds.length) (o.getD ds.length ⟨#[]⟩) (o.getD (ds.length + 1) ⟨#[]⟩) (lo ls ds.length) (lo ls (ds.length + 1)) = ds := by
    have hnd := gone_nodup ls ds.length
    have hmm : ∀ j ∈ goneL ls ds.length, j < ds.length ∧ lo ls j = true := fun j hj => gone_mem.1 hj
    generalize goneL ls ds.length = g at *
    match g, hnd, hmm, hless with
    | [], _, _, hless => exact healed_none hless _ _ _ _
    | [a], _, hmm, hless =>
      have ha := hmm a (by simp)
      cases cp : lo ls ds.length with
      | false => rw [hp cp]; exact healed_p hless _ _
      | true =>
        have cq : lo ls (ds.length + 1) = false := by
          cases cq : lo ls (ds.length + 1) with
          | false => rfl
          | true =>
            exfalso
            have h1 := hxy _ ha.2; have h2 := hxy _ cp; have h3 := hxy _ cq
            omega
        rw [cq, hq cq]; exact healed_q hless _
    | [a, b], hnd, hmm, hless =>
      have ha := hmm a (by simp)
      have hb := hmm b (by simp)
      have hab : a ≠ b := by simp at hnd; exact hnd
      have cp : lo ls ds.length = false := by
        cases cp : lo ls ds.length with
        | false => rfl
        | true => exfalso; have h1 := hxy _ ha.2; have h2 := hxy _ hb.2; have h3 := hxy _ cp; omega
      have cq : lo ls (ds.length + 1) = false := by
        cases cq : lo ls (ds.length + 1) with
        | false => rfl
        | true => exfalso; have h1 := hxy _ ha.2; have h2 := hxy _ hb.2; have h3 := hxy _ cq; omega
      rw [hp cp, hq cq]
      exact healed_two hless hab h255 _ _
    | a :: b :: c :: t, hnd, hmm, _ =>
      exfalso
      have ha := hxy _ (hmm a (by simp)).2
      have hb := hxy _ (hmm b (by simp)).2
      have hc := hxy _ (hmm c (by simp)).2
      simp at hnd
      omega
  unfold heal
  simp only [hk, hs]
  rw [← ho, hd]
end Gv
end Go.Proofs.YtneebcniofolmaaGreatDoor
