/- What a cache and what lies below it answer, in plain lists: as one list. -/
import Derived.Test.YtangcjffiooapaaCacU
namespace Go.Proofs.Ytangcjffiooapaa.Cc
set_option linter.unusedVariables false
def at' (l : List ByteArray) (k : Nat) : ByteArray := l.getD k ⟨#[]⟩
theorem at_set_same {l : List ByteArray} {k : Nat} (h : k < l.length) (b : ByteArray) : at' (l.set k b) k = b := by
  unfold at'; rw [List.getD_eq_getElem?_getD, List.getElem?_set_self h]; rfl
theorem at_set_other {l : List ByteArray} {k j : Nat} (h : k ≠ j) (b : ByteArray) : at' (l.set k b) j = at' l j := by
  unfold at'; rw [List.getD_eq_getElem?_getD, List.getElem?_set_ne h, ← List.getD_eq_getElem?_getD]
theorem at_get {l : List ByteArray} {k : Nat} (h : k < l.length) : l[k]? = some (at' l k) := by
  unfold at'; rw [List.getD_eq_getElem?_getD, List.getElem?_eq_getElem h]; rfl
structure Now (c : C) (now : List ByteArray) : Prop where
  len : now.length = c.below.length
  row : ∀ x ∈ c.row, c.val x = at' now x.toNat
  low : ∀ k : Nat, (k : Int) ∉ c.dirty → at' c.below k = at' now k
theorem now_new (cells : List ByteArray) (room : Nat) : Now (new cells room) cells := ⟨rfl, (fun x hx => by cases hx), fun k _ => rfl⟩
theorem Now.get {c : C} {now : List ByteArray} (h : Now c now) (hi : Inv c) {i : Int} (h0 : 0 ≤ i) : get c i = at' now i.toNat := by
  unfold Cc.get
  by_cases hm : c.row.contains i = true
  · rw [if_pos hm]; exact h.row i (List.contains_iff_mem.1 hm)
  · rw [if_neg hm]
    exact h.low i.toNat (fun hd => hm (List.contains_iff_mem.2 (hi.dsub _ (by rw [show ((i.toNat : Nat) : Int) = i by omega] at hd; exact hd))))
theorem Now.clean {c : C} {now : List ByteArray} (h : Now c now) (hi : Inv c) {i : Int} (hm : i ∈ c.row) : Now (clean c i) now := by
  have hb := hi.row i hm
  refine ⟨by rw [(clean_row c i).2.2.2.2]; exact h.len, h.row, fun k hk => ?_⟩
  have hk' : (k : Int) ∉ wo c.dirty i := hk
  show at' (c.below.set i.toNat (c.val i)) k = _
  by_cases e : i.toNat = k
  · subst e
    rw [at_set_same (by omega)]; exact h.row i hm
  · rw [at_set_other e]
    exact h.low k (fun hd => hk' (wo_mem.2 ⟨hd, by omega⟩))
theorem Now.rows {c : C} {now : List ByteArray} (h : Now c now) {r : List Int} (hr : ∀ x ∈ r, x ∈ c.row) : Now { c with row := r } now := ⟨h.len, fun x hx => h.row x (hr x hx), h.low⟩
theorem Now.mid {c : C} {now : List ByteArray} (h : Now c now) (hi : Inv c) (i : Int) : Now (mid c i) now := by
  by_cases hl : (wo c.row i).length = c.room
  · rw [mid_yes hl]
    have hpos : 0 < (wo c.row i).length := by have := hi.room1; omega
    have hht := head_tail hpos
    have hom : (wo c.row i).headD 0 ∈ wo c.row i := by
      have : (wo c.row i).headD 0 ∈ (wo c.row i).headD 0 :: (wo c.row i).tail := List.mem_cons_self
      rw [← hht] at this; exact this
    have ht : ∀ x ∈ (wo c.row i).tail, x ∈ c.row := fun x hx => (wo_mem.1 (List.mem_of_mem_tail hx)).1
    unfold drop
    by_cases hd : c.dirty.contains ((wo c.row i).headD 0) = true
    · rw [if_pos hd]
      exact (h.clean hi (wo_mem.1 hom).1).rows ht
    · rw [if_neg hd]
      exact h.rows ht
  · rw [mid_no hl]
    exact h.rows (fun x hx => (wo_mem.1 hx).1)
theorem Now.putr {c : C} {now : List ByteArray} (h : Now c now) (hi : Inv c) {i : Int} {b : ByteArray} (hb : b = at' now i.toNat) : Now (put c i b) now := by
  rw [put_eq]
  have hm := h.mid hi i
  refine ⟨hm.len, fun x hx => ?_, hm.low⟩
  show upd (Cc.mid c i).val i b x = _
  by_cases e : x = i
  · rw [e, upd_same, hb]
  · rw [upd_other _ _ e]
    rcases List.mem_append.1 hx with hx | hx
    · exact hm.row x hx
    · exact absurd (List.mem_singleton.1 hx) e
theorem Now.hit {c : C} {now : List ByteArray} (h : Now c now) (i : Int) : Now (hit c i) now := by
  unfold Cc.hit; split
  · exact ⟨h.len, h.row, h.low⟩
  · exact h
theorem Now.read {c : C} {now : List ByteArray} (h : Now c now) (hi : Inv c) (i : Int) : Now (read c i).2 now := by
  unfold Cc.read; split
  · rename_i ht
    exact (h.hit i).putr (hi.hit i) (h.get hi (there_iff.1 ht).1)
  · exact h
theorem read_yes {c : C} {now : List ByteArray} (h : Now c now) (hi : Inv c) {i : Int} (h0 : 0 ≤ i) (h1 : i < now.length) : (read c i).1 = (at' now i.toNat, 0) := by
  unfold Cc.read
  rw [if_pos (there_iff.2 ⟨h0, by rw [← h.len]; exact h1⟩)]
  show (Cc.get c i, (0 : Int)) = _
  rw [h.get hi h0]
theorem read_no {c : C} {now : List ByteArray} (h : Now c now) {i : Int} (h0 : ¬ (0 ≤ i ∧ i < now.length)) : Cc.read c i = ((⟨#[]⟩, 1), c) := by
  unfold Cc.read
  rw [if_neg (fun ht => h0 (by rw [h.len]; exact there_iff.1 ht))]
theorem mid_dirty (c : C) (i : Int) : ∀ x ∈ (mid c i).dirty, x ∈ c.dirty := by
  intro x hx
  unfold mid drop at hx
  by_cases hl : (wo c.row i).length = c.room
  · simp only [hl, if_true] at hx
    by_cases hd : c.dirty.contains ((wo c.row i).headD 0) = true
    · rw [if_pos hd] at hx; exact (wo_mem.1 hx).1
    · rw [if_neg hd] at hx; exact hx
  · simp only [hl, if_false] at hx; exact hx
theorem Now.writ {c : C} {now : List ByteArray} (h : Now c now) (hi : Inv c) {i : Int} (h0 : 0 ≤ i) (h1 : i < now.length) (b : ByteArray) : Now (mark (put c i b) i) (now.set i.toNat b) := by
  have hm := h.mid hi i
  have hmem : i ∈ (mark (put c i b) i).dirty := by
    unfold mark; split
    · rename_i hc; exact List.contains_iff_mem.1 hc
    · show i ∈ (put c i b).dirty ++ [i]; simp
  have hbel : (mark (put c i b) i).below = (Cc.mid c i).below := by unfold mark; split <;> rfl
  have hrow : (mark (put c i b) i).row = (Cc.mid c i).row ++ [i] := by unfold mark; split <;> rfl
  have hval : (mark (put c i b) i).val = upd (Cc.mid c i).val i b := by unfold mark; split <;> rfl
  have hdir : ∀ x ∈ (Cc.mid c i).dirty, x ∈ (mark (put c i b) i).dirty := by
    intro x hx; unfold mark; split
    · exact hx
    · exact List.mem_append_left _ hx
  refine ⟨by rw [List.length_set, hbel]; exact hm.len, fun x hx => ?_, fun k hk => ?_⟩
  · rw [hval]
    by_cases e : x = i
    · rw [e, upd_same, at_set_same (by omega)]
    · rw [upd_other _ _ e]
      rw [hrow] at hx
      have hx' : x ∈ (Cc.mid c i).row := by
        rcases List.mem_append.1 hx with hx | hx
        · exact hx
        · exact absurd (List.mem_singleton.1 hx) e
      have hmi : ∀ x ∈ (Cc.mid c i).row, x ∈ c.row := by
        intro y hy
        unfold Cc.mid at hy
        by_cases hl : (wo c.row i).length = c.room
        · simp only [hl, if_true] at hy
          exact (wo_mem.1 (List.mem_of_mem_tail hy)).1
        · simp only [hl, if_false] at hy
          exact (wo_mem.1 hy).1
      have hxb := hi.row x (hmi x hx')
      rw [at_set_other (by omega)]
      exact hm.row x hx'
  · rw [hbel]
    have hne : (k : Int) ≠ i := fun e => hk (by rw [e]; exact hmem)
    rw [at_set_other (by omega)]
    exact hm.low k (fun hd => hk (hdir _ hd))
theorem write_yes {c : C} {now : List ByteArray} (h : Now c now) {i : Int} (h0 : 0 ≤ i) (h1 : i < now.length) {b : ByteArray} (hb : b.size ≤ 16) : write c i b = (0, mark (put c i b) i) := by
  unfold write
  rw [if_neg]
  rintro (e | e)
  · rw [there_iff.2 ⟨h0, by rw [← h.len]; exact h1⟩] at e; cases e
  · omega
theorem write_no {c : C} {now : List ByteArray} (h : Now c now) {i : Int} {b : ByteArray} (h0 : ¬ (0 ≤ i ∧ i < now.length ∧ b.size ≤ 16)) : write c i b = (1, c) := by
  unfold write
  rw [if_pos]
  by_cases hb : 16 < b.size
  · exact .inr hb
  · left
    rw [← Bool.not_eq_true]
    exact fun ht => h0 ⟨(there_iff.1 ht).1, by rw [h.len]; exact (there_iff.1 ht).2, by omega⟩
theorem Now.cleans {c : C} {now : List ByteArray} (h : Now c now) (hi : Inv c) {l : List Int} (hl : ∀ x ∈ l, x ∈ c.row) : Now (cleans c l) now := by
  unfold Cc.cleans
  induction l generalizing c with
  | nil => exact h
  | cons a t ih => exact ih (h.clean hi (hl a List.mem_cons_self)) (hi.clean (hl a List.mem_cons_self)) (fun x hx => hl x (List.mem_cons_of_mem _ hx))
theorem Now.flush {c : C} {now : List ByteArray} (h : Now c now) (hi : Inv c) (x : Int) : Now (flush c x).2 now := by
  unfold Cc.flush; split
  · exact h
  · exact h.cleans hi (fun y hy => hi.dsub y (List.mem_of_mem_take hy))
theorem cleans_dirty (c : C) (l : List Int) (x : Int) : x ∈ (cleans c l).dirty ↔ x ∈ c.dirty ∧ x ∉ l := by
  unfold Cc.cleans
  induction l generalizing c with
  | nil => simp
  | cons a t ih =>
    rw [List.foldl_cons, ih (clean c a)]
    show x ∈ wo c.dirty a ∧ x ∉ t ↔ _
    rw [wo_mem, List.mem_cons]
    constructor
    · rintro ⟨⟨h1, h2⟩, h3⟩; exact ⟨h1, fun e => e.elim h2 h3⟩
    · rintro ⟨h1, h2⟩; exact ⟨⟨h1, fun e => h2 (.inl e)⟩, fun e => h2 (.inr e)⟩
theorem dirty12 {c : C} (hi : Inv c) : c.dirty.length ≤ 12 := by
  have h1 := nodup_len _ _ hi.dnd hi.dsub
  have h2 := hi.fit
  have h3 := hi.room12
  omega
theorem flush_all {c : C} (hi : Inv c) : (flush c 1000).1.2 = 0 ∧ (flush c 1000).2.dirty = [] := by
  have hd := dirty12 hi
  unfold Cc.flush
  rw [if_neg (by omega)]
  refine ⟨rfl, ?_⟩
  show (Cc.cleans c (c.dirty.take 1000)).dirty = []
  rw [List.take_of_length_le (by omega)]
  apply List.eq_nil_iff_forall_not_mem.2
  intro x hx
  rw [cleans_dirty] at hx
  exact hx.2 hx.1
theorem at_ext {l m : List ByteArray} (hl : l.length = m.length) (h : ∀ k, at' l k = at' m k) : l = m := by
  apply List.ext_getElem? 
  intro k
  by_cases hk : k < l.length
  · rw [at_get hk, at_get (by omega), h]
  · rw [List.getElem?_eq_none (by omega), List.getElem?_eq_none (by omega)]
theorem Now.below {c : C} {now : List ByteArray} (h : Now c now) (hd : c.dirty = []) : c.below = now :=
  at_ext h.len.symm (fun k => h.low k (by rw [hd]; exact List.not_mem_nil))
theorem Now.crash {c : C} {now : List ByteArray} (h : Now c now) (hd : c.dirty = []) : Now (crash c) now :=
  ⟨h.len, (fun x hx => by cases hx), fun k _ => h.low k (by rw [hd]; exact List.not_mem_nil)⟩
theorem row_room {c : C} (hi : Inv c) : c.row.length ≤ c.room := hi.fit
theorem room_read (c : C) (i : Int) : (read c i).2.room = c.room ∧ (read c i).2.below.length = c.below.length := by
  have h1 : ∀ c : C, (mid c i).room = c.room ∧ (mid c i).below.length = c.below.length := by
    intro c
    unfold mid drop
    by_cases hl : (wo c.row i).length = c.room
    · simp only [hl, if_true]
      by_cases hd : c.dirty.contains ((wo c.row i).headD 0) = true
      · rw [if_pos hd]; exact ⟨rfl, (clean_row c _).2.2.2.2⟩
      · rw [if_neg hd]; exact ⟨rfl, rfl⟩
    · rw [if_neg hl]; exact ⟨rfl, rfl⟩
  have h2 : (hit c i).room = c.room ∧ (hit c i).below = c.below := by unfold hit; split <;> exact ⟨rfl, rfl⟩
  unfold read; split
  · show (put (hit c i) i _).room = _ ∧ (put (hit c i) i _).below.length = _
    rw [put_eq]
    exact ⟨(h1 (hit c i)).1.trans h2.1, (h1 (hit c i)).2.trans (by rw [h2.2])⟩
  · exact ⟨rfl, rfl⟩
theorem room_write (c : C) (i : Int) (b : ByteArray) : (write c i b).2.room = c.room := by
  have h1 : ∀ c : C, (mid c i).room = c.room := by
    intro c
    unfold mid drop
    by_cases hl : (wo c.row i).length = c.room
    · simp only [hl, if_true]
      by_cases hd : c.dirty.contains ((wo c.row i).headD 0) = true
      · rw [if_pos hd]; rfl
      · rw [if_neg hd]
    · simp only [hl, if_false]
  unfold write; split
  · rfl
  · show (mark (put c i b) i).room = c.room
    unfold mark; split <;> exact h1 c
theorem hits_read (c : C) (i : Int) : (read c i).2.hits ≤ c.hits + 1 := by
  have h1 : ∀ c : C, (mid c i).hits = c.hits := by
    intro c
    unfold mid drop
    by_cases hl : (wo c.row i).length = c.room
    · simp only [hl, if_true]
      by_cases hd : c.dirty.contains ((wo c.row i).headD 0) = true
      · rw [if_pos hd]; rfl
      · rw [if_neg hd]
    · simp only [hl, if_false]
  unfold read; split
  · show (put (hit c i) i _).hits ≤ _
    rw [put_eq]
    show (mid (hit c i) i).hits ≤ _
    rw [h1]; unfold hit; split
    · exact Nat.le_refl _
    · exact Nat.le_succ _
  · exact Nat.le_succ _
theorem hits_write (c : C) (i : Int) (b : ByteArray) : (write c i b).2.hits = c.hits := by
  have h1 : ∀ c : C, (mid c i).hits = c.hits := by
    intro c
    unfold mid drop
    by_cases hl : (wo c.row i).length = c.room
    · simp only [hl, if_true]
      by_cases hd : c.dirty.contains ((wo c.row i).headD 0) = true
      · rw [if_pos hd]; rfl
      · rw [if_neg hd]
    · simp only [hl, if_false]
  unfold write; split
  · rfl
  · show (mark (put c i b) i).hits = c.hits
    unfold mark; split <;> exact h1 c
theorem flush_room (c : C) (x : Int) : (flush c x).2.room = c.room ∧ (flush c x).2.hits = c.hits := by
  unfold flush; split
  · exact ⟨rfl, rfl⟩
  · exact ⟨(cleans_same c _).2.1, (cleans_same c _).2.2.1⟩
end Go.Proofs.Ytangcjffiooapaa.Cc
