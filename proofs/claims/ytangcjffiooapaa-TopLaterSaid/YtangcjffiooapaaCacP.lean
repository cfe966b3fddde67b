/- A cache, in plain lists. -/
import Derived.WalkKit
namespace Go.Proofs.Ytangcjffiooapaa.Cc
structure C where
  below : List ByteArray
  room : Nat
  row : List Int
  dirty : List Int
  val : Int → ByteArray
  hits : Nat
def wo (l : List Int) (i : Int) : List Int := l.filter (fun x => !(x == i))
theorem wo_mem {l : List Int} {i x : Int} : x ∈ wo l i ↔ x ∈ l ∧ x ≠ i := by unfold wo; simp
theorem wo_len (l : List Int) (i : Int) : (wo l i).length ≤ l.length := List.length_filter_le _ _
theorem wo_nodup {l : List Int} (h : l.Nodup) (i : Int) : (wo l i).Nodup := h.filter _
theorem wo_same {l : List Int} {i : Int} (h : i ∉ l) : wo l i = l := by
  unfold wo
  rw [List.filter_eq_self]
  intro x hx
  have : x ≠ i := fun e => h (by rw [← e]; exact hx)
  simp [this]
def upd (f : Int → ByteArray) (i : Int) (b : ByteArray) : Int → ByteArray := fun k => if k = i then b else f k
theorem upd_same (f : Int → ByteArray) (i : Int) (b : ByteArray) : upd f i b i = b := if_pos rfl
theorem upd_other (f : Int → ByteArray) {i k : Int} (b : ByteArray) (h : k ≠ i) : upd f i b k = f k := if_neg h
def clean (c : C) (i : Int) : C := { c with below := c.below.set i.toNat (c.val i), dirty := wo c.dirty i }
/-- the oldest one goes -/
def drop (c : C) (old : Int) (row : List Int) : C := { (if c.dirty.contains old then clean c old else c) with row := row }
def put (c : C) (i : Int) (b : ByteArray) : C :=
  let r := wo c.row i
  let c1 := if r.length = c.room then drop c (r.headD 0) r.tail else { c with row := r }
  { c1 with row := c1.row ++ [i], val := upd c1.val i b }
def mid (c : C) (i : Int) : C :=
  let r := wo c.row i
  if r.length = c.room then drop c (r.headD 0) r.tail else { c with row := r }
theorem put_eq (c : C) (i : Int) (b : ByteArray) : put c i b = { mid c i with row := (mid c i).row ++ [i], val := upd (mid c i).val i b } := rfl
theorem mid_no {c : C} {i : Int} (h : (wo c.row i).length ≠ c.room) : mid c i = { c with row := wo c.row i } := by unfold mid; simp only [h, if_false]
theorem mid_yes {c : C} {i : Int} (h : (wo c.row i).length = c.room) : mid c i = drop c ((wo c.row i).headD 0) (wo c.row i).tail := by unfold mid; simp only [h, if_true]
def there (c : C) (i : Int) : Bool := decide (0 ≤ i) && decide (i < c.below.length)
theorem there_iff {c : C} {i : Int} : there c i = true ↔ 0 ≤ i ∧ i < c.below.length := by unfold there; simp
def get (c : C) (i : Int) : ByteArray := if c.row.contains i then c.val i else c.below.getD i.toNat ⟨#[]⟩
def hit (c : C) (i : Int) : C := if c.row.contains i then { c with hits := c.hits + 1 } else c
def read (c : C) (i : Int) : (ByteArray × Int) × C := if there c i then ((get c i, 0), put (hit c i) i (get c i)) else ((⟨#[]⟩, 1), c)
def mark (c : C) (i : Int) : C := if c.dirty.contains i then c else { c with dirty := c.dirty ++ [i] }
def write (c : C) (i : Int) (b : ByteArray) : Int × C := if there c i = false ∨ 16 < b.size then (1, c) else (0, mark (put c i b) i)
def cleans (c : C) (l : List Int) : C := l.foldl clean c
def crash (c : C) : C := { c with row := [], dirty := [] }
def new (cells : List ByteArray) (room : Nat) : C := ⟨cells, room, [], [], fun _ => ⟨#[]⟩, 0⟩
theorem nodup_len : ∀ (l m : List Int), l.Nodup → (∀ x ∈ l, x ∈ m) → l.length ≤ m.length
  | [], _, _, _ => Nat.zero_le _
  | a :: t, m, hn, hs => by
    obtain ⟨h1, h2⟩ := List.nodup_cons.1 hn
    have ha := hs a List.mem_cons_self
    have := nodup_len t (m.erase a) h2 (fun x hx => (List.mem_erase_of_ne (fun e => h1 (by rw [← e]; exact hx))).2 (hs x (List.mem_cons_of_mem _ hx)))
    rw [List.length_erase_of_mem ha] at this
    have hp := List.length_pos_of_mem ha
    rw [List.length_cons]; omega
/-- what always holds -/
structure Inv (c : C) : Prop where
  room1 : 1 ≤ c.room
  room12 : c.room ≤ 12
  len : c.below.length ≤ 40
  sz : ∀ b ∈ c.below, b.size ≤ 16
  row : ∀ x ∈ c.row, 0 ≤ x ∧ x < c.below.length
  nd : c.row.Nodup
  fit : c.row.length ≤ c.room
  dsub : ∀ x ∈ c.dirty, x ∈ c.row
  dnd : c.dirty.Nodup
  vsz : ∀ x ∈ c.row, (c.val x).size ≤ 16
theorem Inv.new {cells : List ByteArray} {room : Nat} (h1 : 1 ≤ room) (h2 : room ≤ 12) (h3 : cells.length ≤ 40) (h4 : ∀ b ∈ cells, b.size ≤ 16) : Inv (new cells room) :=
  ⟨h1, h2, h3, h4, (fun x hx => by cases hx), List.nodup_nil, Nat.zero_le _, (fun x hx => by cases hx), List.nodup_nil, (fun x hx => by cases hx)⟩
theorem Inv.clean {c : C} (h : Inv c) {i : Int} (hi : i ∈ c.row) : Inv (clean c i) := by
  refine { h with len := ?_, sz := ?_, row := ?_, dsub := ?_, dnd := wo_nodup h.dnd i }
  · show (c.below.set _ _).length ≤ 40; rw [List.length_set]; exact h.len
  · intro b hb
    rcases List.mem_or_eq_of_mem_set hb with hb | rfl
    · exact h.sz b hb
    · exact h.vsz i hi
  · intro x hx
    show 0 ≤ x ∧ x < ((c.below.set _ _).length : Int)
    rw [List.length_set]; exact h.row x hx
  · intro x hx; exact h.dsub x (wo_mem.1 hx).1
theorem clean_row (c : C) (i : Int) : (clean c i).row = c.row ∧ (clean c i).val = c.val ∧ (clean c i).room = c.room ∧ (clean c i).hits = c.hits ∧ (clean c i).below.length = c.below.length := ⟨rfl, rfl, rfl, rfl, by unfold clean; simp⟩
theorem head_tail {l : List Int} (h : 0 < l.length) : l = l.headD 0 :: l.tail := by
  cases l with
  | nil => simp at h
  | cons a t => rfl
theorem Inv.put {c : C} (h : Inv c) {i : Int} (hi : 0 ≤ i ∧ i < c.below.length) {b : ByteArray} (hb : b.size ≤ 16) (hd : i ∈ c.dirty → i ∈ c.row) : Inv (put c i b) := by
  have hr1 : (wo c.row i).Nodup := wo_nodup h.nd i
  have hni : i ∉ wo c.row i := fun hm => (wo_mem.1 hm).2 rfl
  unfold Cc.put
  by_cases hl : (wo c.row i).length = c.room
  · simp only [hl, if_true]
    have hpos : 0 < (wo c.row i).length := by have := h.room1; omega
    have hht := head_tail hpos
    generalize ho : (wo c.row i).headD 0 = old at *
    generalize ht : (wo c.row i).tail = t at *
    have hom : old ∈ wo c.row i := by rw [hht]; exact List.mem_cons_self
    have hold := wo_mem.1 hom
    have hnt : (old :: t).Nodup := by rw [← hht]; exact hr1
    have htm : ∀ x ∈ t, x ∈ c.row ∧ x ≠ i := fun x hx => wo_mem.1 (by rw [hht]; exact List.mem_cons_of_mem _ hx)
    have hlt : t.length + 1 = c.room := by rw [← hl, hht]; rfl
    have key : ∀ c2 : C, Inv c2 → c2.row = c.row → c2.val = c.val → c2.room = c.room → c2.below.length = c.below.length → (∀ x ∈ c2.dirty, x ∈ c.row ∧ x ≠ old) → Inv { c2 with row := t ++ [i], val := upd c2.val i b } := by
      intro c2 h2 e1 e2 e3 e4 e5
      refine { h2 with row := ?_, nd := ?_, fit := ?_, dsub := ?_, vsz := ?_ }
      · intro x hx
        rw [List.mem_append, List.mem_singleton] at hx
        show 0 ≤ x ∧ x < (c2.below.length : Int)
        rw [e4]
        rcases hx with hx | rfl
        · exact h.row x (htm x hx).1
        · exact hi
      · rw [List.nodup_append]
        exact ⟨(List.nodup_cons.1 hnt).2, by simp, fun a ha b hb e => by rw [List.mem_singleton] at hb; exact (htm a ha).2 (e.trans hb)⟩
      · show (t ++ [i]).length ≤ c2.room
        rw [List.length_append, e3]; simp; omega
      · intro x hx
        have := e5 x hx
        show x ∈ t ++ [i]
        rw [List.mem_append, List.mem_singleton]
        by_cases e : x = i
        · exact .inr e
        · left
          have hm : x ∈ wo c.row i := wo_mem.2 ⟨this.1, e⟩
          rw [hht] at hm
          rcases List.mem_cons.1 hm with e' | hm
          · exact absurd e' this.2
          · exact hm
      · intro x hx
        rw [List.mem_append, List.mem_singleton] at hx
        show (upd c2.val i b x).size ≤ 16
        rcases hx with hx | rfl
        · rw [upd_other _ _ (htm x hx).2, e2]; exact h.vsz x (htm x hx).1
        · rw [upd_same]; exact hb
    unfold drop
    by_cases hdo : c.dirty.contains old = true
    · rw [if_pos hdo]
      exact key (Cc.clean c old) (h.clean hold.1) rfl rfl rfl (clean_row c old).2.2.2.2 (fun x hx => ⟨h.dsub x (wo_mem.1 hx).1, (wo_mem.1 hx).2⟩)
    · rw [if_neg hdo]
      exact key c h rfl rfl rfl rfl (fun x hx => ⟨h.dsub x hx, fun e => hdo (List.contains_iff_mem.2 (by rw [← e]; exact hx))⟩)
  · simp only [hl, if_false]
    have hlt : (wo c.row i).length < c.room := by have := wo_len c.row i; have := h.fit; omega
    refine { h with row := ?_, nd := ?_, fit := ?_, dsub := ?_, vsz := ?_ }
    · intro x hx
      rw [List.mem_append, List.mem_singleton] at hx
      rcases hx with hx | rfl
      · exact h.row x (wo_mem.1 hx).1
      · exact hi
    · rw [List.nodup_append]
      exact ⟨hr1, by simp, fun a ha b hb e => by rw [List.mem_singleton] at hb; rw [e, hb] at ha; exact hni ha⟩
    · show (wo c.row i ++ [i]).length ≤ c.room
      rw [List.length_append]; simp; omega
    · intro x hx
      show x ∈ wo c.row i ++ [i]
      rw [List.mem_append, List.mem_singleton]
      by_cases e : x = i
      · exact .inr e
      · exact .inl (wo_mem.2 ⟨h.dsub x hx, e⟩)
    · intro x hx
      rw [List.mem_append, List.mem_singleton] at hx
      show (upd c.val i b x).size ≤ 16
      rcases hx with hx | rfl
      · rw [upd_other _ _ (wo_mem.1 hx).2]; exact h.vsz x (wo_mem.1 hx).1
      · rw [upd_same]; exact hb
theorem put_mem (c : C) (i : Int) (b : ByteArray) : i ∈ (put c i b).row := by unfold put; simp
theorem Inv.hit {c : C} (h : Inv c) (i : Int) : Inv (hit c i) := by
  unfold Cc.hit; split
  · exact { h with }
  · exact h
theorem Inv.mark {c : C} (h : Inv c) {i : Int} (hi : i ∈ c.row) : Inv (mark c i) := by
  unfold Cc.mark; split
  · exact h
  · rename_i hn
    have hn' : i ∉ c.dirty := fun hm => hn (List.contains_iff_mem.2 hm)
    refine { h with dsub := ?_, dnd := ?_ }
    · intro x hx
      rw [List.mem_append, List.mem_singleton] at hx
      rcases hx with hx | rfl
      · exact h.dsub x hx
      · exact hi
    · rw [List.nodup_append]
      exact ⟨h.dnd, by simp, fun a ha b hb e => by rw [List.mem_singleton] at hb; exact hn' (by rw [← hb, ← e]; exact ha)⟩
theorem get_sz {c : C} (h : Inv c) {i : Int} (hi : 0 ≤ i ∧ i < c.below.length) : (get c i).size ≤ 16 := by
  unfold get
  by_cases hm : c.row.contains i = true
  · rw [if_pos hm]; exact h.vsz i (List.contains_iff_mem.1 hm)
  · rw [if_neg hm, List.getD_eq_getElem?_getD, List.getElem?_eq_getElem (by omega)]
    exact h.sz _ (List.getElem_mem _)
theorem Inv.read {c : C} (h : Inv c) (i : Int) : Inv (read c i).2 := by
  unfold Cc.read; split
  · rename_i ht
    have hi := there_iff.1 ht
    have hh := h.hit i
    have e1 : (Cc.hit c i).below = c.below := by unfold Cc.hit; split <;> rfl
    have e2 : (Cc.hit c i).dirty = c.dirty ∧ (Cc.hit c i).row = c.row := by unfold Cc.hit; split <;> exact ⟨rfl, rfl⟩
    exact hh.put (by rw [e1]; exact hi) (get_sz h hi) (by rw [e2.1, e2.2]; exact h.dsub i)
  · exact h
theorem Inv.write {c : C} (h : Inv c) (i : Int) (b : ByteArray) : Inv (write c i b).2 := by
  unfold Cc.write; split
  · exact h
  · rename_i hn
    have ht : there c i = true := by cases hq : there c i with | true => rfl | false => exact absurd (.inl hq) hn
    have hb : b.size ≤ 16 := by
      rcases Nat.lt_or_ge 16 b.size with h' | h'
      · exact absurd (.inr h') hn
      · exact h'
    exact (h.put (there_iff.1 ht) hb (h.dsub i)).mark (put_mem c i b)
theorem Inv.crash {c : C} (h : Inv c) : Inv (crash c) :=
  { h with row := (fun x hx => by cases hx), nd := List.nodup_nil, fit := Nat.zero_le _, dsub := (fun x hx => by cases hx), dnd := List.nodup_nil, vsz := (fun x hx => by cases hx) }
end Go.Proofs.Ytangcjffiooapaa.Cc
