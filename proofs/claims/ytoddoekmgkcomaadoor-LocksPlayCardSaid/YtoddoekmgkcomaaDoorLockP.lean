/- Locks that let one behind the other, in plain lists. No program in sight. -/
namespace Go.Proofs.YtoddoekmgkcomaaDoor.Lk
/-- a lock: who, from, to, alone -/
structure L where
  who : Int
  fr : Int
  to : Int
  al : Bool
def odds (a b : L) : Bool := decide (a.fr < b.to) && decide (b.fr < a.to) && (a.al || b.al)
def free (l : List L) (x : L) : Bool := !l.any fun y => odds x y
def has (l : List L) (who : Int) : Bool := l.any fun x => x.who == who
def at0 (l : List L) (who : Int) : Nat := l.findIdx fun x => x.who == who
/-- those that are held, and those that wait -/
abbrev St := List L × List L
def badL (l : L) : Bool := decide (l.who < 1) || decide (1000 < l.who) || decide (l.fr < 0) || decide (l.to ≤ l.fr) || decide (40 < l.to)
def ask (s : St) (l : L) : (Bool × Int) × St :=
  if badL l then ((false, 1), s) else if has s.1 l.who || has s.2 l.who then ((false, 7), s) else
  if 30 ≤ s.1.length + s.2.length then ((false, 4), s) else
  if free s.1 l && free s.2 l then ((true, 0), (s.1 ++ [l], s.2)) else ((false, 0), (s.1, s.2 ++ [l]))
/-- those that waited are gone through: who is held now, who is left, who came -/
def sift : List L → List L → List Int → List L → (List L × List L) × List Int
  | h, f, o, [] => ((h, f), o)
  | h, f, o, l :: r => if free h l && free f l then sift (h ++ [l]) f (o ++ [l.who]) r else sift h (f ++ [l]) o r
def freeL (s : St) (who : Int) : (List Int × Int) × St :=
  if has s.1 who then let r := sift (s.1.eraseIdx (at0 s.1 who)) [] [] s.2; ((r.2, 0), r.1) else
  if has s.2 who then let r := sift s.1 [] [] (s.2.eraseIdx (at0 s.2 who)); ((r.2, 0), r.1) else (([], 5), s)
def drop (l : List L) (who : Int) : List L := l.filter fun x => x.who != who
/-- as the document says it -/
def rfreeL (s : St) (who : Int) : (List Int × Int) × St :=
  if !has s.1 who && !has s.2 who then (([], 5), s) else
  let r := sift (drop s.1 who) [] [] (drop s.2 who); ((r.2, 0), r.1)
theorem odds_comm (a b : L) : odds a b = odds b a := by
  unfold odds
  rw [Bool.and_comm (decide (a.fr < b.to)), Bool.or_comm]
theorem has_iff {l : List L} {who : Int} : has l who = true ↔ ∃ x ∈ l, x.who = who := by
  unfold has; rw [List.any_eq_true]
  constructor
  · rintro ⟨x, h, e⟩; exact ⟨x, h, by simpa using e⟩
  · rintro ⟨x, h, e⟩; exact ⟨x, h, by simpa using e⟩
theorem has_no {l : List L} {who : Int} : has l who = false ↔ ∀ x ∈ l, x.who ≠ who := by
  rw [← Bool.not_eq_true, has_iff]
  constructor
  · intro h x hx e; exact h ⟨x, hx, e⟩
  · rintro h ⟨x, hx, e⟩; exact h x hx e
theorem drop_none {l : List L} {who : Int} (h : has l who = false) : drop l who = l := by
  unfold drop; rw [List.filter_eq_self]
  intro x hx; simpa using has_no.1 h x hx
theorem at0_cons (a : L) (l : List L) (who : Int) : at0 (a :: l) who = if a.who == who then 0 else at0 l who + 1 := by
  unfold at0; rw [List.findIdx_cons]; cases h : a.who == who <;> simp
theorem erase_drop : ∀ {l : List L} {who : Int}, (l.map L.who).Nodup → has l who = true → l.eraseIdx (at0 l who) = drop l who
  | [], who, _, h => by simp [has] at h
  | a :: l, who, hn, h => by
    rw [List.map_cons, List.nodup_cons] at hn
    by_cases e : a.who = who
    · have hno : has l who = false := has_no.2 fun x hx e' => hn.1 (List.mem_map.2 ⟨x, hx, by rw [e', e]⟩)
      have hb : (a.who == who) = true := by simpa using e
      rw [at0_cons, if_pos hb, List.eraseIdx_cons_zero]
      unfold drop
      rw [List.filter_cons, if_neg (by simpa using e)]
      exact (drop_none hno).symm
    · have hl : has l who = true := by
        obtain ⟨x, hx, ex⟩ := has_iff.1 h
        rcases List.mem_cons.1 hx with rfl | hx
        · exact absurd ex e
        · exact has_iff.2 ⟨x, hx, ex⟩
      have hb : ¬ (a.who == who) = true := by simpa using e
      rw [at0_cons, if_neg hb, List.eraseIdx_cons_succ, erase_drop hn.2 hl]
      unfold drop
      rw [List.filter_cons, if_pos (by simpa using e)]
theorem at0_lt {l : List L} {who : Int} (h : has l who = true) : at0 l who < l.length := by
  unfold at0; rw [List.findIdx_lt_length]
  obtain ⟨x, hx, e⟩ := has_iff.1 h
  exact ⟨x, hx, by simpa using e⟩
/-- each who once; who is held or waits is right; no two that are held are at odds; who waits has a reason -/
structure Inv (s : St) : Prop where
  once : ((s.1 ++ s.2).map L.who).Nodup
  many : s.1.length + s.2.length ≤ 30
  good : ∀ x ∈ s.1 ++ s.2, badL x = false
  apart : s.1.Pairwise fun a b => odds a b = false
  why : ∀ a x b, s.2 = a ++ x :: b → free s.1 x = false ∨ free a x = false
theorem free_no {l : List L} {x : L} : free l x = false ↔ ∃ y ∈ l, odds x y = true := by
  unfold free; rw [Bool.not_eq_false', List.any_eq_true]
theorem free_yes {l : List L} {x : L} : free l x = true ↔ ∀ y ∈ l, odds x y = false := by
  unfold free; rw [Bool.not_eq_true', List.any_eq_false]
  simp
theorem free_mono {l m : List L} {x : L} (h : free l x = false) (hs : ∀ y ∈ l, y ∈ m) : free m x = false := by
  obtain ⟨y, hy, e⟩ := free_no.1 h
  exact free_no.2 ⟨y, hs y hy, e⟩
theorem pair_snoc {l : List L} {x : L} (h : l.Pairwise fun a b => odds a b = false) (hx : free l x = true) : (l ++ [x]).Pairwise fun a b => odds a b = false := by
  rw [List.pairwise_append]
  exact ⟨h, List.pairwise_singleton _ _, fun a ha b hb => by rw [List.mem_singleton.1 hb, odds_comm]; exact free_yes.1 hx a ha⟩
theorem why_snoc {h l : List L} {x : L} (hw : ∀ a y b, l = a ++ y :: b → free h y = false ∨ free a y = false) (hx : free h x = false ∨ free l x = false) :
    ∀ a y b, l ++ [x] = a ++ y :: b → free h y = false ∨ free a y = false := by
  intro a y b e
  rcases List.eq_nil_or_concat b with rfl | ⟨b', z, rfl⟩
  · have : l = a ∧ [x] = [y] := List.append_inj' e rfl
    obtain ⟨rfl, e2⟩ := this
    injection e2 with e2
    subst e2; exact hx
  · have : l ++ [x] = (a ++ y :: b') ++ [z] := by simpa using e
    exact hw a y b' (List.append_inj' this rfl).1
theorem Inv.nil : Inv ([], []) := ⟨by simp, by simp, by simp, by simp, by simp⟩
theorem Inv.ask {s : St} (h : Inv s) (l : L) : Inv (ask s l).2 := by
  unfold Lk.ask
  split
  · exact h
  rename_i hb
  split
  · exact h
  rename_i hc
  split
  · exact h
  rename_i hm
  simp only [Bool.or_eq_true, not_or, Bool.not_eq_true] at hc
  have hn1 := has_no.1 hc.1
  have hn2 := has_no.1 hc.2
  have hbl : badL l = false := by simpa using hb
  split
  · rename_i hf
    simp only [Bool.and_eq_true] at hf
    refine ⟨?_, ?_, ?_, pair_snoc h.apart hf.1, ?_⟩
    · show (((s.1 ++ [l]) ++ s.2).map L.who).Nodup
      have hp : ((s.1 ++ [l]) ++ s.2).Perm (l :: (s.1 ++ s.2)) := by simp
      rw [(hp.map _).nodup_iff, List.map_cons, List.nodup_cons]
      refine ⟨fun hm => ?_, h.once⟩
      obtain ⟨x, hx, e⟩ := List.mem_map.1 hm
      rcases List.mem_append.1 hx with hx | hx
      · exact hn1 x hx e
      · exact hn2 x hx e
    · show (s.1 ++ [l]).length + s.2.length ≤ 30
      rw [List.length_append, List.length_singleton]; omega
    · intro x hx
      have hx' : x ∈ (s.1 ++ [l]) ++ s.2 := hx
      simp only [List.mem_append, List.mem_singleton] at hx'
      rcases hx' with (hx' | rfl) | hx'
      · exact h.good x (by simp [hx'])
      · exact hbl
      · exact h.good x (by simp [hx'])
    · intro a x b e
      rcases h.why a x b e with h1 | h1
      · exact .inl (free_mono h1 fun y hy => by simp [hy])
      · exact .inr h1
  · rename_i hf
    refine ⟨?_, ?_, ?_, h.apart, ?_⟩
    · show ((s.1 ++ (s.2 ++ [l])).map L.who).Nodup
      have hp : (s.1 ++ (s.2 ++ [l])).Perm (l :: (s.1 ++ s.2)) := by rw [← List.append_assoc]; exact List.perm_append_comm
      rw [(hp.map _).nodup_iff, List.map_cons, List.nodup_cons]
      refine ⟨fun hm => ?_, h.once⟩
      obtain ⟨x, hx, e⟩ := List.mem_map.1 hm
      rcases List.mem_append.1 hx with hx | hx
      · exact hn1 x hx e
      · exact hn2 x hx e
    · show s.1.length + (s.2 ++ [l]).length ≤ 30
      rw [List.length_append, List.length_singleton]; omega
    · intro x hx
      have hx' : x ∈ s.1 ++ (s.2 ++ [l]) := hx
      simp only [List.mem_append, List.mem_singleton] at hx'
      rcases hx' with hx' | hx' | rfl
      · exact h.good x (by simp [hx'])
      · exact h.good x (by simp [hx'])
      · exact hbl
    · refine why_snoc h.why ?_
      simp only [Bool.and_eq_true, not_and, Bool.not_eq_true] at hf
      cases h1 : free s.1 l with
      | false => exact .inl rfl
      | true => exact .inr (hf h1)
/-- what sifting keeps -/
theorem sift_inv : ∀ (r h f : List L) (o : List Int), h.Pairwise (fun a b => odds a b = false) → (∀ a x b, f = a ++ x :: b → free h x = false ∨ free a x = false) →
    ((sift h f o r).1.1.Pairwise (fun a b => odds a b = false)) ∧ (∀ a x b, (sift h f o r).1.2 = a ++ x :: b → free (sift h f o r).1.1 x = false ∨ free a x = false) ∧
    ((sift h f o r).1.1 ++ (sift h f o r).1.2).Perm (h ++ f ++ r)
  | [], h, f, o, hp, hw => ⟨hp, hw, by simp [sift]⟩
  | l :: r, h, f, o, hp, hw => by
    unfold sift
    split
    · rename_i hf
      simp only [Bool.and_eq_true] at hf
      have ih := sift_inv r (h ++ [l]) f (o ++ [l.who]) (pair_snoc hp hf.1) (fun a x b e => (hw a x b e).imp_left fun h1 => free_mono h1 fun y hy => by simp [hy])
      refine ⟨ih.1, ih.2.1, ih.2.2.trans ?_⟩
      rw [List.append_assoc, List.append_assoc, List.append_assoc]
      refine List.Perm.append_left _ ?_
      rw [List.singleton_append]
      exact (List.perm_middle).symm
    · rename_i hf
      simp only [Bool.and_eq_true, not_and, Bool.not_eq_true] at hf
      have ih := sift_inv r h (f ++ [l]) o hp (why_snoc hw (by
        cases h1 : free h l with
        | false => exact .inl rfl
        | true => exact .inr (hf h1)))
      refine ⟨ih.1, ih.2.1, ih.2.2.trans ?_⟩
      simp
theorem drop_sub (l : List L) (who : Int) : (drop l who).Sublist l := List.filter_sublist
theorem free_eq {s : St} (h : Inv s) (who : Int) : freeL s who = rfreeL s who := by
  have ho := h.once
  rw [List.map_append, List.nodup_append] at ho
  unfold freeL rfreeL
  cases h1 : has s.1 who with
  | true =>
    have h2 : has s.2 who = false := has_no.2 fun x hx e => by
      obtain ⟨y, hy, e'⟩ := has_iff.1 h1
      exact ho.2.2 y.who (List.mem_map.2 ⟨y, hy, rfl⟩) x.who (List.mem_map.2 ⟨x, hx, rfl⟩) (by rw [e, e'])
    rw [erase_drop ho.1 h1, drop_none h2]; simp
  | false =>
    cases h2 : has s.2 who with
    | true => rw [erase_drop ho.2.1 h2, drop_none h1]; simp
    | false => simp
theorem Inv.free {s : St} (h : Inv s) (who : Int) : Inv (freeL s who).2 := by
  rw [free_eq h]
  unfold rfreeL
  split
  · exact h
  · have hp := (h.apart.sublist (drop_sub s.1 who))
    have ih := sift_inv (drop s.2 who) (drop s.1 who) [] [] hp (by simp)
    have hperm := ih.2.2
    rw [List.append_nil] at hperm
    have hsub : (drop s.1 who ++ drop s.2 who).Sublist (s.1 ++ s.2) := (drop_sub _ _).append (drop_sub _ _)
    refine ⟨?_, ?_, fun x hx => h.good x (hsub.subset (hperm.subset hx)), ih.1, ih.2.1⟩
    · rw [(hperm.map _).nodup_iff]; exact (hsub.map _).nodup h.once
    · have := hperm.length_eq
      have h2 := hsub.length_le
      have h3 := h.many
      simp only [List.length_append] at this h2
      simp only; omega
theorem drop_len {l : List L} {who : Int} (hn : (l.map L.who).Nodup) (h : has l who = true) : (drop l who).length + 1 = l.length := by
  rw [← erase_drop hn h]
  have := at0_lt h
  rw [List.length_eraseIdx, if_pos this]; omega
/-- who is freed is gone, and all others are there -/
theorem free_len {s : St} (h : Inv s) {who : Int} (hh : has s.1 who = true) : (freeL s who).1.2 = 0 ∧ (freeL s who).2.1.length + (freeL s who).2.2.length + 1 = s.1.length + s.2.length := by
  have ho := h.once
  rw [List.map_append, List.nodup_append] at ho
  have h2 : has s.2 who = false := has_no.2 fun x hx e => by
    obtain ⟨y, hy, e'⟩ := has_iff.1 hh
    exact ho.2.2 y.who (List.mem_map.2 ⟨y, hy, rfl⟩) x.who (List.mem_map.2 ⟨x, hx, rfl⟩) (by rw [e, e'])
  rw [free_eq h]
  unfold rfreeL
  rw [hh, h2]
  simp only [Bool.not_true, Bool.false_and, drop_none h2]
  have ih := sift_inv s.2 (drop s.1 who) [] [] (h.apart.sublist (drop_sub s.1 who)) (by simp)
  have := ih.2.2.length_eq
  have hd := drop_len ho.1 hh
  simp only [List.length_append, List.append_nil] at this
  refine ⟨rfl, ?_⟩
  simp only [Bool.false_eq_true, if_false]
  omega
/-- where none is held none waits -/
theorem Inv.none {s : St} (h : Inv s) (h0 : s.1 = []) : s.2 = [] := by
  cases hs : s.2 with
  | nil => rfl
  | cons x b =>
    rcases h.why [] x b (by simpa using hs) with h1 | h1
    · rw [h0] at h1; simp [Lk.free] at h1
    · simp [Lk.free] at h1
end Go.Proofs.YtoddoekmgkcomaaDoor.Lk
