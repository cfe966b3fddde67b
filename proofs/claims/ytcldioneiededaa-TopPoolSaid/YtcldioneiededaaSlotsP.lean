/- What holds of a pool whatever is done with it: plain lists. -/
import Derived.Test.YtcldioneiededaaPoolP
namespace Go.Proofs.Ytcldioneiededaa
namespace Pool
/-- each slot has a disk that works or is filling, and no other slot has it; who stands in no slot is a spare or has failed; a slot has none only while there is no spare -/
structure Inv (S L : List Int) : Prop where
  a : ∀ (i : Nat) (d : Int), L[i]? = some d → d = -1 ∨ ∃ j : Nat, d = j ∧ (S[j]? = some 0 ∨ S[j]? = some 3)
  b : ∀ (i i' j : Nat), L[i]? = some (j : Int) → L[i']? = some (j : Int) → i = i'
  c : ∀ (j : Nat) (x : Int), S[j]? = some x → (x = 1 ∨ x = 2) ∨ ((x = 0 ∨ x = 3) ∧ ∃ i : Nat, L[i]? = some (j : Int))
  d : (∃ i : Nat, L[i]? = some (-1)) → ∀ j : Nat, S[j]? ≠ some 1
theorem idx_some {xs : List Int} {x : Int} {k : Nat} (h : idx xs x = k) : xs[k]? = some x := by
  unfold idx at h
  split at h
  · rename_i hlt
    have : xs.idxOf x = k := by omega
    subst this
    rw [List.getElem?_eq_getElem hlt]
    congr 1
    have := List.findIdx_getElem (p := (· == x)) (xs := xs) (w := hlt)
    exact beq_iff_eq.1 this
  · omega
theorem idx_neg {xs : List Int} {x : Int} (h : idx xs x < 0) (i : Nat) : xs[i]? ≠ some x := by
  unfold idx at h
  split at h
  · omega
  · rename_i hlt
    intro hi
    have := List.idxOf_lt_length_iff.2 (List.mem_of_getElem? hi)
    omega
theorem get_set {xs : List Int} {j : Nat} {y : Int} {i : Nat} {z : Int} (h : (xs.set j y)[i]? = some z) : (i = j ∧ z = y ∧ j < xs.length) ∨ (i ≠ j ∧ xs[i]? = some z) := by
  rw [List.getElem?_set] at h
  by_cases e : j = i
  · subst e
    rw [if_pos rfl] at h
    split at h
    · rename_i hl; exact .inl ⟨rfl, (Option.some.inj h).symm, hl⟩
    · cases h
  · rw [if_neg e] at h; exact .inr ⟨fun e' => e e'.symm, h⟩
theorem get_set_ne {xs : List Int} {j : Nat} {y : Int} {i : Nat} (h : i ≠ j) : (xs.set j y)[i]? = xs[i]? := by
  rw [List.getElem?_set, if_neg (fun e => h e.symm)]
theorem get_set_eq {xs : List Int} {j : Nat} {y : Int} (h : j < xs.length) : (xs.set j y)[j]? = some y := by
  rw [List.getElem?_set, if_pos rfl, if_pos h]
theorem lt_of_some {xs : List Int} {j : Nat} {y : Int} (h : xs[j]? = some y) : j < xs.length := (List.getElem?_eq_some_iff.1 h).1

theorem Inv.new (m k : Nat) : Inv (newS m (m + k)) (newL m (m + k)) := by
  have hS : ∀ (j : Nat) (x : Int), (newS m (m + k))[j]? = some x → j < m + k ∧ x = if j < m then 0 else 1 := by
    intro j x h
    unfold newS at h
    have hj := lt_of_some h
    simp at hj
    rw [List.getElem?_map, List.getElem?_range hj] at h
    exact ⟨hj, (Option.some.inj h).symm⟩
  have hS' : ∀ j, j < m + k → (newS m (m + k))[j]? = some (if j < m then 0 else 1) := by
    intro j hj
    unfold newS
    rw [List.getElem?_map, List.getElem?_range hj]; rfl
  have hL : ∀ (i : Nat) (d : Int), (newL m (m + k))[i]? = some d → i < m ∧ d = i := by
    intro i d h
    unfold newL at h
    have hi := lt_of_some h
    simp at hi
    rw [List.getElem?_map, List.getElem?_range (by omega)] at h
    exact ⟨by omega, (Option.some.inj h).symm⟩
  have hL' : ∀ i, i < m → (newL m (m + k))[i]? = some (i : Int) := by
    intro i hi
    unfold newL
    rw [List.getElem?_map, List.getElem?_range (by omega)]; rfl
  refine ⟨fun i d h => ?_, fun i i' j h h' => ?_, fun j x h => ?_, fun ⟨i, h⟩ => ?_⟩
  · obtain ⟨h1, h2⟩ := hL i d h
    exact .inr ⟨i, h2, .inl (by rw [hS' i (by omega), if_pos h1])⟩
  · have := (hL _ _ h).2; have := (hL _ _ h').2; omega
  · obtain ⟨h1, h2⟩ := hS j x h
    by_cases hj : j < m
    · rw [if_pos hj] at h2; exact .inr ⟨.inl h2, j, hL' j hj⟩
    · rw [if_neg hj] at h2; exact .inl (.inl h2)
  · have := (hL _ _ h).2; omega

theorem Inv.fill {S L : List Int} (h : Inv S L) {j : Nat} (hj : S[j]? = some 3) : Inv (fill S j) L := by
  have hl := lt_of_some hj
  unfold Pool.fill
  refine ⟨fun i d hd => ?_, h.b, fun q x hx => ?_, fun hi q hq => ?_⟩
  · rcases h.a i d hd with h1 | ⟨q, hq, h1⟩
    · exact .inl h1
    · refine .inr ⟨q, hq, ?_⟩
      by_cases e : q = j
      · subst e; exact .inl (get_set_eq hl)
      · rw [get_set_ne e]; exact h1
  · rcases get_set hx with ⟨rfl, rfl, _⟩ | ⟨e, hx'⟩
    · rcases h.c q 3 hj with h1 | ⟨_, h1⟩
      · omega
      · exact .inr ⟨.inl rfl, h1⟩
    · exact h.c q x hx'
  · rcases get_set hq with ⟨rfl, h1, _⟩ | ⟨e, hq'⟩
    · omega
    · exact h.d hi q hq'
theorem Inv.not_in {S L : List Int} (h : Inv S L) {j : Nat} {x : Int} (hx : S[j]? = some x) (h0 : x ≠ 0) (h3 : x ≠ 3) (i : Nat) : L[i]? ≠ some (j : Int) := by
  intro hi
  rcases h.a i _ hi with h1 | ⟨q, hq, h1⟩
  · omega
  · obtain rfl : j = q := by omega
    rw [hx] at h1
    rcases h1 with h1 | h1
    · exact h0 (Option.some.inj h1)
    · exact h3 (Option.some.inj h1)
theorem Inv.fresh {S L : List Int} (h : Inv S L) {j : Nat} (hj : S[j]? = some 2) : Inv (fresh S L j).1 (fresh S L j).2.1 := by
  have hl := lt_of_some hj
  have hno := h.not_in hj (by decide) (by decide)
  unfold Pool.fresh
  by_cases hs : idx L (-1) < 0
  · simp only [hs, if_true]
    have hn := idx_neg hs
    refine ⟨fun i d hd => ?_, h.b, fun q x hx => ?_, fun ⟨i, hi⟩ => absurd hi (hn i)⟩
    · rcases h.a i d hd with h1 | ⟨q, hq, h1⟩
      · exact .inl h1
      · refine .inr ⟨q, hq, ?_⟩
        have e : q ≠ j := by rintro rfl; subst hq; exact hno i hd
        rw [get_set_ne e]; exact h1
    · rcases get_set hx with ⟨rfl, rfl, _⟩ | ⟨e, hx'⟩
      · exact .inl (.inl rfl)
      · exact h.c q x hx'
  · simp only [hs, if_false]
    have hb := idx_bd L (-1)
    obtain ⟨s, hs'⟩ : ∃ s : Nat, idx L (-1) = s := ⟨(idx L (-1)).toNat, by omega⟩
    have hLs := idx_some hs'
    rw [hs']
    have hsl := lt_of_some hLs
    have hset : ∀ (q : Nat) (x : Int), ((S.set j 1).set j 3)[q]? = some x → (q = j ∧ x = 3) ∨ (q ≠ j ∧ S[q]? = some x) := by
      intro q x hx
      rcases get_set hx with ⟨h1, h2, _⟩ | ⟨e, hx'⟩
      · exact .inl ⟨h1, h2⟩
      · rw [get_set_ne e] at hx'; exact .inr ⟨e, hx'⟩
    have hset2 : ∀ q : Nat, q ≠ j → ((S.set j 1).set j 3)[q]? = S[q]? := by
      intro q e; rw [get_set_ne e, get_set_ne e]
    have hset3 : ((S.set j 1).set j 3)[j]? = some 3 := get_set_eq (by rw [List.length_set]; exact hl)
    show Inv ((S.set j 1).set j 3) (L.set s j)
    refine ⟨fun i d hd => ?_, fun i i' q h1 h2 => ?_, fun q x hx => ?_, fun ⟨i, hi⟩ q hq => ?_⟩
    · rcases get_set hd with ⟨rfl, rfl, _⟩ | ⟨e, hd'⟩
      · exact .inr ⟨j, rfl, .inr hset3⟩
      · rcases h.a i d hd' with h1 | ⟨q, hq, h1⟩
        · exact .inl h1
        · refine .inr ⟨q, hq, ?_⟩
          have e' : q ≠ j := by rintro rfl; subst hq; exact hno i hd'
          rw [hset2 q e']; exact h1
    · rcases get_set h1 with ⟨e1, f1, _⟩ | ⟨e1, h1'⟩ <;> rcases get_set h2 with ⟨e2, f2, _⟩ | ⟨e2, h2'⟩
      · omega
      · obtain rfl : q = j := by omega
        exact absurd h2' (hno i')
      · obtain rfl : q = j := by omega
        exact absurd h1' (hno i)
      · exact h.b i i' q h1' h2'
    · rcases hset q x hx with ⟨rfl, rfl⟩ | ⟨e, hx'⟩
      · exact .inr ⟨.inr rfl, s, get_set_eq hsl⟩
      · rcases h.c q x hx' with h1 | ⟨h1, i, h2⟩
        · exact .inl h1
        · refine .inr ⟨h1, i, ?_⟩
          have : i ≠ s := by rintro rfl; rw [hLs] at h2; have := Option.some.inj h2; omega
          rw [get_set_ne this]; exact h2
    · rcases get_set hi with ⟨_, h1, _⟩ | ⟨e, hi'⟩
      · omega
      · rcases hset q 1 hq with ⟨_, h1⟩ | ⟨_, h1⟩
        · omega
        · exact h.d ⟨s, hLs⟩ q h1
theorem Inv.fail {S L : List Int} (h : Inv S L) {j : Nat} {x : Int} (hj : S[j]? = some x) (hx2 : x ≠ 2) : Inv (fail S L j).1 (fail S L j).2.1 := by
  have hl := lt_of_some hj
  unfold Pool.fail
  have hS1 : ∀ q : Nat, q ≠ j → (S.set j 2)[q]? = S[q]? := fun q e => get_set_ne e
  by_cases hs : idx L j < 0
  · simp only [hs, if_true]
    have hn := idx_neg hs
    refine ⟨fun i d hd => ?_, h.b, fun q y hy => ?_, fun hi q hq => ?_⟩
    · rcases h.a i d hd with h1 | ⟨q, hq, h1⟩
      · exact .inl h1
      · refine .inr ⟨q, hq, ?_⟩
        have e : q ≠ j := by rintro rfl; subst hq; exact hn i hd
        rw [hS1 q e]; exact h1
    · rcases get_set hy with ⟨rfl, rfl, _⟩ | ⟨e, hy'⟩
      · exact .inl (.inr rfl)
      · exact h.c q y hy'
    · rcases get_set hq with ⟨_, h1, _⟩ | ⟨e, hq'⟩
      · omega
      · exact h.d hi q hq'
  · have hb := idx_bd L j
    obtain ⟨s, hs'⟩ : ∃ s : Nat, idx L j = s := ⟨(idx L j).toNat, by omega⟩
    have hLs := idx_some hs'
    have hsl := lt_of_some hLs
    simp only [hs', if_neg (show ¬ ((s : Nat) : Int) < 0 by omega)]
    by_cases hp : idx (S.set j 2) 1 < 0
    · simp only [hp, if_true]
      have hn := idx_neg hp
      have hm : idx (S.set j 2) 1 = -1 := by have := idx_bd (S.set j 2) 1; omega
      rw [hm]
      show Inv (S.set j 2) (L.set s (-1))
      refine ⟨fun i d hd => ?_, fun i i' q h1 h2 => ?_, fun q y hy => ?_, fun _ q => hn q⟩
      · rcases get_set hd with ⟨_, rfl, _⟩ | ⟨e, hd'⟩
        · exact .inl rfl
        · rcases h.a i d hd' with h1 | ⟨q, hq, h1⟩
          · exact .inl h1
          · refine .inr ⟨q, hq, ?_⟩
            have e' : q ≠ j := by rintro rfl; subst hq; exact e (h.b i s q hd' hLs)
            rw [hS1 q e']; exact h1
      · rcases get_set h1 with ⟨_, f1, _⟩ | ⟨e1, h1'⟩
        · omega
        · rcases get_set h2 with ⟨_, f2, _⟩ | ⟨e2, h2'⟩
          · omega
          · exact h.b i i' q h1' h2'
      · rcases get_set hy with ⟨rfl, rfl, _⟩ | ⟨e, hy'⟩
        · exact .inl (.inr rfl)
        · rcases h.c q y hy' with h1 | ⟨h1, i, h2⟩
          · exact .inl h1
          · refine .inr ⟨h1, i, ?_⟩
            have : i ≠ s := by rintro rfl; rw [hLs] at h2; have := Option.some.inj h2; omega
            rw [get_set_ne this]; exact h2
    · have hpb := idx_bd (S.set j 2) 1
      obtain ⟨p, hp'⟩ : ∃ p : Nat, idx (S.set j 2) 1 = p := ⟨(idx (S.set j 2) 1).toNat, by omega⟩
      have hSp := idx_some hp'
      simp only [hp', if_neg (show ¬ ((p : Nat) : Int) < 0 by omega)]
      have hpj : p ≠ j ∧ S[p]? = some 1 := by
        rcases get_set hSp with ⟨_, h1, _⟩ | h1
        · omega
        · exact h1
      have hno := h.not_in hpj.2 (by decide) (by decide)
      have hT : ∀ (q : Nat) (y : Int), ((S.set j 2).set p 3)[q]? = some y → (q = p ∧ y = 3) ∨ (q = j ∧ y = 2) ∨ (q ≠ p ∧ q ≠ j ∧ S[q]? = some y) := by
        intro q y hy
        rcases get_set hy with ⟨h1, h2, _⟩ | ⟨e, hy'⟩
        · exact .inl ⟨h1, h2⟩
        · rcases get_set hy' with ⟨h1, h2, _⟩ | ⟨e', hy''⟩
          · exact .inr (.inl ⟨h1, h2⟩)
          · exact .inr (.inr ⟨e, e', hy''⟩)
      have hT2 : ((S.set j 2).set p 3)[p]? = some 3 := get_set_eq (by rw [List.length_set]; exact lt_of_some hpj.2)
      show Inv ((S.set j 2).set p 3) (L.set s p)
      refine ⟨fun i d hd => ?_, fun i i' q h1 h2 => ?_, fun q y hy => ?_, fun ⟨i, hi⟩ q hq => ?_⟩
      · rcases get_set hd with ⟨_, rfl, _⟩ | ⟨e, hd'⟩
        · exact .inr ⟨p, rfl, .inr hT2⟩
        · rcases h.a i d hd' with h1 | ⟨q, hq, h1⟩
          · exact .inl h1
          · refine .inr ⟨q, hq, ?_⟩
            have e' : q ≠ j := by rintro rfl; subst hq; exact e (h.b i s q hd' hLs)
            have e'' : q ≠ p := by rintro rfl; subst hq; exact hno i hd'
            rw [get_set_ne e'', hS1 q e']; exact h1
      · rcases get_set h1 with ⟨e1, f1, _⟩ | ⟨e1, h1'⟩ <;> rcases get_set h2 with ⟨e2, f2, _⟩ | ⟨e2, h2'⟩
        · omega
        · obtain rfl : q = p := by omega
          exact absurd h2' (hno i')
        · obtain rfl : q = p := by omega
          exact absurd h1' (hno i)
        · exact h.b i i' q h1' h2'
      · rcases hT q y hy with ⟨rfl, rfl⟩ | ⟨rfl, rfl⟩ | ⟨e, e', hy'⟩
        · exact .inr ⟨.inr rfl, s, get_set_eq hsl⟩
        · exact .inl (.inr rfl)
        · rcases h.c q y hy' with h1 | ⟨h1, i, h2⟩
          · exact .inl h1
          · refine .inr ⟨h1, i, ?_⟩
            have : i ≠ s := by rintro rfl; rw [hLs] at h2; have := Option.some.inj h2; omega
            rw [get_set_ne this]; exact h2
      · rcases get_set hi with ⟨_, h1, _⟩ | ⟨e, hi'⟩
        · omega
        · exact absurd hpj.2 (h.d ⟨i, hi'⟩ p)
theorem fail_len (S L : List Int) (j : Nat) : (fail S L j).1.length = S.length ∧ (fail S L j).2.1.length = L.length := by
  unfold fail
  simp only
  split
  · exact ⟨by rw [List.length_set], rfl⟩
  · split
    · exact ⟨by rw [List.length_set], by rw [List.length_set]⟩
    · exact ⟨by rw [List.length_set, List.length_set], by rw [List.length_set]⟩
theorem fresh_len (S L : List Int) (j : Nat) : (fresh S L j).1.length = S.length ∧ (fresh S L j).2.1.length = L.length := by
  unfold fresh
  simp only
  split
  · exact ⟨by rw [List.length_set], rfl⟩
  · exact ⟨by rw [List.length_set, List.length_set], by rw [List.length_set]⟩
end Pool
end Go.Proofs.Ytcldioneiededaa
