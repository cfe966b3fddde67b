/- In each row one part may be another one: what a scrub finds, and what it leaves. Plain. -/
import Derived.Test.YtcldioneiededaaDoorScrA
namespace Go.Proofs.YtcldioneiededaaDoor
set_option linter.unusedVariables false
namespace Ar
theorem setC_up (s : S) (d r : Nat) (x : ByteArray) (e row : Nat) : (s.setC d r x).c e row = if e = d ∧ row = r then x else s.c e row := S.setC_c s d r x e row
/-- which disk has another thing in a row, if one has -/
def PkRow (n : Nat) (s t : S) (row : Nat) : Option Nat → Prop
  | none => ∀ e, e < n → t.c e row = s.c e row
  | some d => d < n ∧ t.c d row ≠ s.c d row ∧ ∀ e, e < n → e ≠ d → t.c e row = s.c e row
def told (p : Nat → Option Nat) (k : Nat) : List (Nat × Nat) := (List.range k).filterMap fun r => (p r).map fun d => (d, r)
theorem told_succ (p : Nat → Option Nat) (k : Nat) : told p (k + 1) = match p k with | none => told p k | some d => told p k ++ [(d, k)] := by
  unfold told
  rw [List.range_succ, List.filterMap_append]
  cases h : p k with
  | none => simp [h]
  | some d => simp [h]
theorem told_len (p : Nat → Option Nat) : ∀ k, (told p k).length ≤ k
  | 0 => Nat.le_refl _
  | k + 1 => by
    have := told_len p k
    rw [told_succ]
    cases p k with
    | none => simp only; omega
    | some d => simp only [List.length_append, List.length_singleton]; omega
theorem told_congr {p q : Nat → Option Nat} {k : Nat} (h : ∀ r, r < k → p r = q r) : told p k = told q k := by
  induction k with
  | zero => rfl
  | succ k ih => rw [told_succ, told_succ, ih (fun r hr => h r (by omega)), h k (by omega)]
theorem told_none (k : Nat) : told (fun _ => none) k = [] := by
  induction k with
  | zero => rfl
  | succ k ih => rw [told_succ]; exact ih
section
variable {n rows size : Nat} {s t : S}
theorem pk_size (hs : Wh n rows size s) {e row : Nat} (he : e < n) (hr : row < rows) : (s.c e row).size = size := by
  rw [← hs.ez]
  exact hs.good.cl e row (by rw [hs.en]; exact he) (by rw [hs.er]; exact hr) (lost0 hs hr)
theorem pk_scrub (hs : Wh n rows size s) (ht : Al n rows size t) {p : Nat → Option Nat} (hp : ∀ row, row < rows → PkRow n s t row (p row)) :
    ∀ k, k ≤ rows → (t.scrubTo k).2 = told p k ∧ Al n rows size (t.scrubTo k).1 ∧ ∀ row e, row < rows → e < n → (t.scrubTo k).1.c e row = if row < k then s.c e row else t.c e row
  | 0, _ => ⟨rfl, ht, fun row e _ _ => by rw [if_neg (by omega)]; rfl⟩
  | k + 1, hk => by
    obtain ⟨h1, h2, h3⟩ := pk_scrub hs ht hp k (by omega)
    have hst : t.scrubTo (k + 1) = (((t.scrubTo k).1.scrubAt k).2, if ((t.scrubTo k).1.scrubAt k).1.2 = 0 ∧ 0 ≤ ((t.scrubTo k).1.scrubAt k).1.1 then (t.scrubTo k).2 ++ [(((t.scrubTo k).1.scrubAt k).1.1.toNat, k)] else (t.scrubTo k).2) := rfl
    generalize (t.scrubTo k).1 = u at *
    have huk : ∀ e, e < n → u.c e k = t.c e k := fun e he => by rw [h3 k e (by omega) he, if_neg (by omega)]
    have hpk := hp k (by omega)
    rw [told_succ]
    cases hq : p k with
    | none =>
      rw [hq] at hpk
      have h0 : 0 < n := by have := hs.good.n3; have := hs.en; omega
      have hsc := (h2.scrub1 hs (d := 0) (r := k) h0 (by omega) (fun e he _ => by rw [huk e he, hpk e he])).1 (by rw [huk 0 h0, hpk 0 h0])
      have hst2 : (t.scrubTo (k + 1)).2 = (t.scrubTo k).2 ∧ (t.scrubTo (k + 1)).1 = u := by
        rw [hst, hsc]
        exact ⟨if_neg (t := (t.scrubTo k).2 ++ [((-1 : Int).toNat, k)]) (fun h : (0 : Int) = 0 ∧ (0 : Int) ≤ -1 => by have h2 := h.2; omega), rfl⟩
      rw [hst2.1, hst2.2]
      refine ⟨h1, h2, fun row e hr he => ?_⟩
      · show u.c e row = _
        rw [h3 row e hr he]
        by_cases hrk : row < k
        · rw [if_pos hrk, if_pos (by omega)]
        · rw [if_neg hrk]
          by_cases hrk2 : row < k + 1
          · obtain rfl : row = k := by omega
            rw [if_pos hrk2, hpk e he]
          · rw [if_neg hrk2]
    | some d =>
      rw [hq] at hpk
      obtain ⟨hd, hne, hsame⟩ := hpk
      have hsc := (h2.scrub1 hs (d := d) (r := k) hd (by omega) (fun e he hed => by rw [huk e he, hsame e he hed])).2 (by rw [huk d hd]; exact hne)
      have hst2 : (t.scrubTo (k + 1)).2 = (t.scrubTo k).2 ++ [((d : Int).toNat, k)] ∧ (t.scrubTo (k + 1)).1 = u.setC d k (s.c d k) := by
        rw [hst, hsc]
        exact ⟨if_pos (e := (t.scrubTo k).2) (⟨rfl, Int.natCast_nonneg d⟩ : (0 : Int) = 0 ∧ (0 : Int) ≤ (d : Int)), rfl⟩
      rw [hst2.1, hst2.2]
      refine ⟨?_, h2.set d k (pk_size hs hd (by omega)), fun row e hr he => ?_⟩
      · rw [Int.toNat_natCast, h1]
      · show (u.setC d k (s.c d k)).c e row = _
        rw [setC_up]
        by_cases hc : e = d ∧ row = k
        · rw [if_pos hc, if_pos (by omega), hc.1, hc.2]
        · rw [if_neg hc, h3 row e hr he]
          by_cases hrk : row < k
          · rw [if_pos hrk, if_pos (by omega)]
          · rw [if_neg hrk]
            by_cases hrk2 : row < k + 1
            · obtain rfl : row = k := by omega
              rw [if_pos hrk2, hsame e he (fun h => hc ⟨h, rfl⟩)]
            · rw [if_neg hrk2]
theorem wh_of (hs : Wh n rows size s) (ht : Al n rows size t) (h : ∀ row e, row < rows → e < n → t.c e row = s.c e row) : Wh n rows size t ∧ ∀ y, y < rows * (n - 2) → t.blk y = s.blk y := by
  have h3 := hs.good.n3
  have en := hs.en
  refine ⟨⟨⟨ht.ok, fun row hr => ?_⟩, ht.en, ht.er, ht.ez, ht.fl, ht.bt⟩, fun y hy => ?_⟩
  · have hr : row < rows := by rw [← ht.er]; exact hr
    have e : t.full row = s.full row := by
      unfold S.full
      rw [ht.en, hs.en]
      exact List.map_congr_left (fun j _ => h row _ hr (dk_lt (by omega)))
    rw [e, ht.ez, ht.en]
    have := hs.good.cw row (by rw [hs.er]; exact hr)
    rw [hs.ez, hs.en] at this
    exact this
  · unfold S.blk
    rw [ht.en, hs.en]
    exact h _ _ ((Nat.div_lt_iff_lt_mul (by omega)).2 hy) (dk_lt (by omega))
/-- a scrub of all rows, and a second one -/
theorem pk_all (hs : Wh n rows size s) (ht : Al n rows size t) {p : Nat → Option Nat} (hp : ∀ row, row < rows → PkRow n s t row (p row)) :
    (t.scrubTo rows).2 = told p rows ∧ ((t.scrubTo rows).1.scrubTo rows).2 = [] ∧ Wh n rows size ((t.scrubTo rows).1.scrubTo rows).1 ∧ (∀ y, y < rows * (n - 2) → ((t.scrubTo rows).1.scrubTo rows).1.blk y = s.blk y) ∧ Wh n rows size (t.scrubTo rows).1 ∧ ∀ y, y < rows * (n - 2) → (t.scrubTo rows).1.blk y = s.blk y := by
  obtain ⟨h1, h2, h3⟩ := pk_scrub hs ht hp rows (Nat.le_refl _)
  have h3' : ∀ row e, row < rows → e < n → (t.scrubTo rows).1.c e row = s.c e row := fun row e hr he => by rw [h3 row e hr he, if_pos hr]
  obtain ⟨g1, g2, g3⟩ := pk_scrub hs h2 (p := fun _ => none) (fun row hr e he => h3' row e hr he) rows (Nat.le_refl _)
  have g3' : ∀ row e, row < rows → e < n → ((t.scrubTo rows).1.scrubTo rows).1.c e row = s.c e row := fun row e hr he => by rw [g3 row e hr he, if_pos hr]
  obtain ⟨w1, w2⟩ := wh_of hs g2 g3'
  obtain ⟨w3, w4⟩ := wh_of hs h2 h3'
  exact ⟨h1, by rw [g1, told_none], w1, w2, w3, w4⟩
/-- rows that were poked so far -/
structure Pk (n rows size k : Nat) (s t : S) (p : Nat → Option Nat) : Prop where
  al : Al n rows size t
  row : ∀ row, row < rows → PkRow n s t row (p row)
  rest : ∀ row, k ≤ row → p row = none
theorem pk_start (hs : Wh n rows size s) : Pk n rows size 0 s s (fun _ => none) := ⟨hs.al, fun _ _ _ _ => rfl, fun _ _ => rfl⟩
theorem pk_skip {k : Nat} {p : Nat → Option Nat} (h : Pk n rows size k s t p) : Pk n rows size (k + 1) s t p := ⟨h.al, h.row, fun row hr => h.rest row (by omega)⟩
theorem pk_same {k : Nat} {p : Nat → Option Nat} (h : Pk n rows size k s t p) (hk : k < rows) {e : Nat} (he : e < n) : t.c e k = s.c e k := by
  have := h.row k hk
  rw [h.rest k (Nat.le_refl _)] at this
  exact this e he
theorem pk_poke {k d : Nat} {p : Nat → Option Nat} {x : ByteArray} (h : Pk n rows size k s t p) (hk : k < rows) (hd : d < n) (hx : x.size = size) :
    t.poke d k x = (0, t.setC d k x) ∧ (s.c d k = x → Pk n rows size (k + 1) s (t.setC d k x) p) ∧ (s.c d k ≠ x → Pk n rows size (k + 1) s (t.setC d k x) (up p k (some d))) := by
  refine ⟨h.al.poke hd hk hx, fun he => ⟨h.al.set d k hx, fun row hr => ?_, fun row hr => h.rest row (by omega)⟩, fun hne => ⟨h.al.set d k hx, fun row hr => ?_, fun row hr => ?_⟩⟩
  · have hrow := h.row row hr
    by_cases hrk : row = k
    · subst hrk
      rw [h.rest row (Nat.le_refl _)] at hrow ⊢
      intro e hen
      rw [setC_up]
      by_cases hc : e = d
      · rw [if_pos ⟨hc, rfl⟩, hc, he]
      · rw [if_neg (fun h => hc h.1)]; exact hrow e hen
    · have hc : ∀ e, (t.setC d k x).c e row = t.c e row := fun e => by rw [setC_up, if_neg (fun h => hrk h.2)]
      cases hq : p row with
      | none => rw [hq] at hrow; exact fun e hen => (hc e).trans (hrow e hen)
      | some d2 => rw [hq] at hrow; exact ⟨hrow.1, by rw [hc]; exact hrow.2.1, fun e hen h2 => (hc e).trans (hrow.2.2 e hen h2)⟩
  · have hrow := h.row row hr
    by_cases hrk : row = k
    · subst hrk
      rw [up_self]
      rw [h.rest row (Nat.le_refl _)] at hrow
      refine ⟨hd, ?_, fun e hen hed => ?_⟩
      · rw [setC_up, if_pos ⟨rfl, rfl⟩]; exact fun h => hne h.symm
      · rw [setC_up, if_neg (fun h => hed h.1)]; exact hrow e hen
    · rw [up_ne _ _ hrk]
      have hc : ∀ e, (t.setC d k x).c e row = t.c e row := fun e => by rw [setC_up, if_neg (fun h => hrk h.2)]
      cases hq : p row with
      | none => rw [hq] at hrow; exact fun e hen => (hc e).trans (hrow e hen)
      | some d2 => rw [hq] at hrow; exact ⟨hrow.1, by rw [hc]; exact hrow.2.1, fun e hen h2 => (hc e).trans (hrow.2.2 e hen h2)⟩
  · rw [up_ne _ _ (by omega)]; exact h.rest row (by omega)
theorem told_up {p : Nat → Option Nat} {k d : Nat} : told (up p k (some d)) (k + 1) = told p k ++ [(d, k)] := by
  rw [told_succ, up_self]
  show told (up p k (some d)) k ++ [(d, k)] = _
  rw [told_congr (q := p) (fun r hr => up_ne _ _ (by omega))]
theorem told_skip {p : Nat → Option Nat} {k : Nat} (h : p k = none) : told p (k + 1) = told p k := by rw [told_succ, h]
end
end Ar
end Go.Proofs.YtcldioneiededaaDoor
