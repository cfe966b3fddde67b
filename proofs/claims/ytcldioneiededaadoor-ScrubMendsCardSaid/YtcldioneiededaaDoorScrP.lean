/- Parts that were poked, and a scrub, in plain. -/
import Derived.Test.YtcldioneiededaaDoorArP
namespace Go.Proofs.YtcldioneiededaaDoor
set_option linter.unusedVariables false
namespace Ar
section
variable {n rows size : Nat} {s : S}
theorem poke_eq {t : S} (hn : t.n = n) (hr : t.rows = rows) (hz : t.size = size) (hl : ∀ d r, d < n → r < rows → t.lost d r = false) {d r : Nat} {x : ByteArray} (hd : d < n) (hrr : r < rows) (hx : x.size = size) : t.poke d r x = (0, t.setC d r x) := by
  unfold S.poke
  rw [if_pos ⟨⟨by omega, by rw [hn]; omega⟩, ⟨by omega, by rw [hr]; omega⟩⟩, if_pos (by rw [hz]; exact hx), Int.toNat_natCast, Int.toNat_natCast, hl d r hd hrr, if_neg (by decide)]
/-- nothing is lost, whatever stands there -/
structure Al (n rows size : Nat) (t : S) : Prop where
  ok : t.Ok
  en : t.n = n
  er : t.rows = rows
  ez : t.size = size
  fl : ∀ e, t.fl e = false
  bt : ∀ e, t.bt e = rows
theorem Wh.al (h : Wh n rows size s) : Al n rows size s := ⟨h.good.toOk, h.en, h.er, h.ez, h.fl, h.bt⟩
theorem Al.lost {t : S} (h : Al n rows size t) {d r : Nat} (hr : r < rows) : t.lost d r = false := by
  unfold S.lost
  rw [h.fl, h.bt, decide_eq_false (by omega)]; rfl
theorem Al.many {t : S} (h : Al n rows size t) {r : Nat} (hr : r < rows) : ¬ 0 < t.many r := by
  have : t.many r = 0 := by
    unfold S.many
    rw [List.length_eq_zero_iff, List.filter_eq_nil_iff]
    intro d _
    rw [h.lost hr]; decide
  omega
theorem Al.set {t : S} (h : Al n rows size t) (d r : Nat) {x : ByteArray} (hx : x.size = size) : Al n rows size (t.setC d r x) :=
  ⟨S.setC_ok h.ok d r (by rw [h.ez]; exact hx), h.en, h.er, h.ez, h.fl, h.bt⟩
theorem Al.poke {t : S} (h : Al n rows size t) {d r : Nat} {x : ByteArray} (hd : d < n) (hrr : r < rows) (hx : x.size = size) : t.poke d r x = (0, t.setC d r x) :=
  poke_eq h.en h.er h.ez (fun d r _ hr => h.lost hr) hd hrr hx
theorem full_j {t : S} {row j : Nat} (hj : j < t.n) : (t.full row).getD j ⟨#[]⟩ = t.c (dk t.n row j) row := t.full_at row hj
/-- one part of a row is another one, or none -/
theorem Al.scrub1 {t : S} (h : Al n rows size t) (hs : Wh n rows size s) {d r : Nat} (hd : d < n) (hr : r < rows) (hp : ∀ e, e < n → e ≠ d → t.c e r = s.c e r) :
    (t.c d r = s.c d r → t.scrubAt r = ((-1, 0), t)) ∧ (t.c d r ≠ s.c d r → t.scrubAt r = (((d : Int), 0), t.setC d r (s.c d r))) := by
  have hcw := hs.good.cw r (by rw [hs.er]; exact hr)
  rw [hs.ez, hs.en] at hcw
  have h3 := h.ok.n3
  have h10 := h.ok.n10
  have hm := h.many hr
  have en := h.en
  have ew := hs.en
  have hix : ix n r d < n := ix_lt (by omega)
  have hdk : dk n r (ix n r d) = d := dk_ix (by omega) (by omega) hd
  have hsame : ∀ j, j < t.n → j ≠ ix n r d → (t.full r).getD j ⟨#[]⟩ = (s.full r).getD j ⟨#[]⟩ := fun j hj hne => by
    rw [full_j hj, full_j (by omega), en, ew]
    refine hp _ (dk_lt (by omega)) (fun e => hne ?_)
    rw [← e, ix_dk (by omega) (by omega) (by omega)]
  have hat : (t.full r).getD (ix n r d) ⟨#[]⟩ = t.c d r := by rw [full_j (by omega), en, hdk]
  have has : (s.full r).getD (ix n r d) ⟨#[]⟩ = s.c d r := by rw [full_j (by omega), ew, hdk]
  constructor
  · intro he
    have e : t.full r = s.full r := Gv.list_ext (by rw [t.full_len, s.full_len]; omega) (fun j hj => by
      rw [t.full_len] at hj
      by_cases hc : j = ix n r d
      · rw [hc, hat, has, he]
      · exact hsame j hj hc)
    refine S.scrub_right h.ok hm ?_
    rw [e, h.ez, h.en]; exact hcw
  · intro hne
    have hh := S.scrub_one h.ok (row := r) (i := ix n r d) (c := s.full r) (by rw [h.er]; exact hr) hm (by rw [h.ez, h.en]; exact hcw) (by omega) hsame (by rw [hat, has]; exact hne)
    rw [hh, en, hdk, has]
theorem scrub_eq {t : S} (h : Al n rows size t) {r : Nat} (hr : r < rows) : t.scrub (n : Int) (r : Int) = t.scrubAt r := by
  have h3 := h.ok.n3
  have h10 := h.ok.n10
  have en := h.en
  unfold S.scrub
  rw [if_neg (by omega), if_neg (fun hc => hc ⟨by omega, by rw [h.er]; omega⟩), if_neg (fun hc => hc (by omega)), Int.toNat_natCast]
end
/-- the closed fact -/
theorem one_scrub : ((s0 3 1 1).poke 2 0 ⟨#[1]⟩).1 = 0 ∧ (((s0 3 1 1).poke 2 0 ⟨#[1]⟩).2.scrub 3 0).1 = (2, 0) := by
  have h := s0_wh (n := 3) (rows := 1) (size := 1) (by omega) (by omega) (by omega) (by omega) (by omega) (by omega)
  have hp := h.al.poke (d := 2) (r := 0) (x := ⟨#[1]⟩) (by omega) (by omega) rfl
  have e2 : ((2 : Nat) : Int) = 2 := rfl
  have e0 : ((0 : Nat) : Int) = 0 := rfl
  have e3 : ((3 : Nat) : Int) = 3 := rfl
  rw [e2, e0] at hp
  rw [hp]
  have ht := h.al.set 2 0 (x := ⟨#[1]⟩) rfl
  have hs := (ht.scrub1 h (d := 2) (r := 0) (by omega) (by omega) (fun e _ hne => by rw [S.setC_c, if_neg (fun hc => hne hc.1)])).2 (by
    rw [S.setC_c, if_pos ⟨rfl, rfl⟩]
    intro hc
    have h1 : (⟨#[1]⟩ : ByteArray).data = (Dk.noughts 1).data := congrArg ByteArray.data hc
    revert h1
    decide)
  have hq := scrub_eq ht (r := 0) (by omega)
  rw [e3, e0] at hq
  rw [hq, hs]
  exact ⟨rfl, rfl⟩
theorem two_scrub {n i k : Nat} {b c : ByteArray} (h3 : 3 ≤ n) (h10 : n ≤ 10) (hi : i < n) (hk : k < n) (hik : i < k) (hb : b.size = 2) (hc : c.size = 2) (hb0 : b ≠ ⟨#[0, 0]⟩) :
    (s0 n 1 2).poke i 0 b = (0, (s0 n 1 2).setC i 0 b) ∧ ((s0 n 1 2).setC i 0 b).poke k 0 c = (0, ((s0 n 1 2).setC i 0 b).setC k 0 c) ∧ ((((s0 n 1 2).setC i 0 b).setC k 0 c).scrub n 0).1.2 = 8 ∨
    (s0 n 1 2).poke i 0 b = (0, (s0 n 1 2).setC i 0 b) ∧ ((s0 n 1 2).setC i 0 b).poke k 0 c = (0, ((s0 n 1 2).setC i 0 b).setC k 0 c) ∧ ((((s0 n 1 2).setC i 0 b).setC k 0 c).scrub n 0).1.2 = 0 ∧ 0 ≤ ((((s0 n 1 2).setC i 0 b).setC k 0 c).scrub n 0).1.1 := by
  have h := s0_wh (n := n) (rows := 1) (size := 2) h3 h10 (by omega) (by omega) (by omega) (by omega)
  have e0 : ((0 : Nat) : Int) = 0 := rfl
  have hp := h.al.poke (d := i) (r := 0) (x := b) hi (by omega) hb
  have h1 := h.al.set i 0 hb
  have hp2 := h1.poke (d := k) (r := 0) (x := c) hk (by omega) hc
  have h2 := h1.set k 0 hc
  have hq := scrub_eq h2 (r := 0) (by omega)
  rw [e0] at hp hp2 hq
  rw [hq]
  obtain ⟨t, ht⟩ : ∃ t, t = ((s0 n 1 2).setC i 0 b).setC k 0 c := ⟨_, rfl⟩
  have htc : ∀ e, t.c e 0 = if e = k then c else if e = i then b else Dk.noughts 2 := fun e => by
    rw [ht, S.setC_c, S.setC_c]
    by_cases h1 : e = k
    · rw [if_pos ⟨h1, rfl⟩, if_pos h1]
    · rw [if_neg (fun h => h1 h.1), if_neg h1]
      by_cases h2 : e = i
      · rw [if_pos ⟨h2, rfl⟩, if_pos h2]
      · rw [if_neg (fun h => h2 h.1), if_neg h2]; rfl
  rw [hp, hp2, ← ht]
  rw [← ht] at h2
  have hcw := h.good.cw 0 (by show 0 < 1; omega)
  have hm := h2.many (r := 0) (by omega)
  have en := h2.en
  have hsn : (s0 n 1 2).n = n := rfl
  have hsz : (s0 n 1 2).size = 2 := rfl
  have hix : ix n 0 i < n := ix_lt (by omega)
  have hdk : dk n 0 (ix n 0 i) = i := dk_ix h3 h10 hi
  have hr := S.scrub_two h2.ok (row := 0) (x := ix n 0 i) (y := ix n 0 k) (c := (s0 n 1 2).full 0) (by rw [h2.er]; omega) hm (by rw [h2.ez, h2.en]; exact hcw) (by omega) (fun j hj hx hy => by
    rw [full_j hj, full_j (by omega), en, hsn, htc]
    have e1 : dk n 0 j ≠ k := fun e => hy (by rw [← e, ix_dk h3 h10 (by omega)])
    have e2 : dk n 0 j ≠ i := fun e => hx (by rw [← e, ix_dk h3 h10 (by omega)])
    rw [if_neg e1, if_neg e2]; rfl) (by
    rw [full_j (by omega), full_j (by omega), en, hsn, hdk, htc, if_neg (by omega), if_pos rfl]
    exact hb0)
  rcases hr with hr | ⟨hr1, hr2⟩
  · exact .inl ⟨rfl, rfl, by rw [hr]⟩
  · exact .inr ⟨rfl, rfl, hr2, hr1⟩
end Ar
end Go.Proofs.YtcldioneiededaaDoor
