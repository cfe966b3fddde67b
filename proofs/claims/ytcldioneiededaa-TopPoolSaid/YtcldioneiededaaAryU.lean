/- The methods of the array of disks: Poke, Write. -/
import Derived.Test.YtcldioneiededaaAryR
import Derived.Test.YtcldioneiededaaPqH
namespace Go.Proofs.Ytcldioneiededaa
open Go.ChangeShapes Go.WideShapes Go.ChangeAt Go.RowKit
set_option linter.unusedVariables false
variable {F : Nat → Prop} {K : Nat} {w : World} {b : Nat} {s : Ar.S}
/-- the first i parts of a row are written -/
def putMs (s : Ar.S) (ms : Nat → Dk.D) (r : Nat) (l : List ByteArray) (i d : Nat) : Dk.D := if Ar.ix s.n r d < i ∧ s.lost d r = false then ((ms d).write (r : Int) (l.getD (Ar.ix s.n r d) ⟨#[]⟩)).2 else ms d
theorem putMs_lost {ms : Nat → Dk.D} {r : Nat} {l : List ByteArray} {i d : Nat} (ho : s.Ok) (hd : d < s.n) (hi : i < s.n) (hl : s.lost (Ar.dk s.n r i) r = true) : putMs s ms r l (i + 1) d = putMs s ms r l i d := by
  unfold putMs
  by_cases h1 : Ar.ix s.n r d < i ∧ s.lost d r = false
  · rw [if_pos h1, if_pos ⟨by omega, h1.2⟩]
  · rw [if_neg h1, if_neg]
    intro h2
    refine h1 ⟨?_, h2.2⟩
    have : Ar.ix s.n r d ≠ i := fun e => by
      have := Ar.dk_ix (row := r) ho.n3 ho.n10 hd
      rw [e] at this
      rw [this, h2.2] at hl; cases hl
    omega
theorem putMs_not {ms : Nat → Dk.D} {r : Nat} {l : List ByteArray} {i d : Nat} (ho : s.Ok) (hd : d < s.n) (hi : i < s.n) (hl : s.lost (Ar.dk s.n r i) r = false) : putMs s ms r l (i + 1) d = Ar.up (putMs s ms r l i) (Ar.dk s.n r i) ((ms (Ar.dk s.n r i)).write (r : Int) (l.getD i ⟨#[]⟩)).2 d := by
  by_cases e : d = Ar.dk s.n r i
  · subst e
    rw [Ar.up_self]
    unfold putMs
    rw [Ar.ix_dk ho.n3 ho.n10 hi, if_pos ⟨by omega, hl⟩]
  · rw [Ar.up_ne _ _ e]
    have : Ar.ix s.n r d ≠ i := fun e2 => e (by rw [← e2, Ar.dk_ix ho.n3 ho.n10 hd])
    unfold putMs
    by_cases h1 : Ar.ix s.n r d < i ∧ s.lost d r = false
    · rw [if_pos h1, if_pos ⟨by omega, h1.2⟩]
    · rw [if_neg h1, if_neg (fun h2 => h1 ⟨by omega, h2.2⟩)]
theorem putMs_see {ms : Nat → Dk.D} {r : Nat} {l : List ByteArray} (h : ArySee K s ms) (ho : s.Ok) (hr : r < s.rows) (hl : Gv.Cw s.size (s.n - 2) l) : ArySee (K + 1) (s.putRow r l) (putMs s ms r l s.n) := by
  have h3 := ho.n3
  have hsz : ∀ d, d < s.n → (l.getD (Ar.ix s.n r d) ⟨#[]⟩).size = s.size := fun d hd => by
    refine hl.sz (by omega) _ (Gv.getD_mem ?_)
    have := Ar.ix_lt (n := s.n) (row := r) (d := d) (by omega)
    rw [hl.len]; omega
  have e : ∀ d, d < s.n → putMs s ms r l s.n d = if s.lost d r = false then { ms d with rows := (ms d).rows.set r (l.getD (Ar.ix s.n r d) ⟨#[]⟩), writes := (ms d).writes + 1 } else ms d := fun d hd => by
    unfold putMs
    have := Ar.ix_lt (n := s.n) (row := r) (d := d) (by omega)
    by_cases hlo : s.lost d r = false
    · rw [if_pos ⟨this, hlo⟩, if_pos hlo, h.write_eq hd (Ar.S.lost_lt hlo).1 hr (hsz d hd)]
    · rw [if_neg (fun h => hlo h.2), if_neg hlo]
  refine ⟨fun d hd => ?_, fun d hd => ?_, fun d hd => ?_, fun d hd => ?_, fun d hd => ?_, fun d r' hd hr' hlo => ?_⟩
  · rw [e d hd]; split <;> exact h.mn d hd
  · rw [e d hd]; split <;> exact h.sz d hd
  · rw [e d hd]
    split
    · show ((ms d).rows.set r _).length = 20
      rw [List.length_set]; exact h.ln d hd
    · exact h.ln d hd
  · rw [e d hd]; split <;> exact h.fl d hd
  · rw [e d hd]
    have := h.wr d hd
    split
    · show (ms d).writes + 1 ≤ K + 1; omega
    · omega
  · have hlo2 : s.lost d r' = false := hlo
    replace hlo := hlo2
    replace hr' : r' < s.rows := hr'
    replace hd : d < s.n := hd
    have hr20 := ho.r20
    show (putMs s ms r l s.n d).rows.getD r' ⟨#[]⟩ = if r' = r then l.getD (Ar.ix s.n r d) ⟨#[]⟩ else s.c d r'
    rw [e d hd]
    by_cases e1 : r' = r
    · subst e1
      rw [if_pos rfl, if_pos hlo]
      show ((ms d).rows.set r' _).getD r' ⟨#[]⟩ = _
      rw [Gv.set_getD (by rw [h.ln d hd]; omega), if_pos rfl]
    · rw [if_neg e1]
      split
      · show ((ms d).rows.set r _).getD r' ⟨#[]⟩ = _
        rw [Gv.set_getD (by rw [h.ln d hd]; omega), if_neg e1]
        exact h.cl d r' hd hr' hlo
      · exact h.cl d r' hd hr' hlo
end Go.Proofs.Ytcldioneiededaa
