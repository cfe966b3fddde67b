/- A scrub of the array of disks, in plain. -/
import Derived.Test.YtcldioneiededaaAryC
namespace Go.Proofs.Ytcldioneiededaa
set_option linter.unusedVariables false
theorem Gv.findF_lt {ps : List ByteArray} : ∀ (m i j : Nat), Gv.findF ps m i = some j → i ≤ j ∧ j < i + m
  | 0, i, j, h => by simp [Gv.findF] at h
  | m + 1, i, j, h => by
    unfold Gv.findF at h
    split at h
    · injection h with h; omega
    · have := Gv.findF_lt m (i + 1) j h; omega
namespace Ar.S
/-- part i is healed by the others -/
def mended (s : S) (row i : Nat) : S := s.setC (dk s.n row i) row ((Gv.heal (s.parts row) (Gv.marks2 s.n i i)).getD i ⟨#[]⟩)
def scrubAt (s : S) (row : Nat) : (Int × Int) × S :=
  if 0 < s.many row then ((0, 6), s)
  else if Gv.cleanB (s.parts row) then ((-1, 0), s)
  else match Gv.findF (s.parts row) s.n 0 with
    | none => ((0, 8), s)
    | some i => (((dk s.n row i : Int), 0), s.mended row i)
def scrub (s : S) (n row : Int) : (Int × Int) × S :=
  if n < 3 ∨ 10 < n then ((0, 1), s)
  else if ¬ s.hasRow row then ((0, 1), s)
  else if (s.n : Int) ≠ n then ((0, 3), s)
  else s.scrubAt row.toNat
theorem none_lost {s : S} {row : Nat} (h : ¬ 0 < s.many row) {d : Nat} (hd : d < s.n) : s.lost d row = false := by
  cases hl : s.lost d row with
  | false => rfl
  | true =>
    have : d ∈ (List.range s.n).filter (fun d => s.lost d row) := List.mem_filter.2 ⟨List.mem_range.2 hd, hl⟩
    have := List.length_pos_of_mem this
    exact absurd this h
theorem parts_full {s : S} (h : s.Ok) {row : Nat} (hm : ¬ 0 < s.many row) : s.parts row = s.full row := by
  have h3 := h.n3
  refine Gv.list_ext (by rw [parts_len, full_len]) (fun i hi => ?_)
  rw [parts_len] at hi
  rw [parts_at _ _ hi, full_at _ _ hi]
  unfold part
  rw [none_lost hm (dk_lt (by omega)), if_neg (by decide)]
theorem full_size {s : S} (h : s.Ok) {row : Nat} (hr : row < s.rows) (hm : ¬ 0 < s.many row) : ∀ x ∈ s.full row, x.size = s.size := by
  have h3 := h.n3
  intro x hx
  unfold full at hx
  obtain ⟨j, hj, rfl⟩ := List.mem_map.1 hx
  exact h.cl _ _ (dk_lt (by omega)) hr (none_lost hm (dk_lt (by omega)))
theorem mend_size {s : S} (h : s.Ok) {row i : Nat} (hr : row < s.rows) (hm : ¬ 0 < s.many row) (hi : i < s.n) : Gv.Cw s.size (s.n - 2) (Gv.heal (s.parts row) (Gv.marks2 s.n i i)) := by
  have h3 := h.n3
  rw [parts_full h hm]
  refine Gv.heal_cw2 (by rw [s.full_len]; omega) (by omega) (fun j hj _ => full_size h hr hm _ (Gv.getD_mem (by rw [s.full_len]; omega))) ⟨if i = 0 then 1 else 0, by split <;> omega, ?_⟩
  cases hl : Gv.lo (Gv.marks2 s.n i i) (if i = 0 then 1 else 0) with
  | false => rfl
  | true => have := (Gv.marks2_at.1 hl).2; split at this <;> omega
theorem mended_ok {s : S} (h : s.Ok) {row i : Nat} (hr : row < s.rows) (hm : ¬ 0 < s.many row) (hi : i < s.n) : (s.mended row i).Ok := by
  have h3 := h.n3
  have hc := mend_size h hr hm hi
  exact setC_ok h _ _ (hc.sz (by omega) _ (Gv.getD_mem (by rw [hc.len]; omega)))
theorem scrubAt_ok {s : S} (h : s.Ok) {row : Nat} (hr : row < s.rows) : (s.scrubAt row).2.Ok := by
  unfold scrubAt
  split
  · exact h
  · rename_i hm
    split
    · exact h
    · split
      · exact h
      · rename_i i hi
        have := (Gv.findF_lt _ _ _ hi).2
        exact mended_ok h hr hm (by omega)
/-- a row that is right -/
theorem scrub_right {s : S} (h : s.Ok) {row : Nat} (hm : ¬ 0 < s.many row) (hc : Gv.Cw s.size (s.n - 2) (s.full row)) : s.scrubAt row = ((-1, 0), s) := by
  unfold scrubAt
  rw [if_neg hm, parts_full h hm, if_pos hc.clean]
/-- a row of which one part is another one -/
theorem scrub_one {s : S} (h : s.Ok) {row i : Nat} {c : List ByteArray} (hr : row < s.rows) (hm : ¬ 0 < s.many row) (hc : Gv.Cw s.size (s.n - 2) c) (hi : i < s.n) (hp : ∀ j, j < s.n → j ≠ i → (s.full row).getD j ⟨#[]⟩ = c.getD j ⟨#[]⟩) (hne : (s.full row).getD i ⟨#[]⟩ ≠ c.getD i ⟨#[]⟩) :
    s.scrubAt row = (((dk s.n row i : Int), 0), s.setC (dk s.n row i) row (c.getD i ⟨#[]⟩)) := by
  have h3 := h.n3
  have h10 := h.n10
  have hfl := s.full_len row
  have hl := Gv.locate_one hc (by omega) (by omega) (ps := s.full row) (by omega) (full_size h hr hm) (i := i) (by omega) (fun j hj hji => hp j (by omega) hji) hne
  have hh : Gv.heal (s.full row) (Gv.marks2 s.n i i) = c := by
    rw [show s.n = s.n - 2 + 2 by omega]
    exact hc.heal (by omega) (by omega) (by omega) (fun j hj h1 _ => hp j (by omega) h1)
  unfold scrubAt mended
  rw [if_neg hm, parts_full h hm]
  unfold Gv.locate at hl
  rw [hfl] at hl
  split at hl
  · injection hl with hl _; omega
  · rename_i hcl
    rw [if_neg hcl]
    split at hl
    · rename_i j hj
      injection hl with hl _
      have : j = i := by omega
      subst this
      rw [hj]
      simp only [hh]
    · injection hl with _ hl; omega
/-- a row of which two parts are other ones is not right -/
theorem scrub_two {s : S} (h : s.Ok) {row x y : Nat} {c : List ByteArray} (hr : row < s.rows) (hm : ¬ 0 < s.many row) (hc : Gv.Cw s.size (s.n - 2) c) (hx : x < s.n) (hp : ∀ j, j < s.n → j ≠ x → j ≠ y → (s.full row).getD j ⟨#[]⟩ = c.getD j ⟨#[]⟩) (hne : (s.full row).getD x ⟨#[]⟩ ≠ c.getD x ⟨#[]⟩) :
    (s.scrubAt row).1 = (0, 8) ∨ (0 ≤ (s.scrubAt row).1.1 ∧ (s.scrubAt row).1.2 = 0) := by
  have h3 := h.n3
  have h10 := h.n10
  have hfl := s.full_len row
  unfold scrubAt
  rw [if_neg hm, parts_full h hm, if_neg]
  · split
    · exact .inl rfl
    · exact .inr ⟨Int.natCast_nonneg _, rfl⟩
  · intro hcl
    have e := hc.unique (Gv.clean_cw (n := s.size) (k := s.n - 2) (full_size h hr hm) (by omega) hcl) (by omega) (by omega) (x := x) (y := y) (fun j hj h1 h2 => hp j (by omega) h1 h2)
    exact hne (by rw [e])
end Ar.S
end Go.Proofs.Ytcldioneiededaa
