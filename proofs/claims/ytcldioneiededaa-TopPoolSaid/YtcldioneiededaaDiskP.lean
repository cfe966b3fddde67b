/- A disk, in plain lists. -/
namespace Go.Proofs.Ytcldioneiededaa.Dk
structure D where
  rows : List ByteArray
  many : Nat
  size : Nat
  failed : Bool
  writes : Nat
def noughts (n : Nat) : ByteArray := ⟨(List.replicate n (0 : UInt8)).toArray⟩
theorem noughts_size (n : Nat) : (noughts n).size = n := by simp [noughts, ByteArray.size]
/-- the first k rows are noughts -/
def fresh (k n : Nat) (l : List ByteArray) : List ByteArray := (List.range l.length).map fun i => if i < k then noughts n else l.getD i ⟨#[]⟩
theorem fresh_len (k n : Nat) (l : List ByteArray) : (fresh k n l).length = l.length := by simp [fresh]
theorem fresh_at {k n : Nat} {l : List ByteArray} {i : Nat} (h : i < l.length) : (fresh k n l)[i]? = some (if i < k then noughts n else l.getD i ⟨#[]⟩) := by
  unfold fresh; rw [List.getElem?_map, List.getElem?_range h]; rfl
theorem fresh_zero (n : Nat) (l : List ByteArray) : fresh 0 n l = l := by
  apply List.ext_getElem?
  intro i
  by_cases h : i < l.length
  · rw [fresh_at h, if_neg (by omega), List.getD_eq_getElem?_getD, List.getElem?_eq_getElem h]; rfl
  · rw [List.getElem?_eq_none (by rw [fresh_len]; omega), List.getElem?_eq_none (by omega)]
theorem fresh_succ {k n : Nat} {l : List ByteArray} (hk : k < l.length) : (fresh k n l).set k (noughts n) = fresh (k + 1) n l := by
  apply List.ext_getElem?
  intro i
  rw [List.getElem?_set]
  by_cases h : i < l.length
  · rw [fresh_at h, fresh_at h]
    by_cases e : k = i
    · subst e; rw [if_pos rfl, if_pos (by rw [fresh_len]; exact hk), if_pos (by omega)]
    · rw [if_neg e]
      by_cases hi : i < k
      · rw [if_pos hi, if_pos (by omega)]
      · rw [if_neg hi, if_neg (by omega)]
  · rw [if_neg (by omega), List.getElem?_eq_none (by rw [fresh_len]; omega), List.getElem?_eq_none (by rw [fresh_len]; omega)]
def D.ready (d : D) (row : Int) : Int := if d.failed then 6 else if row < 0 ∨ (d.many : Int) ≤ row then 1 else 0
def D.read (d : D) (row : Int) : ByteArray × Int := if d.ready row = 0 then (d.rows.getD row.toNat ⟨#[]⟩, 0) else (⟨#[]⟩, d.ready row)
def D.write (d : D) (row : Int) (b : ByteArray) : Int × D :=
  if d.ready row = 0 then (if b.size = d.size then (0, { d with rows := d.rows.set row.toNat b, writes := d.writes + 1 }) else (3, d)) else (d.ready row, d)
def D.fail (d : D) : Int × D := if d.failed then (6, d) else (0, { d with failed := true })
def D.blank (d : D) : D := { d with rows := fresh d.many d.size d.rows }
def D.replace (d : D) : Int × D := if d.failed then (0, D.blank { d with failed := false }) else (6, d)
def made (rows size : Nat) : D := D.blank ⟨List.replicate 20 ⟨#[]⟩, rows, size, false, 0⟩
theorem D.ready_in {d : D} {row : Int} (h : d.ready row = 0) : d.failed = false ∧ 0 ≤ row ∧ row < d.many := by
  unfold D.ready at h
  cases hf : d.failed with
  | true => rw [hf] at h; simp at h
  | false =>
    rw [hf] at h
    by_cases c : row < 0 ∨ (d.many : Int) ≤ row
    · simp [c] at h
    · exact ⟨rfl, by omega, by omega⟩
end Go.Proofs.Ytcldioneiededaa.Dk
