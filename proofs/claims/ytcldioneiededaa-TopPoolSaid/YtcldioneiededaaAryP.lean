/- The array of disks, in plain: which disks have failed, up to which row each is built, what each has. What is lost may be anything here. -/
import Derived.Test.YtcldioneiededaaPqS
import Derived.Test.YtcldioneiededaaPqL
namespace Go.Proofs.Ytcldioneiededaa
set_option linter.unusedVariables false
namespace Ar
def up {α : Type} (f : Nat → α) (i : Nat) (x : α) : Nat → α := fun r => if r = i then x else f r
theorem up_self {α : Type} (f : Nat → α) (i : Nat) (x : α) : up f i x i = x := if_pos rfl
theorem up_ne {α : Type} (f : Nat → α) {i r : Nat} (x : α) (h : r ≠ i) : up f i x r = f r := if_neg h
/-- the disk of the j-th part of a row; which part a disk has -/
def dk (n row j : Nat) : Nat := (n - 1 - row % n + 2 + j) % n
def ix (n row d : Nat) : Nat := (d + row % n + n - 1) % n
theorem dk_lt {n row j : Nat} (h : 0 < n) : dk n row j < n := Nat.mod_lt _ h
theorem ix_lt {n row d : Nat} (h : 0 < n) : ix n row d < n := Nat.mod_lt _ h
theorem small : ∀ n, n ≤ 10 → 3 ≤ n → ∀ q, q < n → ∀ j, j < n → (((j + q + n - 1) % n) < n ∧ (n - 1 - q + 2 + ((j + q + n - 1) % n)) % n = j ∧ (((n - 1 - q + 2 + j) % n) + q + n - 1) % n = j) := by decide +kernel
theorem dk_ix {n row d : Nat} (h3 : 3 ≤ n) (h10 : n ≤ 10) (hd : d < n) : dk n row (ix n row d) = d := (small n h10 h3 (row % n) (Nat.mod_lt _ (by omega)) d hd).2.1
theorem ix_dk {n row j : Nat} (h3 : 3 ≤ n) (h10 : n ≤ 10) (hj : j < n) : ix n row (dk n row j) = j := (small n h10 h3 (row % n) (Nat.mod_lt _ (by omega)) j hj).2.2
theorem permB : ∀ n, n ≤ 10 → 3 ≤ n → ∀ q, q < n → ((List.range n).map (fun j => (n - 1 - q + 2 + j) % n)).isPerm (List.range n) = true := by decide +kernel
theorem dk_perm {n row : Nat} (h3 : 3 ≤ n) (h10 : n ≤ 10) : ((List.range n).map (dk n row)).Perm (List.range n) := List.isPerm_iff.1 (permB n h10 h3 (row % n) (Nat.mod_lt _ (by omega)))
structure S where
  n : Nat
  rows : Nat
  size : Nat
  fl : Nat → Bool
  bt : Nat → Nat
  c : Nat → Nat → ByteArray
namespace S
def lost (s : S) (d row : Nat) : Bool := s.fl d || decide (s.bt d ≤ row)
def part (s : S) (row j : Nat) : ByteArray := if s.lost (dk s.n row j) row then ⟨#[]⟩ else s.c (dk s.n row j) row
def parts (s : S) (row : Nat) : List ByteArray := (List.range s.n).map (s.part row)
def marks (s : S) (row : Nat) : List Bool := (List.range s.n).map fun j => s.lost (dk s.n row j) row
def many (s : S) (row : Nat) : Nat := ((List.range s.n).filter (fun d => s.lost d row)).length
def heal (s : S) (row : Nat) : List ByteArray := Gv.heal (s.parts row) (s.marks row)
def full (s : S) (row : Nat) : List ByteArray := (List.range s.n).map fun j => s.c (dk s.n row j) row
def has (s : S) (d : Int) : Prop := 0 ≤ d ∧ d < (s.n : Int)
instance (s : S) (d : Int) : Decidable (s.has d) := inferInstanceAs (Decidable (_ ∧ _))
def hasRow (s : S) (r : Int) : Prop := 0 ≤ r ∧ r < (s.rows : Int)
instance (s : S) (d : Int) : Decidable (s.hasRow d) := inferInstanceAs (Decidable (_ ∧ _))
def hasBlock (s : S) (b : Int) : Prop := 0 ≤ b ∧ b < ((s.rows * (s.n - 2) : Nat) : Int)
instance (s : S) (d : Int) : Decidable (s.hasBlock d) := inferInstanceAs (Decidable (_ ∧ _))
def fail (s : S) (d : Int) : Int × S := if s.has d then (if s.fl d.toNat then (6, s) else (0, { s with fl := up s.fl d.toNat true })) else (1, s)
def replace (s : S) (d : Int) : Int × S := if s.has d then (if s.fl d.toNat then (0, { s with fl := up s.fl d.toNat false, bt := up s.bt d.toNat 0 }) else (6, s)) else (1, s)
def setC (s : S) (d row : Nat) (b : ByteArray) : S := { s with c := up s.c d (up (s.c d) row b) }
def built (s : S) (d : Nat) : S := { s.setC d (s.bt d) ((s.heal (s.bt d)).getD (ix s.n (s.bt d) d) ⟨#[]⟩) with bt := up s.bt d (s.bt d + 1) }
def rebuild (s : S) (d : Int) : (Int × Int) × S :=
  if s.has d then (if s.fl d.toNat = true ∨ s.bt d.toNat = s.rows then ((0, 6), s) else if 2 < s.many (s.bt d.toNat) then ((0, 8), s) else (((s.rows : Int) - (s.bt d.toNat + 1), 0), s.built d.toNat)) else ((0, 1), s)
def readAt (s : S) (b : Nat) : ByteArray × Int :=
  if s.lost (dk s.n (b / (s.n - 2)) (b % (s.n - 2))) (b / (s.n - 2)) = false then (s.c (dk s.n (b / (s.n - 2)) (b % (s.n - 2))) (b / (s.n - 2)), 0)
  else if 2 < s.many (b / (s.n - 2)) then (⟨#[]⟩, 8) else ((s.heal (b / (s.n - 2))).getD (b % (s.n - 2)) ⟨#[]⟩, 0)
def read (s : S) (b : Int) : ByteArray × Int := if s.hasBlock b then s.readAt b.toNat else (⟨#[]⟩, 1)
/-- the row with block j another one, and its P and Q -/
def turned (s : S) (row j : Nat) (b : ByteArray) : List ByteArray := ((s.heal row).take (s.n - 2)).set j b ++ [Gv.P (((s.heal row).take (s.n - 2)).set j b), Gv.Q (((s.heal row).take (s.n - 2)).set j b)]
def putRow (s : S) (row : Nat) (l : List ByteArray) : S := { s with c := fun d r => if r = row then l.getD (ix s.n row d) ⟨#[]⟩ else s.c d r }
def write (s : S) (b : Int) (x : ByteArray) : Int × S :=
  if s.hasBlock b then (if x.size = s.size then (if 2 < s.many (b.toNat / (s.n - 2)) then (8, s) else (0, s.putRow (b.toNat / (s.n - 2)) (s.turned (b.toNat / (s.n - 2)) (b.toNat % (s.n - 2)) x))) else (3, s)) else (1, s)
def poke (s : S) (d row : Int) (x : ByteArray) : Int × S :=
  if s.has d ∧ s.hasRow row then (if x.size = s.size then (if s.lost d.toNat row.toNat then (6, s) else (0, s.setC d.toNat row.toNat x)) else (3, s)) else (1, s)
structure Ok (s : S) : Prop where
  n3 : 3 ≤ s.n
  n10 : s.n ≤ 10
  r1 : 1 ≤ s.rows
  r20 : s.rows ≤ 20
  z1 : 1 ≤ s.size
  z16 : s.size ≤ 16
  cl : ∀ d r, d < s.n → r < s.rows → s.lost d r = false → (s.c d r).size = s.size
  bt : ∀ d, d < s.n → s.bt d ≤ s.rows
theorem parts_len (s : S) (row : Nat) : (s.parts row).length = s.n := by unfold parts; simp
theorem marks_len (s : S) (row : Nat) : (s.marks row).length = s.n := by unfold marks; simp
theorem full_len (s : S) (row : Nat) : (s.full row).length = s.n := by unfold full; simp
theorem marks_at (s : S) (row : Nat) {j : Nat} (h : j < s.n) : Gv.lo (s.marks row) j = s.lost (dk s.n row j) row := by
  unfold Gv.lo marks; rw [List.getD_eq_getElem?_getD, List.getElem?_map, List.getElem?_range h]; rfl
theorem parts_at (s : S) (row : Nat) {j : Nat} (h : j < s.n) : (s.parts row).getD j ⟨#[]⟩ = s.part row j := by
  unfold parts; rw [List.getD_eq_getElem?_getD, List.getElem?_map, List.getElem?_range h]; rfl
theorem full_at (s : S) (row : Nat) {j : Nat} (h : j < s.n) : (s.full row).getD j ⟨#[]⟩ = s.c (dk s.n row j) row := by
  unfold full; rw [List.getD_eq_getElem?_getD, List.getElem?_map, List.getElem?_range h]; rfl
theorem many_gone {s : S} (h : s.Ok) (row : Nat) : (Gv.goneL (s.marks row) s.n).length = s.many row := by
  have e : Gv.goneL (s.marks row) s.n = (List.range s.n).filter (fun j => s.lost (dk s.n row j) row) := by
    unfold Gv.goneL
    exact List.filter_congr (fun j hj => s.marks_at row (List.mem_range.1 hj))
  rw [e]
  have h1 : ((List.range s.n).filter (fun j => s.lost (dk s.n row j) row)).length = (((List.range s.n).map (dk s.n row)).filter (fun d => s.lost d row)).length := by
    rw [List.filter_map, List.length_map]; rfl
  rw [h1]
  exact (List.Perm.filter _ (dk_perm h.n3 h.n10)).length_eq
theorem part_size {s : S} (h : s.Ok) {row j : Nat} (hr : row < s.rows) (hj : j < s.n) (hl : Gv.lo (s.marks row) j = false) : ((s.parts row).getD j ⟨#[]⟩).size = s.size := by
  rw [s.marks_at row hj] at hl
  rw [s.parts_at row hj]
  unfold part
  rw [hl, if_neg (by decide)]
  exact h.cl _ _ (dk_lt (by have := h.n3; omega)) hr hl
theorem healF_eq {s : S} (h : s.Ok) {row : Nat} (hr : row < s.rows) : Gv.healF (s.parts row) (s.marks row) = if 2 < s.many row then 8 else 0 := by
  have h3 := h.n3
  have h10 := h.n10
  have hm : manyB ((s.parts row).length : Int) = true := by rw [s.parts_len]; unfold manyB; rw [dec_t (by omega), dec_t (by omega)]; rfl
  have hlen := Gv.have_len (s.parts row) (s.marks row) s.n
  rw [s.many_gone h] at hlen
  unfold Gv.healF
  rw [hm, if_neg (by decide), s.parts_len, s.marks_len, if_neg (by simp)]
  by_cases hc : 2 < s.many row
  · rw [if_pos hc, if_pos (by omega)]
  · rw [if_neg hc, if_neg (by omega)]
    have hall : ∀ m, m ≤ s.n → ∀ x ∈ Gv.have' (s.parts row) (s.marks row) m, x.size = s.size := by
      intro m
      induction m with
      | zero => intro _ x hx; cases hx
      | succ m ih =>
        intro hm x hx
        unfold Gv.have' at hx
        by_cases e : Gv.lo (s.marks row) m = true
        · rw [if_pos e] at hx; exact ih (by omega) x hx
        · rw [if_neg e] at hx
          rcases List.mem_append.1 hx with hx | hx
          · exact ih (by omega) x hx
          · rw [List.mem_singleton.1 hx]; exact part_size h hr (by omega) (by simpa using e)
    have hall := hall s.n (Nat.le_refl _)
    generalize Gv.have' (s.parts row) (s.marks row) s.n = hv at *
    have h0 : hv[0]? = some (hv[0]'(by omega)) := List.getElem?_eq_getElem (by omega)
    rw [blkF_good h0 (fun j x hx => by rw [hall x (List.mem_of_getElem? hx), hall _ (List.getElem_mem (by omega))]), hall _ (List.getElem_mem (by omega)), if_neg (by have := h.z16; omega)]
end S
end Ar
/-- what is healed has its own P and Q, whatever stands where it is lost -/
theorem Gv.heal_cw2 {n k : Nat} {ps : List ByteArray} {ls : List Bool} (hl : ps.length = k + 2) (hk : 0 < k) (hs : ∀ i, i < k + 2 → Gv.lo ls i = false → (ps.getD i ⟨#[]⟩).size = n) (hex : ∃ i, i < k + 2 ∧ Gv.lo ls i = false) : Gv.Cw n k (Gv.heal ps ls) := by
  have hsz : Gv.lastSz ps ls ps.length = n := by
    obtain ⟨i, hi, h0⟩ := hex
    exact Gv.lastSz_eq _ (fun i hi h0 => hs i (by omega) h0) ⟨i, by omega, h0⟩
  have he : Gv.heal ps ls = Gv.heal (Gv.outs ps ls n (k + 2)) ls := by
    have hol : (Gv.outs ps ls n (k + 2)).length = k + 2 := by rw [Gv.outs_len, hl]
    have hon : ∀ i, i < k + 2 → Gv.lo ls i = false → ((Gv.outs ps ls n (k + 2)).getD i ⟨#[]⟩).size = n := fun i hi h0 => by
      rw [Gv.outs_at _ _ _ _ (by omega), if_neg (by rw [h0]; simp)]; exact hs i hi h0
    have hsz2 : Gv.lastSz (Gv.outs ps ls n (k + 2)) ls (k + 2) = n := Gv.lastSz_eq _ hon hex
    have hoo : Gv.outs (Gv.outs ps ls n (k + 2)) ls n (k + 2) = Gv.outs ps ls n (k + 2) := by
      refine Gv.list_ext (by rw [Gv.outs_len]) (fun i hi => ?_)
      rw [Gv.outs_len, hol] at hi
      rw [Gv.outs_at _ _ _ _ (by omega)]
      split
      · rename_i hc; rw [Gv.outs_at _ _ _ _ (by omega), if_pos hc]
      · rfl
    unfold Gv.heal
    simp only [hl, hol, hsz2, hoo]
    rw [hl] at hsz
    rw [hsz]
  rw [he]
  refine Gv.heal_cw (by rw [Gv.outs_len, hl]) hk (fun s hs' => ?_) hex
  unfold Gv.outs at hs'
  obtain ⟨i, hi, rfl⟩ := List.mem_map.1 hs'
  rw [List.mem_range] at hi
  split
  · exact Gv.zer_size n
  · rename_i hc
    refine hs i (by omega) ?_
    cases h0 : Gv.lo ls i with
    | false => rfl
    | true => exact absurd ⟨by omega, h0⟩ hc
namespace Ar.S
theorem heal_cw {s : S} (h : s.Ok) {row : Nat} (hr : row < s.rows) (h2 : ¬ 2 < s.many row) : Gv.Cw s.size (s.n - 2) (s.heal row) := by
  have h3 := h.n3
  refine Gv.heal_cw2 (by rw [s.parts_len]; omega) (by omega) (fun i hi h0 => part_size h hr (by omega) h0) ?_
  have hlen := Gv.have_len (s.parts row) (s.marks row) s.n
  rw [s.many_gone h] at hlen
  obtain ⟨i, hi, h0⟩ := Gv.have_ex (ps := s.parts row) (ls := s.marks row) s.n (by omega)
  exact ⟨i, by omega, h0⟩
end Ar.S
end Go.Proofs.Ytcldioneiededaa
