/- A redo log, in plain lists. -/
import Derived.WalkKit
namespace Go.Proofs.YtangcjffiooapaaDoor.Rd
/-- a write: a cell, and its bytes -/
structure W where
  pos : Int
  b : ByteArray
def one (x : W) : List UInt8 := UInt8.ofNat x.pos.toNat :: UInt8.ofNat x.b.size :: x.b.data.toList
def flat (l : List W) : List UInt8 := l.flatMap one
/-- a record without its two bytes of length -/
def body (l : List W) : List UInt8 := UInt8.ofNat l.length :: flat l
def rcd (l : List W) : List UInt8 := UInt8.ofNat ((body l).length / 256) :: UInt8.ofNat ((body l).length % 256) :: body l
def bs (l : List UInt8) : ByteArray := ⟨l.toArray⟩
def put1 (cells : List ByteArray) (x : W) : List ByteArray := cells.set x.pos.toNat x.b
def done (cells : List ByteArray) (l : List W) : List ByteArray := l.foldl put1 cells
def all (first : List ByteArray) (rs : List (List W)) : List ByteArray := rs.foldl done first
def log (rs : List (List W)) : List UInt8 := rs.flatMap rcd
structure Ok (n : Nat) (l : List W) : Prop where
  len : l.length ≤ 40
  pos : ∀ x ∈ l, 0 ≤ x.pos ∧ x.pos < n ∧ x.b.size ≤ 16
theorem bs_size (l : List UInt8) : (bs l).size = l.length := by unfold bs; simp [ByteArray.size]
theorem bs_data (l : List UInt8) : (bs l).data.toList = l := by unfold bs; simp
theorem bs_self (b : ByteArray) : bs b.data.toList = b := by unfold bs; cases b; simp
theorem bs_ext {a b : ByteArray} (h : a.data.toList = b.data.toList) : a = b := by rw [← bs_self a, ← bs_self b, h]
theorem bs_append (a b : List UInt8) : bs a ++ bs b = bs (a ++ b) := by apply bs_ext; rw [bs_data]; simp [bs]
theorem bs_extract (l : List UInt8) (i j : Nat) : (bs l).extract i j = bs ((l.take j).drop i) := by
  apply bs_ext; rw [bs_data]; simp [bs, List.extract_eq_take_drop, List.drop_take]
theorem bs_nil : bs [] = ⟨#[]⟩ := rfl
theorem done_len (cells : List ByteArray) (l : List W) : (done cells l).length = cells.length := by
  unfold done
  induction l generalizing cells with
  | nil => rfl
  | cons a t ih => rw [List.foldl_cons, ih]; unfold put1; rw [List.length_set]
theorem all_len (first : List ByteArray) (rs : List (List W)) : (all first rs).length = first.length := by
  unfold all
  induction rs generalizing first with
  | nil => rfl
  | cons a t ih => rw [List.foldl_cons, ih, done_len]
theorem one_len (x : W) : (one x).length = 2 + x.b.size := by
  show x.b.data.toList.length + 1 + 1 = 2 + x.b.data.size
  rw [Array.length_toList]; omega
theorem flat_nil : flat [] = [] := rfl
theorem flat_cons (x : W) (l : List W) : flat (x :: l) = one x ++ flat l := by unfold flat; rw [List.flatMap_cons]
theorem flat_snoc (l : List W) (x : W) : flat (l ++ [x]) = flat l ++ one x := by unfold flat; rw [List.flatMap_append]; simp
theorem flat_len {n : Nat} : ∀ {l : List W}, (∀ x ∈ l, 0 ≤ x.pos ∧ x.pos < n ∧ x.b.size ≤ 16) → (flat l).length ≤ 18 * l.length
  | [], _ => Nat.le_refl _
  | x :: t, h => by
    have h1 := (h x List.mem_cons_self).2.2
    have h2 := flat_len (n := n) (l := t) (fun y hy => h y (List.mem_cons_of_mem _ hy))
    rw [flat_cons, List.length_append, one_len, List.length_cons]; omega
theorem body_len (l : List W) : (body l).length = 1 + (flat l).length := by unfold body; rw [List.length_cons]; omega
theorem rcd_len (l : List W) : (rcd l).length = 2 + (body l).length := by unfold rcd; simp; omega
theorem Ok.body {n : Nat} {l : List W} (h : Ok n l) : (body l).length ≤ 721 := by
  have := flat_len h.pos; have := h.len; rw [body_len]; omega
theorem log_snoc (rs : List (List W)) (l : List W) : log (rs ++ [l]) = log rs ++ rcd l := by unfold log; rw [List.flatMap_append]; simp
theorem all_snoc (first : List ByteArray) (rs : List (List W)) (l : List W) : all first (rs ++ [l]) = done (all first rs) l := by unfold all; rw [List.foldl_append]; rfl
theorem done_snoc (cells : List ByteArray) (l : List W) (x : W) : done cells (l ++ [x]) = put1 (done cells l) x := by unfold done; rw [List.foldl_append]; rfl
structure R where
  first : List ByteArray
  cells : List ByteArray
  bytes : List UInt8
  safe : Nat
  left : Int
  stopped : Bool
def new (cells : List ByteArray) : R := ⟨cells, cells, [], 0, -1, false⟩
def step (s : R) : R := { s with stopped := s.left == 0, left := max (-1) (s.left - 1) }
def badB (n : Nat) (x : W) : Bool := decide (x.pos < 0) || decide ((n : Int) ≤ x.pos) || decide (16 < x.b.size)
def put (s : R) (l : List W) : Int × R :=
  if s.stopped then (6, s) else if 40 < l.length then (4, s) else if l.any (badB s.cells.length) then (1, s)
  else if s.left == 0 then (6, { step s with bytes := s.bytes ++ (rcd l).take ((rcd l).length / 2) }) else (0, { step s with bytes := s.bytes ++ rcd l, cells := done s.cells l })
def sync (s : R) : Int × R := if s.stopped then (6, s) else if s.left == 0 then (6, step s) else (0, { step s with safe := s.bytes.length })
def fail (s : R) (n : Int) : R := { s with left := max (-1) n }
/-- what is left of the bytes -/
def kept (s : R) (keep : Int) : List UInt8 := s.bytes.take (s.safe + (max 0 (min keep ((s.bytes.length : Int) - s.safe))).toNat)
def crash (s : R) (rs : List (List W)) : R := { s with cells := all s.first rs, bytes := log rs, safe := (log rs).length, left := -1, stopped := false }
/-- no whole record -/
def Short (t : List UInt8) : Prop := t.length < 2 ∨ ∃ a b r, t = a :: b :: r ∧ r.length < a.toNat * 256 + b.toNat
end Go.Proofs.YtangcjffiooapaaDoor.Rd
