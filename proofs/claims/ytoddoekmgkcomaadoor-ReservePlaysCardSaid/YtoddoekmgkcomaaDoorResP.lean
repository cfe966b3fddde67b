/- Who may: what a reservation of hosts does, in plain lists. -/
import Derived.Test.YtoddoekmgkcomaaDoorArr
import Derived.Test.YtoddoekmgkcomaaDoorErr
namespace Go.Proofs.YtoddoekmgkcomaaDoor
namespace Res
/-- keys of hosts 0 to 9, the holder, of which kind -/
abbrev St := List Int × Int × Int
def hostB (h : Int) : Bool := decide (1 ≤ h) && decide (h ≤ 9)
def keyB (k : Int) : Bool := decide (1 ≤ k) && decide (k ≤ 1000000)
def kindB (k : Int) : Bool := decide (1 ≤ k) && decide (k ≤ 4)
def key (s : St) (h : Int) : Int := s.1.getD h.toNat 0
def denied (s : St) (h k : Int) : Bool := key s h == 0 || key s h != k
def out (s : St) (i : Nat) : St := (s.1.set i 0, if s.2.1 == i then (0, 0) else s.2)
def register (s : St) (h k : Int) : Int × St := if !hostB h || !keyB k then (1, s) else (0, (s.1.set h.toNat k, s.2))
def leave (s : St) (h : Int) : Int × St := if !hostB h then (1, s) else if key s h == 0 then (5, s) else (0, out s h.toNat)
def hold (s : St) (h k what : Int) : Int × St :=
  if !hostB h || !kindB what then (1, s) else if denied s h k then (9, s) else
  if s.2.1 != 0 && !(s.2.1 == h && s.2.2 == what) then (6, s) else (0, (s.1, h, what))
def free (s : St) (h k what : Int) : Int × St :=
  if !hostB h || !kindB what then (1, s) else if denied s h k then (9, s) else
  if s.2.1 != h then (5, s) else if s.2.2 != what then (3, s) else (0, (s.1, 0, 0))
/-- the first i hosts of the key go -/
def go (s : St) (other : Int) : Nat → St × Nat
  | 0 => (s, 0)
  | i + 1 => let r := go s other i; if s.1.getD i 0 == other then (out r.1 i, r.2 + 1) else r
def preempt (s : St) (h k other : Int) : (Int × Int) × St :=
  if !hostB h || !keyB other then ((0, 1), s) else if denied s h k then ((0, 9), s) else
  let r := go s other 10
  if r.2 == 0 then ((0, 5), r.1) else
  (((r.2 : Int), 0), if !(r.1.2.1 == s.2.1 && r.1.2.2 == s.2.2) && key r.1 h != 0 then (r.1.1, h, s.2.2) else r.1)
def may (s : St) (h : Int) (write : Bool) : Bool :=
  if s.2.2 == 1 then !write || s.2.1 == h else if s.2.2 == 2 then s.2.1 == h else
  if s.2.2 == 3 then !write || key s h != 0 else if s.2.2 == 4 then key s h != 0 else true
def zero : St := (List.replicate 10 0, 0, 0)
theorem out_len (s : St) (i : Nat) : (out s i).1.length = s.1.length := by simp [out]
theorem go_len (s : St) (o : Int) : ∀ i, (go s o i).1.1.length = s.1.length
  | 0 => rfl
  | i + 1 => by
    unfold go; simp only
    split
    · rw [out_len]; exact go_len s o i
    · exact go_len s o i
theorem go_le (s : St) (o : Int) : ∀ i, (go s o i).2 ≤ i
  | 0 => Nat.le_refl _
  | i + 1 => by
    have := go_le s o i
    unfold go; simp only
    split <;> omega
theorem register_len (s : St) (h k : Int) : (register s h k).2.1.length = s.1.length := by
  unfold register; split <;> simp
theorem leave_len (s : St) (h : Int) : (leave s h).2.1.length = s.1.length := by
  unfold leave
  repeat' split
  all_goals first | rfl | exact out_len _ _
theorem hold_len (s : St) (h k x : Int) : (hold s h k x).2.1.length = s.1.length := by
  unfold hold
  repeat' split
  all_goals rfl
theorem free_len (s : St) (h k x : Int) : (free s h k x).2.1.length = s.1.length := by
  unfold free
  repeat' split
  all_goals rfl
theorem preempt_len (s : St) (h k x : Int) : (preempt s h k x).2.1.length = s.1.length := by
  unfold preempt; simp only
  repeat' split
  all_goals first | rfl | exact go_len _ _ _
end Res
end Go.Proofs.YtoddoekmgkcomaaDoor
