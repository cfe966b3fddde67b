/- The plain part of a session by text: cutting, numbers, hex, words, the answer of a line. -/
import Derived.Test.YtneebcniofolmaaGreatDoorAryC
import Derived.Test.YtneebcniofolmaaGreatDoorScrA
import Derived.Lib.Split
import Derived.Lib.AtoiAll
import Derived.Lib.ItoaNum
import Derived.Lib.Bytealg
namespace Go.Proofs.YtneebcniofolmaaGreatDoor
namespace Ru
set_option linter.unusedVariables false
/-- a text cut at each c -/
def cut (c : UInt8) : List UInt8 → List (List UInt8)
  | [] => [[]]
  | x :: l => if x = c then [] :: cut c l else (x :: (cut c l).headD []) :: (cut c l).tail
theorem cut_ne (c : UInt8) : ∀ l, cut c l ≠ []
  | [] => by simp [cut]
  | x :: l => by unfold cut; split <;> simp
theorem cut_no (c : UInt8) : ∀ l, c ∉ l → cut c l = [l]
  | [], _ => rfl
  | x :: l, h => by
    simp only [List.mem_cons, not_or] at h
    unfold cut
    rw [if_neg (fun e => h.1 e.symm), cut_no c l h.2]
    rfl
theorem cut_at (c : UInt8) : ∀ p r, c ∉ p → cut c (p ++ c :: r) = p :: cut c r
  | [], r, _ => by simp [cut]
  | x :: p, r, h => by
    simp only [List.mem_cons, not_or] at h
    have e : cut c (x :: (p ++ c :: r)) = (x :: (cut c (p ++ c :: r)).headD []) :: (cut c (p ++ c :: r)).tail := by
      show (if x = c then _ else _) = _
      rw [if_neg (fun e => h.1 e.symm)]
    show cut c (x :: (p ++ c :: r)) = _
    rw [e, cut_at c p r h.2]
    rfl
theorem cut_len (c : UInt8) : ∀ l, (cut c l).length = l.count c + 1
  | [] => rfl
  | x :: l => by
    unfold cut
    split
    · rename_i h; subst h
      simp [cut_len x l]
    · rename_i h
      have := cut_len c l
      rw [List.count_cons_of_ne h, List.length_cons, List.length_tail, this]
      omega
theorem cut_small (c : UInt8) : ∀ l, ∀ x ∈ cut c l, x.length ≤ l.length
  | [], x, h => by simp [cut] at h; subst h; simp
  | y :: l, x, h => by
    unfold cut at h
    split at h
    · simp at h
      rcases h with rfl | h
      · simp
      · have := cut_small c l x h; simp; omega
    · simp at h
      rcases h with rfl | h
      · cases hq : cut c l with
        | nil => exact absurd hq (cut_ne c l)
        | cons z r => have := cut_small c l z (by rw [hq]; simp); simp; omega
      · have := cut_small c l x (List.mem_of_mem_tail h); simp; omega
/-- the lines of a text: cut at each newline, an empty last one left out -/
def lines (t : List UInt8) : List (List UInt8) := if (cut 10 t).getLast? = some [] then (cut 10 t).dropLast else cut 10 t
theorem index_nil (c : UInt8) : ∀ l, c ∉ l ↔ Lib.indexByte l c = -1
  | [] => by simp [Lib.indexByte]
  | x :: l => by
    have ih := index_nil c l
    have hg := Lib.indexByte_ge l c
    unfold Lib.indexByte
    by_cases h : x = c
    · subst h; simp
    · have h2 : (x == c) = false := by simpa using h
      rw [h2]
      simp only [Bool.false_eq_true, if_false]
      by_cases h3 : Lib.indexByte l c = -1
      · have := ih.2 h3
        simp [h3, this]
        exact fun e => h e.symm
      · have h4 : (Lib.indexByte l c == -1) = false := by simpa using h3
        rw [h4]
        simp only [Bool.false_eq_true, if_false]
        have : c ∈ l := by
          by_cases hm : c ∈ l
          · exact hm
          · exact absurd (ih.1 hm) h3
        simp [this]; omega
theorem index_some (c : UInt8) : ∀ l (k : Nat), Lib.indexByte l c = k → k < l.length ∧ c ∉ l.take k ∧ l = l.take k ++ c :: l.drop (k + 1)
  | [], k, h => by
    have : Lib.indexByte [] c = -1 := rfl
    omega
  | x :: l, k, h => by
    have hg := Lib.indexByte_ge l c
    unfold Lib.indexByte at h
    by_cases hx : x = c
    · subst hx
      simp at h
      obtain rfl : k = 0 := by omega
      simp
    · have h2 : (x == c) = false := by simpa using hx
      rw [h2] at h
      simp only [Bool.false_eq_true, if_false] at h
      by_cases h3 : Lib.indexByte l c = -1
      · rw [h3] at h
        have : (if ((-1 : Int) == -1) = true then (-1 : Int) else -1 + 1) = -1 := by decide
        omega
      · have h4 : (Lib.indexByte l c == -1) = false := by simpa using h3
        rw [h4] at h
        simp only [Bool.false_eq_true, if_false] at h
        obtain ⟨j, rfl⟩ : ∃ j, k = j + 1 := ⟨k - 1, by omega⟩
        obtain ⟨a, b, d⟩ := index_some c l j (by omega)
        refine ⟨by simp; omega, ?_, ?_⟩
        · simp; exact ⟨fun e => hx e.symm, b⟩
        · simp; exact d
theorem splitK_cut (c : UInt8) (sep : List UInt8) (hi : ∀ l, Lib.index l sep = Lib.indexByte l c) (hs : sep.length = 1) : ∀ (k : Nat) (l : List UInt8), l.count c ≤ k → Lib.splitK sep 0 k l = cut c l
  | 0, l, h => by
    unfold Lib.splitK
    exact (cut_no c l (List.count_eq_zero.1 (by omega))).symm
  | k + 1, l, h => by
    unfold Lib.splitK
    rw [hi]
    by_cases hm : Lib.indexByte l c = -1
    · rw [hm]; simp
      exact (cut_no c l ((index_nil c l).2 hm)).symm
    · have hg := Lib.indexByte_ge l c
      obtain ⟨j, hj⟩ : ∃ j : Nat, Lib.indexByte l c = j := ⟨(Lib.indexByte l c).toNat, by omega⟩
      obtain ⟨a, b, d⟩ := index_some c l j hj
      rw [if_neg (by simpa using hm), hj, hs, Nat.add_zero]
      show l.take j :: Lib.splitK sep 0 k (l.drop (j + 1)) = _
      rw [splitK_cut c sep hi hs k (l.drop (j + 1)) (by
        rw [d, List.count_append, List.count_cons_self] at h
        omega)]
      conv => rhs; rw [d]
      rw [cut_at c _ _ b]
/-- a number of at most four digits, without a needless 0 -/
def dg (x : UInt8) : Bool := decide (48 ≤ x.toNat ∧ x.toNat ≤ 57)
def num (l : List UInt8) : Option Nat := if l = [] ∨ 4 < l.length ∨ (l.headD 0 = 48 ∧ 1 < l.length) ∨ l.all dg = false then none else some (l.foldl (fun n x => n * 10 + (x.toNat - 48)) 0)
/-- the sign of a digit below 16 -/
def hx (n : Nat) : UInt8 := ([48, 49, 50, 51, 52, 53, 54, 55, 56, 57, 97, 98, 99, 100, 101, 102] : List UInt8).getD n 0
def hex (l : List UInt8) : List UInt8 := l.flatMap fun x => [hx (x.toNat / 16), hx (x.toNat % 16)]
/-- what a sign is -/
def sg (c : UInt8) : Int := if 48 ≤ c.toNat ∧ c.toNat ≤ 57 then (c.toNat : Int) - 48 else if 97 ≤ c.toNat ∧ c.toNat ≤ 102 then (c.toNat : Int) - 87 else -1
def unhex : List UInt8 → Option (List UInt8)
  | [a, b, c, d] => if sg a < 0 ∨ sg b < 0 ∨ sg c < 0 ∨ sg d < 0 then none else some [UInt8.ofNat (16 * (sg a).toNat + (sg b).toNat), UInt8.ofNat (16 * (sg c).toNat + (sg d).toNat)]
  | _ => none
theorem sg_index (c : UInt8) : Lib.indexByte [48, 49, 50, 51, 52, 53, 54, 55, 56, 57, 97, 98, 99, 100, 101, 102] c = sg c := by
  have h : ∀ n : Fin 256, Lib.indexByte [48, 49, 50, 51, 52, 53, 54, 55, 56, 57, 97, 98, 99, 100, 101, 102] (UInt8.ofNat n.val) = sg (UInt8.ofNat n.val) := by decide +kernel
  have := h ⟨c.toNat, c.toNat_lt⟩
  simpa using this
inductive Wd where
  | read | write | fail | replace | poke | rebuild | lost | scrub
  deriving DecidableEq
def Wd.txt : Wd → List UInt8
  | .read => [114, 101, 97, 100]
  | .write => [119, 114, 105, 116, 101]
  | .fail => [102, 97, 105, 108]
  | .replace => [114, 101, 112, 108, 97, 99, 101]
  | .poke => [112, 111, 107, 101]
  | .rebuild => [114, 101, 98, 117, 105, 108, 100]
  | .lost => [108, 111, 115, 116]
  | .scrub => [115, 99, 114, 117, 98]
def Wd.many : Wd → Nat
  | .poke => 2
  | .scrub => 0
  | _ => 1
def Wd.blk : Wd → Bool
  | .write => true
  | .poke => true
  | _ => false
def Wd.all : List Wd := [.read, .write, .fail, .replace, .poke, .rebuild, .lost, .scrub]
def wd (l : List UInt8) : Option Wd := Wd.all.find? fun k => decide (l = k.txt)
theorem wd_txt (k : Wd) : wd k.txt = some k := by cases k <;> decide
theorem wd_some {l : List UInt8} {k : Wd} (h : wd l = some k) : l = k.txt := by
  have := List.find?_some h
  simpa using this
theorem wd_none {l : List UInt8} (h : wd l = none) (k : Wd) : l ≠ k.txt := fun e => by
  subst e
  rw [wd_txt] at h
  cases h
/-- the first m of some words are numbers -/
def nums : Nat → List (List UInt8) → Option (List Nat)
  | 0, _ => some []
  | m + 1, [] => none
  | m + 1, x :: r => match num x with
    | none => none
    | some v => (nums m r).map (v :: ·)
/-- what a line asks: its word, its numbers, its block -/
def parse (l : List UInt8) : Option (Wd × List Nat × List UInt8) :=
  match wd ((cut 32 l).headD []) with
  | none => none
  | some k =>
    if (cut 32 l).length ≠ k.many + 1 + (if k.blk then 1 else 0) then none else
    match nums k.many (cut 32 l).tail with
    | none => none
    | some v => if k.blk then (unhex ((cut 32 l).getLastD [])).map fun b => (k, v, b) else some (k, v, [])
def ok : List UInt8 := [111, 107]
def bad : List UInt8 := [98, 97, 100]
def spotT (x : Nat × Nat) : List UInt8 := Lib.decDigits x.1 ++ [46] ++ Lib.decDigits x.2
def spotsT (l : List (Nat × Nat)) : List UInt8 := if l = [] then [45] else [32].intercalate (l.map spotT)
/-- what the array says, and what it is then -/
def run1 (s : Ar.S) (k : Wd) (v : List Nat) (b : List UInt8) : (List UInt8 × Int) × Ar.S :=
  match k with
  | .read => ((hex (s.read (v.getD 0 0)).1.data.toList, (s.read (v.getD 0 0)).2), s)
  | .write => ((ok, (s.write (v.getD 0 0) ⟨b.toArray⟩).1), (s.write (v.getD 0 0) ⟨b.toArray⟩).2)
  | .fail => ((ok, (s.fail (v.getD 0 0)).1), (s.fail (v.getD 0 0)).2)
  | .replace => ((ok, (s.replace (v.getD 0 0)).1), (s.replace (v.getD 0 0)).2)
  | .poke => ((ok, (s.poke (v.getD 0 0) (v.getD 1 0) ⟨b.toArray⟩).1), (s.poke (v.getD 0 0) (v.getD 1 0) ⟨b.toArray⟩).2)
  | .rebuild => ((Lib.decDigits (s.rebuild (v.getD 0 0)).1.1.toNat, (s.rebuild (v.getD 0 0)).1.2), (s.rebuild (v.getD 0 0)).2)
  | .lost => ((Lib.decDigits (s.lostN (v.getD 0 0)), s.rawF (v.getD 0 0)), s)
  | .scrub => ((spotsT (s.scrubTo 4).2, 0), (s.scrubTo 4).1)
def name (e : Int) : List UInt8 :=
  (([[79, 75], [69, 114, 114, 82, 97, 110, 103, 101], [69, 114, 114, 83, 121, 110, 116, 97, 120], [69, 114, 114, 83, 104, 97, 112, 101], [69, 114, 114, 70, 117, 108, 108], [69, 114, 114, 78, 111, 110, 101], [69, 114, 114, 83, 116, 97, 116, 101], [69, 114, 114, 67, 108, 97, 115, 104], [69, 114, 114, 76, 111, 115, 116], [69, 114, 114, 68, 101, 110, 105, 101, 100]] : List (List UInt8)).getD e.toNat [])
def told (o : List UInt8 × Int) : List UInt8 := if o.2 = 0 then o.1 else name o.2
def line (s : Ar.S) (l : List UInt8) : List UInt8 × Ar.S :=
  match parse l with
  | none => (bad, s)
  | some (k, v, b) => (told (run1 s k v b).1, (run1 s k v b).2)
/-- the answers to some lines, each with a newline -/
def runs : Ar.S → List (List UInt8) → List UInt8
  | _, [] => []
  | s, l :: r => (line s l).1 ++ [10] ++ runs (line s l).2 r
def stateOf : Ar.S → List (List UInt8) → Ar.S
  | s, [] => s
  | s, l :: r => stateOf (line s l).2 r
theorem runs_append : ∀ (a b : List (List UInt8)) (s : Ar.S), runs s (a ++ b) = runs s a ++ runs (stateOf s a) b
  | [], b, s => rfl
  | x :: a, b, s => by
    show (line s x).1 ++ [10] ++ runs (line s x).2 (a ++ b) = _
    rw [runs_append a b]
    show _ = ((line s x).1 ++ [10] ++ runs (line s x).2 a) ++ runs (stateOf (line s x).2 a) b
    simp
end Ru
end Go.Proofs.YtneebcniofolmaaGreatDoor
