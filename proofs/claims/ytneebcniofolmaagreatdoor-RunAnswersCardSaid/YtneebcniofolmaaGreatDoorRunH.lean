/- The plain part of a session by text: cutting, numbers, hex, words, the answer of a line. · Numbers of at most four digits: what Atoi and Itoa say of them. · The walks of run.hex and the reference's Hex. -/
import Derived.Test.YtneebcniofolmaaGreatDoorAryC
import Derived.Test.YtneebcniofolmaaGreatDoorScrA
import Derived.Lib.Split
import Derived.Lib.AtoiAll
import Derived.Lib.ItoaNum
import Derived.Lib.Bytealg
import Derived.Test.YtneebcniofolmaaGreatDoorBlk
import Derived.Deep.LoopGhost
import Derived.IntWalk
import Derived.BigQuiet
namespace Go.Proofs.YtneebcniofolmaaGreatDoor
namespace Ru
set_option linter.unusedVariables false
/-- a text cut at each c -/
def cut (c : UInt8) : List UInt8 → List (List UInt8)
  | [] => [[]]
  | x :: l => if x = c then [] :: cut c l else (x :: (cut c l).headD []) :: (cut c l).tail
theorem cut_ne (c : UInt8) : ∀ l, cut c l ≠ []
  | [] => by simp [cut]
  | x :: l => by unfold cut; split <;> simp
theorem cut_no (c : UInt8) : ∀ l, c ∉ l → cut c l = [l]
  | [], _ => rfl
  | x :: l, h => by
    simp only [List.mem_cons, not_or] at h
    unfold cut
    rw [if_neg (fun e => h.1 e.symm), cut_no c l h.2]
    rfl
theorem cut_at (c : UInt8) : ∀ p r, c ∉ p → cut c (p ++ c :: r) = p :: cut c r
  | [], r, _ => by simp [cut]
  | x :: p, r, h => by
    simp only [List.mem_cons, not_or] at h
    have e : cut c (x :: (p ++ c :: r)) = (x :: (cut c (p ++ c :: r)).headD []) :: (cut c (p ++ c :: r)).tail := by
      show (if x = c then _ else _) = _
      rw [if_neg (fun e => h.1 e.symm)]
    show cut c (x :: (p ++ c :: r)) = _
    rw [e, cut_at c p r h.2]
    rfl
theorem cut_len (c : UInt8) : ∀ l, (cut c l).length = l.count c + 1
  | [] => rfl
  | x :: l => by
    unfold cut
    split
    · rename_i h; subst h
      simp [cut_len x l]
    · rename_i h
      have := cut_len c l
      rw [List.count_cons_of_ne h, List.length_cons, List.length_tail, this]
      omega
theorem cut_small (c : UInt8) : ∀ l, ∀ x ∈ cut c l, x.length ≤ l.length
  | [], x, h => by simp [cut] at h; subst h; simp
  | y :: l, x, h => by
    unfold cut at h
    split at h
    · simp at h
      rcases h with rfl | h
      · simp
      · have := cut_small c l x h; simp; omega
    · simp at h
      rcases h with rfl | h
      · cases hq : cut c l with
        | nil => exact absurd hq (cut_ne c l)
        | cons z r => have := cut_small c l z (by rw [hq]; simp); simp; omega
      · have := cut_small c l x (List.mem_of_mem_tail h); simp; omega
/-- the lines of a text: cut at each newline, an empty last one left out -/
def lines (t : List UInt8) : List (List UInt8) := if (cut 10 t).getLast? = some [] then (cut 10 t).dropLast else cut 10 t
theorem index_nil (c : UInt8) : ∀ l, c ∉ l ↔ Lib.indexByte l c = -1
  | [] => by simp [Lib.indexByte]
  | x :: l => by
    have ih := index_nil c l
    have hg := Lib.indexByte_ge l c
    unfold Lib.indexByte
    by_cases h : x = c
    · subst h; simp
    · have h2 : (x == c) = false := by simpa using h
      rw [h2]
      simp only [Bool.false_eq_true, if_false]
      by_cases h3 : Lib.indexByte l c = -1
      · have := ih.2 h3
        simp [h3, this]
        exact fun e => h e.symm
      · have h4 : (Lib.indexByte l c == -1) = false := by simpa using h3
        rw [h4]
        simp only [Bool.false_eq_true, if_false]
        have : c ∈ l := by
          by_cases hm : c ∈ l
          · exact hm
          · exact absurd (ih.1 hm) h3
        simp [this]; omega
theorem index_some (c : UInt8) : ∀ l (k : Nat), Lib.indexByte l c = k → k < l.length ∧ c ∉ l.take k ∧ l = l.take k ++ c :: l.drop (k + 1)
  | [], k, h => by
    have : Lib.indexByte [] c = -1 := rfl
    omega
  | x :: l, k, h => by
    have hg := Lib.indexByte_ge l c
    unfold Lib.indexByte at h
    by_cases hx : x = c
    · subst hx
      simp at h
      obtain rfl : k = 0 := by omega
      simp
    · have h2 : (x == c) = false := by simpa using hx
      rw [h2] at h
      simp only [Bool.false_eq_true, if_false] at h
      by_cases h3 : Lib.indexByte l c = -1
      · rw [h3] at h
        have : (if ((-1 : Int) == -1) = true then (-1 : Int) else -1 + 1) = -1 := by decide
        omega
      · have h4 : (Lib.indexByte l c == -1) = false := by simpa using h3
        rw [h4] at h
        simp only [Bool.false_eq_true, if_false] at h
        obtain ⟨j, rfl⟩ : ∃ j, k = j + 1 := ⟨k - 1, by omega⟩
        obtain ⟨a, b, d⟩ := index_some c l j (by omega)
        refine ⟨by simp; omega, ?_, ?_⟩
        · simp; exact ⟨fun e => hx e.symm, b⟩
        · simp; exact d
theorem splitK_cut (c : UInt8) (sep : List UInt8) (hi : ∀ l, Lib.index l sep = Lib.indexByte l c) (hs : sep.length = 1) : ∀ (k : Nat) (l : List UInt8), l.count c ≤ k → Lib.splitK sep 0 k l = cut c l
  | 0, l, h => by
    unfold Lib.splitK
    exact (cut_no c l (List.count_eq_zero.1 (by omega))).symm
  | k + 1, l, h => by
    unfold Lib.splitK
    rw [hi]
    by_cases hm : Lib.indexByte l c = -1
    · rw [hm]; simp
      exact (cut_no c l ((index_nil c l).2 hm)).symm
    · have hg := Lib.indexByte_ge l c
      obtain ⟨j, hj⟩ : ∃ j : Nat, Lib.indexByte l c = j := ⟨(Lib.indexByte l c).toNat, by omega⟩
      obtain ⟨a, b, d⟩ := index_some c l j hj
      rw [if_neg (by simpa using hm), hj, hs, Nat.add_zero]
      show l.take j :: Lib.splitK sep 0 k (l.drop (j + 1)) = _
      rw [splitK_cut c sep hi hs k (l.drop (j + 1)) (by
        rw [d, List.count_append, List.count_cons_self] at h
        omega)]
      conv => rhs; rw [d]
      rw [cut_at c _ _ b]
/-- a number of at most four digits, without a needless 0 -/
def dg (x : UInt8) : Bool := decide (48 ≤ x.toNat ∧ x.toNat ≤ 57)
def num (l : List UInt8) : Option Nat := if l = [] ∨ 4 < l.length ∨ (l.headD 0 = 48 ∧ 1 < l.length) ∨ l.all dg = false then none else some (l.foldl (fun n x => n * 10 + (x.toNat - 48)) 0)
/-- the sign of a digit below 16 -/
def hx (n : Nat) : UInt8 := ([48, 49, 50, 51, 52, 53, 54, 55, 56, 57, 97, 98, 99, 100, 101, 102] : List UInt8).getD n 0
def hex (l : List UInt8) : List UInt8 := l.flatMap fun x => [hx (x.toNat / 16), hx (x.toNat % 16)]
/-- what a sign is -/
def sg (c : UInt8) : Int := if 48 ≤ c.toNat ∧ c.toNat ≤ 57 then (c.toNat : Int) - 48 else if 97 ≤ c.toNat ∧ c.toNat ≤ 102 then (c.toNat : Int) - 87 else -1
def unhex : List UInt8 → Option (List UInt8)
  | [a, b, c, d] => if sg a < 0 ∨ sg b < 0 ∨ sg c < 0 ∨ sg d < 0 then none else some [UInt8.ofNat (16 * (sg a).toNat + (sg b).toNat), UInt8.ofNat (16 * (sg c).toNat + (sg d).toNat)]
  | _ => none
theorem sg_index (c : UInt8) : Lib.indexByte [48, 49, 50, 51, 52, 53, 54, 55, 56, 57, 97, 98, 99, 100, 101, 102] c = sg c := by
  have h : ∀ n : Fin 256, Lib.indexByte [48, 49, 50, 51, 52, 53, 54, 55, 56, 57, 97, 98, 99, 100, 101, 102] (UInt8.ofNat n.val) = sg (UInt8.ofNat n.val) := by decide +kernel
  have := h ⟨c.toNat, c.toNat_lt⟩
  simpa using this
inductive Wd where
  | read | write | fail | replace | poke | rebuild | lost | scrub
  deriving DecidableEq
def Wd.txt : Wd → List UInt8
  | .read => [114, 101, 97, 100]
  | .write => [119, 114, 105, 116, 101]
  | .fail => [102, 97, 105, 108]
  | .replace => [114, 101, 112, 108, 97, 99, 101]
  | .poke => [112, 111, 107, 101]
  | .rebuild => [114, 101, 98, 117, 105, 108, 100]
  | .lost => [108, 111, 115, 116]
  | .scrub => [115, 99, 114, 117, 98]
def Wd.many : Wd → Nat
  | .poke => 2
  | .scrub => 0
  | _ => 1
def Wd.blk : Wd → Bool
  | .write => true
  | .poke => true
  | _ => false
def Wd.all : List Wd := [.read, .write, .fail, .replace, .poke, .rebuild, .lost, .scrub]
def wd (l : List UInt8) : Option Wd := Wd.all.find? fun k => decide (l = k.txt)
theorem wd_txt (k : Wd) : wd k.txt = some k := by cases k <;> decide
theorem wd_some {l : List UInt8} {k : Wd} (h : wd l = some k) : l = k.txt := by
  have := List.find?_some h
  simpa using this
theorem wd_none {l : List UInt8} (h : wd l = none) (k : Wd) : l ≠ k.txt := fun e => by
  subst e
  rw [wd_txt] at h
  cases h
/-- the first m of some words are numbers -/
def nums : Nat → List (List UInt8) → Option (List Nat)
  | 0, _ => some []
  | m + 1, [] => none
  | m + 1, x :: r => match num x with
    | none => none
    | some v => (nums m r).map (v :: ·)
/-- what a line asks: its word, its numbers, its block -/
def parse (l : List UInt8) : Option (Wd × List Nat × List UInt8) :=
  match wd ((cut 32 l).headD []) with
  | none => none
  | some k =>
    if (cut 32 l).length ≠ k.many + 1 + (if k.blk then 1 else 0) then none else
    match nums k.many (cut 32 l).tail with
    | none => none
    | some v => if k.blk then (unhex ((cut 32 l).getLastD [])).map fun b => (k, v, b) else some (k, v, [])
def ok : List UInt8 := [111, 107]
def bad : List UInt8 := [98, 97, 100]
def spotT (x : Nat × Nat) : List UInt8 := Lib.decDigits x.1 ++ [46] ++ Lib.decDigits x.2
def spotsT (l : List (Nat × Nat)) : List UInt8 := if l = [] then [45] else [32].intercalate (l.map spotT)
/-- what the array says, and what it is then -/
def run1 (s : Ar.S) (k : Wd) (v : List Nat) (b : List UInt8) : (List UInt8 × Int) × Ar.S :=
  match k with
  | .read => ((hex (s.read (v.getD 0 0)).1.data.toList, (s.read (v.getD 0 0)).2), s)
  | .write => ((ok, (s.write (v.getD 0 0) ⟨b.toArray⟩).1), (s.write (v.getD 0 0) ⟨b.toArray⟩).2)
  | .fail => ((ok, (s.fail (v.getD 0 0)).1), (s.fail (v.getD 0 0)).2)
  | .replace => ((ok, (s.replace (v.getD 0 0)).1), (s.replace (v.getD 0 0)).2)
  | .poke => ((ok, (s.poke (v.getD 0 0) (v.getD 1 0) ⟨b.toArray⟩).1), (s.poke (v.getD 0 0) (v.getD 1 0) ⟨b.toArray⟩).2)
  | .rebuild => ((Lib.decDigits (s.rebuild (v.getD 0 0)).1.1.toNat, (s.rebuild (v.getD 0 0)).1.2), (s.rebuild (v.getD 0 0)).2)
  | .lost => ((Lib.decDigits (s.lostN (v.getD 0 0)), s.rawF (v.getD 0 0)), s)
  | .scrub => ((spotsT (s.scrubTo 4).2, 0), (s.scrubTo 4).1)
def name (e : Int) : List UInt8 :=
  (([[79, 75], [69, 114, 114, 82, 97, 110, 103, 101], [69, 114, 114, 83, 121, 110, 116, 97, 120], [69, 114, 114, 83, 104, 97, 112, 101], [69, 114, 114, 70, 117, 108, 108], [69, 114, 114, 78, 111, 110, 101], [69, 114, 114, 83, 116, 97, 116, 101], [69, 114, 114, 67, 108, 97, 115, 104], [69, 114, 114, 76, 111, 115, 116], [69, 114, 114, 68, 101, 110, 105, 101, 100]] : List (List UInt8)).getD e.toNat [])
def told (o : List UInt8 × Int) : List UInt8 := if o.2 = 0 then o.1 else name o.2
def line (s : Ar.S) (l : List UInt8) : List UInt8 × Ar.S :=
  match parse l with
  | none => (bad, s)
  | some (k, v, b) => (told (run1 s k v b).1, (run1 s k v b).2)
/-- the answers to some lines, each with a newline -/
def runs : Ar.S → List (List UInt8) → List UInt8
  | _, [] => []
  | s, l :: r => (line s l).1 ++ [10] ++ runs (line s l).2 r
def stateOf : Ar.S → List (List UInt8) → Ar.S
  | s, [] => s
  | s, l :: r => stateOf (line s l).2 r
theorem runs_append : ∀ (a b : List (List UInt8)) (s : Ar.S), runs s (a ++ b) = runs s a ++ runs (stateOf s a) b
  | [], b, s => rfl
  | x :: a, b, s => by
    show (line s x).1 ++ [10] ++ runs (line s x).2 (a ++ b) = _
    rw [runs_append a b]
    show _ = ((line s x).1 ++ [10] ++ runs (line s x).2 a) ++ runs (stateOf (line s x).2 a) b
    simp
end Ru
end Go.Proofs.YtneebcniofolmaaGreatDoor
namespace Go.Proofs.YtneebcniofolmaaGreatDoor
namespace Ru
set_option linter.unusedVariables false
def dc (n : Nat) : UInt8 := UInt8.ofNat (48 + n)
def d4 (v : Nat) : List UInt8 := if v < 10 then [dc v] else if v < 100 then [dc (v / 10), dc (v % 10)] else if v < 1000 then [dc (v / 100), dc (v / 10 % 10), dc (v % 10)] else [dc (v / 1000), dc (v / 100 % 10), dc (v / 10 % 10), dc (v % 10)]
theorem dec_s {v : Nat} (h : v < 10) : Lib.decDigits v = [dc v] := by rw [Lib.decDigits, dif_pos h]; rfl
theorem dec_b {v : Nat} (h : ¬ v < 10) : Lib.decDigits v = Lib.decDigits (v / 10) ++ [dc (v % 10)] := by rw [Lib.decDigits, dif_neg h]; rfl
theorem dec_d4 {v : Nat} (h : v < 10000) : Lib.decDigits v = d4 v := by
  unfold d4
  by_cases h1 : v < 10
  · rw [if_pos h1, dec_s h1]
  rw [if_neg h1, dec_b h1]
  by_cases h2 : v < 100
  · rw [if_pos h2, dec_s (by omega)]; rfl
  rw [if_neg h2, dec_b (v := v / 10) (by omega)]
  by_cases h3 : v < 1000
  · rw [if_pos h3, dec_s (by omega), show v / 10 / 10 = v / 100 by omega]; rfl
  rw [if_neg h3, dec_b (v := v / 10 / 10) (by omega), dec_s (by omega), show v / 10 / 10 / 10 = v / 1000 by omega, show v / 10 / 10 % 10 = v / 100 % 10 by omega]; rfl
theorem num_d1 : ∀ a : Fin 10, num [dc a] = some a.val ∧ Lib.atoiAll [dc a] = .ok a.val := by decide +kernel
theorem num_d2 : ∀ a b : Fin 10, a.val ≠ 0 → num [dc a, dc b] = some (a.val * 10 + b.val) ∧ Lib.atoiAll [dc a, dc b] = .ok (a.val * 10 + b.val : Nat) := by decide +kernel
theorem num_d3 : ∀ a b c : Fin 10, a.val ≠ 0 → num [dc a, dc b, dc c] = some (a.val * 100 + b.val * 10 + c.val) ∧ Lib.atoiAll [dc a, dc b, dc c] = .ok (a.val * 100 + b.val * 10 + c.val : Nat) := by decide +kernel
theorem num_d4 : ∀ a b c d : Fin 10, a.val ≠ 0 → num [dc a, dc b, dc c, dc d] = some (a.val * 1000 + b.val * 100 + c.val * 10 + d.val) ∧ Lib.atoiAll [dc a, dc b, dc c, dc d] = .ok (a.val * 1000 + b.val * 100 + c.val * 10 + d.val : Nat) := by decide +kernel
theorem dg_dc {x : UInt8} (h : dg x = true) : ∃ a : Fin 10, x = dc a := by
  unfold dg at h
  have h2 := of_decide_eq_true h
  refine ⟨⟨x.toNat - 48, by omega⟩, ?_⟩
  unfold dc
  show x = UInt8.ofNat (48 + (x.toNat - 48))
  rw [show 48 + (x.toNat - 48) = x.toNat by omega]
  simp
theorem dc_head (a : Fin 10) (h : dc a ≠ 48) : a.val ≠ 0 := fun e => h (by unfold dc; rw [e]; rfl)
theorem num_some {l : List UInt8} {v : Nat} (h : num l = some v) : v < 10000 ∧ l.length ≤ 4 ∧ Lib.itoa v = l ∧ Lib.atoiAll l = .ok v := by
  have hc : ¬ (l = [] ∨ 4 < l.length ∨ (l.headD 0 = 48 ∧ 1 < l.length) ∨ l.all dg = false) := fun e => by unfold num at h; rw [if_pos e] at h; cases h
  have hit : ∀ k : Nat, Lib.itoa k = Lib.decDigits k := fun k => by unfold Lib.itoa; rw [if_neg (by omega)]; rfl
  rw [hit]
  simp only [not_or, not_and] at hc
  obtain ⟨h0, h1, h2, h3⟩ := hc
  have h3' : l.all dg = true := by simpa using h3
  match l, h0, h1, h2, h3', h with
  | [a], _, _, _, h3, h =>
    simp at h3
    obtain ⟨a, rfl⟩ := dg_dc h3
    have := num_d1 a
    rw [this.1] at h
    obtain rfl := Option.some.inj h
    exact ⟨by omega, by simp, dec_s a.isLt, this.2⟩
  | [a, b], _, _, h2, h3, h =>
    simp at h3 h2
    obtain ⟨a, rfl⟩ := dg_dc h3.1
    obtain ⟨b, rfl⟩ := dg_dc h3.2
    have ha := dc_head a h2
    have := num_d2 a b ha
    rw [this.1] at h
    obtain rfl := Option.some.inj h
    refine ⟨by omega, by simp, ?_, this.2⟩
    rw [dec_d4 (by omega), d4, if_neg (by omega), if_pos (by omega), show (a.val * 10 + b.val) / 10 = a.val by omega, show (a.val * 10 + b.val) % 10 = b.val by omega]
  | [a, b, c], _, _, h2, h3, h =>
    simp at h3 h2
    obtain ⟨a, rfl⟩ := dg_dc h3.1
    obtain ⟨b, rfl⟩ := dg_dc h3.2.1
    obtain ⟨c, rfl⟩ := dg_dc h3.2.2
    have ha := dc_head a h2
    have := num_d3 a b c ha
    rw [this.1] at h
    obtain rfl := Option.some.inj h
    refine ⟨by omega, by simp, ?_, this.2⟩
    rw [dec_d4 (by omega), d4, if_neg (by omega), if_neg (by omega), if_pos (by omega), show (a.val * 100 + b.val * 10 + c.val) / 100 = a.val by omega, show (a.val * 100 + b.val * 10 + c.val) / 10 % 10 = b.val by omega, show (a.val * 100 + b.val * 10 + c.val) % 10 = c.val by omega]
  | [a, b, c, d], _, _, h2, h3, h =>
    simp at h3 h2
    obtain ⟨a, rfl⟩ := dg_dc h3.1
    obtain ⟨b, rfl⟩ := dg_dc h3.2.1
    obtain ⟨c, rfl⟩ := dg_dc h3.2.2.1
    obtain ⟨d, rfl⟩ := dg_dc h3.2.2.2
    have ha := dc_head a h2
    have := num_d4 a b c d ha
    rw [this.1] at h
    obtain rfl := Option.some.inj h
    refine ⟨by omega, by simp, ?_, this.2⟩
    rw [dec_d4 (by omega), d4, if_neg (by omega), if_neg (by omega), if_neg (by omega), show (a.val * 1000 + b.val * 100 + c.val * 10 + d.val) / 1000 = a.val by omega, show (a.val * 1000 + b.val * 100 + c.val * 10 + d.val) / 100 % 10 = b.val by omega, show (a.val * 1000 + b.val * 100 + c.val * 10 + d.val) / 10 % 10 = c.val by omega, show (a.val * 1000 + b.val * 100 + c.val * 10 + d.val) % 10 = d.val by omega]
  | _ :: _ :: _ :: _ :: _ :: _, _, h1, _, _, _ => simp at h1
theorem num_d4v {v : Nat} (h : v < 10000) : num (d4 v) = some v := by
  unfold d4
  by_cases h1 : v < 10
  · rw [if_pos h1]; exact (num_d1 ⟨v, h1⟩).1
  rw [if_neg h1]
  by_cases h2 : v < 100
  · rw [if_pos h2]
    have := (num_d2 ⟨v / 10, by omega⟩ ⟨v % 10, by omega⟩ (by simp <;> omega)).1
    rw [this]; simp <;> omega
  rw [if_neg h2]
  by_cases h3 : v < 1000
  · rw [if_pos h3]
    have := (num_d3 ⟨v / 100, by omega⟩ ⟨v / 10 % 10, by omega⟩ ⟨v % 10, by omega⟩ (by simp <;> omega)).1
    rw [this]; simp <;> omega
  rw [if_neg h3]
  have := (num_d4 ⟨v / 1000, by omega⟩ ⟨v / 100 % 10, by omega⟩ ⟨v / 10 % 10, by omega⟩ ⟨v % 10, by omega⟩ (by simp <;> omega)).1
  rw [this]; simp <;> omega
theorem num_of_itoa {l : List UInt8} {v : Int} (h0 : 0 ≤ v) (hl : l.length ≤ 4) (h : Lib.itoa v = l) : num l = some v.toNat := by
  obtain ⟨n, rfl⟩ : ∃ n : Nat, v = n := ⟨v.toNat, by omega⟩
  have hit : Lib.itoa (n : Int) = Lib.decDigits n := by unfold Lib.itoa; rw [if_neg (by omega)]; rfl
  rw [hit] at h
  have hn : n < 10000 := by
    have h1 := Lib.lt_pow_nDigits n
    have h2 : Lib.nDigits n ≤ 4 := by
      rw [← h, Lib.decDigits_eq] at hl
      simpa using hl
    have h3 : 10 ^ Lib.nDigits n ≤ 10 ^ 4 := Nat.pow_le_pow_right (by decide) h2
    omega
  rw [← h, dec_d4 hn, num_d4v hn]
  simp
/-- what the program's test says -/
theorem num_test {l : List UInt8} {v : Int} (h : Lib.atoiAll l = .ok v) : (num l).isSome = (decide (0 ≤ v) && decide (l.length ≤ 4) && decide (Lib.itoa v = l)) ∧ ∀ k, num l = some k → v = k := by
  refine ⟨?_, fun k hk => ?_⟩
  · by_cases hc : 0 ≤ v ∧ l.length ≤ 4 ∧ Lib.itoa v = l
    · rw [num_of_itoa hc.1 hc.2.1 hc.2.2]
      simp [hc.1, hc.2.1, hc.2.2]
    · cases hn : num l with
      | none =>
        symm
        simp only [Option.isSome_none, Bool.and_eq_false_iff, decide_eq_false_iff_not]
        by_cases a : 0 ≤ v
        · by_cases b : l.length ≤ 4
          · exact Or.inr (fun c => hc ⟨a, b, c⟩)
          · exact Or.inl (Or.inr b)
        · exact Or.inl (Or.inl a)
      | some k =>
        obtain ⟨_, a, b, c⟩ := num_some hn
        rw [c] at h
        injection h with h
        subst h
        exact absurd ⟨by omega, a, b⟩ hc
  · obtain ⟨_, a, b, c⟩ := num_some hk
    rw [c] at h
    injection h with h
    exact h.symm
theorem num_not {l : List UInt8} (h : ∀ v, Lib.atoiAll l ≠ .ok v) : num l = none := by
  cases hn : num l with
  | none => rfl
  | some k => exact absurd (num_some hn).2.2.2 (h _)
theorem num_le {l : List UInt8} {v : Nat} (h : num l = some v) : v < 10000 := (num_some h).1
end Ru
end Go.Proofs.YtneebcniofolmaaGreatDoor
namespace Go.Proofs.YtneebcniofolmaaGreatDoor
open Go.ChangeShapes Go.WideShapes Go.ChangeAt Go.RowKit
set_option linter.unusedVariables false
set_option maxHeartbeats 2000000
def strB (l : List UInt8) : Value := .string ⟨l.toArray⟩
def HexRel (l : List UInt8) (n : Nat) (w2 : World) (gk : Nat) (t i : Value) (wr : World) : Prop :=
  ∃ k nd : Nat, k + gk = n ∧ i = iv k ∧ t = strB (Ru.hex (l.take k)) ∧ wr = w2.drewN nd
theorem hx_ext (x : Nat) (h : x < 16) : ByteArray.extract ⟨#[48, 49, 50, 51, 52, 53, 54, 55, 56, 57, 97, 98, 99, 100, 101, 102]⟩ x (x + 1) = ⟨#[Ru.hx x]⟩ := by
  have : ∀ x : Fin 16, ByteArray.extract ⟨#[48, 49, 50, 51, 52, 53, 54, 55, 56, 57, 97, 98, 99, 100, 101, 102]⟩ x.val (x.val + 1) = ⟨#[Ru.hx x.val]⟩ := by decide +kernel
  exact this ⟨x, h⟩
theorem cat2 (x : List UInt8) (a b : UInt8) : Value.string (ByteArray.mk x.toArray ++ (ByteArray.mk #[a] ++ ByteArray.mk #[b])) = .string ⟨(x ++ [a, b]).toArray⟩ := by
  congr 1
theorem cat2' (x : List UInt8) (a b : UInt8) : Value.string (ByteArray.mk x.toArray ++ ByteArray.mk #[a] ++ ByteArray.mk #[b]) = .string ⟨(x ++ [a, b]).toArray⟩ := by
  congr 1; apply ByteArray.ext; simp
theorem hex_len (l : List UInt8) : (Ru.hex l).length = 2 * l.length := by
  induction l with
  | nil => rfl
  | cons c l ih => show ([_, _] ++ Ru.hex l).length = _; rw [List.length_append, ih]; simp; omega
theorem hex_snoc (l : List UInt8) (c : UInt8) : Ru.hex (l ++ [c]) = Ru.hex l ++ [Ru.hx (c.toNat / 16), Ru.hx (c.toNat % 16)] := by unfold Ru.hex; rw [List.flatMap_append]; rfl
theorem sign_slice (a : Nat) (ha : a < 16) (k k' : IntKind) (W : World) : (Instr.slice 9 (.string ⟨#[48, 49, 50, 51, 52, 53, 54, 55, 56, 57, 97, 98, 99, 100, 101, 102]⟩) (some (.int k (a : Int))) (some (.int k' ((a : Int) + 1))) none).run Tryz.prog W = .ok (.string ⟨#[Ru.hx a]⟩) W := by
  rw [run_slice_string W 9 _ k k' _ _ Tryz.underlying9 (by omega) (by omega) (by
    have : ByteArray.size ⟨#[48, 49, 50, 51, 52, 53, 54, 55, 56, 57, 97, 98, 99, 100, 101, 102]⟩ = 16 := rfl
    rw [this]; omega)]
  rw [show ((a : Int) + 1).toNat = a + 1 by omega, show (a : Int).toNat = a by omega, hx_ext a ha]
theorem byte_at {s : ByteArray} {k : Nat} {c : UInt8} (h : k < s.size) (hk : s.data.toList[k]? = some c) : s[k] = c := by
  have h2 : k < s.data.size := h
  rw [Array.getElem?_toList, Array.getElem?_eq_getElem h2] at hk
  exact Option.some.inj hk
theorem w64_small {x : Nat} (h : x < 2 ^ 8) : wrap64 (x : Int) = (x : Int) := by
  exact IntWalk.wrap64_in _ (by omega)
theorem u8_small {x : Nat} (h : x < 255) : IntKind.u8.wrap ((x : Int) + 1) = ((x + 1 : Nat) : Int) := by
  have : ∀ x : Fin 255, IntKind.u8.wrap ((x.val : Int) + 1) = ((x.val + 1 : Nat) : Int) := by decide +kernel
  exact this ⟨x, h⟩
theorem and15 (c : UInt8) : bits .and .u8 (c.toNat : Int) 15 = ((c.toNat % 16 : Nat) : Int) := by
  have : ∀ x : Fin 256, bits .and .u8 (x.val : Int) 15 = ((x.val % 16 : Nat) : Int) := by decide +kernel
  exact this ⟨c.toNat, c.toNat_lt⟩
set_option maxRecDepth 100000 in
theorem hex_any (s : ByteArray) (hs : s.size ≤ 100000) (w : World) :
    Calls Tryz.prog 80 #[.string s] w fun e w' => e = .returned (strB (Ru.hex s.data.toList)) ∧ Below w.heap.size w w' := by
  obtain ⟨cap, w2, hrun, hb, hz, hc, _⟩ := conv_bytes w s
  have Hb := Lib.hid hb
  have Hc := Lib.hid hc
  have hll : s.data.toList.length = s.size := by simp
  generalize hl : s.data.toList = l at *
  generalize hn : s.size = n at *
  have Hll := Lib.hid hll
  clear hb hc hz hl hll
  go_enter Tryz.func80, Tryz.ntmps80
  go_wp2_with fail
  go_loopg [3, 9] n (fun gk t i wr => HexRel l n w2 gk t i wr)
  case atStart => exact ⟨0, 0, by omega, rfl, rfl, rfl⟩
  case round =>
    obtain ⟨k, nd, hk, rfl, rfl, rfl⟩ := hrel
    have Hk := Lib.hid hk
    by_cases hlt : k < n
    · obtain ⟨c, hcc⟩ : ∃ c, l[k]? = some c := ⟨l[k]'(by rw [Hll.out]; exact hlt), List.getElem?_eq_getElem _⟩
      have c1 := Hc.out k c hcc
      have hsn : Ru.hex (l.take (k + 1)) = Ru.hex (l.take k) ++ [Ru.hx (c.toNat / 16), Ru.hx (c.toNat % 16)] := by
        rw [List.take_add_one, hcc]; exact hex_snoc _ _
      have Hsn := Lib.hid hsn
      have hcl := c.toNat_lt
      have hxl : (Ru.hex (l.take k)).length ≤ 200000 := by rw [hex_len, List.length_take]; omega
      generalize Ru.hex (l.take k) = x at *
      have hxs : ¬ 9223372036854775807 < x.length + 2 := by omega
      unfold strB
      obtain ⟨a, ha⟩ : ∃ a, a = c.toNat / 16 := ⟨_, rfl⟩
      obtain ⟨b, hb⟩ : ∃ b, b = c.toNat % 16 := ⟨_, rfl⟩
      have ha1 : a < 16 := by omega
      have hb1 : b < 16 := by omega
      have he : (c.toNat : Int) / 16 = (a : Int) := by omega
      have hw : IntKind.u8.wrap ((a : Int) + 1) = ((a + 1 : Nat) : Int) := u8_small (by omega)
      have hw2 : IntKind.u8.wrap ((b : Int) + 1) = ((b + 1 : Nat) : Int) := u8_small (by omega)
      have hbb : bits .and .u8 (c.toNat : Int) 15 = (b : Int) := by rw [hb]; exact and15 c
      rw [← ha, ← hb] at Hsn
      have hs1 := sign_slice a ha1 .u8 .u8
      have hs2 := sign_slice b hb1 .u8 .u8
      clear hk hcc hsn ha hb
      go_wp2_with fail
      go_quiet (fail)
      go_wp2_with fail
      go_roundg (gk - 1)
      case measure => have := Hk.out; omega
      case rel => exact ⟨k + 1, _, by have := Hk.out; omega, by go_num, by rw [Hsn.out]; unfold strB; rw [cat2], rfl⟩
    · obtain rfl : k = n := by omega
      have Ht := Lib.hid (List.take_of_length_le (Nat.le_of_eq Hll.out))
      clear hk
      go_wp2_with fail
      go_ret
      exact ⟨by rw [Ht.out]; rfl, bdrew Hb.out _⟩
end Go.Proofs.YtneebcniofolmaaGreatDoor
