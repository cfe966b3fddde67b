/- The walk of pq.Heal. · The array of disks, in plain: which disks have failed, up to which row each is built, what each has. What is lost may be anything here. -/
import Derived.Test.YtneebcniofolmaaGreatDoorPqJ
import Derived.Test.YtneebcniofolmaaGreatDoorPqH
namespace Go.Proofs.YtneebcniofolmaaGreatDoor
open Go.ChangeShapes Go.WideShapes Go.ChangeAt Go.RowKit
set_option linter.unusedVariables false
namespace Gv
/-- the parts that are not lost, of the first m -/
def have' (ps : List ByteArray) (ls : List Bool) : Nat → List ByteArray
  | 0 => []
  | m + 1 => if lo ls m then have' ps ls m else have' ps ls m ++ [ps.getD m ⟨#[]⟩]
def healF (ps : List ByteArray) (ls : List Bool) : Int :=
  if manyB ps.length = false then 1 else if ls.length ≠ ps.length then 3 else if (have' ps ls ps.length).length + 2 < ps.length then 8 else blkF (have' ps ls ps.length)
theorem have_mem {ps : List ByteArray} {ls : List Bool} {i : Nat} : ∀ m, i < m → lo ls i = false → ps.getD i ⟨#[]⟩ ∈ have' ps ls m
  | 0, h, _ => by omega
  | m + 1, h, h0 => by
    unfold have'
    by_cases e : i = m
    · subst e; rw [if_neg (by rw [h0]; decide)]; exact List.mem_append.2 (.inr (by simp))
    · have ih := have_mem (ps := ps) m (by omega) h0
      split
      · exact ih
      · exact List.mem_append.2 (.inl ih)
theorem have_len (ps : List ByteArray) (ls : List Bool) : ∀ m, (have' ps ls m).length + (goneL ls m).length = m
  | 0 => rfl
  | m + 1 => by
    have ih := have_len ps ls m
    rw [gone_succ]
    unfold have'
    by_cases h : lo ls m = true
    · rw [if_pos h, if_pos h, List.length_append, List.length_singleton]; omega
    · rw [if_neg h, if_neg h, List.length_append, List.length_singleton]; omega
theorem gone_mono (ls : List Bool) {k m : Nat} (h : k ≤ m) : (goneL ls k).length ≤ (goneL ls m).length := by
  induction m with
  | zero => obtain rfl : k = 0 := by omega
            exact Nat.le_refl _
  | succ m ih =>
    by_cases e : k = m + 1
    · subst e; exact Nat.le_refl _
    · have := ih (by omega)
      rw [gone_succ]
      split
      · rw [List.length_append]; omega
      · exact this
theorem have_len0 (ps : List ByteArray) (ls : List Bool) (m : Nat) : (have' ps ls m).length ≤ m := by have := have_len ps ls m; omega
theorem have_ex {ps : List ByteArray} {ls : List Bool} : ∀ m, 0 < (have' ps ls m).length → ∃ i, i < m ∧ lo ls i = false
  | 0, h => by simp [have'] at h
  | m + 1, h => by
    by_cases e : lo ls m = true
    · unfold have' at h
      rw [if_pos e] at h
      obtain ⟨i, h1, h2⟩ := have_ex m h
      exact ⟨i, by omega, h2⟩
    · exact ⟨m, by omega, by simpa using e⟩
end Gv
def HvRel (ps : List ByteArray) (ls : List Bool) (w : World) (n gk : Nat) (v6 i : Value) (wr : World) : Prop :=
  ∃ k : Nat, k + gk = n ∧ i = iv k ∧ wr.ownsRow w.heap.size 9 1 v6 (Gv.have' ps ls k).length ((Gv.have' ps ls k).map Value.string) ∧ Below w.heap.size w wr
def HealQ (ps : List ByteArray) (ls : List Bool) (w : World) (e : Ending) (w' : World) : Prop :=
  (Gv.healF ps ls = 0 → ∃ v, e = .returned (.tuple #[v, .nilIface]) ∧ OwnR w' w.heap.size 9 v ((Gv.heal ps ls).map Value.string)) ∧ (Gv.healF ps ls ≠ 0 → e = .returned (.tuple #[.slice none 0 0, errV (Gv.healF ps ls)])) ∧ Below w.heap.size w w'
theorem info_strL : (Tryz.prog.info? 9).map (fun i => (i.zero, i.size, i.bytes)) = some (some (.string ⟨#[]⟩), 1, 16) := by kernel_rfl
set_option maxRecDepth 100000 in
set_option maxHeartbeats 2000000 in
theorem Heal_any (ps : List ByteArray) (ls : List Bool) (hll : ls.length = ps.length) (h3 : 3 ≤ ps.length) (h12 : ps.length ≤ 12) (v vl : Value) (w : World) (hv : Strs w v ps) (hl : BoolR w vl ls) :
    Calls Tryz.prog 102 #[v, vl] w (HealQ ps ls w) := by
  have HV := Lib.hid hv
  have HL := Lib.hid hl
  obtain ⟨gv, ov, cv, rfl, v1, v2, v3⟩ := Row.pos hv (by rw [List.length_map]; omega)
  obtain ⟨gl, ol, cl, rfl, l1, l2, l3⟩ := Row.pos hl (by rw [List.length_map]; omega)
  rw [List.length_map] at v1 l1
  simp only [List.length_map] at HV HL ⊢
  have hzl := World.block_lt_of_cell? w _ (l3 0 (by rw [List.length_map]; omega) |>.trans (List.getElem?_eq_getElem (by rw [List.length_map]; omega)))
  have hzv := World.block_lt_of_cell? w _ (v3 0 (by rw [List.length_map]; omega) |>.trans (List.getElem?_eq_getElem (by rw [List.length_map]; omega)))
  rw [hll] at HL l1 ⊢
  obtain ⟨n, hn⟩ : ∃ n, n = ps.length := ⟨_, rfl⟩
  rw [← hn] at h3 h12 hll v1 l1 HV HL ⊢
  have hcs : ∀ j, j < n → w.cell? ⟨gv, ov + j, none⟩ = some (.string (ps.getD j ⟨#[]⟩)) := by
    intro j hj
    have := v3 j (by rw [List.length_map]; omega)
    rw [this, List.getElem?_map, List.getElem?_eq_getElem (by omega), List.getD_eq_getElem?_getD, List.getElem?_eq_getElem (by omega)]; rfl
  have hcl : ∀ j, j < n → w.cell? ⟨gl, ol + j, none⟩ = some (.bool (Gv.lo ls j)) := by
    intro j hj
    have := l3 j (by rw [List.length_map]; omega)
    rw [this, List.getElem?_map, List.getElem?_eq_getElem (by omega)]
    unfold Gv.lo
    rw [List.getD_eq_getElem?_getD, List.getElem?_eq_getElem (by omega)]; rfl
  have hmany : manyB (n : Int) = true := by unfold manyB; rw [dec_t (by omega), dec_t (by omega)]; rfl
  have HM := Lib.hid (many_any (n : Int) w)
  rw [hmany] at HM
  have hF : Gv.healF ps ls = if (Gv.have' ps ls n).length + 2 < n then 8 else blkF (Gv.have' ps ls n) := by
    unfold Gv.healF
    rw [← hn, hmany, if_neg (by decide), if_neg (by rw [hll]; simp)]
  have HF := Lib.hid hF
  have Hcs := Lib.hid hcs
  have Hcl := Lib.hid hcl
  have Hn := Lib.hid hn
  have Hll := Lib.hid hll
  obtain ⟨i0, hi, hi1, hi2, hi3⟩ := info_parts info_strL
  have HI := Lib.hid hi
  have hw2 : IntKind.i64.wrap ((n : Int) - 2) = (n : Int) - 2 := IntWalk.i64_in _ (by omega)
  unfold maxLen at v2 l2
  clear hv hl v3 l3 hcs hcl hn hll hmany hF hi
  go_enter Tryz.func102, Tryz.ntmps102
  go_wp2_with fail
  refine HM.out.mono ?_
  rintro e w' ⟨rfl, rfl⟩
  go_wp2_with fail
  go_loopg [6, 7, 8, 25] n (fun gk v6 v7 v8 v25 wr => HvRel ps ls w n gk v6 v25 wr)
  case atStart => exact ⟨0, by omega, rfl, World.ownsRow_nil _ _ _ _, Below.refl _ _⟩
  case round =>
    obtain ⟨k, hk, rfl, hO, hB⟩ := hrel
    have Hk := Lib.hid hk
    have HO := Lib.hid hO
    have HB := Lib.hid hB
    have hzr := hB.size
    clear hk hO hB
    by_cases hlt : k < n
    · have c0 := (HB.out.cell (p := ⟨gv, ov + k, none⟩) hzv).trans (Hcs.out k hlt)
      have c1 := (HB.out.cell (p := ⟨gl, ol + k, none⟩) hzl).trans (Hcl.out k hlt)
      have hstep : Gv.have' ps ls (k + 1) = if Gv.lo ls k then Gv.have' ps ls k else Gv.have' ps ls k ++ [ps.getD k ⟨#[]⟩] := rfl
      have Hst := Lib.hid hstep
      have hlen := Gv.have_len0 ps ls k
      generalize ps.getD k ⟨#[]⟩ = x at *
      cases hb : Gv.lo ls k with
      | true =>
        rw [hb] at c1 Hst
        clear hstep hb
        go_wp2_with fail
        go_roundg (gk - 1)
        case measure => have := Hk.out; omega
        case rel => exact ⟨k + 1, by have := Hk.out; omega, by go_num, by rw [Hst.out]; exact HO.out, HB.out⟩
      | false =>
        rw [hb] at c1 Hst
        have hi := HI.out
        have HOa := Lib.hid (HO.out.alloc (.cells #[.string x] 9))
        clear hstep hb
        go_wp2_with (at_builtin; refine wpList_append_own _ rfl _ _ 23 rfl w.heap.size 9 i0 (.string ⟨#[]⟩) 1 16 Tryz.underlying23 hi hi1 hi2 hi3 rfl (by decide) _ (Gv.have' ps ls k).length _ rfl HOa.out ⟨wr.heap.size, 0, none⟩ 1 1 [.string x] rfl rfl ?n1 ?n2 ?n3 ?n4 ?n5 ?_)
        all_goals first | (intro v9 w9 hown9 hgr9 _) | skip
        case n1 => exact cell_one_new _ _ _
        case n2 => intro u hu; rw [List.mem_singleton] at hu; subst hu; rfl
        case n3 => unfold maxLen; omega
        case n4 => omega
        case n5 => simp; omega
        have HB9 := Lib.hid ((HB.out.alloc hzr (.cells #[.string x] 9)).grown hgr9 (by simp; omega) (fun g e => (HO.out.lt g e).1))
        have HO9 : Hid (w9.ownsRow w.heap.size 9 1 v9 (Gv.have' ps ls (k + 1)).length ((Gv.have' ps ls (k + 1)).map Value.string)) := Lib.hid (by
          rw [Hst.out]
          show w9.ownsRow _ _ _ _ (Gv.have' ps ls k ++ [x]).length ((Gv.have' ps ls k ++ [x]).map Value.string)
          rw [List.length_append, List.length_singleton, List.map_append]; exact hown9)
        clear hown9 hgr9 hi HOa
        go_wp2_with fail
        go_roundg (gk - 1)
        case measure => have := Hk.out; omega
        case rel => exact ⟨k + 1, by have := Hk.out; omega, by go_num, HO9.out, HB9.out⟩
    · have hkn : k = n := by have := Hk.out; omega
      rw [hkn] at HO
      obtain ⟨hv, hhv⟩ : ∃ hv, hv = Gv.have' ps ls n := ⟨_, rfl⟩
      rw [← hhv] at HO HF
      have Hhv := Lib.hid hhv
      have hlen : hv.length ≤ n := by rw [hhv]; exact Gv.have_len0 _ _ _
      obtain ⟨p6, c6, hv6, _⟩ := (row_of_owns HO.out).1.shape
      rw [List.length_map] at hv6
      subst hv6
      have HBl := Lib.hid (blocks_any hv _ wr (row_of_owns HO.out).1)
      obtain ⟨m, hm⟩ : ∃ m, m = hv.length := ⟨_, rfl⟩
      rw [← hm] at HF hlen HBl ⊢
      have Hm := Lib.hid hm
      clear Hk hhv hm hkn
      by_cases h8 : m + 2 < n
      · have hF : Gv.healF ps ls = 8 := by rw [HF.out, if_pos h8]
        have h8I : (m : Int) < (n : Int) - 2 := by omega
        have HF8 := Lib.hid hF
        clear hF h8 HBl HF
        go_wp2_with fail
        go_ret2
        exact ⟨fun h => absurd (HF8.out.symm.trans h) (by decide), fun _ => (by rw [HF8.out]; rfl), HB.out⟩
      · have hF : Gv.healF ps ls = blkF hv := by rw [HF.out, if_neg h8]
        have h8I : (n : Int) - 2 ≤ (m : Int) := by omega
        have HF8 := Lib.hid hF
        clear hF HF
        by_cases hbz : blkF hv = 0
        · have hz := blkF_zero hbz
          have hm1 : 1 ≤ m := by omega
          rw [hbz] at HBl
          have hex := Gv.have_ex (ps := ps) (ls := ls) n (by rw [← Hhv.out, ← Hm.out]; exact hm1)
          have hsz : ∀ i, i < n → Gv.lo ls i = false → (ps.getD i ⟨#[]⟩).size = size0 hv := by
            intro i hi h0
            have h := Gv.have_mem (ps := ps) n hi h0
            rw [← Hhv.out] at h
            exact hz.1 _ h
          have hg2 : (Gv.goneL ls (n - 2)).length ≤ 2 := by
            have h1 := Gv.have_len ps ls n
            have h2 := Gv.gone_mono ls (show n - 2 ≤ n by omega)
            rw [← Hhv.out, ← Hm.out] at h1
            omega
          have hV := HV.out.below HB.out
          have hL := Row.below HL.out HB.out
          have HHl := Lib.hid (heal_any ps ls (size0 hv) (by rw [← Hn.out]; exact h3) (by rw [← Hn.out]; omega) (by rw [← Hn.out]; exact Hll.out) (by rw [← Hn.out]; exact hsz) (by have := hz.2; omega) (by rw [← Hn.out]; exact hex) (by rw [← Hn.out]; exact hg2) _ _ wr hV hL)
          have Hbz := Lib.hid hbz
          clear hz hex hsz hg2 hV hL hbz h8
          go_wp2_with fail
          refine HBl.out.mono ?_
          rintro e w' ⟨he, rfl⟩
          obtain rfl : e = .returned .nilIface := he
          go_wp2_with fail
          refine HHl.out.mono ?_
          rintro e w9 ⟨v9, rfl, hO9, hb9⟩
          have HO9 := Lib.hid (hO9.mono hzr)
          have HB9 := Lib.hid (HB.out.trans (hb9.mono hzr))
          clear hO9 hb9
          go_wp2_with fail
          go_ret2
          exact ⟨fun _ => ⟨_, rfl, HO9.out⟩, fun h => absurd (HF8.out.trans Hbz.out) h, HB9.out⟩
        · rw [errV_ne hbz] at HBl
          have Hbz := Lib.hid hbz
          clear hbz h8
          go_wp2_with fail
          refine HBl.out.mono ?_
          rintro e w' ⟨rfl, rfl⟩
          go_wp2_with fail
          go_ret2
          exact ⟨fun h => absurd (HF8.out.symm.trans h) Hbz.out, fun _ => (by rw [HF8.out, errV_ne Hbz.out]; rfl), HB.out⟩
end Go.Proofs.YtneebcniofolmaaGreatDoor
namespace Go.Proofs.YtneebcniofolmaaGreatDoor
set_option linter.unusedVariables false
namespace Ar
def up {α : Type} (f : Nat → α) (i : Nat) (x : α) : Nat → α := fun r => if r = i then x else f r
theorem up_self {α : Type} (f : Nat → α) (i : Nat) (x : α) : up f i x i = x := if_pos rfl
theorem up_ne {α : Type} (f : Nat → α) {i r : Nat} (x : α) (h : r ≠ i) : up f i x r = f r := if_neg h
/-- the disk of the j-th part of a row; which part a disk has -/
def dk (n row j : Nat) : Nat := (n - 1 - row % n + 2 + j) % n
def ix (n row d : Nat) : Nat := (d + row % n + n - 1) % n
theorem dk_lt {n row j : Nat} (h : 0 < n) : dk n row j < n := Nat.mod_lt _ h
theorem ix_lt {n row d : Nat} (h : 0 < n) : ix n row d < n := Nat.mod_lt _ h
theorem small : ∀ n, n ≤ 10 → 3 ≤ n → ∀ q, q < n → ∀ j, j < n → (((j + q + n - 1) % n) < n ∧ (n - 1 - q + 2 + ((j + q + n - 1) % n)) % n = j ∧ (((n - 1 - q + 2 + j) % n) + q + n - 1) % n = j) := by decide +kernel
theorem dk_ix {n row d : Nat} (h3 : 3 ≤ n) (h10 : n ≤ 10) (hd : d < n) : dk n row (ix n row d) = d := (small n h10 h3 (row % n) (Nat.mod_lt _ (by omega)) d hd).2.1
theorem ix_dk {n row j : Nat} (h3 : 3 ≤ n) (h10 : n ≤ 10) (hj : j < n) : ix n row (dk n row j) = j := (small n h10 h3 (row % n) (Nat.mod_lt _ (by omega)) j hj).2.2
theorem permB : ∀ n, n ≤ 10 → 3 ≤ n → ∀ q, q < n → ((List.range n).map (fun j => (n - 1 - q + 2 + j) % n)).isPerm (List.range n) = true := by decide +kernel
theorem dk_perm {n row : Nat} (h3 : 3 ≤ n) (h10 : n ≤ 10) : ((List.range n).map (dk n row)).Perm (List.range n) := List.isPerm_iff.1 (permB n h10 h3 (row % n) (Nat.mod_lt _ (by omega)))
structure S where
  n : Nat
  rows : Nat
  size : Nat
  fl : Nat → Bool
  bt : Nat → Nat
  c : Nat → Nat → ByteArray
namespace S
def lost (s : S) (d row : Nat) : Bool := s.fl d || decide (s.bt d ≤ row)
def part (s : S) (row j : Nat) : ByteArray := if s.lost (dk s.n row j) row then ⟨#[]⟩ else s.c (dk s.n row j) row
def parts (s : S) (row : Nat) : List ByteArray := (List.range s.n).map (s.part row)
def marks (s : S) (row : Nat) : List Bool := (List.range s.n).map fun j => s.lost (dk s.n row j) row
def many (s : S) (row : Nat) : Nat := ((List.range s.n).filter (fun d => s.lost d row)).length
def heal (s : S) (row : Nat) : List ByteArray := Gv.heal (s.parts row) (s.marks row)
def full (s : S) (row : Nat) : List ByteArray := (List.range s.n).map fun j => s.c (dk s.n row j) row
def has (s : S) (d : Int) : Prop := 0 ≤ d ∧ d < (s.n : Int)
instance (s : S) (d : Int) : Decidable (s.has d) := inferInstanceAs (Decidable (_ ∧ _))
def hasRow (s : S) (r : Int) : Prop := 0 ≤ r ∧ r < (s.rows : Int)
instance (s : S) (d : Int) : Decidable (s.hasRow d) := inferInstanceAs (Decidable (_ ∧ _))
def hasBlock (s : S) (b : Int) : Prop := 0 ≤ b ∧ b < ((s.rows * (s.n - 2) : Nat) : Int)
instance (s : S) (d : Int) : Decidable (s.hasBlock d) := inferInstanceAs (Decidable (_ ∧ _))
def fail (s : S) (d : Int) : Int × S := if s.has d then (if s.fl d.toNat then (6, s) else (0, { s with fl := up s.fl d.toNat true })) else (1, s)
def replace (s : S) (d : Int) : Int × S := if s.has d then (if s.fl d.toNat then (0, { s with fl := up s.fl d.toNat false, bt := up s.bt d.toNat 0 }) else (6, s)) else (1, s)
def setC (s : S) (d row : Nat) (b : ByteArray) : S := { s with c := up s.c d (up (s.c d) row b) }
def built (s : S) (d : Nat) : S := { s.setC d (s.bt d) ((s.heal (s.bt d)).getD (ix s.n (s.bt d) d) ⟨#[]⟩) with bt := up s.bt d (s.bt d + 1) }
def rebuild (s : S) (d : Int) : (Int × Int) × S :=
  if s.has d then (if s.fl d.toNat = true ∨ s.bt d.toNat = s.rows then ((0, 6), s) else if 2 < s.many (s.bt d.toNat) then ((0, 8), s) else (((s.rows : Int) - (s.bt d.toNat + 1), 0), s.built d.toNat)) else ((0, 1), s)
def readAt (s : S) (b : Nat) : ByteArray × Int :=
  if s.lost (dk s.n (b / (s.n - 2)) (b % (s.n - 2))) (b / (s.n - 2)) = false then (s.c (dk s.n (b / (s.n - 2)) (b % (s.n - 2))) (b / (s.n - 2)), 0)
  else if 2 < s.many (b / (s.n - 2)) then (⟨#[]⟩, 8) else ((s.heal (b / (s.n - 2))).getD (b % (s.n - 2)) ⟨#[]⟩, 0)
def read (s : S) (b : Int) : ByteArray × Int := if s.hasBlock b then s.readAt b.toNat else (⟨#[]⟩, 1)
/-- the row with block j another one, and its P and Q -/
def turned (s : S) (row j : Nat) (b : ByteArray) : List ByteArray := ((s.heal row).take (s.n - 2)).set j b ++ [Gv.P (((s.heal row).take (s.n - 2)).set j b), Gv.Q (((s.heal row).take (s.n - 2)).set j b)]
def putRow (s : S) (row : Nat) (l : List ByteArray) : S := { s with c := fun d r => if r = row then l.getD (ix s.n row d) ⟨#[]⟩ else s.c d r }
def write (s : S) (b : Int) (x : ByteArray) : Int × S :=
  if s.hasBlock b then (if x.size = s.size then (if 2 < s.many (b.toNat / (s.n - 2)) then (8, s) else (0, s.putRow (b.toNat / (s.n - 2)) (s.turned (b.toNat / (s.n - 2)) (b.toNat % (s.n - 2)) x))) else (3, s)) else (1, s)
def poke (s : S) (d row : Int) (x : ByteArray) : Int × S :=
  if s.has d ∧ s.hasRow row then (if x.size = s.size then (if s.lost d.toNat row.toNat then (6, s) else (0, s.setC d.toNat row.toNat x)) else (3, s)) else (1, s)
structure Ok (s : S) : Prop where
  n3 : 3 ≤ s.n
  n10 : s.n ≤ 10
  r1 : 1 ≤ s.rows
  r20 : s.rows ≤ 20
  z1 : 1 ≤ s.size
  z16 : s.size ≤ 16
  cl : ∀ d r, d < s.n → r < s.rows → s.lost d r = false → (s.c d r).size = s.size
  bt : ∀ d, d < s.n → s.bt d ≤ s.rows
theorem parts_len (s : S) (row : Nat) : (s.parts row).length = s.n := by unfold parts; simp
theorem marks_len (s : S) (row : Nat) : (s.marks row).length = s.n := by unfold marks; simp
theorem full_len (s : S) (row : Nat) : (s.full row).length = s.n := by unfold full; simp
theorem marks_at (s : S) (row : Nat) {j : Nat} (h : j < s.n) : Gv.lo (s.marks row) j = s.lost (dk s.n row j) row := by
  unfold Gv.lo marks; rw [List.getD_eq_getElem?_getD, List.getElem?_map, List.getElem?_range h]; rfl
theorem parts_at (s : S) (row : Nat) {j : Nat} (h : j < s.n) : (s.parts row).getD j ⟨#[]⟩ = s.part row j := by
  unfold parts; rw [List.getD_eq_getElem?_getD, List.getElem?_map, List.getElem?_range h]; rfl
theorem full_at (s : S) (row : Nat) {j : Nat} (h : j < s.n) : (s.full row).getD j ⟨#[]⟩ = s.c (dk s.n row j) row := by
  unfold full; rw [List.getD_eq_getElem?_getD, List.getElem?_map, List.getElem?_range h]; rfl
theorem many_gone {s : S} (h : s.Ok) (row : Nat) : (Gv.goneL (s.marks row) s.n).length = s.many row := by
  have e : Gv.goneL (s.marks row) s.n = (List.range s.n).filter (fun j => s.lost (dk s.n row j) row) := by
    unfold Gv.goneL
    exact List.filter_congr (fun j hj => s.marks_at row (List.mem_range.1 hj))
  rw [e]
  have h1 : ((List.range s.n).filter (fun j => s.lost (dk s.n row j) row)).length = (((List.range s.n).map (dk s.n row)).filter (fun d => s.lost d row)).length := by
    rw [List.filter_map, List.length_map]; rfl
  rw [h1]
  exact (List.Perm.filter _ (dk_perm h.n3 h.n10)).length_eq
theorem part_size {s : S} (h : s.Ok) {row j : Nat} (hr : row < s.rows) (hj : j < s.n) (hl : Gv.lo (s.marks row) j = false) : ((s.parts row).getD j ⟨#[]⟩).size = s.size := by
  rw [s.marks_at row hj] at hl
  rw [s.parts_at row hj]
  unfold part
  rw [hl, if_neg (by decide)]
  exact h.cl _ _ (dk_lt (by have := h.n3; omega)) hr hl
theorem healF_eq {s : S} (h : s.Ok) {row : Nat} (hr : row < s.rows) : Gv.healF (s.parts row) (s.marks row) = if 2 < s.many row then 8 else 0 := by
  have h3 := h.n3
  have h10 := h.n10
  have hm : manyB ((s.parts row).length : Int) = true := by rw [s.parts_len]; unfold manyB; rw [dec_t (by omega), dec_t (by omega)]; rfl
  have hlen := Gv.have_len (s.parts row) (s.marks row) s.n
  rw [s.many_gone h] at hlen
  unfold Gv.healF
  rw [hm, if_neg (by decide), s.parts_len, s.marks_len, if_neg (by simp)]
  by_cases hc : 2 < s.many row
  · rw [if_pos hc, if_pos (by omega)]
  · rw [if_neg hc, if_neg (by omega)]
    have hall : ∀ m, m ≤ s.n → ∀ x ∈ Gv.have' (s.parts row) (s.marks row) m, x.size = s.size := by
      intro m
      induction m with
      | zero => intro _ x hx; cases hx
      | succ m ih =>
        intro hm x hx
        unfold Gv.have' at hx
        by_cases e : Gv.lo (s.marks row) m = true
        · rw [if_pos e] at hx; exact ih (by omega) x hx
        · rw [if_neg e] at hx
          rcases List.mem_append.1 hx with hx | hx
          · exact ih (by omega) x hx
          · rw [List.mem_singleton.1 hx]; exact part_size h hr (by omega) (by simpa using e)
    have hall := hall s.n (Nat.le_refl _)
    generalize Gv.have' (s.parts row) (s.marks row) s.n = hv at *
    have h0 : hv[0]? = some (hv[0]'(by omega)) := List.getElem?_eq_getElem (by omega)
    rw [blkF_good h0 (fun j x hx => by rw [hall x (List.mem_of_getElem? hx), hall _ (List.getElem_mem (by omega))]), hall _ (List.getElem_mem (by omega)), if_neg (by have := h.z16; omega)]
end S
end Ar
/-- what is healed has its own P and Q, whatever stands where it is lost -/
theorem Gv.heal_cw2 {n k : Nat} {ps : List ByteArray} {ls : List Bool} (hl : ps.length = k + 2) (hk : 0 < k) (hs : ∀ i, i < k + 2 → Gv.lo ls i = false → (ps.getD i ⟨#[]⟩).size = n) (hex : ∃ i, i < k + 2 ∧ Gv.lo ls i = false) : Gv.Cw n k (Gv.heal ps ls) := by
  have hsz : Gv.lastSz ps ls ps.length = n := by
    obtain ⟨i, hi, h0⟩ := hex
    exact Gv.lastSz_eq _ (fun i hi h0 => hs i (by omega) h0) ⟨i, by omega, h0⟩
  have he : Gv.heal ps ls = Gv.heal (Gv.outs ps ls n (k + 2)) ls := by
    have hol : (Gv.outs ps ls n (k + 2)).length = k + 2 := by rw [Gv.outs_len, hl]
    have hon : ∀ i, i < k + 2 → Gv.lo ls i = false → ((Gv.outs ps ls n (k + 2)).getD i ⟨#[]⟩).size = n := fun i hi h0 => by
      rw [Gv.outs_at _ _ _ _ (by omega), if_neg (by rw [h0]; simp)]; exact hs i hi h0
    have hsz2 : Gv.lastSz (Gv.outs ps ls n (k + 2)) ls (k + 2) = n := Gv.lastSz_eq _ hon hex
    have hoo : Gv.outs (Gv.outs ps ls n (k + 2)) ls n (k + 2) = Gv.outs ps ls n (k + 2) := by
      refine Gv.list_ext (by rw [Gv.outs_len]) (fun i hi => ?_)
      rw [Gv.outs_len, hol] at hi
      rw [Gv.outs_at _ _ _ _ (by omega)]
      split
      · rename_i hc; rw [Gv.outs_at _ _ _ _ (by omega), if_pos hc]
      · rfl
    unfold Gv.heal
    simp only [hl, hol, hsz2, hoo]
    rw [hl] at hsz
    rw [hsz]
  rw [he]
  refine Gv.heal_cw (by rw [Gv.outs_len, hl]) hk (fun s hs' => ?_) hex
  unfold Gv.outs at hs'
  obtain ⟨i, hi, rfl⟩ := List.mem_map.1 hs'
  rw [List.mem_range] at hi
  split
  · exact Gv.zer_size n
  · rename_i hc
    refine hs i (by omega) ?_
    cases h0 : Gv.lo ls i with
    | false => rfl
    | true => exact absurd ⟨by omega, h0⟩ hc
namespace Ar.S
theorem heal_cw {s : S} (h : s.Ok) {row : Nat} (hr : row < s.rows) (h2 : ¬ 2 < s.many row) : Gv.Cw s.size (s.n - 2) (s.heal row) := by
  have h3 := h.n3
  refine Gv.heal_cw2 (by rw [s.parts_len]; omega) (by omega) (fun i hi h0 => part_size h hr (by omega) h0) ?_
  have hlen := Gv.have_len (s.parts row) (s.marks row) s.n
  rw [s.many_gone h] at hlen
  obtain ⟨i, hi, h0⟩ := Gv.have_ex (ps := s.parts row) (ls := s.marks row) s.n (by omega)
  exact ⟨i, by omega, h0⟩
end Ar.S
end Go.Proofs.YtneebcniofolmaaGreatDoor
