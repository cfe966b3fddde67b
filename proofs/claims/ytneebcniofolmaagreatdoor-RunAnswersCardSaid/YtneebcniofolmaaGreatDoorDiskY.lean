/- A disk, in plain lists. · Arrays that lie inside a block: a part read as a whole; an element of an array by value. · The walks of package disk. · The walks of package disk: the methods. · The walks of package disk: blank, Replace, New. -/
import Derived.Test.YtneebcniofolmaaGreatDoorLift
import Derived.Test.YtneebcniofolmaaGreatDoorSlI
import Derived.Deep.LoopGhost
import Derived.Deep.DeepCutAuto
import Derived.Deep.CutBlock
import Derived.Deep.OwnRows
import Derived.Laws.OwnMore
namespace Go.Proofs.YtneebcniofolmaaGreatDoor.Dk
structure D where
  rows : List ByteArray
  many : Nat
  size : Nat
  failed : Bool
  writes : Nat
def noughts (n : Nat) : ByteArray := ⟨(List.replicate n (0 : UInt8)).toArray⟩
theorem noughts_size (n : Nat) : (noughts n).size = n := by simp [noughts, ByteArray.size]
/-- the first k rows are noughts -/
def fresh (k n : Nat) (l : List ByteArray) : List ByteArray := (List.range l.length).map fun i => if i < k then noughts n else l.getD i ⟨#[]⟩
theorem fresh_len (k n : Nat) (l : List ByteArray) : (fresh k n l).length = l.length := by simp [fresh]
theorem fresh_at {k n : Nat} {l : List ByteArray} {i : Nat} (h : i < l.length) : (fresh k n l)[i]? = some (if i < k then noughts n else l.getD i ⟨#[]⟩) := by
  unfold fresh; rw [List.getElem?_map, List.getElem?_range h]; rfl
theorem fresh_zero (n : Nat) (l : List ByteArray) : fresh 0 n l = l := by
  apply List.ext_getElem?
  intro i
  by_cases h : i < l.length
  · rw [fresh_at h, if_neg (by omega), List.getD_eq_getElem?_getD, List.getElem?_eq_getElem h]; rfl
  · rw [List.getElem?_eq_none (by rw [fresh_len]; omega), List.getElem?_eq_none (by omega)]
theorem fresh_succ {k n : Nat} {l : List ByteArray} (hk : k < l.length) : (fresh k n l).set k (noughts n) = fresh (k + 1) n l := by
  apply List.ext_getElem?
  intro i
  rw [List.getElem?_set]
  by_cases h : i < l.length
  · rw [fresh_at h, fresh_at h]
    by_cases e : k = i
    · subst e; rw [if_pos rfl, if_pos (by rw [fresh_len]; exact hk), if_pos (by omega)]
    · rw [if_neg e]
      by_cases hi : i < k
      · rw [if_pos hi, if_pos (by omega)]
      · rw [if_neg hi, if_neg (by omega)]
  · rw [if_neg (by omega), List.getElem?_eq_none (by rw [fresh_len]; omega), List.getElem?_eq_none (by rw [fresh_len]; omega)]
def D.ready (d : D) (row : Int) : Int := if d.failed then 6 else if row < 0 ∨ (d.many : Int) ≤ row then 1 else 0
def D.read (d : D) (row : Int) : ByteArray × Int := if d.ready row = 0 then (d.rows.getD row.toNat ⟨#[]⟩, 0) else (⟨#[]⟩, d.ready row)
def D.write (d : D) (row : Int) (b : ByteArray) : Int × D :=
  if d.ready row = 0 then (if b.size = d.size then (0, { d with rows := d.rows.set row.toNat b, writes := d.writes + 1 }) else (3, d)) else (d.ready row, d)
def D.fail (d : D) : Int × D := if d.failed then (6, d) else (0, { d with failed := true })
def D.blank (d : D) : D := { d with rows := fresh d.many d.size d.rows }
def D.replace (d : D) : Int × D := if d.failed then (0, D.blank { d with failed := false }) else (6, d)
def made (rows size : Nat) : D := D.blank ⟨List.replicate 20 ⟨#[]⟩, rows, size, false, 0⟩
theorem D.ready_in {d : D} {row : Int} (h : d.ready row = 0) : d.failed = false ∧ 0 ≤ row ∧ row < d.many := by
  unfold D.ready at h
  cases hf : d.failed with
  | true => rw [hf] at h; simp at h
  | false =>
    rw [hf] at h
    by_cases c : row < 0 ∨ (d.many : Int) ≤ row
    · simp [c] at h
    · exact ⟨rfl, by omega, by omega⟩
end Go.Proofs.YtneebcniofolmaaGreatDoor.Dk
namespace Go.Proofs.YtneebcniofolmaaGreatDoor
open Go.ChangeShapes Go.WideShapes Go.ChangeAt Go.RowKit
set_option linter.unusedVariables false
theorem run_load_sub {P : Program} (w : World) (a : Addr) (ty : TypeId) (xs : List Value) (d : TypeDesc) (hx : ∀ j v, xs[j]? = some v → w.cell? (a.add j) = some v)
    (hu : P.underlying ty = some d) (hd : (match d with | .struct _ | .array _ _ => true | _ => false) = true) (hi : (P.info? ty).map (·.size) = some xs.length) :
    (loadVar ty a).run P w = .ok (.agg xs.toArray) w := by
  have hl : (loadCells a xs.length).run P w = .ok xs.toArray w := run_loadCells_list (P := P) w a xs hx
  cases hq : P.info? ty with
  | none => simp [hq] at hi
  | some i =>
    have hs : i.size = xs.length := by simpa [hq] using hi
    have hagg : (isAgg ty).run P w = .ok true w := by
      unfold isAgg
      rw [Sem.run_bind, run_underlying hu w]
      cases d <;> simp_all
    simp [loadVar, Sem.run_bind, hagg, sizeOf, typeInfo, hq, hs, hl]
theorem wpList_load_sub {P : Program} {ops : Array Oper} {rest : List Oper} {o : Oper} {a : Act} {w : World} {Q : Exit → Act → World → Prop} (hgd : o.guard = none) (ty : TypeId) (x : Operand) (ho : o.op = .load ty x)
    (g : Addr) (hx : a.eval x = .pointer (some g)) (xs : List Value) (d : TypeDesc) (hc : ∀ j v, xs[j]? = some v → w.cell? (g.add j) = some v)
    (hu : P.underlying ty = some d) (hd : (match d with | .struct _ | .array _ _ => true | _ => false) = true) (hi : (P.info? ty).map (·.size) = some xs.length)
    (h : wpList P ops Q rest (a.put o.dst (.agg xs.toArray)) w) : wpList P ops Q (o :: rest) a w := by
  refine wpList_plain hgd fun _ hK => ?_
  unfold Oper.wp execOp
  simp only [ho, hx, Instr.loadAt, Instr.sureAddr, Sem.run_bind, Sem.run_pure, Result.andThen_ok, run_load_sub w g ty xs d hc hu hd hi]
  exact hK _ _ h
theorem run_index_arr {P : Program} (t e : TypeId) (n : Nat) (cs : Array Value) (k : Nat) (v : Value) (h : P.underlying t = some (.array n e)) (hk : k < n) (u : TypeDesc) (he : P.underlying e = some u)
    (hu : (match u with | .struct _ | .array _ _ => false | _ => true) = true) (hs : (P.info? e).map (·.size) = some 1) (hv : cs[k]? = some v) (w : World) :
    (Instr.index t (.agg cs) (.int .i64 k)).run P w = .ok v w := by
  cases hq : P.info? e with
  | none => simp [hq] at hs
  | some i =>
    have hs' : i.size = 1 := by simpa [hq] using hs
    have hagg : (isAgg e).run P w = .ok false w := by
      unfold isAgg
      rw [Sem.run_bind, run_underlying he w]
      cases u <;> simp_all
    have hin : (0 : Int) ≤ (k : Int) ∧ (k : Int) < (n : Int) := by omega
    simp [Instr.index, run_underlying h, asIntOf, hin, part, Sem.run_bind, hagg, sizeOf, typeInfo, hq, hs', hv]
    exact fun h => absurd h (by omega)
theorem underlying_int : Tryz.prog.underlying 3 = some (.int .i64) := Tryz.underlying3
end Go.Proofs.YtneebcniofolmaaGreatDoor
namespace Go.Proofs.YtneebcniofolmaaGreatDoor
open Go.ChangeShapes Go.WideShapes Go.ChangeAt Go.RowKit
set_option linter.unusedVariables false
theorem info_byte : (Tryz.prog.info? 5).map (fun i => (i.zero, i.size, i.bytes)) = some (some (.int .u8 0), 1, 1) := by kernel_rfl
/-- make([]byte, n), and the string of it -/
theorem make_bytes (n : Nat) (h : n ≤ 1000000) (w : World) : (Instr.makeSlice 44 (.int .i64 (n : Int)) (.int .i64 (n : Int))).run Tryz.prog w = .ok (.slice (some ⟨w.heap.size, 0, none⟩) n n) (w.alloc (.cells (madeCells #[.int .u8 0] n) 5)) :=
  run_make_row' 44 5 (.int .u8 0) 1 Tryz.underlying44 info_byte rfl .i64 .i64 n (by omega) (by omega) w
theorem made_at (n j : Nat) (h : j < n) : (madeCells #[Value.int .u8 0] n)[j]? = some (.int .u8 0) := by
  rw [← Array.getElem?_toList, toList_madeCells_one, List.getElem?_replicate, if_pos h]
theorem conv_bytes0 (n : Nat) (w : World) : (convert 44 9 (.slice (some ⟨w.heap.size, 0, none⟩) n n)).run Tryz.prog (w.alloc (.cells (madeCells #[.int .u8 0] n) 5)) = .ok (.string (Dk.noughts n)) (w.alloc (.cells (madeCells #[.int .u8 0] n) 5)) := by
  have h := run_convert_bytes_back (P := Tryz.prog) (w.alloc (.cells (madeCells #[.int .u8 0] n) 5)) 44 9 5 ⟨w.heap.size, 0, none⟩ n (List.replicate n 0) Tryz.underlying44 Tryz.underlying5 Tryz.underlying9 (fun j hj => by
    rw [List.length_replicate] at hj
    rw [Addr.add_lit, Nat.zero_add, World.cell?_alloc_at _ _ _ _ rfl]
    show (madeCells #[Value.int .u8 0] n)[j]? = _
    rw [made_at n j hj, List.getElem_replicate]; rfl)
  rw [List.length_replicate] at h
  exact h
/-- a disk in memory: one block of 24 cells -/
structure DiskAt (w : World) (b : Nat) (d : Dk.D) : Prop where
  len : d.rows.length = 20
  room : d.many ≤ 20
  sz : d.size ≤ 16
  blk : w.heap[b]? = some (.cells ((d.rows.map Value.string ++ [iv d.many, iv d.size, .bool d.failed, iv d.writes]).toArray) 107 (0, 0))
section
variable {w : World} {b : Nat} {d : Dk.D}
theorem DiskAt.lt (h : DiskAt w b d) : b < w.heap.size := (Array.getElem?_eq_some_iff.1 h.blk).1
theorem DiskAt.row (h : DiskAt w b d) {j : Nat} (hj : j < 20) : w.cell? ⟨b, j, none⟩ = some (.string (d.rows.getD j ⟨#[]⟩)) := by
  have h1 := h.len
  rw [cell_of_row _ _ _ _ _ _ h.blk, List.getElem?_toArray, List.getElem?_append_left (by rw [List.length_map]; omega), List.getElem?_map, List.getElem?_eq_getElem (by omega)]
  rw [List.getD_eq_getElem?_getD, List.getElem?_eq_getElem (by omega)]; rfl
theorem DiskAt.tail (h : DiskAt w b d) (j : Nat) : w.cell? ⟨b, 20 + j, none⟩ = [iv d.many, iv d.size, .bool d.failed, iv d.writes][j]? := by
  have h1 := h.len
  rw [cell_of_row _ _ _ _ _ _ h.blk, List.getElem?_toArray, List.getElem?_append_right (by rw [List.length_map]; omega), List.length_map, h1, Nat.add_sub_cancel_left]
theorem DiskAt.m (h : DiskAt w b d) : w.cell? ⟨b, 20, none⟩ = some (iv d.many) := h.tail 0
theorem DiskAt.z (h : DiskAt w b d) : w.cell? ⟨b, 21, none⟩ = some (iv d.size) := h.tail 1
theorem DiskAt.fl (h : DiskAt w b d) : w.cell? ⟨b, 22, none⟩ = some (.bool d.failed) := h.tail 2
theorem DiskAt.n (h : DiskAt w b d) : w.cell? ⟨b, 23, none⟩ = some (iv d.writes) := h.tail 3
theorem DiskAt.f (h : DiskAt w b d) (j : Nat) : w.frozen? ⟨b, j, none⟩ = false := frozen_of_row _ _ _ _ _ h.blk
theorem DiskAt.below (h : DiskAt w b d) {w' : World} (hw : Below w.heap.size w w') : DiskAt w' b d := { h with blk := by rw [hw.block b h.lt]; exact h.blk }
theorem DiskAt.kept (h : DiskAt w b d) {F : Nat → Prop} {w' : World} (hk : Kept F w w') (hF : ¬ F b) : DiskAt w' b d := { h with blk := hk.heap h.blk hF }
theorem DiskAt.setRow (h : DiskAt w b d) {j : Nat} (hj : j < 20) (s : ByteArray) : DiskAt (w.setCell ⟨b, j, none⟩ (.string s)) b { d with rows := d.rows.set j s } := by
  have h1 := h.len
  refine ⟨by rw [List.length_set]; exact h1, h.room, h.sz, ?_⟩
  rw [heap_setCell_same _ _ _ _ _ _ h.blk]
  congr 2
  rw [List.setIfInBounds_toArray]
  congr 1
  rw [List.set_append_left _ _ (by rw [List.length_map]; omega), List.map_set]
theorem DiskAt.setF (h : DiskAt w b d) (z : Bool) : DiskAt (w.setCell ⟨b, 22, none⟩ (.bool z)) b { d with failed := z } := by
  have h1 := h.len
  refine ⟨h1, h.room, h.sz, ?_⟩
  rw [heap_setCell_same _ _ _ _ _ _ h.blk]
  congr 2
  rw [List.setIfInBounds_toArray]
  congr 1
  rw [List.set_append_right _ _ (by rw [List.length_map]; omega), List.length_map, h1]
  rfl
theorem DiskAt.setN (h : DiskAt w b d) (n : Nat) : DiskAt (w.setCell ⟨b, 23, none⟩ (iv n)) b { d with writes := n } := by
  have h1 := h.len
  refine ⟨h1, h.room, h.sz, ?_⟩
  rw [heap_setCell_same _ _ _ _ _ _ h.blk]
  congr 2
  rw [List.setIfInBounds_toArray]
  congr 1
  rw [List.set_append_right _ _ (by rw [List.length_map]; omega), List.length_map, h1]
  rfl
end
theorem dsetK (w : World) (b j : Nat) (v : Value) : Kept (· = b) w (w.setCell ⟨b, j, none⟩ v) := (Kept.self b w).set1 j v
end Go.Proofs.YtneebcniofolmaaGreatDoor
namespace Go.Proofs.YtneebcniofolmaaGreatDoor
open Go.ChangeShapes Go.WideShapes Go.ChangeAt Go.RowKit
set_option linter.unusedVariables false
variable {w : World} {b : Nat} {d : Dk.D}
theorem ready_any (h : DiskAt w b d) (row : Int) :
    Calls Tryz.prog 125 #[.pointer (some ⟨b, 0, none⟩), iv row] w fun e w' => e = .returned (errV (d.ready row)) ∧ w = w' := by
  have c1 := h.m
  have c3 := h.fl
  have hm := h.room
  clear h
  cases hf : d.failed with
  | true =>
    have e : d.ready row = 6 := by unfold Dk.D.ready; rw [hf, if_pos rfl]
    rw [e]
    rw [hf] at c3
    clear hf e
    go_enter Tryz.func125, Tryz.ntmps125
    go_wp2_with fail
    go_ret
    exact ⟨rfl, rfl⟩
  | false =>
    rw [hf] at c3
    have e0 : d.ready row = if row < 0 ∨ (d.many : Int) ≤ row then 1 else 0 := by unfold Dk.D.ready; rw [hf, if_neg (by decide)]
    clear hf
    by_cases h1 : row < 0
    · rw [e0, if_pos (.inl h1)]
      clear e0
      go_enter Tryz.func125, Tryz.ntmps125
      go_wp2_with fail
      go_ret
      exact ⟨rfl, rfl⟩
    · by_cases h2 : (d.many : Int) ≤ row
      · rw [e0, if_pos (.inr h2)]
        clear e0
        go_enter Tryz.func125, Tryz.ntmps125
        go_wp2_with fail
        go_ret
        exact ⟨rfl, rfl⟩
      · rw [e0, if_neg (by omega)]
        clear e0
        go_enter Tryz.func125, Tryz.ntmps125
        go_wp2_with fail
        go_ret
        exact ⟨rfl, rfl⟩
theorem read_any (h : DiskAt w b d) (row : Int) :
    Calls Tryz.prog 100 #[.pointer (some ⟨b, 0, none⟩), iv row] w fun e w' => e = .returned (.tuple #[.string (d.read row).1, errV (d.read row).2]) ∧ w = w' := by
  have H := Lib.hid h
  unfold Dk.D.read
  by_cases h0 : d.ready row = 0
  · obtain ⟨_, h1, h2⟩ := Dk.D.ready_in h0
    obtain ⟨r, rfl⟩ : ∃ r : Nat, row = r := ⟨row.toNat, by omega⟩
    have hr20 : r < 20 := by have := h.room; omega
    have hc := h.row hr20
    rw [if_pos h0, Int.toNat_natCast]
    have H0 := Lib.hid h0
    clear h0 h1 h2 h
    go_enter Tryz.func100, Tryz.ntmps100
    go_wp2_with fail
    refine (ready_any H.out r).mono ?_
    rintro e w' ⟨rfl, rfl⟩
    rw [H0.out, errV_0]
    go_wp2_with fail
    go_ret2
    exact ⟨rfl, rfl⟩
  · rw [if_neg h0]
    obtain ⟨n, hn⟩ : ∃ n, n = d.ready row := ⟨_, rfl⟩
    rw [← hn] at h0 ⊢
    have Hn := Lib.hid hn
    have H0 := Lib.hid h0
    clear hn h0 h
    go_enter Tryz.func100, Tryz.ntmps100
    go_wp2_with fail
    refine (ready_any H.out row).mono ?_
    rintro e w' ⟨rfl, rfl⟩
    rw [← Hn.out, errV_ne H0.out]
    go_wp2_with fail
    go_ret2
    rw [errV_ne H0.out]
    exact ⟨rfl, rfl⟩
def DkPost (b : Nat) (r : Int × Dk.D) (w : World) (e : Ending) (w' : World) : Prop := e = .returned (errV r.1) ∧ DiskAt w' b r.2 ∧ Kept (· = b) w w' ∧ w.heap.size = w'.heap.size
theorem write_any (h : DiskAt w b d) (row : Int) (s : ByteArray) (hs : s.size ≤ maxLen) (hw : d.writes < 1000000) :
    Calls Tryz.prog 104 #[.pointer (some ⟨b, 0, none⟩), iv row, .string s] w (DkPost b (d.write row s) w) := by
  unfold maxLen at hs
  have H := Lib.hid h
  have hz := h.sz
  unfold Dk.D.write
  by_cases h0 : d.ready row = 0
  · obtain ⟨_, h1, h2⟩ := Dk.D.ready_in h0
    obtain ⟨r, rfl⟩ : ∃ r : Nat, row = r := ⟨row.toNat, by omega⟩
    have hr20 : r < 20 := by have := h.room; omega
    have c2 := h.z
    have c4 := h.n
    have cr := h.row hr20
    have cf := h.f
    rw [if_pos h0, Int.toNat_natCast]
    have H0 := Lib.hid h0
    by_cases hq : s.size = d.size
    · rw [if_pos hq]
      have Hq := Lib.hid hq
      have hd : ((s.size : Int) != (d.size : Int)) = false := bne_f (by rw [hq])
      have hn : r ≠ 23 := by omega
      clear h0 h1 h2 h hq
      go_enter Tryz.func104, Tryz.ntmps104
      go_wp2_with fail
      refine (ready_any H.out r).mono ?_
      rintro e w' ⟨rfl, rfl⟩
      rw [H0.out, errV_0]
      go_wp2_with fail
      go_ret
      exact ⟨rfl, (H.out.setRow hr20 s).setN (d.writes + 1), (Kept.self b w).set1 _ _ |>.set1 _ _, by simp [World.setCell]⟩
    · rw [if_neg hq]
      have hd : ((s.size : Int) != (d.size : Int)) = true := bne_t (by omega)
      clear h0 h1 h2 h hq
      go_enter Tryz.func104, Tryz.ntmps104
      go_wp2_with fail
      refine (ready_any H.out r).mono ?_
      rintro e w' ⟨rfl, rfl⟩
      rw [H0.out, errV_0]
      go_wp2_with fail
      go_ret
      exact ⟨rfl, H.out, Kept.self b w, rfl⟩
  · rw [if_neg h0]
    obtain ⟨n, hn⟩ : ∃ n, n = d.ready row := ⟨_, rfl⟩
    rw [← hn] at h0 ⊢
    have Hn := Lib.hid hn
    have H0 := Lib.hid h0
    clear hn h0 h
    go_enter Tryz.func104, Tryz.ntmps104
    go_wp2_with fail
    refine (ready_any H.out row).mono ?_
    rintro e w' ⟨rfl, rfl⟩
    rw [← Hn.out, errV_ne H0.out]
    go_wp2_with fail
    go_ret
    rw [DkPost, errV_ne H0.out]
    exact ⟨rfl, H.out, Kept.self b w, rfl⟩
theorem fail_any (h : DiskAt w b d) :
    Calls Tryz.prog 106 #[.pointer (some ⟨b, 0, none⟩)] w (DkPost b d.fail w) := by
  have H := Lib.hid h
  have c3 := h.fl
  have cf := h.f
  unfold Dk.D.fail
  clear h
  cases hf : d.failed with
  | true =>
    rw [hf] at c3
    clear hf
    go_enter Tryz.func106, Tryz.ntmps106
    go_wp2_with fail
    go_ret
    exact ⟨rfl, H.out, Kept.self b w, rfl⟩
  | false =>
    rw [hf] at c3
    clear hf
    go_enter Tryz.func106, Tryz.ntmps106
    go_wp2_with fail
    go_ret
    exact ⟨rfl, H.out.setF true, (Kept.self b w).set1 _ _, by simp [World.setCell]⟩
theorem works_any (h : DiskAt w b d) :
    Calls Tryz.prog 109 #[.pointer (some ⟨b, 0, none⟩)] w fun e w' => e = .returned (.bool (!d.failed)) ∧ w = w' := by
  have c3 := h.fl
  clear h
  go_enter Tryz.func109, Tryz.ntmps109
  go_wp2_with fail
  go_ret
  exact ⟨rfl, rfl⟩
end Go.Proofs.YtneebcniofolmaaGreatDoor
namespace Go.Proofs.YtneebcniofolmaaGreatDoor
open Go.ChangeShapes Go.WideShapes Go.ChangeAt Go.RowKit
set_option linter.unusedVariables false
variable {w : World} {b : Nat} {d : Dk.D}
def BlankPost (b : Nat) (d : Dk.D) (w : World) (e : Ending) (w' : World) : Prop := e = .returned (.tuple #[]) ∧ DiskAt w' b d.blank ∧ Kept (· = b) w w'
def BlankRel (b : Nat) (d : Dk.D) (w : World) (gk : Nat) (i : Value) (wr : World) : Prop :=
  ∃ k : Nat, k + gk = d.many ∧ i = iv k ∧ DiskAt wr b { d with rows := Dk.fresh k d.size d.rows } ∧ Kept (· = b) w wr
theorem DiskAt.drew (h : DiskAt w b d) : DiskAt w.drew b d := h.below ((Below.refl _ _).drew)
theorem conv_bytes1 (n : Nat) (w : World) : (convert 44 9 (.slice (some ⟨w.heap.size, 0, none⟩) n n)).run Tryz.prog (w.alloc (.cells (madeCells #[.int .u8 0] n) 5)).drew = .ok (.string (Dk.noughts n)) (w.alloc (.cells (madeCells #[.int .u8 0] n) 5)).drew := by
  have h := run_convert_bytes_back (P := Tryz.prog) (w.alloc (.cells (madeCells #[.int .u8 0] n) 5)).drew 44 9 5 ⟨w.heap.size, 0, none⟩ n (List.replicate n 0) Tryz.underlying44 Tryz.underlying5 Tryz.underlying9 (fun j hj => by
    rw [List.length_replicate] at hj
    show (w.alloc (.cells (madeCells #[.int .u8 0] n) 5)).cell? _ = _
    rw [Addr.add_lit, Nat.zero_add, World.cell?_alloc_at _ _ _ _ rfl]
    show (madeCells #[Value.int .u8 0] n)[j]? = _
    rw [made_at n j hj, List.getElem_replicate]; rfl)
  rw [List.length_replicate] at h
  exact h
theorem blank_any (h : DiskAt w b d) :
    Calls Tryz.prog 54 #[.pointer (some ⟨b, 0, none⟩)] w (BlankPost b d w) := by
  have H := Lib.hid h
  have c1 := h.m
  have hm := h.room
  have hz := h.sz
  clear h
  go_enter Tryz.func54, Tryz.ntmps54
  go_wp2_with fail
  go_loopg [7] d.many (fun gk i wr => BlankRel b d w gk i wr)
  case atStart => exact ⟨0, by omega, rfl, by rw [Dk.fresh_zero]; exact H.out, Kept.self b w⟩
  case round =>
    obtain ⟨k, hk, rfl, hD, hK⟩ := hrel
    have Hk := Lib.hid hk
    have HD := Lib.hid hD
    have HK := Lib.hid hK
    by_cases hlt : k < d.many
    · have f2 := hD.z
      have fk : ∃ v, wr.cell? ⟨b, k, none⟩ = some v := ⟨_, hD.row (by omega)⟩
      obtain ⟨vk, fk⟩ := fk
      have ff := hD.f
      have hbl := hD.lt
      have mk := make_bytes d.size (by omega)
      have cv := conv_bytes1 d.size wr
      clear hk hD hK
      go_wp2_with fail
      go_region
      go_wp2_with fail
      go_roundg (gk - 1)
      case measure => have := Hk.out; omega
      case rel =>
        refine ⟨k + 1, by have := Hk.out; omega, by go_num, ?_, ?_⟩
        · have hx := (HD.out.setRow (j := k) (by omega) (Dk.noughts d.size)).below ((((Below.refl (wr.setCell ⟨b, k, none⟩ (.string (Dk.noughts d.size))).heap.size _).alloc (Nat.le_refl _) (.cells (madeCells #[.int .u8 0] d.size) 5))).drew)
          rw [← Dk.fresh_succ (by have := HD.out.len; rw [Dk.fresh_len] at this; omega)]
          exact hx
        · exact ((HK.out.set1 _ _).alloc _).drew
    · obtain rfl : k = d.many := by omega
      clear hk hD hK
      go_wp2_with fail
      go_end0
      exact ⟨rfl, HD.out, HK.out⟩
theorem replace_any (h : DiskAt w b d) :
    Calls Tryz.prog 107 #[.pointer (some ⟨b, 0, none⟩)] w fun e w' => e = .returned (errV d.replace.1) ∧ DiskAt w' b d.replace.2 ∧ Kept (· = b) w w' := by
  have H := Lib.hid h
  have c3 := h.fl
  have cf := h.f
  unfold Dk.D.replace
  clear h
  cases hf : d.failed with
  | false =>
    rw [hf] at c3
    clear hf
    go_enter Tryz.func107, Tryz.ntmps107
    go_wp2_with fail
    go_ret
    exact ⟨rfl, H.out, Kept.self b w⟩
  | true =>
    rw [hf] at c3
    have H1 := Lib.hid (H.out.setF false)
    clear hf
    go_enter Tryz.func107, Tryz.ntmps107
    go_wp2_with fail
    refine (blank_any H1.out).mono ?_
    rintro e w1 ⟨rfl, hD, hK⟩
    go_wp2_with fail
    go_ret
    exact ⟨rfl, hD, ((Kept.self b w).set1 _ _).also hK⟩
theorem made_blk (m z : Nat) (hm : m ≤ 20) (hz : z ≤ 16) (w : World) (o : Array Value) (ho : o = ((List.replicate 20 (Value.string ⟨#[]⟩)) ++ [iv m, iv z, .bool false, iv 0]).toArray) :
    DiskAt (w.alloc (.cells o 107)) w.heap.size ⟨List.replicate 20 ⟨#[]⟩, m, z, false, 0⟩ := by
  refine ⟨rfl, hm, hz, ?_⟩
  rw [heap_alloc_new, ho, List.map_replicate]
  rfl
def NewPost (m z : Nat) (w : World) (e : Ending) (w' : World) : Prop :=
  e = .returned (.tuple #[.pointer (some ⟨w.heap.size, 0, none⟩), .nilIface]) ∧ DiskAt w' w.heap.size (Dk.made m z) ∧ Below w.heap.size w w' ∧ w.heap.size < w'.heap.size
theorem new_any (m z : Nat) (h1 : 1 ≤ m) (h2 : m ≤ 20) (h3 : 1 ≤ z) (h4 : z ≤ 16) (w : World) :
    Calls Tryz.prog 35 #[iv m, iv z] w (NewPost m z w) := by
  go_enter Tryz.func35, Tryz.ntmps35
  go_wp2_with fail
  refine (blank_any (d := ⟨List.replicate 20 ⟨#[]⟩, m, z, false, 0⟩) (made_blk m z h2 h4 w _ ?hx)).mono ?_
  case hx => rfl
  rintro e w1 ⟨rfl, hD, hK⟩
  go_wp2_with fail
  go_ret2
  refine ⟨rfl, hD, ((Kept.refl (· = w.heap.size) w).alloc _ |>.also hK).toBelow (Nat.le_refl _) (by intro k hk h; omega), ?_⟩
  have := hK.size; simp at this; omega
theorem new_no (x y : Int) (h : x < 1 ∨ 1 ≤ x ∧ 20 < x ∨ 1 ≤ x ∧ x ≤ 20 ∧ y < 1 ∨ 1 ≤ x ∧ x ≤ 20 ∧ 1 ≤ y ∧ 16 < y) (w : World) :
    Calls Tryz.prog 35 #[iv x, iv y] w fun e w' => e = .returned (.tuple #[.pointer none, ev 1]) ∧ w = w' := by
  rcases h with h | ⟨h1, h2⟩ | ⟨h1, h2, h3⟩ | ⟨h1, h2, h3, h4⟩
  all_goals
    go_enter Tryz.func35, Tryz.ntmps35
    go_wp2_with fail
    go_ret2
    exact ⟨rfl, rfl⟩
end Go.Proofs.YtneebcniofolmaaGreatDoor
