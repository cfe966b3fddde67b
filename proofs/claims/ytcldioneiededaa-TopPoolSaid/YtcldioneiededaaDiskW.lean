/- Arrays that lie inside a block: a part read as a whole; an element of an array by value. · The walks of package disk. -/
import Derived.Test.YtcldioneiededaaBase
import Derived.Test.YtcldioneiededaaDiskP
import Derived.Test.YtcldioneiededaaPoolP
import Derived.Deep.LoopGhost
import Derived.Deep.DeepCutAuto
import Derived.Deep.CutBlock
import Derived.Deep.OwnRows
import Derived.Laws.OwnMore
namespace Go.Proofs.Ytcldioneiededaa
open Go.ChangeShapes Go.WideShapes Go.ChangeAt Go.RowKit
set_option linter.unusedVariables false
theorem run_load_sub {P : Program} (w : World) (a : Addr) (ty : TypeId) (xs : List Value) (d : TypeDesc) (hx : ∀ j v, xs[j]? = some v → w.cell? (a.add j) = some v)
    (hu : P.underlying ty = some d) (hd : (match d with | .struct _ | .array _ _ => true | _ => false) = true) (hi : (P.info? ty).map (·.size) = some xs.length) :
    (loadVar ty a).run P w = .ok (.agg xs.toArray) w := by
  have hl : (loadCells a xs.length).run P w = .ok xs.toArray w := run_loadCells_list (P := P) w a xs hx
  cases hq : P.info? ty with
  | none => simp [hq] at hi
  | some i =>
    have hs : i.size = xs.length := by simpa [hq] using hi
    have hagg : (isAgg ty).run P w = .ok true w := by
      unfold isAgg
      rw [Sem.run_bind, run_underlying hu w]
      cases d <;> simp_all
    simp [loadVar, Sem.run_bind, hagg, sizeOf, typeInfo, hq, hs, hl]
theorem wpList_load_sub {P : Program} {ops : Array Oper} {rest : List Oper} {o : Oper} {a : Act} {w : World} {Q : Exit → Act → World → Prop} (hgd : o.guard = none) (ty : TypeId) (x : Operand) (ho : o.op = .load ty x)
    (g : Addr) (hx : a.eval x = .pointer (some g)) (xs : List Value) (d : TypeDesc) (hc : ∀ j v, xs[j]? = some v → w.cell? (g.add j) = some v)
    (hu : P.underlying ty = some d) (hd : (match d with | .struct _ | .array _ _ => true | _ => false) = true) (hi : (P.info? ty).map (·.size) = some xs.length)
    (h : wpList P ops Q rest (a.put o.dst (.agg xs.toArray)) w) : wpList P ops Q (o :: rest) a w := by
  refine wpList_plain hgd fun _ hK => ?_
  unfold Oper.wp execOp
  simp only [ho, hx, Instr.loadAt, Instr.sureAddr, Sem.run_bind, Sem.run_pure, Result.andThen_ok, run_load_sub w g ty xs d hc hu hd hi]
  exact hK _ _ h
theorem run_index_arr {P : Program} (t e : TypeId) (n : Nat) (cs : Array Value) (k : Nat) (v : Value) (h : P.underlying t = some (.array n e)) (hk : k < n) (u : TypeDesc) (he : P.underlying e = some u)
    (hu : (match u with | .struct _ | .array _ _ => false | _ => true) = true) (hs : (P.info? e).map (·.size) = some 1) (hv : cs[k]? = some v) (w : World) :
    (Instr.index t (.agg cs) (.int .i64 k)).run P w = .ok v w := by
  cases hq : P.info? e with
  | none => simp [hq] at hs
  | some i =>
    have hs' : i.size = 1 := by simpa [hq] using hs
    have hagg : (isAgg e).run P w = .ok false w := by
      unfold isAgg
      rw [Sem.run_bind, run_underlying he w]
      cases u <;> simp_all
    have hin : (0 : Int) ≤ (k : Int) ∧ (k : Int) < (n : Int) := by omega
    simp [Instr.index, run_underlying h, asIntOf, hin, part, Sem.run_bind, hagg, sizeOf, typeInfo, hq, hs', hv]
    exact fun h => absurd h (by omega)
theorem underlying_int : Try.prog.underlying 3 = some (.int .i64) := Try.underlying3
end Go.Proofs.Ytcldioneiededaa
namespace Go.Proofs.Ytcldioneiededaa
open Go.ChangeShapes Go.WideShapes Go.ChangeAt Go.RowKit
set_option linter.unusedVariables false
theorem info_byte : (Try.prog.info? 5).map (fun i => (i.zero, i.size, i.bytes)) = some (some (.int .u8 0), 1, 1) := by kernel_rfl
/-- make([]byte, n), and the string of it -/
theorem make_bytes (n : Nat) (h : n ≤ 1000000) (w : World) : (Instr.makeSlice 74 (.int .i64 (n : Int)) (.int .i64 (n : Int))).run Try.prog w = .ok (.slice (some ⟨w.heap.size, 0, none⟩) n n) (w.alloc (.cells (madeCells #[.int .u8 0] n) 5)) :=
  run_make_row' 74 5 (.int .u8 0) 1 Try.underlying74 info_byte rfl .i64 .i64 n (by omega) (by omega) w
theorem made_at (n j : Nat) (h : j < n) : (madeCells #[Value.int .u8 0] n)[j]? = some (.int .u8 0) := by
  rw [← Array.getElem?_toList, toList_madeCells_one, List.getElem?_replicate, if_pos h]
theorem conv_bytes0 (n : Nat) (w : World) : (convert 74 9 (.slice (some ⟨w.heap.size, 0, none⟩) n n)).run Try.prog (w.alloc (.cells (madeCells #[.int .u8 0] n) 5)) = .ok (.string (Dk.noughts n)) (w.alloc (.cells (madeCells #[.int .u8 0] n) 5)) := by
  have h := run_convert_bytes_back (P := Try.prog) (w.alloc (.cells (madeCells #[.int .u8 0] n) 5)) 74 9 5 ⟨w.heap.size, 0, none⟩ n (List.replicate n 0) Try.underlying74 Try.underlying5 Try.underlying9 (fun j hj => by
    rw [List.length_replicate] at hj
    rw [Addr.add_lit, Nat.zero_add, World.cell?_alloc_at _ _ _ _ rfl]
    show (madeCells #[Value.int .u8 0] n)[j]? = _
    rw [made_at n j hj, List.getElem_replicate]; rfl)
  rw [List.length_replicate] at h
  exact h
/-- a disk in memory: one block of 24 cells -/
structure DiskAt (w : World) (b : Nat) (d : Dk.D) : Prop where
  len : d.rows.length = 20
  room : d.many ≤ 20
  sz : d.size ≤ 16
  blk : w.heap[b]? = some (.cells ((d.rows.map Value.string ++ [iv d.many, iv d.size, .bool d.failed, iv d.writes]).toArray) 93 (0, 0))
section
variable {w : World} {b : Nat} {d : Dk.D}
theorem DiskAt.lt (h : DiskAt w b d) : b < w.heap.size := (Array.getElem?_eq_some_iff.1 h.blk).1
theorem DiskAt.row (h : DiskAt w b d) {j : Nat} (hj : j < 20) : w.cell? ⟨b, j, none⟩ = some (.string (d.rows.getD j ⟨#[]⟩)) := by
  have h1 := h.len
  rw [cell_of_row _ _ _ _ _ _ h.blk, List.getElem?_toArray, List.getElem?_append_left (by rw [List.length_map]; omega), List.getElem?_map, List.getElem?_eq_getElem (by omega)]
  rw [List.getD_eq_getElem?_getD, List.getElem?_eq_getElem (by omega)]; rfl
theorem DiskAt.tail (h : DiskAt w b d) (j : Nat) : w.cell? ⟨b, 20 + j, none⟩ = [iv d.many, iv d.size, .bool d.failed, iv d.writes][j]? := by
  have h1 := h.len
  rw [cell_of_row _ _ _ _ _ _ h.blk, List.getElem?_toArray, List.getElem?_append_right (by rw [List.length_map]; omega), List.length_map, h1, Nat.add_sub_cancel_left]
theorem DiskAt.m (h : DiskAt w b d) : w.cell? ⟨b, 20, none⟩ = some (iv d.many) := h.tail 0
theorem DiskAt.z (h : DiskAt w b d) : w.cell? ⟨b, 21, none⟩ = some (iv d.size) := h.tail 1
theorem DiskAt.fl (h : DiskAt w b d) : w.cell? ⟨b, 22, none⟩ = some (.bool d.failed) := h.tail 2
theorem DiskAt.n (h : DiskAt w b d) : w.cell? ⟨b, 23, none⟩ = some (iv d.writes) := h.tail 3
theorem DiskAt.f (h : DiskAt w b d) (j : Nat) : w.frozen? ⟨b, j, none⟩ = false := frozen_of_row _ _ _ _ _ h.blk
theorem DiskAt.below (h : DiskAt w b d) {w' : World} (hw : Below w.heap.size w w') : DiskAt w' b d := { h with blk := by rw [hw.block b h.lt]; exact h.blk }
theorem DiskAt.kept (h : DiskAt w b d) {F : Nat → Prop} {w' : World} (hk : Kept F w w') (hF : ¬ F b) : DiskAt w' b d := { h with blk := hk.heap h.blk hF }
theorem DiskAt.setRow (h : DiskAt w b d) {j : Nat} (hj : j < 20) (s : ByteArray) : DiskAt (w.setCell ⟨b, j, none⟩ (.string s)) b { d with rows := d.rows.set j s } := by
  have h1 := h.len
  refine ⟨by rw [List.length_set]; exact h1, h.room, h.sz, ?_⟩
  rw [heap_setCell_same _ _ _ _ _ _ h.blk]
  congr 2
  rw [List.setIfInBounds_toArray]
  congr 1
  rw [List.set_append_left _ _ (by rw [List.length_map]; omega), List.map_set]
theorem DiskAt.setF (h : DiskAt w b d) (z : Bool) : DiskAt (w.setCell ⟨b, 22, none⟩ (.bool z)) b { d with failed := z } := by
  have h1 := h.len
  refine ⟨h1, h.room, h.sz, ?_⟩
  rw [heap_setCell_same _ _ _ _ _ _ h.blk]
  congr 2
  rw [List.setIfInBounds_toArray]
  congr 1
  rw [List.set_append_right _ _ (by rw [List.length_map]; omega), List.length_map, h1]
  rfl
theorem DiskAt.setN (h : DiskAt w b d) (n : Nat) : DiskAt (w.setCell ⟨b, 23, none⟩ (iv n)) b { d with writes := n } := by
  have h1 := h.len
  refine ⟨h1, h.room, h.sz, ?_⟩
  rw [heap_setCell_same _ _ _ _ _ _ h.blk]
  congr 2
  rw [List.setIfInBounds_toArray]
  congr 1
  rw [List.set_append_right _ _ (by rw [List.length_map]; omega), List.length_map, h1]
  rfl
end
theorem dsetK (w : World) (b j : Nat) (v : Value) : Kept (· = b) w (w.setCell ⟨b, j, none⟩ v) := (Kept.self b w).set1 j v
