/- Arrays that lie inside a block: a part read as a whole; an element of an array by value. · Rows as bytes, in plain lists. · The walks of code.Blocks and wire.Sum. -/
import Derived.Test.YtcldioneiededaaBase
import Derived.Test.YtcldioneiededaaBlk
import Derived.Lib.ConvBytes
import Derived.Laws.IdiomStrings
import Derived.Lib.SlBytesRow
import Derived.Deep.LoopGhost
import Derived.IntWalk
namespace Go.Proofs.Ytcldioneiededaa
open Go.ChangeShapes Go.WideShapes Go.ChangeAt Go.RowKit
set_option linter.unusedVariables false
theorem run_load_sub {P : Program} (w : World) (a : Addr) (ty : TypeId) (xs : List Value) (d : TypeDesc) (hx : ∀ j v, xs[j]? = some v → w.cell? (a.add j) = some v)
    (hu : P.underlying ty = some d) (hd : (match d with | .struct _ | .array _ _ => true | _ => false) = true) (hi : (P.info? ty).map (·.size) = some xs.length) :
    (loadVar ty a).run P w = .ok (.agg xs.toArray) w := by
  have hl : (loadCells a xs.length).run P w = .ok xs.toArray w := run_loadCells_list (P := P) w a xs hx
  cases hq : P.info? ty with
  | none => simp [hq] at hi
  | some i =>
    have hs : i.size = xs.length := by simpa [hq] using hi
    have hagg : (isAgg ty).run P w = .ok true w := by
      unfold isAgg
      rw [Sem.run_bind, run_underlying hu w]
      cases d <;> simp_all
    simp [loadVar, Sem.run_bind, hagg, sizeOf, typeInfo, hq, hs, hl]
theorem wpList_load_sub {P : Program} {ops : Array Oper} {rest : List Oper} {o : Oper} {a : Act} {w : World} {Q : Exit → Act → World → Prop} (hgd : o.guard = none) (ty : TypeId) (x : Operand) (ho : o.op = .load ty x)
    (g : Addr) (hx : a.eval x = .pointer (some g)) (xs : List Value) (d : TypeDesc) (hc : ∀ j v, xs[j]? = some v → w.cell? (g.add j) = some v)
    (hu : P.underlying ty = some d) (hd : (match d with | .struct _ | .array _ _ => true | _ => false) = true) (hi : (P.info? ty).map (·.size) = some xs.length)
    (h : wpList P ops Q rest (a.put o.dst (.agg xs.toArray)) w) : wpList P ops Q (o :: rest) a w := by
  refine wpList_plain hgd fun _ hK => ?_
  unfold Oper.wp execOp
  simp only [ho, hx, Instr.loadAt, Instr.sureAddr, Sem.run_bind, Sem.run_pure, Result.andThen_ok, run_load_sub w g ty xs d hc hu hd hi]
  exact hK _ _ h
theorem run_index_arr {P : Program} (t e : TypeId) (n : Nat) (cs : Array Value) (k : Nat) (v : Value) (h : P.underlying t = some (.array n e)) (hk : k < n) (u : TypeDesc) (he : P.underlying e = some u)
    (hu : (match u with | .struct _ | .array _ _ => false | _ => true) = true) (hs : (P.info? e).map (·.size) = some 1) (hv : cs[k]? = some v) (w : World) :
    (Instr.index t (.agg cs) (.int .i64 k)).run P w = .ok v w := by
  cases hq : P.info? e with
  | none => simp [hq] at hs
  | some i =>
    have hs' : i.size = 1 := by simpa [hq] using hs
    have hagg : (isAgg e).run P w = .ok false w := by
      unfold isAgg
      rw [Sem.run_bind, run_underlying he w]
      cases u <;> simp_all
    have hin : (0 : Int) ≤ (k : Int) ∧ (k : Int) < (n : Int) := by omega
    simp [Instr.index, run_underlying h, asIntOf, hin, part, Sem.run_bind, hagg, sizeOf, typeInfo, hq, hs', hv]
    exact fun h => absurd h (by omega)
theorem underlying_int : Try.prog.underlying 3 = some (.int .i64) := Try.underlying3
end Go.Proofs.Ytcldioneiededaa
namespace Go.Proofs.Ytcldioneiededaa
/-- sum of bytes -/
def wsum (l : List UInt8) : Nat := l.foldl (fun n c => (n * 256 + c.toNat) % 65521) 0
theorem wsum_snoc (l : List UInt8) (c : UInt8) : wsum (l ++ [c]) = (wsum l * 256 + c.toNat) % 65521 := by
  unfold wsum; rw [List.foldl_append]; rfl
theorem wsum_lt (l : List UInt8) : wsum l < 65521 := by
  rcases List.eq_nil_or_concat l with rfl | ⟨l', c, rfl⟩
  · decide
  · rw [List.concat_eq_append, wsum_snoc]; exact Nat.mod_lt _ (by decide)
/-- the bytes of a row, ahead of the sum -/
def body (row : Nat) (ss : List ByteArray) : Nat → ByteArray
  | 0 => ⟨#[UInt8.ofNat row, UInt8.ofNat ss.length, UInt8.ofNat (size0 ss)]⟩
  | k + 1 => body row ss k ++ ss.getD k ByteArray.empty
def packB (row : Nat) (ss : List ByteArray) : ByteArray :=
  let b := body row ss ss.length
  b ++ ⟨#[UInt8.ofNat (wsum b.data.toList / 256), UInt8.ofNat (wsum b.data.toList % 256)]⟩
theorem body_size {row : Nat} {ss : List ByteArray} (h : ∀ s ∈ ss, s.size = size0 ss) : ∀ k, k ≤ ss.length → (body row ss k).size = 3 + k * size0 ss
  | 0, _ => by simp [body, ByteArray.size]
  | k + 1, hk => by
    rw [body, ByteArray.size_append, body_size h k (by omega)]
    have hm : ss.getD k ByteArray.empty = ss[k] := by simp [List.getD_eq_getElem?_getD, List.getElem?_eq_getElem (show k < ss.length by omega)]
    rw [hm, h _ (List.getElem_mem _), Nat.add_mul]; omega
theorem packB_size {row : Nat} {ss : List ByteArray} (h : ∀ s ∈ ss, s.size = size0 ss) : (packB row ss).size = 5 + ss.length * size0 ss := by
  unfold packB
  simp only
  rw [ByteArray.size_append, body_size h _ (Nat.le_refl _)]
  simp [ByteArray.size]; omega
/-- the fault of a row -/
def rowF (row : Int) (ss : List ByteArray) : Int := if row < 0 ∨ 20 ≤ row then 1 else if 12 < ss.length then 4 else blkF ss
end Go.Proofs.Ytcldioneiededaa
namespace Go.Proofs.Ytcldioneiededaa
open Go.ChangeShapes Go.WideShapes Go.ChangeAt Go.RowKit
set_option linter.unusedVariables false
def SumRel (l : List UInt8) (n : Nat) (w2 : World) (gk : Nat) (t i : Value) (wr : World) : Prop :=
  ∃ k : Nat, k + gk = n ∧ i = iv k ∧ t = iv (wsum (l.take k) : Nat) ∧ wr = w2
set_option maxRecDepth 100000 in
theorem sum_any (s : ByteArray) (hs : s.size ≤ 9223372036854775807) (w : World) :
    Calls Try.prog 43 #[.string s] w fun e w' => e = .returned (iv (wsum s.data.toList : Nat)) ∧ Below w.heap.size w w' := by
  obtain ⟨cap, w2, hrun, hb, hz, hc, _⟩ := conv_bytes w s
  have Hb := Lib.hid hb
  have Hc := Lib.hid hc
  have hll : s.data.toList.length = s.size := by simp
  generalize hl : s.data.toList = l at *
  generalize hn : s.size = n at *
  have Hll := Lib.hid hll
  clear hb hc hz hl hll
  go_enter Try.func43, Try.ntmps43
  go_wp2_with fail
  go_loopg [3, 9] n (fun gk t i wr => SumRel l n w2 gk t i wr)
  case atStart => exact ⟨0, by omega, rfl, rfl, rfl⟩
  case round =>
    obtain ⟨k, hk, rfl, rfl, rfl⟩ := hrel
    have Hk := Lib.hid hk
    have hlt' := wsum_lt (l.take k)
    by_cases hlt : k < n
    · obtain ⟨c, hcc⟩ : ∃ c, l[k]? = some c := ⟨l[k]'(by rw [Hll.out]; exact hlt), List.getElem?_eq_getElem _⟩
      have c1 := Hc.out k c hcc
      have hsn : wsum (l.take (k + 1)) = (wsum (l.take k) * 256 + c.toNat) % 65521 := by
        rw [List.take_add_one, hcc]; exact wsum_snoc _ _
      have Hsn := Lib.hid hsn
      have hcl := c.toNat_lt
      generalize wsum (l.take k) = x at *
      clear hk hcc hsn
      go_wp2_with fail
      go_roundg (gk - 1)
      case measure => have := Hk.out; omega
      case rel => exact ⟨k + 1, by have := Hk.out; omega, by go_num, by rw [Hsn.out]; go_num, rfl⟩
    · obtain rfl : k = n := by omega
      have Ht := Lib.hid (List.take_of_length_le (Nat.le_of_eq Hll.out))
      clear hk
      go_wp2_with fail
      go_ret
      exact ⟨by rw [Ht.out]; rfl, Hb.out⟩
end Go.Proofs.Ytcldioneiededaa
