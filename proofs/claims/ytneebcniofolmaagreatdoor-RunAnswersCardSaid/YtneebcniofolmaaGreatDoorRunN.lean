/- The walk of the reference's Cut. · What the law's row says of the package-level variables. · strings.Split at one byte: the words of a line. · The walk of run.number. -/
import Derived.Test.YtneebcniofolmaaGreatDoorRunH
import Derived.Test.YtneebcniofolmaaGreatDoorAs
import Derived.Test.YtneebcniofolmaaGreatDoorSlI
import Derived.Test.YtneebcniofolmaaGreatDoorShelf
import Derived.Lib.IndexBytes
import Derived.Lib.SmallJoins
import Derived.Lib.AtoiAllCases
import Derived.Lib.AppendIntMem
import Derived.BigQuiet
namespace Go.Proofs.YtneebcniofolmaaGreatDoor
open Go.ChangeShapes Go.WideShapes Go.ChangeAt Go.RowKit
set_option linter.unusedVariables false
set_option maxHeartbeats 2000000
set_option maxRecDepth 100000
theorem cut_step {c : UInt8} {l : List UInt8} {f k : Nat} (hfk : f ≤ k) (hno : c ∉ (l.take k).drop f) (hk : l[k]? = some c) : Ru.cut c (l.drop f) = ((l.take k).drop f) :: Ru.cut c (l.drop (k + 1)) := by
  have hlt := (List.getElem?_eq_some_iff.1 hk).1
  have e : l.drop f = (l.take k).drop f ++ c :: l.drop (k + 1) := by
    have h1 : l = l.take k ++ l.drop k := (List.take_append_drop k l).symm
    have h2 : l.drop k = c :: l.drop (k + 1) := by
      rw [List.drop_eq_getElem_cons hlt]
      rw [List.getElem?_eq_getElem hlt] at hk
      rw [Option.some.inj hk]
    conv => lhs; rw [h1, h2]
    rw [List.drop_append_of_le_length (by rw [List.length_take]; omega)]
  rw [e, Ru.cut_at c _ _ hno]
def CutRel (l : List UInt8) (c : UInt8) (w : World) (gk : Nat) (t f i : Value) (wr : World) : Prop :=
  ∃ (k q : Nat) (xs : List (List UInt8)), k + gk = l.length ∧ q ≤ k ∧ i = iv k ∧ f = iv q ∧ c ∉ (l.take k).drop q ∧ xs ++ Ru.cut c (l.drop q) = Ru.cut c l ∧ wr.ownsRow w.heap.size 9 1 t xs.length (xs.map strB) ∧ Below w.heap.size w wr
def CutPost (l : List UInt8) (c : UInt8) (w : World) (e : Ending) (w' : World) : Prop :=
  ∃ v, e = .returned v ∧ w'.ownsRow w.heap.size 9 1 v (Ru.cut c l).length ((Ru.cut c l).map strB) ∧ Below w.heap.size w w'
theorem str_info : (Tryz.prog.info? 9).map (fun i => (i.zero, i.size, i.bytes)) = some (some (.string ⟨#[]⟩), 1, 16) := by kernel_rfl
theorem cut_slice (l : List UInt8) (q k : Nat) (hq : q ≤ k) (hk : k ≤ l.length) (W : World) : (Instr.slice 9 (.string ⟨l.toArray⟩) (some (iv q)) (some (iv k)) none).run Tryz.prog W = .ok (strB ((l.take k).drop q)) W := by
  have hz : ByteArray.size ⟨l.toArray⟩ = l.length := rfl
  rw [run_slice_string W 9 _ .i64 .i64 _ _ Tryz.underlying9 (by omega) (by omega) (by omega)]
  rw [show ((q : Int)).toNat = q by omega, show ((k : Int)).toNat = k by omega, ByteArray.extract_mk, ← List.drop_take]; rfl
theorem cut_tail (l : List UInt8) (q : Nat) (hq : q ≤ l.length) (W : World) : (Instr.slice 9 (.string ⟨l.toArray⟩) (some (iv q)) none none).run Tryz.prog W = .ok (strB (l.drop q)) W := by
  have hz : ByteArray.size ⟨l.toArray⟩ = l.length := rfl
  rw [run_slice_string_from_if W 9 _ .i64 _ Tryz.underlying9, if_pos (by omega)]
  rw [show ((q : Int)).toNat = q by omega, ByteArray.extract_mk, hz, List.take_of_length_le (by simp)]; rfl
theorem rcut_any (l : List UInt8) (c : UInt8) (hs : l.length ≤ 100000) (w : World) :
    Calls Tryz.prog 7 #[.string ⟨l.toArray⟩, .int .u8 (c.toNat : Int)] w (CutPost l c w) := by
  obtain ⟨s, hsd⟩ : ∃ s, s = ByteArray.mk l.toArray := ⟨_, rfl⟩
  have hsz : s.size = l.length := by rw [hsd]; rfl
  have hdl : s.data.toList = l := by rw [hsd]
  have HS1 : Hid (∀ q k, q ≤ k → k ≤ l.length → ∀ W, (Instr.slice 9 (.string s) (some (iv q)) (some (iv k)) none).run Tryz.prog W = .ok (strB ((l.take k).drop q)) W) := Lib.hid (by rw [hsd]; exact cut_slice l)
  have HS2 : Hid (∀ q, q ≤ l.length → ∀ W, (Instr.slice 9 (.string s) (some (iv q)) none none).run Tryz.prog W = .ok (strB (l.drop q)) W) := Lib.hid (by rw [hsd]; exact cut_tail l)
  obtain ⟨i0, hi, hz0, hz1, hz2⟩ := info_parts str_info
  have HI : Hid (Tryz.prog.info? 9 = some i0) := Lib.hid hi
  clear hi
  rw [← hsd]
  have Hsd := Lib.hid hsd
  have Hg : Hid (∀ k c (h : k < s.size), l[k]? = some c → s[k] = c) := Lib.hid (fun k c h hk => byte_at h (by rw [hdl]; exact hk))
  obtain ⟨m, hm⟩ : ∃ m, m = l.length := ⟨_, rfl⟩
  rw [← hm] at hsz hs
  have Hm := Lib.hid hm
  have hcl := c.toNat_lt
  clear hsd hdl hm
  go_enter Tryz.func7, Tryz.ntmps7
  go_wp2_with fail
  go_loopg [5, 6, 7] m (fun gk t f i wr => CutRel l c w gk t f i wr)
  case atStart => exact ⟨0, 0, [], by rw [← Hm.out]; omega, Nat.le_refl _, rfl, rfl, by simp, rfl, ⟨rfl, .inl ⟨rfl, rfl⟩⟩, Below.refl _ _⟩
  case round =>
    obtain ⟨k, q, xs, hk, hqk, rfl, rfl, hno, hcx, hO, hB⟩ := hrel
    rw [← Hm.out] at hk
    have Hk := Lib.hid hk
    have Hno := Lib.hid hno
    have Hcx := Lib.hid hcx
    have HO := Lib.hid hO
    have HB := Lib.hid hB
    have hxl : xs.length ≤ 100001 := by
      have := congrArg List.length hcx
      rw [List.length_append, Ru.cut_len, Ru.cut_len] at this
      have h2 := List.count_le_length (a := c) (l := l)
      have h3 := Hm.out
      omega
    have Hxl := Lib.hid hxl
    clear hno hcx hO hB hxl
    by_cases hlt : k < m
    · obtain ⟨x, hxx⟩ : ∃ x, l[k]? = some x := ⟨l[k]'(by rw [← Hm.out]; exact hlt), List.getElem?_eq_getElem _⟩
      have hlt2 : k < s.size := by omega
      have c1 := Hg.out k x hlt2 hxx
      have hxlt := x.toNat_lt
      by_cases hxc : x = c
      · have Hst : Hid (Ru.cut c (l.drop q) = ((l.take k).drop q) :: Ru.cut c (l.drop (k + 1))) := Lib.hid (cut_step hqk Hno.out (by rw [hxx, hxc]))
        have hsl := HS1.out q k hqk (by rw [← Hm.out]; omega)
        have hxn : (x.toNat : Int) = (c.toNat : Int) := by rw [hxc]
        have hxn2 : x.toNat = c.toNat := by rw [hxc]
        have hplus : IntKind.i64.wrap ((k : Int) + 1) = (k : Int) + 1 := IntWalk.i64_in _ (by omega)
        obtain ⟨pc, hpc⟩ : ∃ pc, pc = (l.take k).drop q := ⟨_, rfl⟩
        rw [← hpc] at Hst hsl
        unfold strB at hsl
        have hi := HI.out
        have Hxl2 := Lib.hid (show xs.length ≤ 100001 from Hxl.out)
        clear hk hxx hxc hpc
        obtain ⟨wq, hwq⟩ : ∃ wq, wq = wr := ⟨_, rfl⟩
        rw [← hwq] at HO HB
        rw [← hwq]
        clear hwq
        go_wp2_with (at_builtin; (refine wpList_append_own _ rfl _ _ 23 rfl w.heap.size 9 i0 (.string ⟨#[]⟩) 1 16 Tryz.underlying23 hi hz0 hz1 hz2 rfl (by decide) _ xs.length _ rfl (HO.out.alloc _) ⟨wq.heap.size, 0, none⟩ 1 1 [.string ⟨pc.toArray⟩] rfl rfl ?k1 ?k2 ?k3 ?k4 ?k5 ?_))
        case k1 =>
          intro j u hj
          have hj2 : j = 0 := by have := (List.getElem?_eq_some_iff.1 hj).1; simp at this; omega
          subst hj2
          rw [Addr.add_lit, Nat.zero_add, World.cell?_alloc_at _ _ _ _ rfl]
          exact hj
        case k2 => intro u hu; simp at hu; rcases hu with rfl; rfl
        case k3 => unfold maxLen; have := Hxl2.out; omega
        case k4 => have := Hxl2.out; omega
        case k5 => have := HB.out.size; simp; omega
        intro v9 w9 hO9 hg9 _
        have HB9 : Hid (Below w.heap.size w w9) := Lib.hid ((HB.out.alloc HB.out.size _).grown hg9 (by have := HB.out.size; simp; omega) (fun k hk => (HO.out.lt k hk).1))
        have HO9 : Hid (w9.ownsRow w.heap.size 9 1 v9 (xs ++ [pc]).length ((xs ++ [pc]).map strB)) := Lib.hid (by
          rw [List.length_append, List.map_append]
          exact hO9)
        have Hcx9 : Hid ((xs ++ [pc]) ++ Ru.cut c (l.drop (k + 1)) = Ru.cut c l) := Lib.hid (by
          rw [← Hcx.out, Hst.out]; simp)
        clear hO9 hg9 hi
        go_wp2_with fail
        go_roundg (gk - 1)
        case measure => have := Hk.out; omega
        case rel => exact ⟨k + 1, k + 1, xs ++ [pc], by rw [← Hm.out]; have := Hk.out; omega, Nat.le_refl _, by go_num, by go_num, by rw [List.drop_eq_nil_of_le (by rw [List.length_take]; omega)]; simp, Hcx9.out, HO9.out, HB9.out⟩
      · have hxn : ¬ (x.toNat : Int) = (c.toNat : Int) := fun e => hxc (UInt8.toNat_inj.1 (by omega))
        have hxn2 : ¬ x.toNat = c.toNat := fun e => hxc (UInt8.toNat_inj.1 e)
        have Hno2 : Hid (c ∉ (l.take (k + 1)).drop q) := Lib.hid (by
          rw [List.take_add_one, hxx, List.drop_append_of_le_length (by rw [List.length_take, ← Hm.out]; omega)]
          simp only [Option.toList_some, List.mem_append, List.mem_singleton, not_or]
          exact ⟨Hno.out, fun e => hxc e.symm⟩)
        clear hk hxx hxc
        go_wp2_with fail
        go_roundg (gk - 1)
        case measure => have := Hk.out; omega
        case rel => exact ⟨k + 1, q, xs, by rw [← Hm.out]; have := Hk.out; omega, by omega, by go_num, rfl, Hno2.out, Hcx.out, HO.out, HB.out⟩
    · obtain rfl : k = m := by omega
      have hsl := HS2.out q (by rw [← Hm.out]; omega)
      have Hno3 : Hid (c ∉ l.drop q) := Lib.hid (by
        have h := Hno.out
        rw [List.take_of_length_le (by rw [← Hm.out]; exact Nat.le_refl _)] at h
        exact h)
      have Hall : Hid (xs ++ [l.drop q] = Ru.cut c l) := Lib.hid (by rw [← Hcx.out, Ru.cut_no c _ Hno3.out])
      obtain ⟨pc, hpc⟩ : ∃ pc, pc = l.drop q := ⟨_, rfl⟩
      rw [← hpc] at Hall hsl
      unfold strB at hsl
      have hi := HI.out
      have Hxl2 := Lib.hid (show xs.length ≤ 100001 from Hxl.out)
      clear hk hpc
      obtain ⟨wq, hwq⟩ : ∃ wq, wq = wr := ⟨_, rfl⟩
      rw [← hwq] at HO HB
      rw [← hwq]
      clear hwq
      go_wp2_with (at_builtin; (refine wpList_append_own _ rfl _ _ 23 rfl w.heap.size 9 i0 (.string ⟨#[]⟩) 1 16 Tryz.underlying23 hi hz0 hz1 hz2 rfl (by decide) _ xs.length _ rfl (HO.out.alloc _) ⟨wq.heap.size, 0, none⟩ 1 1 [.string ⟨pc.toArray⟩] rfl rfl ?k1 ?k2 ?k3 ?k4 ?k5 ?_))
      case k1 =>
        intro j u hj
        have hj2 : j = 0 := by have := (List.getElem?_eq_some_iff.1 hj).1; simp at this; omega
        subst hj2
        rw [Addr.add_lit, Nat.zero_add, World.cell?_alloc_at _ _ _ _ rfl]
        exact hj
      case k2 => intro u hu; simp at hu; rcases hu with rfl; rfl
      case k3 => unfold maxLen; have := Hxl2.out; omega
      case k4 => have := Hxl2.out; omega
      case k5 => have := HB.out.size; simp; omega
      intro v9 w9 hO9 hg9 _
      have HB9 : Hid (Below w.heap.size w w9) := Lib.hid ((HB.out.alloc HB.out.size _).grown hg9 (by have := HB.out.size; simp; omega) (fun k hk => (HO.out.lt k hk).1))
      have HO9 : Hid (w9.ownsRow w.heap.size 9 1 v9 (Ru.cut c l).length ((Ru.cut c l).map strB)) := Lib.hid (by
        rw [← Hall.out, List.length_append, List.map_append]
        exact hO9)
      clear hO9 hg9 hi
      go_wp2_with fail
      go_ret
      exact ⟨_, rfl, HO9.out, HB9.out⟩
end Go.Proofs.YtneebcniofolmaaGreatDoor
namespace Go.Proofs.YtneebcniofolmaaGreatDoor
open Go.ChangeShapes Go.WideShapes Go.ChangeAt Go.RowKit Go.Extern.Stop Go.Stop Go.Extern
theorem var_kept {P : Program} {T : Nat → Prop} {w w1 : World} {n : String} {cs : Array Value} (h : w.var? P n = some cs) (hk : Kept T w w1) (hT : ∀ g, P.globalNamed n = some g → ¬ T g) : w1.var? P n = some cs := by
  unfold World.var? at h ⊢
  cases hg : P.globalNamed n with
  | none => rw [hg] at h; cases h
  | some g =>
    rw [hg] at h
    simp only [Option.bind_some] at h ⊢
    cases hb : w.heap[g]? with
    | none => rw [hb] at h; cases h
    | some o => rw [hk.heap hb (hT g hg)]; rw [hb] at h; exact h
theorem named_lt {P : Program} {n : String} {g : Nat} (h : P.globalNamed n = some g) : g < P.globals.size := by
  unfold Program.globalNamed at h
  split at h
  · rename_i x hx
    injection h with h
    subst h
    have : x ∈ ((List.range P.globals.size).filter fun g => (P.globals[g]?).any (·.name == n)) := by rw [hx]; simp
    exact List.mem_range.1 (List.mem_filter.1 this).1
  · cases h
theorem globals_n : Tryz.prog.globals.size = 10 := by kernel_rfl
/-- the variables that a session reads -/
structure Env (w : World) : Prop where
  hd : Handle w
  ml : ∃ m, w.cell? ⟨2, 0, none⟩ = some (.int .i64 m)
  un : w.cell? ⟨0, 0, none⟩ = some (ev 2)
  es : ∃ tp p, w.var? Tryz.prog "strconv.ErrSyntax" = some #[.iface tp p]
  er : ∃ tp p, w.var? Tryz.prog "strconv.ErrRange" = some #[.iface tp p]
  tb : Lib.TabIs Tryz.prog w "internal/strconv.uint64pow10" .u64 Lib.pow10Tab
  gs : 10 ≤ w.heap.size
namespace Env
variable {T : Nat → Prop} {w w1 : World}
theorem kept (h : Env w) (hk : Kept T w w1) (hT : ∀ k, k < 10 → ¬ T k) : Env w1 := by
  have hg : ∀ n g, Program.globalNamed Tryz.prog n = some g → ¬ T g := fun n g e => hT g (by
    have := named_lt e
    rw [globals_n] at this
    exact this)
  exact ⟨hk.cell h.hd (hT _ (by decide)), h.ml.imp fun m hm => hk.cell hm (hT _ (by decide)), hk.cell h.un (hT _ (by decide)),
    h.es.imp fun tp hp => hp.imp fun p hp => var_kept hp hk (fun g => hg _ g), h.er.imp fun tp hp => hp.imp fun p hp => var_kept hp hk (fun g => hg _ g), var_kept h.tb hk (fun g => hg _ g), Nat.le_trans h.gs hk.size⟩
theorem below {B : Nat} (h : Env w) (hb : Below B w w1) (hB : 10 ≤ B) : Env w1 := h.kept (Kept.below hb) fun k hk => by omega
theorem new (h : Env w) (hb : Below w.heap.size w w1) : Env w1 := h.below hb h.gs
theorem drewN (h : Env w) (n : Nat) : Env (w.drewN n) := h.kept ((Kept.refl (fun _ => False) w).drewN n) fun _ _ h => h
end Env
end Go.Proofs.YtneebcniofolmaaGreatDoor
namespace Go.Proofs.YtneebcniofolmaaGreatDoor
open Go.ChangeShapes Go.WideShapes Go.ChangeAt Go.RowKit
set_option linter.unusedVariables false
theorem Ru.count_one (c : UInt8) : ∀ (n : Nat) (l : List UInt8), l.length ≤ n → Lib.count l [c] = l.count c
  | 0, l, h => by
    obtain rfl := List.eq_nil_of_length_eq_zero (by omega : l.length = 0)
    have h1 : Lib.index [] [c] = -1 := rfl
    rw [Lib.count_miss h1]; rfl
  | n + 1, l, h => by
    by_cases hm : Lib.indexByte l c = -1
    · rw [Lib.count_miss (by rw [Lib.index_one]; exact hm), List.count_eq_zero.2 ((Ru.index_nil c l).2 hm)]
    · have hg := Lib.indexByte_ge l c
      obtain ⟨j, hj⟩ : ∃ j : Nat, Lib.indexByte l c = j := ⟨(Lib.indexByte l c).toNat, by omega⟩
      obtain ⟨a, b, d⟩ := Ru.index_some c l j hj
      rw [Lib.count_hit (by simp) (by rw [Lib.index_one]; exact hj)]
      show 1 + Lib.count (l.drop (j + 1)) [c] = _
      rw [Ru.count_one c n _ (by rw [List.length_drop]; omega)]
      conv => rhs; rw [d]
      rw [List.count_append, List.count_cons_self, List.count_eq_zero.2 b]
      omega
theorem split_words (l : List UInt8) (hs : l.length ≤ 100000) (w : World) (hE : Env w) :
    Calls Tryz.prog 57 #[.string ⟨l.toArray⟩, .string ⟨#[32]⟩] w fun e w' => ∃ v, e = .returned v ∧ w'.ownsRow w.heap.size 9 1 v (Ru.cut 32 l).length ((Ru.cut 32 l).map strB) ∧ Below w.heap.size w w' := by
  obtain ⟨m, hm⟩ := hE.ml
  have hsz : (ByteArray.mk l.toArray).size = l.length := rfl
  refine (Tryz.strings_Split ⟨l.toArray⟩ ⟨#[32]⟩ m w (by omega) hm (by decide)).mono ?_
  rintro e w' ⟨rfl, rfl⟩
  have hc : Lib.countB ⟨l.toArray⟩ ⟨#[32]⟩ = l.count 32 := by
    show Lib.count (ByteArray.mk l.toArray).data.toList [32] = _
    rw [show (ByteArray.mk l.toArray).data.toList = l by simp]
    exact Ru.count_one 32 _ l (Nat.le_refl _)
  have hd : (Lib.splitB ⟨#[32]⟩ 0 (Lib.countB ⟨l.toArray⟩ ⟨#[32]⟩) ⟨l.toArray⟩).map (·.data.toList) = Ru.cut 32 l := by
    rw [Lib.splitB_data, hc, show (ByteArray.mk l.toArray).data.toList = l by simp]
    exact Ru.splitK_cut 32 [32] (fun l => Lib.index_one l 32) rfl _ l (Nat.le_refl _)
  have hv : (Lib.splitB ⟨#[32]⟩ 0 (Lib.countB ⟨l.toArray⟩ ⟨#[32]⟩) ⟨l.toArray⟩).map Value.string = (Ru.cut 32 l).map strB := by
    rw [← hd, List.map_map]
    exact List.map_congr_left fun x _ => by show Value.string x = .string ⟨x.data.toList.toArray⟩; simp
  have hn : Lib.countB ⟨l.toArray⟩ ⟨#[32]⟩ + 1 = (Ru.cut 32 l).length := by rw [hc, Ru.cut_len]
  rw [hv]
  refine ⟨_, rfl, ⟨by simp, .inr ⟨w.heap.size, (Ru.cut 32 l).length, _, by rw [hn], Nat.le_refl _, heap_alloc_new w _, Nat.le_refl _, ?_, by simp, by rw [Nat.mul_one]; simp [List.take_of_length_le]⟩⟩, (Below.refl _ _).alloc (Nat.le_refl _) _⟩
  have := List.count_le_length (a := (32 : UInt8)) (l := l)
  rw [Ru.cut_len]; unfold maxLen; omega
end Go.Proofs.YtneebcniofolmaaGreatDoor
namespace Go.Proofs.YtneebcniofolmaaGreatDoor
open Go.ChangeShapes Go.WideShapes Go.ChangeAt Go.RowKit
set_option linter.unusedVariables false
set_option maxHeartbeats 2000000
def NumPost (l : List UInt8) (w : World) (e : Ending) (w' : World) : Prop := ∃ x : Int, e = .returned (.tuple #[iv x, .bool (Ru.num l).isSome]) ∧ (∀ k, Ru.num l = some k → x = k) ∧ Below w.heap.size w w'
theorem str_ne {a b : List UInt8} (h : a ≠ b) : ¬ (ByteArray.mk a.toArray = ByteArray.mk b.toArray) := fun e => h (by injection e with e; exact List.toArray_inj e)
set_option maxRecDepth 100000 in
theorem number_any (l : List UInt8) (hs : l.length ≤ 100000) (w : World) (hE : Env w) :
    Calls Tryz.prog 59 #[.string ⟨l.toArray⟩] w (NumPost l w) := by
  have hsz : (ByteArray.mk l.toArray).size = l.length := rfl
  have hdl : (ByteArray.mk l.toArray).data.toList = l := by simp
  have HE := Lib.hid hE
  cases hA : Lib.atoiAll l with
  | ok v =>
    have Hok := Lib.hid (Tryz.strconv_Atoi_ok ⟨l.toArray⟩ (by omega) v (by rw [hdl]; exact hA) w)
    obtain ⟨t1, t2⟩ := Ru.num_test hA
    have T2 := Lib.hid t2
    have T1 := Lib.hid t1
    clear t1 t2
    by_cases h0 : 0 ≤ v
    · by_cases h4 : l.length ≤ 4
      · go_enter Tryz.func59, Tryz.ntmps59
        go_wp2_with fail
        refine Hok.out.mono ?_
        rintro e w1 ⟨rfl, hw⟩
        have hb : Below w.heap.size w w1 := by
          rcases hw with rfl | ⟨t, rfl⟩
          · exact Below.refl _ _
          · exact Lib.bytesWorld_below _ _ _
        have Hb := Lib.hid hb
        have HE1 := Lib.hid (HE.out.new hb)
        clear hw hb
        have hsz4 : (ByteArray.mk l.toArray).size ≤ 4 := by omega
        have hvb := Lib.atoiAll_bounds hA
        go_wp2_with fail
        refine (Tryz.strconv_Itoa v hvb.1 hvb.2 w1 HE1.out.tb).mono ?_
        rintro e w2 ⟨rfl, hw2⟩
        have Hb2 : Hid (Below w.heap.size w w2) := Lib.hid (by
          obtain ⟨k, os, rfl⟩ := hw2
          exact Hb.out.trans (Lib.below_grow _ _ (Hb.out.size) _ _))
        clear hw2
        by_cases hq : Lib.itoa v = l
        · have Ht := Lib.hid (show (Ru.num l).isSome = true by rw [T1.out]; simp [h0, h4, hq])
          rw [hq]
          go_wp2_with fail
          go_ret2
          exact ⟨v, by rw [Ht.out]; rfl, T2.out, Hb2.out⟩
        · have Ht := Lib.hid (show (Ru.num l).isSome = false by rw [T1.out]; simp [hq])
          have hbe : (Lib.itoa v == l) = false := by simpa using hq
          go_wp2_with fail
          go_ret2
          exact ⟨v, by rw [Ht.out]; rfl, T2.out, Hb2.out⟩
      · have Ht := Lib.hid (show (Ru.num l).isSome = false by rw [T1.out]; simp [h4])
        go_enter Tryz.func59, Tryz.ntmps59
        go_wp2_with fail
        refine Hok.out.mono ?_
        rintro e w1 ⟨rfl, hw⟩
        have hb : Below w.heap.size w w1 := by
          rcases hw with rfl | ⟨t, rfl⟩
          · exact Below.refl _ _
          · exact Lib.bytesWorld_below _ _ _
        have Hb := Lib.hid hb
        clear hw hb
        have hsz4 : ¬ (ByteArray.mk l.toArray).size ≤ 4 := by omega
        go_wp2_with fail
        go_ret2
        exact ⟨v, by rw [Ht.out]; rfl, T2.out, Hb.out⟩
    · have Ht := Lib.hid (show (Ru.num l).isSome = false by rw [T1.out]; simp [h0])
      go_enter Tryz.func59, Tryz.ntmps59
      go_wp2_with fail
      refine Hok.out.mono ?_
      rintro e w1 ⟨rfl, hw⟩
      have hb : Below w.heap.size w w1 := by
        rcases hw with rfl | ⟨t, rfl⟩
        · exact Below.refl _ _
        · exact Lib.bytesWorld_below _ _ _
      have Hb := Lib.hid hb
      clear hw hb
      have h0' : v < 0 := by omega
      go_wp2_with fail
      go_ret2
      exact ⟨v, by rw [Ht.out]; rfl, T2.out, Hb.out⟩
  | range =>
    have Hn := Lib.hid (Ru.num_not (l := l) (by intro v h; rw [hA] at h; cases h))
    obtain ⟨tp, p, hv⟩ := HE.out.er
    have Hc := Lib.hid (Tryz.strconv_Atoi_range_var ⟨l.toArray⟩ (by omega) (by rw [hdl]; exact hA) tp p w hv)
    generalize Lib.atoiSat (ByteArray.mk l.toArray).data.toList = y at Hc
    clear hv
    go_enter Tryz.func59, Tryz.ntmps59
    go_wp2_with fail
    refine Hc.out.mono ?_
    rintro e w1 ⟨N, rfl, hN, hcell, hb⟩
    have Hb := Lib.hid hb
    clear hN hcell hb
    go_wp2_with fail
    go_ret2
    exact ⟨y, by rw [Hn.out]; rfl, (by intro k hk; rw [Hn.out] at hk; cases hk), Hb.out⟩
  | _ =>
    have Hn := Lib.hid (Ru.num_not (l := l) (by intro v h; rw [hA] at h; cases h))
    obtain ⟨tp, p, hv⟩ := HE.out.es
    have Hc := Lib.hid (Tryz.strconv_Atoi_syntax_var ⟨l.toArray⟩ (by omega) (by rw [hdl]; exact hA) tp p w hv)
    clear hv
    go_enter Tryz.func59, Tryz.ntmps59
    go_wp2_with fail
    refine Hc.out.mono ?_
    rintro e w1 ⟨N, rfl, hN, hcell, hb⟩
    have Hb := Lib.hid hb
    clear hN hcell hb
    go_wp2_with fail
    go_ret2
    exact ⟨0, by rw [Hn.out]; rfl, (by intro k hk; rw [Hn.out] at hk; cases hk), Hb.out⟩
end Go.Proofs.YtneebcniofolmaaGreatDoor
