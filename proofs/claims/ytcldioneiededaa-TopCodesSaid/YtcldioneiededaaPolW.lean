/- The walk of the library's slices.Clone at lists of strings. · The walks of poly.full, Trim, times, Mul. -/
import Derived.Test.YtcldioneiededaaBase
import Derived.Test.YtcldioneiededaaPolP
import Derived.Test.YtcldioneiededaaVecW
import Derived.Test.YtcldioneiededaaBlk
import Derived.Test.YtcldioneiededaaCodS
import Derived.RegionTactic
namespace Go.Proofs.Ytcldioneiededaa
open Go.ChangeShapes Go.WideShapes Go.ChangeAt Go.RowKit
set_option linter.unusedVariables false
theorem info_byteC : (Try.prog.info? 5).map (fun i => (i.zero, i.size, i.bytes)) = some (some (.int .u8 0), 1, 1) := by kernel_rfl
def ClonePostB (xs : List Value) (w : World) (e : Ending) (w' : World) : Prop :=
  ∃ v, e = .returned v ∧ w'.ownsRow w.heap.size 5 1 v xs.length xs ∧ Below w.heap.size w w'
set_option maxRecDepth 100000 in
theorem clone_byte (xs : List Value) (h1 : ∀ u ∈ xs, u.oneCell' = true) (hs : xs.length ≤ 140737488351232) (v : Value) (w : World) (hv : Row w v xs) :
    Calls Try.prog 58 #[v] w (ClonePostB xs w) := by
  obtain ⟨i0, hi, hz0, hz1, hz2⟩ := info_parts info_byteC
  have q22 : ∀ (w : World) (a : Option Addr) (n c n' c' : Nat), (binOp .eql 74 (.slice a n c) (.slice none n' c')).run Try.prog w = .ok (.bool a.isNone) w := fun w a n c n' c' => Lib.run_eql_slice_nil w _ _ a n c n' c' Try.underlying74
  obtain ⟨p, cap, rfl, h2, h3, h0, h4⟩ := hv
  cases p with
  | none =>
    obtain rfl : cap = 0 := h0 rfl
    obtain rfl : xs = [] := List.eq_nil_of_length_eq_zero (by omega)
    clear h0 h4
    go_enter Try.func58, Try.ntmps58
    go_wp2
    go_ret
    exact ⟨_, rfl, World.ownsRow_nil _ _ _ _, Below.refl _ _⟩
  | some ad =>
    have H4 := Lib.hid h4
    clear h4 h0
    go_enter Try.func58, Try.ntmps58
    go_wp2_with (at_builtin; refine wpList_append_own _ rfl _ _ 74 rfl w.heap.size 5 i0 (.int .u8 0) 1 1 Try.underlying74 hi hz0 hz1 hz2 rfl (by decide) _ _ _ rfl (World.ownsRow_made w #[] 0 (Nat.le_refl _) (Nat.zero_le _) rfl) ad xs.length cap xs rfl ?qc1 ?qc2 ?qc3 ?qc4 ?qc5 ?qc6 ?_)
    case qc1 => simp
    case qc2 =>
      intro j u hj
      have hjn := (List.getElem?_eq_some_iff.1 hj).1
      obtain ⟨g, off, hp, h4⟩ := H4.out (by omega)
      injection hp with hp
      rw [hp, Addr.add_lit]
      have h := h4 j hjn
      rw [hj] at h
      exact ((Below.refl w.heap.size w).alloc (Nat.le_refl _) _).cell (World.block_lt_of_cell? w _ h) |>.trans h
    case qc3 => exact h1
    case qc4 => unfold maxLen; omega
    case qc5 => omega
    case qc6 => simp
    intro v' w1 hown hgrow _
    have Hown := Lib.hid hown
    clear hown
    go_wp2
    go_ret
    refine ⟨v', rfl, ?_, ?_⟩
    · exact Hown.out
    · exact ((Below.refl _ w).alloc (Nat.le_refl _) _).grown hgrow (by simp) (by intro k hk; simp [Value.ownBlock] at hk; omega)
end Go.Proofs.Ytcldioneiededaa
namespace Go.Proofs.Ytcldioneiededaa
open Go.ChangeShapes Go.WideShapes Go.ChangeAt Go.RowKit
set_option linter.unusedVariables false
/-- a slice as a value -/
structure SlT where
  p : Option Addr
  n : Nat
  c : Nat
def SlT.enc (x : SlT) : Value := .slice x.p x.n x.c
set_option maxRecDepth 100000 in
set_option maxHeartbeats 1000000 in
theorem indexFunc_bytes (ls : List SlT) (p : SlT → Bool) (g : Nat) (lb : Array Value) (eg : ∀ args w, (callFunc g args).run Try.prog w = .ok (.enter g args) w) (v : Value) (w : World) (S : World → Prop) (hS : S w) (hv : Row w v (ls.map SlT.enc)) (hp : PredQ SlT.enc g lb p S) :
    Calls Try.prog 67 #[v, .func (.func g) #[] lb] w fun e w' => e = .returned (iv (firstQ ls p)) ∧ w = w' := by
  obtain ⟨q, cap, rfl, hlen, hcap, hc⟩ := hv.shape
  rw [List.length_map] at *
  unfold maxLen at hcap
  have hN : ls.length ≤ 9223372036854775807 := by omega
  have Hc := Lib.hid hc
  have HP := Lib.hid (hp w hS)
  clear hc hp hv hcap
  generalize hn : ls.length = n at *
  have Hn := Lib.hid hn
  clear hn
  go_enter Try.func67, Try.ntmps67
  go_wp2_with fail
  go_loopg [5, 8] n (fun gk _ i wr => IdxQRel ls p w gk i wr)
  case atStart => exact ⟨0, by rw [Hn.out]; omega, rfl, rfl, fun j l hj => by omega⟩
  case round =>
    obtain ⟨k, hk, rfl, hwr, hno⟩ := hrel
    subst hwr
    rw [Hn.out] at hk
    have Hk := Lib.hid hk
    have Hno := Lib.hid hno
    clear hk hno
    by_cases hlt : k < n
    · obtain ⟨l, hl⟩ : ∃ l, ls[k]? = some l := ⟨ls[k]'(by rw [Hn.out]; exact hlt), List.getElem?_eq_getElem _⟩
      obtain ⟨gb, off, rfl, hcc⟩ := Hc.out (by omega)
      have d0 := hcc k hlt
      rw [List.getElem?_map, hl] at d0
      have d1 : wr.cell? ⟨gb, off + k, none⟩ = some (SlT.enc l) := d0
      have Hl := Lib.hid hl
      clear d0 hcc hl
      go_wp2_with fail
      have hcall := HP.out l
      cases hq : p l with
      | true =>
        rw [hq] at hcall
        have Hr := Lib.hid (firstQ_hit Hl.out hq Hno.out)
        clear hq
        refine hcall.mono ?_
        rintro e w' ⟨rfl, rfl⟩
        clear hcall
        go_wp2_with fail
        go_ret
        exact ⟨by rw [Hr.out]; rfl, rfl⟩
      | false =>
        rw [hq] at hcall
        have Hq := Lib.hid hq
        clear hq
        refine hcall.mono ?_
        rintro e w' ⟨rfl, rfl⟩
        clear hcall
        go_wp2_with fail
        go_roundg (gk - 1)
        case measure => have := Hk.out; omega
        case rel =>
          refine ⟨k + 1, by rw [Hn.out]; have := Hk.out; omega, by go_num, rfl, fun j l' hj h => ?_⟩
          by_cases e : j = k
          · subst e
            rw [Hl.out] at h
            obtain rfl := Option.some.inj h
            exact Hq.out
          · exact Hno.out j l' (by omega) h
    · obtain rfl : k = n := by have := Hk.out; omega
      have Hr := Lib.hid (firstQ_miss (fun j l hj h => Hno.out j l (by rw [Hn.out] at hj; exact hj) h))
      clear hlt
      go_wp2_with fail
      go_ret
      exact ⟨by rw [Hr.out]; rfl, rfl⟩
theorem row_headP {w : World} {p : Option Addr} {n cap : Nat} {xs : List Value} (h : Row w (.slice p n cap) xs) {k : Nat} (hk : k ≤ xs.length) : Row w (.slice p k cap) (xs.take k) := by
  obtain ⟨p', cap', hv, h1, h2, h3, h4⟩ := h
  injection hv with e1 e2 e3
  subst e1 e3
  have hl : (xs.take k).length = k := by rw [List.length_take]; omega
  refine ⟨p, cap, by rw [hl], by rw [hl]; omega, h2, h3, fun h0 => ?_⟩
  rw [hl] at h0
  obtain ⟨g, off, hp, hc⟩ := h4 (by omega)
  refine ⟨g, off, hp, fun j hj => ?_⟩
  rw [hl] at hj
  rw [hc j (by omega), List.getElem?_take, if_pos hj]
def TrimRel (l : List UInt8) (w : World) (gk : Nat) (v : Value) (wr : World) : Prop := v = iv gk ∧ Pl.tn l gk = Pl.tn l l.length ∧ gk ≤ l.length ∧ wr = w
def TrimPost (l : List UInt8) (w : World) (e : Ending) (w' : World) : Prop := ∃ v, e = .returned v ∧ OwnB w' w.heap.size v (Pl.trim l) ∧ Below w.heap.size w w'
end Go.Proofs.Ytcldioneiededaa
