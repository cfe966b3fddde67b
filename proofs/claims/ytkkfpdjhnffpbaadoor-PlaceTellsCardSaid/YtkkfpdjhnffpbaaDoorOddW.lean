/- The walks of odds.sets, fatal, counts, Fatal, Worst. -/
import Derived.Test.YtkkfpdjhnffpbaaDoorOddI
import Derived.Test.YtkkfpdjhnffpbaaDoorSlI
import Derived.Laws.Bits64b
namespace Go.Proofs.YtkkfpdjhnffpbaaDoor
open Go.ChangeShapes Go.WideShapes Go.ChangeAt Go.RowKit
set_option linter.unusedVariables false
abbrev uv (x : Nat) : Value := .int .u64 (x : Int)
theorem info_uint : (Tryd.prog.info? 61).map (fun i => (i.zero, i.size, i.bytes)) = some (some (.int .u64 0), 1, 8) := by kernel_rfl
theorem wrap_pow (d : Nat) (h : d < 10 ∨ d = 10) : IntKind.u64.wrap ((2 : Int) ^ d) = ((2 ^ d : Nat) : Int) := by
  have : d = 0 ∨ d = 1 ∨ d = 2 ∨ d = 3 ∨ d = 4 ∨ d = 5 ∨ d = 6 ∨ d = 7 ∨ d = 8 ∨ d = 9 ∨ d = 10 := by omega
  rcases this with rfl | rfl | rfl | rfl | rfl | rfl | rfl | rfl | rfl | rfl | rfl <;> decide +kernel
namespace Od
theorem mask_snoc (t : List Nat) (d : Nat) : mask (t ++ [d]) = mask t ||| 2 ^ d := by unfold mask; rw [List.foldl_append]; show _ ||| 1 <<< d = _; rw [Nat.one_shiftLeft]
theorem or_step {t : List Nat} {d : Nat} (ht : ∀ e ∈ t, e < 10) (hd : d < 10) : bits .or .u64 (mask t : Int) (IntKind.u64.wrap ((2 : Int) ^ d)) = (mask (t ++ [d]) : Int) := by
  have h1 := mask_lt ht
  have h2 : 2 ^ d < 1024 := by
    have : (2 : Nat) ^ d < 2 ^ 10 := Nat.pow_lt_pow_right (by omega) hd
    exact this
  rw [wrap_pow d (.inl hd), bits_or_u64_nat _ _ (by omega) (by omega), mask_snoc]
theorem and_step {a b : Nat} (ha : a < 1024) (hb : b < 1024) : bits .and .u64 (a : Int) (b : Int) = ((a &&& b : Nat) : Int) := bits_and_u64_nat _ _ (by omega) (by omega)
theorem and_lt {a b : Nat} (ha : a < 1024) : a &&& b < 1024 := Nat.lt_of_le_of_lt Nat.and_le_left ha
theorem pop_in : ∀ n, n ≤ 10 → ∀ x, x < 2 ^ n → pop x ≤ n := by decide +kernel
def nats (s : List Int) : List Nat := s.map Int.toNat
def natss (l : List (List Int)) : List (List Nat) := l.map nats
def ms (l : List (List Int)) : List Nat := l.map (fun s => mask (nats s))
end Od
def StRel (l : List (List Int)) (w : World) (gk : Nat) (v2 v10 : Value) (wr : World) : Prop :=
  ∃ i : Nat, i + gk = l.length ∧ v10 = iv i ∧ wr.ownsRow w.heap.size 61 1 v2 i (((Od.ms l).map uv).take i) ∧ Below w.heap.size w wr
set_option maxRecDepth 100000 in
set_option maxHeartbeats 2000000 in
theorem osets_any (l : List (List Int)) (hl : l.length ≤ 40) (hok : ∀ s ∈ l, ∀ d ∈ s, 0 ≤ d ∧ d < 10) (v : Value) (w : World) (hv : Rows2 w v l) :
    Calls Tryd.prog 35 #[v] w fun e w' => ∃ u, e = .returned u ∧ OwnR w' w.heap.size 61 u ((Od.ms l).map uv) ∧ Below w.heap.size w w' := by
  have HV := Lib.hid hv
  have Hok := Lib.hid hok
  obtain ⟨p, cap, rfl, hl1, hl2⟩ := hv.shape
  unfold maxLen at hl2
  obtain ⟨m, hm⟩ : ∃ m, m = l.length := ⟨_, rfl⟩
  rw [← hm] at HV hl1 hl ⊢
  have Hm := Lib.hid hm
  clear hv hok hm
  go_enter Tryd.func35, Tryd.ntmps35
  go_wp2_with fail
  go_loopg [2, 4, 5, 7, 10] m (fun gk v2 v4 v5 v7 v10 wr => ∃ i : Nat, i + gk = m ∧ v10 = iv i ∧ wr.ownsRow w.heap.size 61 1 v2 i (((Od.ms l).map uv).take i) ∧ Below w.heap.size w wr)
  case atStart => exact ⟨0, by omega, rfl, World.ownsRow_nil _ _ _ _, Below.refl _ _⟩
  case round =>
    obtain ⟨gO, hgO⟩ : ∃ x : Nat, x = gk := ⟨_, rfl⟩
    obtain ⟨wO, hwO⟩ : ∃ x : World, x = wr := ⟨_, rfl⟩
    subst hgO hwO
    obtain ⟨i, hi, rfl, hO, hB⟩ := hrel
    have Hi := Lib.hid hi
    have HO := Lib.hid hO
    have HB := Lib.hid hB
    have hz := hB.size
    clear hi hO hB
    by_cases him : i < m
    · obtain ⟨s, hs⟩ : ∃ s, l[i]? = some s := ⟨l[i]'(by rw [← Hm.out]; exact him), List.getElem?_eq_getElem _⟩
      obtain ⟨g, o, c, p2, c2, hv, hg, hcl, hrb, hwf⟩ := HV.out.at hs
      injection hv with e1 q8 q9
      have He1 := Lib.hid e1
      obtain ⟨k, hk⟩ : ∃ k, k = s.length := ⟨_, rfl⟩
      rw [← hk] at hcl hrb
      have d0 := (HB.out.cell (p := ⟨g, o + i, none⟩) hg).trans hcl
      have hk9 : k ≤ 9223372036854775807 := by
        obtain ⟨_, c', _, h1, h2, _⟩ := hrb.shape
        rw [List.length_map, ← hk] at h1
        unfold maxLen at h2
        omega
      have HRB := Lib.hid hrb
      have HK := Lib.hid hk
      have hds : ∀ d ∈ s, 0 ≤ d ∧ d < 10 := Hok.out s (List.mem_of_getElem? hs)
      have Hds := Lib.hid hds
      have hms : (Od.ms l)[i]? = some (Od.mask (Od.nats s)) := by unfold Od.ms; rw [List.getElem?_map, hs]; rfl
      have Hms := Lib.hid hms
      rw [e1]
      clear e1 q8 q9 hcl hrb hk hs hwf hds hms
      go_wp2_with fail
      go_loopg [5, 7, 16] k (fun gk v5 v7 v16 wr => ∃ j : Nat, j + gk = k ∧ v16 = iv j ∧ v5 = uv (Od.mask ((Od.nats s).take j)) ∧ wO = wr)
      case atStart => exact ⟨0, by omega, rfl, rfl, rfl⟩
      case round =>
        clear d0
        obtain ⟨j, hj, rfl, rfl, rfl⟩ := hrel
        have Hj := Lib.hid hj
        clear hj
        by_cases hjk : j < k
        · obtain ⟨d, hd⟩ : ∃ d, s[j]? = some d := ⟨s[j]'(by rw [← HK.out]; exact hjk), List.getElem?_eq_getElem _⟩
          obtain ⟨g2, o2, cc2, hv2, h3, h4, h5⟩ := HRB.out.pos (by rw [List.length_map, ← HK.out]; omega)
          injection hv2 with e1 q8 q9
          have He2 := Lib.hid e1
          have d1 := h5 j (by rw [List.length_map, ← HK.out]; exact hjk)
          rw [List.getElem?_map, hd] at d1
          have d1' : w.cell? ⟨g2, o2 + j, none⟩ = some (iv d) := d1
          have d2 : wO.cell? ⟨g2, o2 + j, none⟩ = some (iv d) := (HB.out.cell (p := ⟨g2, o2 + j, none⟩) (World.block_lt_of_cell? w _ d1')).trans d1'
          have hdb := Hds.out d (List.mem_of_getElem? hd)
          obtain ⟨dn, rfl⟩ : ∃ n : Nat, d = n := ⟨d.toNat, by omega⟩
          have Hd := Lib.hid hd
          have hjkI' : (j : Int) < (k : Int) := by omega
          rw [e1]
          clear e1 q8 q9 h3 h4 h5 d1 hd d1'
          go_wp2_with fail
          have hsn : (Od.nats s)[j]? = some dn := by unfold Od.nats; rw [List.getElem?_map, Hd.out]; rfl
          have htk : (Od.nats s).take (j + 1) = (Od.nats s).take j ++ [dn] := by rw [List.take_add_one, hsn]; rfl
          have hin : ∀ e ∈ (Od.nats s).take j, e < 10 := fun e he => by
            obtain ⟨x, hx, rfl⟩ := List.mem_map.1 (List.mem_of_mem_take he)
            have := Hds.out x hx
            omega
          have hor := Od.or_step hin (d := dn) (by omega)
          rw [← htk] at hor
          have Hor := Lib.hid hor
          clear hsn htk hin hor
          rw [← He2.out]
          go_roundg (gk - 1)
          case measure => have := Hj.out; omega
          case rel => exact ⟨j + 1, by have := Hj.out; omega, by go_num, congrArg (Value.int .u64) Hor.out, rfl⟩
        · have hjk' : j = k := by have := Hj.out; omega
          have hmk : Od.mask ((Od.nats s).take j) = Od.mask (Od.nats s) := by rw [List.take_of_length_le]; unfold Od.nats; rw [List.length_map, ← HK.out]; omega
          rw [hmk]
          have hi9 : i + 1 ≤ 1000000 := by omega
          have hap : ((Od.ms l).map uv).take i ++ [uv (Od.mask (Od.nats s))] = ((Od.ms l).map uv).take (i + 1) := by
            rw [List.take_add_one, List.getElem?_map, Hms.out]; rfl
          have Hap := Lib.hid hap
          obtain ⟨pv, nv, cv, rfl⟩ := (OwnR.of_owns HO.out).slice
          obtain ⟨mk, hmk0⟩ : ∃ x, x = Od.mask (Od.nats s) := ⟨_, rfl⟩
          rw [← hmk0]
          have Hmk0 := Lib.hid hmk0
          have hjkI : ¬ (j : Int) < (k : Int) := by omega
          clear hmk hap hmk0 hjk hjk'
          go_wp2_with (at_builtin; refine app1 w wO _ 61 59 rfl _ _ rfl w.heap.size Tryd.underlying59 info_uint rfl _ i _ rfl _ rfl rfl HO.out rfl hi9 (by decide) hz HB.out ?_)
          intro v8 w8 hown8 hb8 hgr8 hat8
          rw [Hmk0.out, Hap.out] at hown8
          have HO8 := Lib.hid hown8
          have HB8 := Lib.hid hb8
          clear hown8 hb8 hgr8 hat8 HO HB
          go_wp2_with fail
          rw [← He1.out]
          go_roundg (gO - 1)
          case measure => have := Hi.out; omega
          case rel => exact ⟨i + 1, by have := Hi.out; omega, by go_num, HO8.out, HB8.out⟩
    · have him' : i = m := by have := Hi.out; omega
      have hO' : OwnR wO w.heap.size 61 u2 ((Od.ms l).map uv) := by
        have h := OwnR.of_owns HO.out
        rw [him', List.take_of_length_le (by unfold Od.ms; rw [List.length_map, List.length_map, ← Hm.out]; exact Nat.le_refl _)] at h
        exact h
      have HO' := Lib.hid hO'
      clear hO' HO
      go_wp2_with fail
      go_ret
      exact ⟨_, rfl, HO'.out, HB.out⟩
namespace Od
def anyF (set : Nat) (l : List Nat) (p : Int) : Bool := l.any (fun s => decide (p < (pop (set &&& s) : Int)))
theorem anyF_ms (set : Nat) (l : List (List Int)) (p : Int) : anyF set (ms l) p = fatal set (natss l) p := by
  unfold anyF ms fatal natss
  rw [List.any_map, List.any_map]; rfl
end Od
set_option maxRecDepth 100000 in
theorem ofatal_any (set : Nat) (hset : set < 1024) (ls : List Nat) (hls : ∀ s ∈ ls, s < 1024) (hl : ls.length ≤ 1000) (p : Int) (v : Value) (w : World) (hv : Row w v (ls.map uv)) :
    Calls Tryd.prog 36 #[uv set, v, iv p] w fun e w' => e = .returned (.bool (Od.anyF set ls p)) ∧ w = w' := by
  have HV := Lib.hid hv
  have Hls := Lib.hid hls
  obtain ⟨q, cap, rfl, hl1, hl2, _⟩ := hv.shape
  rw [List.length_map] at *
  unfold maxLen at hl2
  obtain ⟨m, hm⟩ : ∃ m, m = ls.length := ⟨_, rfl⟩
  rw [← hm] at HV hl1 hl ⊢
  have Hm := Lib.hid hm
  clear hv hls hm
  go_enter Tryd.func36, Tryd.ntmps36
  go_wp2_with fail
  go_loopg [8, 11] m (fun gk v8 v11 wr => ∃ i : Nat, i + gk = m ∧ v11 = iv i ∧ Od.anyF set (ls.take i) p = false ∧ w = wr)
  case atStart => exact ⟨0, by omega, rfl, rfl, rfl⟩
  case round =>
    obtain ⟨i, hi, rfl, hno, rfl⟩ := hrel
    have Hi := Lib.hid hi
    have Hno := Lib.hid hno
    clear hi hno
    by_cases him : i < m
    · obtain ⟨s, hs⟩ : ∃ s, ls[i]? = some s := ⟨ls[i]'(by rw [← Hm.out]; exact him), List.getElem?_eq_getElem _⟩
      obtain ⟨g2, o2, cc2, hv2, h3, h4, h5⟩ := HV.out.pos (by rw [List.length_map, ← Hm.out]; omega)
      injection hv2 with e1 q8 q9
      have He1 := Lib.hid e1
      have d1 := h5 i (by rw [List.length_map, ← Hm.out]; exact him)
      rw [List.getElem?_map, hs] at d1
      have d1' : w.cell? ⟨g2, o2 + i, none⟩ = some (uv s) := d1
      have hs9 := Hls.out s (List.mem_of_getElem? hs)
      have hand := Od.and_step hset hs9
      have HPo := Lib.hid (ones_any (set &&& s) (Od.and_lt hset) w)
      have htk : ls.take (i + 1) = ls.take i ++ [s] := by rw [List.take_add_one, hs]; rfl
      have hany : Od.anyF set (ls.take (i + 1)) p = decide (p < (Od.pop (set &&& s) : Int)) := by
        rw [htk]; unfold Od.anyF at Hno ⊢
        rw [List.any_append, Hno.out]; simp
      have Hany := Lib.hid hany
      have hyes : decide (p < (Od.pop (set &&& s) : Int)) = true → Od.anyF set ls p = true := fun h => by
        obtain ⟨y, hy⟩ : ∃ y, y = Od.anyF set (ls.take (i + 1)) p := ⟨_, rfl⟩
        unfold Od.anyF
        exact List.any_eq_true.2 ⟨s, List.mem_of_getElem? hs, h⟩
      have Hyes := Lib.hid hyes
      rw [e1]
      clear e1 q8 q9 h3 h4 h5 d1 hs htk hany hyes
      go_wp2_with fail
      refine HPo.out.mono ?_
      rintro e w' ⟨rfl, rfl⟩
      clear HPo hand
      by_cases hp : p < (Od.pop (set &&& s) : Int)
      · have HT := Lib.hid (Hyes.out (dec_t hp))
        go_wp2_with fail
        go_ret
        exact ⟨by rw [HT.out]; rfl, rfl⟩
      · have HT := Lib.hid (Hany.out.trans (dec_f hp))
        go_wp2_with fail
        rw [← He1.out]
        go_roundg (gk - 1)
        case measure => have := Hi.out; omega
        case rel => exact ⟨i + 1, by have := Hi.out; omega, by go_num, HT.out, rfl⟩
    · have him' : i = m := by have := Hi.out; omega
      have HT : Hid (Od.anyF set ls p = false) := Lib.hid (by
        have h := Hno.out
        rw [him', Hm.out, List.take_length] at h; exact h)
      subst him'
      go_wp2_with fail
      go_ret
      exact ⟨by rw [HT.out]; rfl, rfl⟩
end Go.Proofs.YtkkfpdjhnffpbaaDoor
