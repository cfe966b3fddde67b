/- The walk of the law RunBegins. -/
import Derived.Test.YtneebcniofolmaaGreatDoorSesR
import Derived.Test.YtneebcniofolmaaGreatDoorSesH
namespace Go.Proofs.YtneebcniofolmaaGreatDoor
open Go.ChangeShapes Go.WideShapes Go.ChangeAt Go.RowKit
set_option linter.unusedVariables false
set_option maxHeartbeats 4000000
set_option maxRecDepth 100000
theorem take_count {l : List UInt8} {k : Nat} {x : UInt8} (h : l[k]? = some x) : (l.take (k + 1)).count 10 = (l.take k).count 10 + (if x = 10 then 1 else 0) := by
  rw [List.take_add_one, h, List.count_append]
  congr 1
  by_cases hx : x = 10
  · subst hx; rfl
  · rw [if_neg hx]
    show List.count 10 [x] = 0
    rw [List.count_eq_zero]
    simp only [List.mem_singleton]
    exact fun e => hx e.symm
/-- how far the law has read -/
def BgRel (l : List UInt8) (many : Int) (w : World) (gk : Nat) (v7 v8 : Value) (wr : World) : Prop :=
  ∃ k : Nat, k + gk = l.length ∧ v7 = iv k ∧ v8 = iv ((l.take k).count 10 : Nat) ∧ (k = 0 ∨ (((l.take (k - 1)).count 10 : Nat) : Int) < many) ∧ wr = w
theorem runBegins_walk (s : ByteArray) (many : Int) (hs : s.size ≤ maxLen) (hm : (Lit.int .i64 many).wf = true) (w : World) (hE : Env w) :
    Calls Tryz.prog 4 #[.string s, iv many] w fun e w' => e = .returned (.bool true) ∧ Below w.heap.size w w' := by
  obtain ⟨l, hl⟩ : ∃ l, l = s.data.toList := ⟨_, rfl⟩
  have hsl : s = ⟨l.toArray⟩ := by rw [hl]
  have hsz : s.size = l.length := by rw [hsl]; rfl
  have HF := run_any [119, 114, 105, 116, 101, 32, 51, 32, 48, 97, 49, 102, 10, 102, 97, 105, 108, 32, 50, 10, 102, 108, 121, 10, 114, 101, 97, 100, 32, 51, 10] (by decide) w hE
  rw [Ru.fact_ans] at HF
  unfold strB at HF
  have HFh := Lib.hid HF
  have HE := Lib.hid hE
  have Hsl := Lib.hid hsl
  have Hg : Hid (∀ k c (h : k < s.size), l[k]? = some c → s[k] = c) := Lib.hid (fun k c h hk => byte_at h (by rw [← hl]; exact hk))
  clear HF hE hl hsl
  by_cases h3 : 3000 < l.length
  · have HLg : Hid (∀ W, Calls Tryz.prog 6 #[.string s] W fun e w' => e = .returned (.string ⟨#[116, 111, 111, 32, 108, 111, 110, 103, 10]⟩) ∧ W = w') := Lib.hid (fun W => by
      rw [Hsl.out]
      exact (run_long l h3 W).mono (by rintro e w' ⟨rfl, rfl⟩; exact ⟨rfl, rfl⟩))
    have h3I : (3000 : Int) < (l.length : Int) := by omega
    go_enter Tryz.func4, Tryz.ntmps4
    go_wp2_with fail
    refine HFh.out.mono ?_
    rintro e w1 ⟨rfl, hb1⟩
    have Hb1 := Lib.hid hb1
    clear hb1
    go_wp2_with fail
    refine (HLg.out _).mono ?_
    rintro e w2 ⟨rfl, rfl⟩
    go_wp2_with fail
    go_ret
    exact ⟨rfl, Hb1.out⟩
  · have h3I : ¬ (3000 : Int) < (l.length : Int) := by omega
    have HRun : Hid (∀ k W, Env W → Calls Tryz.prog 6 #[.string ⟨(l.take k).toArray⟩] W fun e w' => e = .returned (.string ⟨(Ru.runs (Ar.s0 5 4 2) (Ru.lines (l.take k))).toArray⟩) ∧ Below W.heap.size W w') := Lib.hid (fun k W hW => run_any (l.take k) (by rw [List.length_take]; omega) W hW)
    have HRunA : Hid (∀ W, Env W → Calls Tryz.prog 6 #[.string s] W fun e w' => e = .returned (.string ⟨(Ru.runs (Ar.s0 5 4 2) (Ru.lines l)).toArray⟩) ∧ Below W.heap.size W w') := Lib.hid (fun W hW => by rw [Hsl.out]; exact run_any l (by omega) W hW)
    have HSl : Hid (∀ k, k ≤ l.length → ByteArray.extract s 0 k = ⟨(l.take k).toArray⟩) := Lib.hid (fun k hk => by rw [Hsl.out, ByteArray.extract_mk]; rfl)
    obtain ⟨m, hmm⟩ : ∃ m, m = l.length := ⟨_, rfl⟩
    rw [← hmm] at hsz h3 h3I
    have Hm := Lib.hid hmm
    clear hmm
    go_enter Tryz.func4, Tryz.ntmps4
    go_wp2_with fail
    refine HFh.out.mono ?_
    rintro e w1 ⟨rfl, hb1⟩
    have Hb1 := Lib.hid hb1
    have HE1 := Lib.hid (HE.out.new hb1)
    clear hb1
    go_wp2_with fail
    go_loopg [7, 8] m (fun gk v7 v8 wr => BgRel l many w1 gk v7 v8 wr)
    case atStart => exact ⟨0, by rw [← Hm.out]; omega, rfl, rfl, .inl rfl, rfl⟩
    case round =>
      obtain ⟨k, hk, rfl, rfl, hkm, rfl⟩ := hrel
      rw [← Hm.out] at hk
      have Hk := Lib.hid hk
      have Hkm := Lib.hid hkm
      have hcl : (l.take k).count 10 ≤ 3000 := Nat.le_trans List.count_le_length (by rw [List.length_take]; omega)
      obtain ⟨c, hc⟩ : ∃ c, c = (l.take k).count 10 := ⟨_, rfl⟩
      rw [← hc] at hcl ⊢
      have Hc := Lib.hid hc
      clear hk hkm hc
      by_cases hlt : k < m
      · have hltI : (k : Int) < (m : Int) := by omega
        by_cases hcm : (c : Int) < many
        · obtain ⟨x, hx⟩ : ∃ x, l[k]? = some x := ⟨l[k]'(by rw [← Hm.out]; exact hlt), List.getElem?_eq_getElem _⟩
          have hlt2 : k < s.size := by omega
          have c1 := Hg.out k x hlt2 hx
          have hxl := x.toNat_lt
          have Htc := Lib.hid (take_count hx)
          have hw1 : IntKind.i64.wrap ((k : Int) + 1) = (k : Int) + 1 := IntWalk.i64_in _ (by omega)
          have hw2 : IntKind.i64.wrap ((c : Int) + 1) = (c : Int) + 1 := IntWalk.i64_in _ (by omega)
          have Hcm := Lib.hid hcm
          clear hx
          by_cases hx10 : x = 10
          · have hxn : x.toNat = 10 := by rw [hx10]; rfl
            have Hx10 := Lib.hid hx10
            clear hx10
            go_wp2_with fail
            go_roundg (gk - 1)
            case measure => have := Hk.out; omega
            case rel => exact ⟨k + 1, by rw [← Hm.out]; have := Hk.out; omega, by go_num, by rw [Htc.out, if_pos Hx10.out, ← Hc.out]; go_num, .inr (by rw [Nat.add_sub_cancel, ← Hc.out]; exact Hcm.out), rfl⟩
          · have hxn : ¬ x.toNat = 10 := fun e => hx10 (UInt8.toNat_inj.1 e)
            have Hx10 := Lib.hid hx10
            clear hx10
            go_wp2_with fail
            go_roundg (gk - 1)
            case measure => have := Hk.out; omega
            case rel => exact ⟨k + 1, by rw [← Hm.out]; have := Hk.out; omega, by go_num, by rw [Htc.out, if_neg Hx10.out, ← Hc.out]; rfl, .inr (by rw [Nat.add_sub_cancel, ← Hc.out]; exact Hcm.out), rfl⟩
        · have HP : Hid (∃ r, Ru.runs (Ar.s0 5 4 2) (Ru.lines l) = Ru.runs (Ar.s0 5 4 2) (Ru.lines (l.take k)) ++ r) := Lib.hid (Ru.runs_begin _ l k (by
            rcases Hkm.out with h | h
            · exact .inr (.inl h)
            · by_cases h0 : k = 0
              · exact .inr (.inl h0)
              · right; right
                obtain ⟨x, hx⟩ : ∃ x, l[k - 1]? = some x := ⟨l[k - 1]'(by rw [← Hm.out]; omega), List.getElem?_eq_getElem _⟩
                have ht := take_count hx
                rw [show k - 1 + 1 = k by omega, ← Hc.out] at ht
                by_cases hx10 : x = 10
                · rw [hx, hx10]
                · rw [if_neg hx10] at ht
                  exfalso; omega))
          obtain ⟨rest, hAB⟩ := HP.out
          have HRk := HRun.out k _ HE1.out
          have HRa := HRunA.out
          obtain ⟨A, hA⟩ : ∃ A, A = Ru.runs (Ar.s0 5 4 2) (Ru.lines (l.take k)) := ⟨_, rfl⟩
          obtain ⟨B, hB⟩ : ∃ B, B = Ru.runs (Ar.s0 5 4 2) (Ru.lines l) := ⟨_, rfl⟩
          rw [← hA] at HRk hAB
          rw [← hB] at HRa hAB
          have eA : ByteArray.extract ⟨B.toArray⟩ 0 A.length = ⟨A.toArray⟩ := by
            rw [hAB, ByteArray.extract_mk]
            simp
          have hle : A.length ≤ B.length := by rw [hAB, List.length_append]; omega
          have hleI : (A.length : Int) ≤ (B.length : Int) := by omega
          have eK := HSl.out k (by rw [← Hm.out]; omega)
          have HRkh := Lib.hid HRk
          have HRah := Lib.hid HRa
          have hkI : (k : Int) ≤ (s.size : Int) := by omega
          clear HRk HRa hA hB hAB
          go_wp2_with fail
          refine HRkh.out.mono ?_
          rintro e w2 ⟨rfl, hb2⟩
          have HR2 := Lib.hid (HRah.out _ (HE1.out.new hb2))
          have Hb2 := Lib.hid hb2
          clear hb2
          go_wp2_with fail
          refine HR2.out.mono ?_
          rintro e w3 ⟨rfl, hb3⟩
          have Hb3 := Lib.hid hb3
          clear hb3
          go_wp2_with fail
          go_ret
          exact ⟨rfl, (Hb1.out.trans (Hb2.out.mono Hb1.out.size)).trans (Hb3.out.mono (Nat.le_trans Hb1.out.size Hb2.out.size))⟩
      · have hkm : k = m := by have := Hk.out; omega
        have HP : Hid (∃ r, Ru.runs (Ar.s0 5 4 2) (Ru.lines l) = Ru.runs (Ar.s0 5 4 2) (Ru.lines (l.take k)) ++ r) := Lib.hid (Ru.runs_begin _ l k (.inl (by rw [← Hm.out]; omega)))
        have hltI : ¬ (k : Int) < (m : Int) := by omega
        have hle9 : k ≤ m := by omega
        clear hkm
        obtain ⟨rest, hAB⟩ := HP.out
        have HRk := HRun.out k _ HE1.out
        have HRa := HRunA.out
        obtain ⟨A, hA⟩ : ∃ A, A = Ru.runs (Ar.s0 5 4 2) (Ru.lines (l.take k)) := ⟨_, rfl⟩
        obtain ⟨B, hB⟩ : ∃ B, B = Ru.runs (Ar.s0 5 4 2) (Ru.lines l) := ⟨_, rfl⟩
        rw [← hA] at HRk hAB
        rw [← hB] at HRa hAB
        have eA : ByteArray.extract ⟨B.toArray⟩ 0 A.length = ⟨A.toArray⟩ := by
          rw [hAB, ByteArray.extract_mk]
          simp
        have hle : A.length ≤ B.length := by rw [hAB, List.length_append]; omega
        have hleI : (A.length : Int) ≤ (B.length : Int) := by omega
        have eK := HSl.out k (by rw [← Hm.out]; omega)
        have HRkh := Lib.hid HRk
        have HRah := Lib.hid HRa
        have hkI : (k : Int) ≤ (s.size : Int) := by omega
        clear HRk HRa hA hB hAB
        go_wp2_with fail
        refine HRkh.out.mono ?_
        rintro e w2 ⟨rfl, hb2⟩
        have HR2 := Lib.hid (HRah.out _ (HE1.out.new hb2))
        have Hb2 := Lib.hid hb2
        clear hb2
        go_wp2_with fail
        refine HR2.out.mono ?_
        rintro e w3 ⟨rfl, hb3⟩
        have Hb3 := Lib.hid hb3
        clear hb3
        go_wp2_with fail
        go_ret
        exact ⟨rfl, (Hb1.out.trans (Hb2.out.mono Hb1.out.size)).trans (Hb3.out.mono (Nat.le_trans Hb1.out.size Hb2.out.size))⟩
end Go.Proofs.YtneebcniofolmaaGreatDoor
