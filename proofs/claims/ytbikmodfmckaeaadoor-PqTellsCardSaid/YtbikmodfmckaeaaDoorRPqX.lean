/- The walk of the references' P and Q. -/
import Derived.Test.YtbikmodfmckaeaaDoorRPqW
namespace Go.Proofs.YtbikmodfmckaeaaDoor
open Go.ChangeShapes Go.WideShapes Go.ChangeAt Go.RowKit
set_option linter.unusedVariables false
def RPQRel (w : World) (n gk : Nat) (v4 v5 v6 v7 : Value) (wr : World) : Prop :=
  ∃ k : Nat, k + gk = n ∧ v7 = iv k ∧ v6 = bv (Gf.pow 2 k) ∧ wr.ownsRow w.heap.size 5 1 v4 k ((Gv.tab k (fun _ => 1)).map bv) ∧ wr.ownsRow w.heap.size 5 1 v5 k ((Gv.tab k (fun i => Gf.pow 2 i)).map bv) ∧
    (∀ g, v4.ownBlock = some g → v5.ownBlock ≠ some g) ∧ Below w.heap.size w wr
set_option maxRecDepth 100000 in
set_option maxHeartbeats 2000000 in
theorem rpq_any (ls : List ByteArray) (hall : ∀ s ∈ ls, s.size = size0 ls) (hn : size0 ls ≤ 900000) (hl9 : ls.length ≤ 1000) (v : Value) (w : World) (hv : Strs w v ls) :
    Calls Tryd.prog 46 #[v] w (OfPost ls w) := by
  have HV := Lib.hid hv
  have HAll := Lib.hid hall
  have HN9 := Lib.hid hn
  obtain ⟨p, cap, rfl, hl, _⟩ := hv.get
  obtain ⟨n, hn0⟩ : ∃ m, m = ls.length := ⟨_, rfl⟩
  rw [← hn0] at hl hl9 HV ⊢
  have Hn := Lib.hid hn0
  clear hv hall hn hn0
  go_enter Tryd.func46, Tryd.ntmps46
  go_wp2_with fail
  go_loopg [4, 5, 6, 7] n (fun gk v4 v5 v6 v7 wr => RPQRel w n gk v4 v5 v6 v7 wr)
  case atStart => exact ⟨0, by omega, rfl, rfl, World.ownsRow_nil _ _ _ _, World.ownsRow_nil _ _ _ _, (fun g h => by cases h), Below.refl _ _⟩
  case round =>
    obtain ⟨k, hk, rfl, rfl, hO4, hO5, hap, hB⟩ := hrel
    have Hk := Lib.hid hk
    have HO4 := Lib.hid hO4
    have HO5 := Lib.hid hO5
    have HAp := Lib.hid hap
    have HB := Lib.hid hB
    have hz := hB.size
    clear hk hO4 hO5 hap hB
    by_cases hkn : k < n
    · have hk9 : k + 1 ≤ 1000000 := by omega
      have hu1 := (tab_succ k (fun _ => 1)).symm
      have hu2 := (tab_succ k (fun i => Gf.pow 2 i)).symm
      have hu3 : Gf.mul (Gf.pow 2 k) 2 = Gf.pow 2 (k + 1) := by rw [Gf.mul_comm]; rfl
      have Hu1 := Lib.hid hu1
      have Hu2 := Lib.hid hu2
      have Hu3 := Lib.hid hu3
      obtain ⟨x, hx⟩ : ∃ x, x = Gf.pow 2 k := ⟨_, rfl⟩
      rw [← hx] at Hu2 Hu3
      rw [← hx]
      clear hu1 hu2 hu3 hx
      go_wp2_with (at_builtin; refine app1 w wr (bv 1) 5 22 rfl _ _ rfl w.heap.size Tryd.underlying22 info_byteV rfl _ k _ rfl _ rfl rfl HO4.out rfl hk9 (by decide) hz HB.out ?_)
      intro v8 w8 hown8 hb8 hgr8 hat8
      rw [Hu1.out] at hown8
      have hk8 := Kept.grown hgr8
      have HO8 := Lib.hid hown8
      have HB8 := Lib.hid hb8
      have hz8 := hb8.size
      have HO58 := Lib.hid (Kept.owns HO5.out hk8 (fun g hg e => HAp.out g e.symm hg))
      have HAp8 : Hid (∀ g, v8.ownBlock = some g → u5.ownBlock ≠ some g) := Lib.hid (fun g hg e => by
        rcases hat8 with h | h
        · rw [h] at hg; exact HAp.out g hg e
        · rw [h] at hg
          have h1 := Option.some.inj hg
          have h2 := (HO5.out.lt g e).2
          omega)
      clear hown8 hb8 hgr8 hat8 hk8 HO4 HO5 HAp HB
      go_wp2_with (at_builtin; refine app1 w w8 (bv x) 5 22 rfl _ _ rfl w.heap.size Tryd.underlying22 info_byteV rfl _ k _ rfl _ rfl rfl HO58.out rfl hk9 (by decide) hz8 HB8.out ?_)
      intro v9 w9 hown9 hb9 hgr9 hat9
      rw [Hu2.out] at hown9
      have hk9' := Kept.grown hgr9
      have HO9 := Lib.hid hown9
      have HB9 := Lib.hid hb9
      have hz9 := hb9.size
      have HO49 := Lib.hid (Kept.owns HO8.out hk9' (fun g hg e => HAp8.out g hg e.symm))
      have HAp9 : Hid (∀ g, v8.ownBlock = some g → v9.ownBlock ≠ some g) := Lib.hid (fun g hg e => by
        rcases hat9 with h | h
        · rw [h] at e; exact HAp8.out g hg e
        · rw [h] at e
          have h1 := Option.some.inj e
          have h2 := (HO8.out.lt g hg).2
          omega)
      clear hown9 hb9 hgr9 hat9 hk9' HO8 HO58 HAp8 HB8
      go_wp2_with fail
      refine (rmul_any x 2 _ _ rfl rfl _).mono ?_
      rintro e w' ⟨rfl, n1, rfl⟩
      rw [Hu3.out]
      have hbd : Below w9.heap.size w9 (w9.drewN n1) := bdrew (Below.refl _ _) n1
      have HOa := Lib.hid (owns_below HO49.out hbd)
      have HOb := Lib.hid (owns_below HO9.out hbd)
      have HBc := Lib.hid (HB9.out.trans (hbd.mono hz9))
      clear hbd HO49 HO9 HB9
      go_wp2_with fail
      go_roundg (gk - 1)
      case measure => have := Hk.out; omega
      case rel => exact ⟨k + 1, by have := Hk.out; omega, by go_num, rfl, HOa.out, HOb.out, HAp9.out, HBc.out⟩
    · have hkn' : k = n := by have := Hk.out; omega
      subst hkn'
      have hB4 : OwnB wr w.heap.size u4 (Gv.tab k (fun _ => 1)) := OwnR.of_owns HO4.out
      have hB5 : OwnB wr w.heap.size u5 (Gv.tab k (fun i => Gf.pow 2 i)) := OwnR.of_owns HO5.out
      have HP := Lib.hid (rmix_any ls (Gv.tab k (fun _ => 1)) HAll.out HN9.out (by rw [Gv.tab_len, Hn.out]; exact Nat.le_refl _) _ u4 wr (HV.out.below HB.out) (OwnB.row hB4))
      have heP : Gv.sumS ls (Gv.at' (Gv.tab k (fun _ => 1))) = Gv.P ls := Gv.sumS_congr (fun i hi => by unfold Gv.at'; rw [Gv.tab_at _ (by rw [Hn.out]; exact hi)])
      have heQ : Gv.sumS ls (Gv.at' (Gv.tab k (fun i => Gf.pow 2 i))) = Gv.Q ls := Gv.sumS_congr (fun i hi => by unfold Gv.at'; rw [Gv.tab_at _ (by rw [Hn.out]; exact hi)])
      unfold CSumPost at HP
      rw [heP] at HP
      have HeQ := Lib.hid heQ
      have HB5 := Lib.hid hB5
      obtain ⟨p4, n4, c4, rfl⟩ := hB4.slice
      obtain ⟨p5, n5, c5, rfl⟩ := hB5.slice
      clear hB4 hB5 heP heQ HO4 HO5
      go_wp2_with fail
      refine HP.out.mono ?_
      rintro e w1 ⟨rfl, hb1⟩
      have HQ := Lib.hid (rmix_any ls (Gv.tab k (fun i => Gf.pow 2 i)) HAll.out HN9.out (by rw [Gv.tab_len, Hn.out]; exact Nat.le_refl _) _ _ w1 ((HV.out.below HB.out).below hb1) (OwnB.row (OwnR.below HB5.out hb1)))
      unfold CSumPost at HQ
      rw [HeQ.out] at HQ
      have HB1 := Lib.hid (HB.out.trans (hb1.mono hz))
      have hz1 := HB1.out.size
      clear hb1 HP
      go_wp2_with fail
      refine HQ.out.mono ?_
      rintro e w2 ⟨rfl, hb2⟩
      have HB2 := Lib.hid (HB1.out.trans (hb2.mono hz1))
      clear hb2 HQ
      go_wp2_with fail
      go_ret2
      exact ⟨rfl, HB2.out⟩
end Go.Proofs.YtbikmodfmckaeaaDoor
