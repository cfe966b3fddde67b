/- A redo log: the walk of Crash. -/
import Derived.Test.YtangcjffiooapaaDoorRedC
import Derived.Deep.QuietTactic
import Derived.BigQuiet
namespace Go.Proofs.YtangcjffiooapaaDoor
open Go.ChangeShapes Go.WideShapes Go.ChangeAt Go.RowKit
set_option linter.unusedVariables false
namespace Rd
theorem log_take (rs : List (List W)) (k : Nat) (x : List W) (hx : rs[k]? = some x) : log (rs.take (k + 1)) = log (rs.take k) ++ rcd x := by
  rw [List.take_add_one, hx]; exact log_snoc _ _
theorem log_split (rs : List (List W)) (t : List UInt8) (k : Nat) (x : List W) (hx : rs[k]? = some x) : ∃ u, log rs ++ t = log (rs.take k) ++ (rcd x ++ u) := by
  refine ⟨log (rs.drop (k + 1)) ++ t, ?_⟩
  have h : log rs = log (rs.take (k + 1)) ++ log (rs.drop (k + 1)) := by unfold log; rw [← List.flatMap_append, List.take_append_drop]
  rw [h, log_take rs k x hx]; simp [List.append_assoc]
theorem all_take (first : List ByteArray) (rs : List (List W)) (k : Nat) (x : List W) (hx : rs[k]? = some x) : all first (rs.take (k + 1)) = done (all first (rs.take k)) x := by
  rw [List.take_add_one, hx]; exact all_snoc _ _ _
theorem getD_at (a b : List UInt8) (i : Nat) : (a ++ b).getD (a.length + i) 0 = b.getD i 0 := by
  rw [List.getD_eq_getElem?_getD, List.getElem?_append_right (by omega), List.getD_eq_getElem?_getD, Nat.add_sub_cancel_left]
end Rd
theorem RedAt.putC {w : World} {b : Nat} {vf vc : Value} {s : Rd.R} (h : RedAt w b vf vc s) {vn : Value} {l : List ByteArray} (hv : OwnR w 0 9 vn (l.map Value.string)) (hb : vn.ownBlock ≠ some b) (hn : ∀ g, vf.ownBlock = some g → vn.ownBlock ≠ some g) :
    RedAt (w.setCell ⟨b, 1, none⟩ vn) b vf vn { s with cells := l } := by
  have hk : Kept (· = b) w (w.setCell ⟨b, 1, none⟩ vn) := (Kept.self b w).set1 _ _
  refine ⟨?_, h.first.kept hk (fun g hg e => h.bf (by rw [hg, e])), hv.kept hk (fun g hg e => hb (by rw [hg, e])), h.bf, hb, hn⟩
  rw [heap_setCell_same _ _ _ _ _ _ h.blk]; rfl
def CrashRel (F : Nat → Prop) (b : Nat) (vf vc : Value) (s : Rd.R) (rs : List (List Rd.W)) (w : World) (n gk : Nat) (v : Value) (wr : World) : Prop :=
  ∃ k : Nat, k + gk = n ∧ v = iv (Rd.log (rs.take k)).length ∧ RedAt wr b vf vc { s with cells := Rd.all s.first (rs.take k) } ∧ Kept F w wr
def CrashEnd (F : Nat → Prop) (b : Nat) (vf vc : Value) (s : Rd.R) (rs : List (List Rd.W)) (w wr : World) : Prop :=
  RedAt wr b vf vc { s with cells := Rd.all s.first rs } ∧ Kept F w wr
def CrashPost (F : Nat → Prop) (b : Nat) (s : Rd.R) (w : World) (e : Ending) (w' : World) : Prop := e = .returned (.tuple #[]) ∧ RedOk F w' b s ∧ Kept F w w'
set_option maxRecDepth 100000 in
set_option maxHeartbeats 2000000 in
theorem crash_any {F : Nat → Prop} {w : World} {b : Nat} {s : Rd.R} (h : RedOk F w b s) (hF : ∀ k, w.heap.size ≤ k → F k) (hb : s.bytes.length ≤ 1000000) (hsb : s.safe ≤ s.bytes.length) (hf40 : s.first.length ≤ 40)
    (keep : Int) (wk0 : -9223372036854775808 ≤ keep) (wk1 : keep ≤ 9223372036854775807) (rs : List (List Rd.W)) (tail : List UInt8) (hk : Rd.kept s keep = Rd.log rs ++ tail) (hrs : ∀ l ∈ rs, Rd.Ok s.first.length l) (ht : Rd.Short tail) :
    Calls Tryd.prog 41 #[.pointer (some ⟨b, 0, none⟩), iv keep] w (CrashPost F b (Rd.crash s rs) w) := by
  obtain ⟨vf, vc, h, hI⟩ := h
  have H := Lib.hid h
  have HI := Lib.hid hI
  have HF := Lib.hid hF
  have Hrs := Lib.hid hrs
  have Ht := Lib.hid ht
  have c2 := h.c2
  have c3 := h.c3
  have ff := h.f
  have hbs : (Rd.bs s.bytes).size = s.bytes.length := Rd.bs_size _
  obtain ⟨m, hm⟩ : ∃ m, m = s.bytes.length := ⟨_, rfl⟩
  obtain ⟨f, hf⟩ : ∃ f, f = s.safe := ⟨_, rfl⟩
  obtain ⟨q, hq⟩ : ∃ q : Nat, max 0 (min keep ((m : Int) - (f : Int))) = (q : Int) := ⟨(max 0 (min keep ((m : Int) - (f : Int)))).toNat, by omega⟩
  have hqm : f + q ≤ m := by omega
  have hx : (Rd.bs s.bytes).extract 0 (f + q) = Rd.bs (Rd.log rs ++ tail) := by
    rw [Rd.bs_extract, List.drop_zero, ← hk, Rd.kept, ← hm, ← hf, hq, Int.toNat_natCast]
  obtain ⟨u, hu⟩ : ∃ u, u = Rd.bs s.bytes := ⟨_, rfl⟩
  have hts : (Rd.bs (Rd.log rs ++ tail)).size = (Rd.log rs).length + tail.length := by rw [Rd.bs_size, List.length_append]
  have htl : (Rd.log rs ++ tail).length ≤ 1000000 := by rw [← hk, Rd.kept]; exact Nat.le_trans (List.length_take_le' _ _) hb
  rw [List.length_append] at htl
  obtain ⟨t, htt⟩ : ∃ t, t = Rd.bs (Rd.log rs ++ tail) := ⟨_, rfl⟩
  rw [← hu, ← htt] at hx
  rw [← hu] at c2 hbs
  rw [← hm] at hbs hb hsb
  rw [← hf] at c3 hsb
  rw [← htt] at hts
  have ht1 : t.size ≤ 1000000 := by omega
  have Hx := Lib.hid hx
  have Htt := Lib.hid htt
  have Hts := Lib.hid hts
  have HL := Lib.hid (fun (W : World) (hW : Below w.heap.size w W) => clone_str (s.first.map Value.string) (by intro u hu; obtain ⟨x, _, rfl⟩ := List.mem_map.1 hu; rfl) (by rw [List.length_map]; omega) vf W ((h.first.below hW).row))
  have hu1 : u.size ≤ 1000000 := by omega
  have v1 : IntKind.i64.wrap ((u.size : Int) - (f : Int)) = (u.size : Int) - (f : Int) := IntWalk.i64_in _ (by omega)
  have hq' : max 0 (min keep ((u.size : Int) - (f : Int))) = (q : Int) := by rw [hbs]; exact hq
  have v2 : IntKind.i64.wrap ((f : Int) + (q : Int)) = (f : Int) + (q : Int) := IntWalk.i64_in _ (by omega)
  have v3 : ((f : Int) + (q : Int)).toNat = f + q := by omega
  have v4 : (f : Int) + (q : Int) ≤ (u.size : Int) := by omega
  have hwb : b < w.heap.size := h.lt
  clear h hI hF hk hrs ht hm hf hq hx hu hts htl htt hb hbs
  go_enter Tryd.func41, Tryd.ntmps41
  go_wp2_with fail
  go_quiet (fail)
  obtain ⟨wA, hwA⟩ : ∃ wA, wA = w.drewN nq := ⟨_, rfl⟩
  have hbA : Below w.heap.size w wA := by rw [hwA]; exact bdrew (Below.refl _ _) nq
  rw [← hwA]
  have HA := Lib.hid (H.out.below hbA)
  have HKA := Lib.hid (Kept.new F hbA)
  have HLA := Lib.hid (HL.out wA hbA)
  have HzA := Lib.hid hbA.size
  have d0 := HA.out.c0
  clear hwA hbA HL c2 c3 ff v1 hq' v2 v3 v4
  have ff := HA.out.f
  go_wp2_with fail
  rw [Hx.out]
  refine HLA.out.mono ?_
  rintro e w1 ⟨v1, rfl, hown, hb1⟩
  have hO := OwnR.of_owns hown
  obtain ⟨p1, n1, k1, hv1⟩ := hO.slice
  subst hv1
  have hz1 := hb1.size
  have hA1 := HA.out.below hb1
  have hwA := HA.out.lt
  have hA2 := hA1.putC (l := s.first) (hO.mono (Nat.zero_le _)) (fun e => by have := (hO.lt e).1; omega) (fun g hg e => by have := (hO.lt e).1; have := (HA.out.first.lt hg).2; omega)
  have HA2 := Lib.hid hA2
  have HK2 : Hid (Kept F w (w1.setCell ⟨b, 1, none⟩ (.slice p1 n1 k1))) := Lib.hid ((HKA.out.also (Kept.new F hb1)).setCell (p := ⟨b, 1, none⟩) (fun _ => HI.out.b) _)
  have HIn : Hid (RedIn F b vf (.slice p1 n1 k1)) := Lib.hid ⟨HI.out.b, HI.out.f, fun g hg => HF.out g (Nat.le_trans HzA.out (hO.lt hg).1)⟩
  have hcell := (hb1.cell (p := ⟨b, 1, none⟩) hwA)
  have ff1 := hA1.f
  have c1 := hA1.c1
  clear hown hO hb1 hA1 hA2 HLA hcell d0 ff
  obtain ⟨n, hn⟩ : ∃ n, n = rs.length := ⟨_, rfl⟩
  have Hn := Lib.hid hn
  obtain ⟨z, hz⟩ : ∃ z, z = (Rd.log rs).length := ⟨_, rfl⟩
  have Hz := Lib.hid hz
  have hzt : z ≤ t.size := by rw [Hts.out, hz]; omega
  clear hn hz
  go_upto_block 0 with (fail)
  go_cut [5] (fun va wq => va = iv z ∧ ∃ wk, wk = wq ∧ CrashEnd F b vf (.slice p1 n1 k1) s rs w wk)
  case first => as_aux_lemma =>
    go_wp2_with fail
    go_loopg [5] n (fun gk v wr => CrashRel F b vf (.slice p1 n1 k1) s rs w n gk v wr)
    case atStart => exact ⟨0, by omega, rfl, HA2.out, HK2.out⟩
    case round =>
      clear c1 ff1
      obtain ⟨k, hk, rfl, hR, hK⟩ := hrel
      have Hk := Lib.hid hk
      have HR := Lib.hid hR
      have HK := Lib.hid hK
      clear hR hK
      by_cases hkn : k < n
      · obtain ⟨x, hx⟩ : ∃ x, rs[k]? = some x := ⟨rs[k]'(by rw [← Hn.out]; exact hkn), List.getElem?_eq_getElem _⟩
        have hox := Hrs.out x (List.mem_of_getElem? hx)
        have hbx := hox.body
        have hb1x : 1 ≤ (Rd.body x).length := by rw [Rd.body_len]; omega
        obtain ⟨y, hy⟩ := Rd.log_split rs tail k x hx
        have hta := Rd.log_take rs k x hx
        have htn := Rd.all_take s.first rs k x hx
        obtain ⟨a, ha⟩ : ∃ a, a = (Rd.log (rs.take k)).length := ⟨_, rfl⟩
        obtain ⟨m9, hm9⟩ : ∃ m, m = (Rd.body x).length := ⟨_, rfl⟩
        have hal : (Rd.log (rs.take (k + 1))).length = a + 2 + m9 := by rw [hta, List.length_append, Rd.rcd_len, ← ha, ← hm9]; omega
        have htl : t.data.toList = Rd.log (rs.take k) ++ (Rd.rcd x ++ y) := by rw [Htt.out, Rd.bs_data, hy]
        have htz : t.size = a + (2 + m9 + y.length) := by
          have e : t.size = t.data.toList.length := by rw [Array.length_toList]; rfl
          rw [e, htl, List.length_append, List.length_append, Rd.rcd_len, ← ha, ← hm9]
        obtain ⟨hi, hhi⟩ : ∃ hi, hi = m9 / 256 := ⟨_, rfl⟩
        obtain ⟨lo, hlo⟩ : ∃ lo, lo = m9 % 256 := ⟨_, rfl⟩
        have hhi8 : hi < 256 := by omega
        have hlo8 : lo < 256 := by omega
        have g0 := fun w => idx_strR (b := t) (i := a) (a : Int) rfl (by omega) w
        have g1 := fun w => idx_strR (b := t) (i := a + 1) ((a : Int) + 1) (by omega) (by omega) w
        have e0 : t.data.toList.getD a 0 = UInt8.ofNat hi := by
          have := Rd.getD_at (Rd.log (rs.take k)) (Rd.rcd x ++ y) 0
          rw [htl, show a = (Rd.log (rs.take k)).length + 0 by omega, this, hhi, hm9]; rfl
        have e1 : t.data.toList.getD (a + 1) 0 = UInt8.ofNat lo := by
          have := Rd.getD_at (Rd.log (rs.take k)) (Rd.rcd x ++ y) 1
          rw [htl, show a + 1 = (Rd.log (rs.take k)).length + 1 by omega, this, hlo, hm9]; rfl
        rw [e0, ofNat8R hhi8] at g0
        rw [e1, ofNat8R hlo8] at g1
        obtain ⟨e9, he9⟩ : ∃ e9, e9 = a + 2 + m9 := ⟨_, rfl⟩
        have hx2 : t.extract (a + 2) e9 = Rd.bs (Rd.body x) := by
          apply Rd.bs_ext
          rw [Htt.out, Rd.bs_extract, Rd.bs_data, Rd.bs_data, hy, List.take_append, List.drop_append, List.length_take, ← ha]
          rw [List.drop_eq_nil_of_le (by rw [List.length_take]; omega), List.nil_append, List.take_append, List.take_of_length_le (by rw [Rd.rcd_len]; omega), Rd.rcd_len, ← hm9, show e9 - a - (2 + m9) = 0 by omega, List.take_zero, List.append_nil, show a + 2 - min e9 a = 2 by omega]; rfl
        have hae : a + 2 + hi * 256 + lo = e9 := by omega
        have het : e9 ≤ t.size := by omega
        have hrd := redo_any HR.out x (by show (Rd.all s.first (rs.take k)).length ≤ 40; rw [Rd.all_len]; exact hf40) (by show Rd.Ok (Rd.all s.first (rs.take k)).length x; rw [Rd.all_len]; exact hox)
        have Hrd := Lib.hid (fun (W : World) (hW : RedAt W b vf (.slice p1 n1 k1) { s with cells := Rd.all s.first (rs.take k) }) => redo_any hW x (by show (Rd.all s.first (rs.take k)).length ≤ 40; rw [Rd.all_len]; exact hf40) (by show Rd.Ok (Rd.all s.first (rs.take k)).length x; rw [Rd.all_len]; exact hox))
        have Hx2 := Lib.hid hx2
        have Hal := Lib.hid (hal.trans he9.symm)
        have Htn := Lib.hid htn
        rw [← ha]
        clear hx hox hbx hb1x hy hta htn ha hm9 hal htl htz hhi hlo e0 e1 hx2 he9 hrd hk
        have n2 : (2 : Int) ≤ (t.size : Int) - (a : Int) := by omega
        have n3 : ¬ (t.size : Int) < (e9 : Int) := by omega
        go_wp2_with fail
        have v0 : IntKind.i64.wrap ((a : Int) + 2) = (a : Int) + 2 := IntWalk.i64_in _ (by omega)
        have v1 : IntKind.i64.wrap ((hi : Int) * 256) = (hi : Int) * 256 := IntWalk.i64_in _ (by omega)
        have v2 : IntKind.i64.wrap ((a : Int) + 2 + (hi : Int) * 256) = (a : Int) + 2 + (hi : Int) * 256 := IntWalk.i64_in _ (by omega)
        have v3 : IntKind.i64.wrap ((a : Int) + 1) = (a : Int) + 1 := IntWalk.i64_in _ (by omega)
        have v4 : IntKind.i64.wrap ((a : Int) + 2 + (hi : Int) * 256 + (lo : Int)) = (e9 : Int) := by
          have h : (a : Int) + 2 + (hi : Int) * 256 + (lo : Int) = (e9 : Int) := by omega
          rw [h]; exact IntWalk.i64_in _ (by omega)
        go_quiet (fail)
        obtain ⟨wB, hwB⟩ : ∃ wB, wB = wr.drewN nq := ⟨_, rfl⟩
        have hbB : Below wr.heap.size wr wB := by rw [hwB]; exact bdrew (Below.refl _ _) nq
        have HRB := Lib.hid (HR.out.below hbB)
        have HKB := Lib.hid (HK.out.also (Kept.new F hbB))
        rw [← hwB]
        clear hwB hbB g0 g1 v0 v1 v2 v3 v4
        go_wp2_with fail
        rw [Hx2.out]
        have HRD := Lib.hid (Hrd.out wB HRB.out)
        unfold RedoPost at HRD
        refine HRD.out.mono ?_
        rintro e w5 ⟨rfl, hR5, hk5⟩
        have HR5 := Lib.hid hR5
        have HK5 := Lib.hid (HKB.out.also (hk5.mono (T' := F) (fun k _ e => HIn.out.c k e)))
        clear hR5 hk5 HRD Hrd
        go_wp2_with fail
        go_roundg (gk - 1)
        case measure => have := Hk.out; omega
        case rel =>
          refine ⟨k + 1, by have := Hk.out; omega, by rw [Hal.out], ?_, HK5.out⟩
          have := HR5.out
          rw [Htn.out]; exact this
      · have hkn' : k = n := by have := Hk.out; omega
        have htk : rs.take k = rs := by rw [hkn', Hn.out]; exact List.take_length
        have HR' := HR
        rw [htk] at HR'
        rw [htk, ← Hz.out]
        have htz : t.size = z + tail.length := by rw [Hts.out, ← Hz.out]
        clear hk hkn' htk hkn
        rcases Ht.out with h1 | ⟨x, y, r, h1, h2⟩
        · have n2 : (t.size : Int) - (z : Int) < 2 := by omega
          clear h1 htz
          go_wp2_with fail
          go_meet
          exact ⟨rfl, _, rfl, HR'.out, HK.out⟩
        · have htl : t.data.toList = Rd.log rs ++ (x :: y :: r) := by rw [Htt.out, Rd.bs_data, h1]
          have hrl : tail.length = r.length + 2 := by rw [h1]; rfl
          obtain ⟨a, ha⟩ : ∃ a, a = z := ⟨_, rfl⟩
          obtain ⟨hi, hhi⟩ : ∃ hi, hi = x.toNat := ⟨_, rfl⟩
          obtain ⟨lo, hlo⟩ : ∃ lo, lo = y.toNat := ⟨_, rfl⟩
          have hhi8 : hi < 256 := by rw [hhi]; exact x.toNat_lt
          have hlo8 : lo < 256 := by rw [hlo]; exact y.toNat_lt
          have g0 := fun w => idx_strR (b := t) (i := a) (a : Int) rfl (by omega) w
          have g1 := fun w => idx_strR (b := t) (i := a + 1) ((a : Int) + 1) (by omega) (by omega) w
          have e0 : t.data.toList.getD a 0 = x := by
            have := Rd.getD_at (Rd.log rs) (x :: y :: r) 0
            rw [htl, show a = (Rd.log rs).length + 0 by rw [ha, Hz.out]; rfl, this]; rfl
          have e1 : t.data.toList.getD (a + 1) 0 = y := by
            have := Rd.getD_at (Rd.log rs) (x :: y :: r) 1
            rw [htl, show a + 1 = (Rd.log rs).length + 1 by rw [ha, Hz.out], this]; rfl
          rw [e0, ← hhi] at g0
          rw [e1, ← hlo] at g1
          obtain ⟨e9, he9⟩ : ∃ e9, e9 = a + 2 + hi * 256 + lo := ⟨_, rfl⟩
          have hae : a + 2 + hi * 256 + lo = e9 := he9.symm
          have n2 : (2 : Int) ≤ (t.size : Int) - (a : Int) := by omega
          have n3 : (t.size : Int) < (e9 : Int) := by omega
          have he97 : e9 ≤ 2000000 := by omega
          have Ha := Lib.hid ha
          have HR7 := Lib.hid HR'.out
          rw [← ha]
          clear h1 h2 htl hrl ha hhi hlo e0 e1 he9 htz
          go_wp2_with fail
          have v0 : IntKind.i64.wrap ((a : Int) + 2) = (a : Int) + 2 := IntWalk.i64_in _ (by omega)
          have v1 : IntKind.i64.wrap ((hi : Int) * 256) = (hi : Int) * 256 := IntWalk.i64_in _ (by omega)
          have v2 : IntKind.i64.wrap ((a : Int) + 2 + (hi : Int) * 256) = (a : Int) + 2 + (hi : Int) * 256 := IntWalk.i64_in _ (by omega)
          have v3 : IntKind.i64.wrap ((a : Int) + 1) = (a : Int) + 1 := IntWalk.i64_in _ (by omega)
          have v4 : IntKind.i64.wrap ((a : Int) + 2 + (hi : Int) * 256 + (lo : Int)) = (e9 : Int) := by
            have h : (a : Int) + 2 + (hi : Int) * 256 + (lo : Int) = (e9 : Int) := by omega
            rw [h]; exact IntWalk.i64_in _ (by omega)
          go_quiet (fail)
          obtain ⟨wB, hwB⟩ : ∃ wB, wB = wr.drewN nq := ⟨_, rfl⟩
          have hbB : Below wr.heap.size wr wB := by rw [hwB]; exact bdrew (Below.refl _ _) nq
          have HRB := Lib.hid (HR7.out.below hbB)
          have HKB := Lib.hid (HK.out.also (Kept.new F hbB))
          rw [← hwB]
          clear hwB hbB g0 g1 v0 v1 v2 v3 v4
          go_wp2_with fail
          go_meet
          exact ⟨by rw [Ha.out], _, rfl, HRB.out, HKB.out⟩
  case rest =>
    obtain ⟨rfl, wk, rfl, hR, hK⟩ := hcut
    have c5 := hR.c5
    have ff5 := hR.f
    have hx1 : t.extract 0 z = Rd.bs (Rd.log rs) := by
      rw [Htt.out, Rd.bs_extract, List.drop_zero, Hz.out, List.take_left]
    have Hx1 := Lib.hid hx1
    have h2 := hR.upd 2 (.string (Rd.bs (Rd.log rs))) (s' := { s with cells := Rd.all s.first rs, bytes := Rd.log rs }) rfl rfl rfl
    have h3 := h2.upd 3 (iv z) (s' := { s with cells := Rd.all s.first rs, bytes := Rd.log rs, safe := z }) rfl rfl rfl
    have h4 := h3.upd 4 (iv (-1)) (s' := { s with cells := Rd.all s.first rs, bytes := Rd.log rs, safe := z, left := -1 }) rfl rfl rfl
    have H5 := Lib.hid (h4.upd 5 (.bool false) (s' := { s with cells := Rd.all s.first rs, bytes := Rd.log rs, safe := z, left := -1, stopped := false }) rfl rfl rfl)
    have hbb : ∀ j v (W : World), Kept F w W → Kept F w (W.setCell ⟨b, j, none⟩ v) := fun j v W h => h.setCell (p := ⟨b, j, none⟩) (fun _ => HI.out.b) v
    have HK5 := Lib.hid (hbb 5 (.bool false) _ (hbb 4 (iv (-1)) _ (hbb 3 (iv z) _ (hbb 2 (.string (Rd.bs (Rd.log rs))) _ hK))))
    have c2 := hR.c2
    have c3 := hR.c3
    have c4 := hR.c4
    have hcr : Rd.crash s rs = { s with cells := Rd.all s.first rs, bytes := Rd.log rs, safe := z, left := -1, stopped := false } := by rw [Hz.out]; rfl
    have H6 := H5
    have HK6 := HK5
    rw [← Hx1.out] at H6 HK6
    rw [← hcr] at H6
    rw [Hx1.out] at H6
    have H7 : Hid (RedAt ((((wk.setCell ⟨b, 2, none⟩ (.string (t.extract 0 z))).setCell ⟨b, 3, none⟩ (iv z)).setCell ⟨b, 4, none⟩ (iv (-1))).setCell ⟨b, 5, none⟩ (.bool false)) b vf (.slice p1 n1 k1) (Rd.crash s rs)) := Lib.hid (by rw [Hx1.out]; exact H6.out)
    clear hR hK hx1 h2 h3 h4 hbb c1 ff1 H5 HK5 hcr H6
    go_wp2_with fail
    go_end0
    exact ⟨rfl, ⟨vf, _, H7.out, HIn.out⟩, HK6.out⟩
end Go.Proofs.YtangcjffiooapaaDoor
