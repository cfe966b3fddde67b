/- A scrub of the array of disks, in plain. · The array of disks: what is seen, when one disk turns. · The methods of the array of disks: Fail, Replace, Raw, Lost, Poke. -/
import Derived.Test.YtneebcniofolmaaGreatDoorAryC
import Derived.Test.YtneebcniofolmaaGreatDoorAryY
import Derived.StillTailTactics
namespace Go.Proofs.YtneebcniofolmaaGreatDoor
set_option linter.unusedVariables false
theorem Gv.findF_lt {ps : List ByteArray} : ∀ (m i j : Nat), Gv.findF ps m i = some j → i ≤ j ∧ j < i + m
  | 0, i, j, h => by simp [Gv.findF] at h
  | m + 1, i, j, h => by
    unfold Gv.findF at h
    split at h
    · injection h with h; omega
    · have := Gv.findF_lt m (i + 1) j h; omega
namespace Ar.S
/-- part i is healed by the others -/
def mended (s : S) (row i : Nat) : S := s.setC (dk s.n row i) row ((Gv.heal (s.parts row) (Gv.marks2 s.n i i)).getD i ⟨#[]⟩)
def scrubAt (s : S) (row : Nat) : (Int × Int) × S :=
  if 0 < s.many row then ((0, 6), s)
  else if Gv.cleanB (s.parts row) then ((-1, 0), s)
  else match Gv.findF (s.parts row) s.n 0 with
    | none => ((0, 8), s)
    | some i => (((dk s.n row i : Int), 0), s.mended row i)
def scrub (s : S) (n row : Int) : (Int × Int) × S :=
  if n < 3 ∨ 10 < n then ((0, 1), s)
  else if ¬ s.hasRow row then ((0, 1), s)
  else if (s.n : Int) ≠ n then ((0, 3), s)
  else s.scrubAt row.toNat
theorem none_lost {s : S} {row : Nat} (h : ¬ 0 < s.many row) {d : Nat} (hd : d < s.n) : s.lost d row = false := by
  cases hl : s.lost d row with
  | false => rfl
  | true =>
    have : d ∈ (List.range s.n).filter (fun d => s.lost d row) := List.mem_filter.2 ⟨List.mem_range.2 hd, hl⟩
    have := List.length_pos_of_mem this
    exact absurd this h
theorem parts_full {s : S} (h : s.Ok) {row : Nat} (hm : ¬ 0 < s.many row) : s.parts row = s.full row := by
  have h3 := h.n3
  refine Gv.list_ext (by rw [parts_len, full_len]) (fun i hi => ?_)
  rw [parts_len] at hi
  rw [parts_at _ _ hi, full_at _ _ hi]
  unfold part
  rw [none_lost hm (dk_lt (by omega)), if_neg (by decide)]
theorem full_size {s : S} (h : s.Ok) {row : Nat} (hr : row < s.rows) (hm : ¬ 0 < s.many row) : ∀ x ∈ s.full row, x.size = s.size := by
  have h3 := h.n3
  intro x hx
  unfold full at hx
  obtain ⟨j, hj, rfl⟩ := List.mem_map.1 hx
  exact h.cl _ _ (dk_lt (by omega)) hr (none_lost hm (dk_lt (by omega)))
theorem mend_size {s : S} (h : s.Ok) {row i : Nat} (hr : row < s.rows) (hm : ¬ 0 < s.many row) (hi : i < s.n) : Gv.Cw s.size (s.n - 2) (Gv.heal (s.parts row) (Gv.marks2 s.n i i)) := by
  have h3 := h.n3
  rw [parts_full h hm]
  refine Gv.heal_cw2 (by rw [s.full_len]; omega) (by omega) (fun j hj _ => full_size h hr hm _ (Gv.getD_mem (by rw [s.full_len]; omega))) ⟨if i = 0 then 1 else 0, by split <;> omega, ?_⟩
  cases hl : Gv.lo (Gv.marks2 s.n i i) (if i = 0 then 1 else 0) with
  | false => rfl
  | true => have := (Gv.marks2_at.1 hl).2; split at this <;> omega
theorem mended_ok {s : S} (h : s.Ok) {row i : Nat} (hr : row < s.rows) (hm : ¬ 0 < s.many row) (hi : i < s.n) : (s.mended row i).Ok := by
  have h3 := h.n3
  have hc := mend_size h hr hm hi
  exact setC_ok h _ _ (hc.sz (by omega) _ (Gv.getD_mem (by rw [hc.len]; omega)))
theorem scrubAt_ok {s : S} (h : s.Ok) {row : Nat} (hr : row < s.rows) : (s.scrubAt row).2.Ok := by
  unfold scrubAt
  split
  · exact h
  · rename_i hm
    split
    · exact h
    · split
      · exact h
      · rename_i i hi
        have := (Gv.findF_lt _ _ _ hi).2
        exact mended_ok h hr hm (by omega)
/-- a row that is right -/
theorem scrub_right {s : S} (h : s.Ok) {row : Nat} (hm : ¬ 0 < s.many row) (hc : Gv.Cw s.size (s.n - 2) (s.full row)) : s.scrubAt row = ((-1, 0), s) := by
  unfold scrubAt
  rw [if_neg hm, parts_full h hm, if_pos hc.clean]
/-- a row of which one part is another one -/
theorem scrub_one {s : S} (h : s.Ok) {row i : Nat} {c : List ByteArray} (hr : row < s.rows) (hm : ¬ 0 < s.many row) (hc : Gv.Cw s.size (s.n - 2) c) (hi : i < s.n) (hp : ∀ j, j < s.n → j ≠ i → (s.full row).getD j ⟨#[]⟩ = c.getD j ⟨#[]⟩) (hne : (s.full row).getD i ⟨#[]⟩ ≠ c.getD i ⟨#[]⟩) :
    s.scrubAt row = (((dk s.n row i : Int), 0), s.setC (dk s.n row i) row (c.getD i ⟨#[]⟩)) := by
  have h3 := h.n3
  have h10 := h.n10
  have hfl := s.full_len row
  have hl := Gv.locate_one hc (by omega) (by omega) (ps := s.full row) (by omega) (full_size h hr hm) (i := i) (by omega) (fun j hj hji => hp j (by omega) hji) hne
  have hh : Gv.heal (s.full row) (Gv.marks2 s.n i i) = c := by
    rw [show s.n = s.n - 2 + 2 by omega]
    exact hc.heal (by omega) (by omega) (by omega) (fun j hj h1 _ => hp j (by omega) h1)
  unfold scrubAt mended
  rw [if_neg hm, parts_full h hm]
  unfold Gv.locate at hl
  rw [hfl] at hl
  split at hl
  · injection hl with hl _; omega
  · rename_i hcl
    rw [if_neg hcl]
    split at hl
    · rename_i j hj
      injection hl with hl _
      have : j = i := by omega
      subst this
      rw [hj]
      simp only [hh]
    · injection hl with _ hl; omega
/-- a row of which two parts are other ones is not right -/
theorem scrub_two {s : S} (h : s.Ok) {row x y : Nat} {c : List ByteArray} (hr : row < s.rows) (hm : ¬ 0 < s.many row) (hc : Gv.Cw s.size (s.n - 2) c) (hx : x < s.n) (hp : ∀ j, j < s.n → j ≠ x → j ≠ y → (s.full row).getD j ⟨#[]⟩ = c.getD j ⟨#[]⟩) (hne : (s.full row).getD x ⟨#[]⟩ ≠ c.getD x ⟨#[]⟩) :
    (s.scrubAt row).1 = (0, 8) ∨ (0 ≤ (s.scrubAt row).1.1 ∧ (s.scrubAt row).1.2 = 0) := by
  have h3 := h.n3
  have h10 := h.n10
  have hfl := s.full_len row
  unfold scrubAt
  rw [if_neg hm, parts_full h hm, if_neg]
  · split
    · exact .inl rfl
    · exact .inr ⟨Int.natCast_nonneg _, rfl⟩
  · intro hcl
    have e := hc.unique (Gv.clean_cw (n := s.size) (k := s.n - 2) (full_size h hr hm) (by omega) hcl) (by omega) (by omega) (x := x) (y := y) (fun j hj h1 h2 => hp j (by omega) h1 h2)
    exact hne (by rw [e])
end Ar.S
end Go.Proofs.YtneebcniofolmaaGreatDoor
namespace Go.Proofs.YtneebcniofolmaaGreatDoor
open Go.ChangeShapes Go.WideShapes Go.ChangeAt Go.RowKit
set_option linter.unusedVariables false
namespace ArySee
variable {K : Nat} {s : Ar.S} {ms : Nat → Dk.D}
theorem lostB (h : ArySee K s ms) {d : Nat} (hd : d < s.n) (row : Nat) : lostB ms s.bt d row = s.lost d row := by
  unfold Go.Proofs.YtneebcniofolmaaGreatDoor.lostB Ar.S.lost; rw [h.fl d hd]
theorem seen (h : ArySee K s ms) {row : Nat} (hr : row < s.rows) (j : Nat) (h0 : 0 < s.n) : seenAt ms s.bt (Ar.dk s.n row j) row = s.part row j := by
  have hd : Ar.dk s.n row j < s.n := Ar.dk_lt h0
  unfold seenAt Ar.S.part
  rw [h.lostB hd]
  cases hl : s.lost (Ar.dk s.n row j) row with
  | true => rfl
  | false => exact h.cl _ _ hd hr hl
theorem tabs (h : ArySee K s ms) {row : Nat} (hr : row < s.rows) (h0 : 0 < s.n) : tabS s.n (fun j => seenAt ms s.bt (Ar.dk s.n row j) row) = (s.parts row).map Value.string := by
  unfold tabS Ar.S.parts
  rw [List.map_map]
  exact List.map_congr_left (fun j _ => congrArg Value.string (h.seen hr j h0))
theorem tabb (h : ArySee K s ms) {row : Nat} (h0 : 0 < s.n) : tabB s.n (fun j => Go.Proofs.YtneebcniofolmaaGreatDoor.lostB ms s.bt (Ar.dk s.n row j) row) = (s.marks row).map Value.bool := by
  unfold tabB Ar.S.marks
  rw [List.map_map]
  exact List.map_congr_left (fun j _ => congrArg Value.bool (h.lostB (Ar.dk_lt h0) row))
theorem turn {K' d : Nat} {D : Dk.D} {s' : Ar.S} (h : ArySee K s ms) (hn : s'.n = s.n) (hrw : s'.rows = s.rows) (hsz : s'.size = s.size) (hK : K ≤ K') (h1 : D.many = s.rows) (h2 : D.size = s.size) (h3 : D.rows.length = 20) (h4 : D.failed = s'.fl d) (h5 : D.writes ≤ K')
    (h6 : ∀ r, r < s.rows → s'.lost d r = false → D.rows.getD r ⟨#[]⟩ = s'.c d r) (hfl : ∀ e, e ≠ d → s'.fl e = s.fl e) (hbt : ∀ e, e ≠ d → s'.bt e = s.bt e) (hc : ∀ e r, e ≠ d → s'.c e r = s.c e r) : ArySee K' s' (Ar.up ms d D) := by
  refine ⟨fun e he => ?_, fun e he => ?_, fun e he => ?_, fun e he => ?_, fun e he => ?_, fun e r he hr hl => ?_⟩
  all_goals
    rw [hn] at he
    by_cases hed : e = d
    · subst hed
      rw [Ar.up_self]
      first
        | (rw [hrw]; exact h1)
        | (rw [hsz]; exact h2)
        | exact h3
        | exact h4
        | exact h5
        | exact h6 r (by rw [← hrw]; exact hr) hl
    · rw [Ar.up_ne _ _ hed]
      first
        | (rw [hrw]; exact h.mn e he)
        | (rw [hsz]; exact h.sz e he)
        | exact h.ln e he
        | (rw [hfl e hed]; exact h.fl e he)
        | exact Nat.le_trans (h.wr e he) hK
        | (rw [hc e r hed]; exact h.cl e r he (by rw [← hrw]; exact hr) (by unfold Ar.S.lost at hl ⊢; rw [hfl e hed, hbt e hed] at hl; exact hl))
theorem failed {d : Nat} (h : ArySee K s ms) (hd : d < s.n) (hf : s.fl d = false) : ArySee K { s with fl := Ar.up s.fl d true } (Ar.up ms d (ms d).fail.2) ∧ (ms d).fail.1 = 0 := by
  have e : (ms d).fail = (0, { ms d with failed := true }) := by unfold Dk.D.fail; rw [h.fl d hd, hf]; rfl
  rw [e]
  refine ⟨h.turn rfl rfl rfl (Nat.le_refl _) (h.mn d hd) (h.sz d hd) (h.ln d hd) ?_ (h.wr d hd) ?_ (fun e he => Ar.up_ne _ _ he) (fun e _ => rfl) (fun e r _ => rfl), rfl⟩
  · show true = Ar.up s.fl d true d
    rw [Ar.up_self]
  · intro r _ hl
    have := (Ar.S.lost_lt hl).1
    have h9 : Ar.up s.fl d true d = false := this
    rw [Ar.up_self] at h9; cases h9
theorem replaced {d : Nat} (h : ArySee K s ms) (hd : d < s.n) (hf : s.fl d = true) (hz : s.rows ≤ 20) : ArySee K { s with fl := Ar.up s.fl d false, bt := Ar.up s.bt d 0 } (Ar.up ms d (ms d).replace.2) ∧ (ms d).replace.1 = 0 := by
  have e : (ms d).replace = (0, Dk.D.blank { ms d with failed := false }) := by unfold Dk.D.replace; rw [h.fl d hd, hf]; rfl
  rw [e]
  refine ⟨h.turn rfl rfl rfl (Nat.le_refl _) (h.mn d hd) (h.sz d hd) ?_ ?_ (h.wr d hd) ?_ (fun e he => Ar.up_ne _ _ he) (fun e he => Ar.up_ne _ _ he) (fun e r _ => rfl), rfl⟩
  · show (Dk.fresh _ _ _).length = 20
    rw [Dk.fresh_len]; exact h.ln d hd
  · show false = Ar.up s.fl d false d
    rw [Ar.up_self]
  · intro r _ hl
    have := (Ar.S.lost_lt hl).2
    have h9 : r < Ar.up s.bt d 0 d := this
    rw [Ar.up_self] at h9; omega
/-- what a disk that works does with a row -/
theorem write_eq {d row : Nat} {x : ByteArray} (h : ArySee K s ms) (hd : d < s.n) (hf : s.fl d = false) (hr : row < s.rows) (hx : x.size = s.size) : (ms d).write (row : Int) x = (0, { ms d with rows := (ms d).rows.set row x, writes := (ms d).writes + 1 }) := by
  have h0 : (ms d).ready (row : Int) = 0 := by
    unfold Dk.D.ready
    rw [h.fl d hd, hf, h.mn d hd, if_neg (by decide), if_neg (by omega)]
  unfold Dk.D.write
  rw [if_pos h0, if_pos (hx.trans (h.sz d hd).symm), Int.toNat_natCast]
theorem wrote {d row : Nat} {x : ByteArray} (h : ArySee K s ms) (hd : d < s.n) (hf : s.fl d = false) (hr : row < s.rows) (hz : s.rows ≤ 20) (hx : x.size = s.size) : ArySee (K + 1) (s.setC d row x) (Ar.up ms d ((ms d).write (row : Int) x).2) ∧ ((ms d).write (row : Int) x).1 = 0 := by
  have e := h.write_eq hd hf hr hx
  rw [e]
  refine ⟨h.turn rfl rfl rfl (by omega) (h.mn d hd) (h.sz d hd) ?_ (h.fl d hd) (by have := h.wr d hd; show (ms d).writes + 1 ≤ K + 1; omega) ?_ (fun e he => rfl) (fun e he => rfl) (fun e r he => ?_), rfl⟩
  · show ((ms d).rows.set row x).length = 20
    rw [List.length_set]; exact h.ln d hd
  · intro r hr' hl
    rw [Ar.S.setC_c]
    show ((ms d).rows.set row x).getD r ⟨#[]⟩ = _
    rw [Gv.set_getD (by rw [h.ln d hd]; omega)]
    by_cases e1 : r = row
    · rw [if_pos e1, if_pos ⟨rfl, e1⟩]
    · rw [if_neg e1, if_neg (fun h => e1 h.2)]; exact h.cl d r hd hr' hl
  · rw [Ar.S.setC_c, if_neg (fun h => he h.1)]
end ArySee
theorem AryAt.ext {w : World} {b g c : Nat} {mb db : Nat → Nat} {n rows size : Nat} {ms ms' : Nat → Dk.D} {bt bt' : Nat → Nat} (h : AryAt w b g c mb db n rows size ms bt) (h1 : ∀ d, d < n → ms' d = ms d) (h2 : ∀ d, d < n → bt' d = bt d) : AryAt w b g c mb db n rows size ms' bt' :=
  ⟨h.blk, h.cap, h.lst, fun i hi => by rw [h2 i hi]; exact h.mem i hi, fun i hi => by rw [h1 i hi]; exact h.dsk i hi, h.inj, h.inj2, h.ng⟩
def AryPost (F : Nat → Prop) (K b : Nat) (v : Value) (s : Ar.S) (w : World) (e : Ending) (w' : World) : Prop := e = .returned v ∧ AryOk F K w' b s ∧ Kept F w w'
theorem hasB_has (s : Ar.S) (d : Int) : hasB s.n d = decide (s.has d) := by
  unfold hasB Ar.S.has
  by_cases h1 : 0 ≤ d <;> by_cases h2 : d < (s.n : Int) <;> simp [h1, h2]
theorem hasB_row (s : Ar.S) (d : Int) : hasB s.rows d = decide (s.hasRow d) := by
  unfold hasB Ar.S.hasRow
  by_cases h1 : 0 ≤ d <;> by_cases h2 : d < (s.rows : Int) <;> simp [h1, h2]
end Go.Proofs.YtneebcniofolmaaGreatDoor
namespace Go.Proofs.YtneebcniofolmaaGreatDoor
open Go.ChangeShapes Go.WideShapes Go.ChangeAt Go.RowKit
set_option linter.unusedVariables false
variable {F : Nat → Prop} {K : Nat} {w : World} {b : Nat} {s : Ar.S}
set_option maxRecDepth 100000 in
theorem aFail (h : AryOk F K w b s) (d : Int) :
    Calls Tryz.prog 82 #[.pointer (some ⟨b, 0, none⟩), iv d] w (AryPost F K b (errV (s.fail d).1) (s.fail d).2 w) := by
  have HOK := Lib.hid h
  obtain ⟨ho, g, c, mb, db, ms, hA, hI, hS⟩ := h
  have HH := Lib.hid (ahas_any hA d)
  rw [hasB_has] at HH
  unfold Ar.S.fail
  by_cases hd : s.has d
  · obtain ⟨k, rfl, hk⟩ := Ar.S.has_nat hd
    rw [dec_t hd] at HH
    rw [if_pos hd, Int.toNat_natCast]
    obtain ⟨r, hr⟩ : ∃ r : Int × Ar.S, r = if s.fl k then (6, s) else (0, { s with fl := Ar.up s.fl k true }) := ⟨_, rfl⟩
    rw [← hr]
    have Hr := Lib.hid hr
    clear hr
    have HF := Lib.hid (fail_any (hA.dsk k hk))
    have c0 := hA.c0
    have c1 := hA.lst k hk
    have c2 := hA.m0 hk
    have hc1 := hA.cap.1
    have hc2 := hA.cap.2
    unfold maxLen at hc2
    have HA := Lib.hid hA
    have HI := Lib.hid hI
    have HS := Lib.hid hS
    have Hd := Lib.hid hd
    have Ho := Lib.hid ho
    have HFl := Lib.hid (hS.fl k hk)
    clear hA hI hS hd ho
    go_enter Tryz.func82, Tryz.ntmps82
    go_wp2_with fail
    refine HH.out.mono ?_
    rintro e w' ⟨rfl, rfl⟩
    go_wp2_with fail
    refine HF.out.mono ?_
    rintro e w1 ⟨rfl, hD, hK, _⟩
    have HD := Lib.hid hD
    have HK := Lib.hid hK
    clear hD hK
    go_wp2_with fail
    go_ret
    have HA2 := HA.out.turnD hk HK.out HD.out
    have HK2 := HK.out.mono (T' := F) (fun q _ e => by rw [e]; exact (HI.out.2.2 k hk).2)
    have hr := Hr.out
    cases hf : s.fl k with
    | true =>
      rw [hf, if_pos rfl] at hr
      subst hr
      have e : (ms k).fail = (6, ms k) := by unfold Dk.D.fail; rw [HFl.out, hf]; rfl
      rw [e] at HA2 ⊢
      exact ⟨rfl, ⟨Ho.out, g, c, mb, db, ms, HA2.ext (fun d _ => by by_cases e2 : d = k <;> simp [Ar.up, e2]) (fun _ _ => rfl), HI.out, HS.out⟩, HK2⟩
    | false =>
      have h1 := HS.out.failed hk hf
      have h2 := Ar.S.fail_ok Ho.out (k : Int)
      unfold Ar.S.fail at h2
      rw [if_pos Hd.out, Int.toNat_natCast, hf, if_neg (by decide)] at h2
      rw [hf, if_neg (by decide)] at hr
      subst hr
      rw [h1.2]
      exact ⟨rfl, ⟨h2, g, c, mb, db, _, HA2, HI.out, h1.1⟩, HK2⟩
  · rw [dec_f hd] at HH
    rw [if_neg hd]
    clear hA hI hS hd
    go_enter Tryz.func82, Tryz.ntmps82
    go_wp2_with fail
    refine HH.out.mono ?_
    rintro e w' ⟨rfl, rfl⟩
    go_wp2_with fail
    go_ret
    exact ⟨rfl, HOK.out, Kept.refl F w⟩
set_option maxRecDepth 100000 in
theorem aReplace (h : AryOk F K w b s) (d : Int) :
    Calls Tryz.prog 83 #[.pointer (some ⟨b, 0, none⟩), iv d] w (AryPost F K b (errV (s.replace d).1) (s.replace d).2 w) := by
  have HOK := Lib.hid h
  obtain ⟨ho, g, c, mb, db, ms, hA, hI, hS⟩ := h
  have HH := Lib.hid (ahas_any hA d)
  rw [hasB_has] at HH
  unfold Ar.S.replace
  by_cases hd : s.has d
  · obtain ⟨k, rfl, hk⟩ := Ar.S.has_nat hd
    rw [dec_t hd] at HH
    rw [if_pos hd, Int.toNat_natCast]
    have HF := Lib.hid (replace_any (hA.dsk k hk))
    have c0 := hA.c0
    have c1 := hA.lst k hk
    have c2 := hA.m0 hk
    have hc1 := hA.cap.1
    have hc2 := hA.cap.2
    unfold maxLen at hc2
    have HA := Lib.hid hA
    have HI := Lib.hid hI
    have HS := Lib.hid hS
    have Hd := Lib.hid hd
    have Ho := Lib.hid ho
    have HFl := Lib.hid (hS.fl k hk)
    cases hf : s.fl k with
    | false =>
      have e : (ms k).replace = (6, ms k) := by unfold Dk.D.replace; rw [HFl.out, hf]; rfl
      have He := Lib.hid e
      rw [e] at HF
      rw [if_neg (by decide)]
      have e6 : errV 6 = ev 6 := rfl
      rw [e6] at HF ⊢
      clear hA hI hS hd ho hf e
      go_enter Tryz.func83, Tryz.ntmps83
      go_wp2_with fail
      refine HH.out.mono ?_
      rintro e w' ⟨rfl, rfl⟩
      go_wp2_with fail
      refine HF.out.mono ?_
      rintro e w1 ⟨rfl, hD, hK⟩
      have HD := Lib.hid hD
      have HK := Lib.hid hK
      clear hD hK
      go_wp2_with fail
      go_ret
      have HA2 := HA.out.turnD hk HK.out HD.out
      have HK2 := HK.out.mono (T' := F) (fun q _ e => by rw [e]; exact (HI.out.2.2 k hk).2)
      exact ⟨rfl, ⟨Ho.out, g, c, mb, db, ms, HA2.ext (fun d _ => by by_cases e2 : d = k <;> simp [Ar.up, e2]) (fun _ _ => rfl), HI.out, HS.out⟩, HK2⟩
    | true =>
      have h1 := hS.replaced hk hf ho.r20
      have H1 := Lib.hid h1
      have h2 := Ar.S.replace_ok ho (k : Int)
      unfold Ar.S.replace at h2
      rw [if_pos hd, Int.toNat_natCast, hf, if_pos rfl] at h2
      have H2 := Lib.hid h2
      rw [h1.2, errV_0] at HF
      rw [if_pos rfl]
      clear hA hI hS hd ho hf h1 h2
      go_enter Tryz.func83, Tryz.ntmps83
      go_wp2_with fail
      refine HH.out.mono ?_
      rintro e w' ⟨rfl, rfl⟩
      go_wp2_with fail
      refine HF.out.mono ?_
      rintro e w1 ⟨rfl, hD, hK⟩
      have HA2 := Lib.hid (HA.out.turnD hk hK hD)
      have HK2 := Lib.hid (hK.mono (T' := F) (fun q _ e => by rw [e]; exact (HI.out.2.2 k hk).2))
      have d0 := HA2.out.c0
      have d1 := HA2.out.lst k hk
      have d2 := HA2.out.m1 hk
      have d3 := HA2.out.mf hk 1
      clear hD hK
      go_wp2_with fail
      go_ret
      refine ⟨rfl, ⟨H2.out, g, c, mb, db, _, HA2.out.setB hk 0, HI.out, H1.out.1⟩, HK2.out.setCell (p := ⟨mb k, 1, none⟩) (fun _ => (HI.out.2.2 k hk).1) _⟩
  · rw [dec_f hd] at HH
    rw [if_neg hd]
    clear hA hI hS hd
    go_enter Tryz.func83, Tryz.ntmps83
    go_wp2_with fail
    refine HH.out.mono ?_
    rintro e w' ⟨rfl, rfl⟩
    go_wp2_with fail
    go_ret
    exact ⟨rfl, HOK.out, Kept.refl F w⟩
end Go.Proofs.YtneebcniofolmaaGreatDoor
