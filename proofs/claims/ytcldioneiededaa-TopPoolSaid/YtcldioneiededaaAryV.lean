/- The array of disks: what is seen, when one disk turns. -/
import Derived.Test.YtcldioneiededaaAryY
import Derived.Test.YtcldioneiededaaAryS
namespace Go.Proofs.Ytcldioneiededaa
open Go.ChangeShapes Go.WideShapes Go.ChangeAt Go.RowKit
set_option linter.unusedVariables false
namespace ArySee
variable {K : Nat} {s : Ar.S} {ms : Nat → Dk.D}
theorem lostB (h : ArySee K s ms) {d : Nat} (hd : d < s.n) (row : Nat) : lostB ms s.bt d row = s.lost d row := by
  unfold Go.Proofs.Ytcldioneiededaa.lostB Ar.S.lost; rw [h.fl d hd]
theorem seen (h : ArySee K s ms) {row : Nat} (hr : row < s.rows) (j : Nat) (h0 : 0 < s.n) : seenAt ms s.bt (Ar.dk s.n row j) row = s.part row j := by
  have hd : Ar.dk s.n row j < s.n := Ar.dk_lt h0
  unfold seenAt Ar.S.part
  rw [h.lostB hd]
  cases hl : s.lost (Ar.dk s.n row j) row with
  | true => rfl
  | false => exact h.cl _ _ hd hr hl
theorem tabs (h : ArySee K s ms) {row : Nat} (hr : row < s.rows) (h0 : 0 < s.n) : tabS s.n (fun j => seenAt ms s.bt (Ar.dk s.n row j) row) = (s.parts row).map Value.string := by
  unfold tabS Ar.S.parts
  rw [List.map_map]
  exact List.map_congr_left (fun j _ => congrArg Value.string (h.seen hr j h0))
theorem tabb (h : ArySee K s ms) {row : Nat} (h0 : 0 < s.n) : tabB s.n (fun j => Go.Proofs.Ytcldioneiededaa.lostB ms s.bt (Ar.dk s.n row j) row) = (s.marks row).map Value.bool := by
  unfold tabB Ar.S.marks
  rw [List.map_map]
  exact List.map_congr_left (fun j _ => congrArg Value.bool (h.lostB (Ar.dk_lt h0) row))
theorem turn {K' d : Nat} {D : Dk.D} {s' : Ar.S} (h : ArySee K s ms) (hn : s'.n = s.n) (hrw : s'.rows = s.rows) (hsz : s'.size = s.size) (hK : K ≤ K') (h1 : D.many = s.rows) (h2 : D.size = s.size) (h3 : D.rows.length = 20) (h4 : D.failed = s'.fl d) (h5 : D.writes ≤ K')
    (h6 : ∀ r, r < s.rows → s'.lost d r = false → D.rows.getD r ⟨#[]⟩ = s'.c d r) (hfl : ∀ e, e ≠ d → s'.fl e = s.fl e) (hbt : ∀ e, e ≠ d → s'.bt e = s.bt e) (hc : ∀ e r, e ≠ d → s'.c e r = s.c e r) : ArySee K' s' (Ar.up ms d D) := by
  refine ⟨fun e he => ?_, fun e he => ?_, fun e he => ?_, fun e he => ?_, fun e he => ?_, fun e r he hr hl => ?_⟩
  all_goals
    rw [hn] at he
    by_cases hed : e = d
    · subst hed
      rw [Ar.up_self]
      first
        | (rw [hrw]; exact h1)
        | (rw [hsz]; exact h2)
        | exact h3
        | exact h4
        | exact h5
        | exact h6 r (by rw [← hrw]; exact hr) hl
    · rw [Ar.up_ne _ _ hed]
      first
        | (rw [hrw]; exact h.mn e he)
        | (rw [hsz]; exact h.sz e he)
        | exact h.ln e he
        | (rw [hfl e hed]; exact h.fl e he)
        | exact Nat.le_trans (h.wr e he) hK
        | (rw [hc e r hed]; exact h.cl e r he (by rw [← hrw]; exact hr) (by unfold Ar.S.lost at hl ⊢; rw [hfl e hed, hbt e hed] at hl; exact hl))
theorem failed {d : Nat} (h : ArySee K s ms) (hd : d < s.n) (hf : s.fl d = false) : ArySee K { s with fl := Ar.up s.fl d true } (Ar.up ms d (ms d).fail.2) ∧ (ms d).fail.1 = 0 := by
  have e : (ms d).fail = (0, { ms d with failed := true }) := by unfold Dk.D.fail; rw [h.fl d hd, hf]; rfl
  rw [e]
  refine ⟨h.turn rfl rfl rfl (Nat.le_refl _) (h.mn d hd) (h.sz d hd) (h.ln d hd) ?_ (h.wr d hd) ?_ (fun e he => Ar.up_ne _ _ he) (fun e _ => rfl) (fun e r _ => rfl), rfl⟩
  · show true = Ar.up s.fl d true d
    rw [Ar.up_self]
  · intro r _ hl
    have := (Ar.S.lost_lt hl).1
    have h9 : Ar.up s.fl d true d = false := this
    rw [Ar.up_self] at h9; cases h9
theorem replaced {d : Nat} (h : ArySee K s ms) (hd : d < s.n) (hf : s.fl d = true) (hz : s.rows ≤ 20) : ArySee K { s with fl := Ar.up s.fl d false, bt := Ar.up s.bt d 0 } (Ar.up ms d (ms d).replace.2) ∧ (ms d).replace.1 = 0 := by
  have e : (ms d).replace = (0, Dk.D.blank { ms d with failed := false }) := by unfold Dk.D.replace; rw [h.fl d hd, hf]; rfl
  rw [e]
  refine ⟨h.turn rfl rfl rfl (Nat.le_refl _) (h.mn d hd) (h.sz d hd) ?_ ?_ (h.wr d hd) ?_ (fun e he => Ar.up_ne _ _ he) (fun e he => Ar.up_ne _ _ he) (fun e r _ => rfl), rfl⟩
  · show (Dk.fresh _ _ _).length = 20
    rw [Dk.fresh_len]; exact h.ln d hd
  · show false = Ar.up s.fl d false d
    rw [Ar.up_self]
  · intro r _ hl
    have := (Ar.S.lost_lt hl).2
    have h9 : r < Ar.up s.bt d 0 d := this
    rw [Ar.up_self] at h9; omega
/-- what a disk that works does with a row -/
theorem write_eq {d row : Nat} {x : ByteArray} (h : ArySee K s ms) (hd : d < s.n) (hf : s.fl d = false) (hr : row < s.rows) (hx : x.size = s.size) : (ms d).write (row : Int) x = (0, { ms d with rows := (ms d).rows.set row x, writes := (ms d).writes + 1 }) := by
  have h0 : (ms d).ready (row : Int) = 0 := by
    unfold Dk.D.ready
    rw [h.fl d hd, hf, h.mn d hd, if_neg (by decide), if_neg (by omega)]
  unfold Dk.D.write
  rw [if_pos h0, if_pos (hx.trans (h.sz d hd).symm), Int.toNat_natCast]
theorem wrote {d row : Nat} {x : ByteArray} (h : ArySee K s ms) (hd : d < s.n) (hf : s.fl d = false) (hr : row < s.rows) (hz : s.rows ≤ 20) (hx : x.size = s.size) : ArySee (K + 1) (s.setC d row x) (Ar.up ms d ((ms d).write (row : Int) x).2) ∧ ((ms d).write (row : Int) x).1 = 0 := by
  have e := h.write_eq hd hf hr hx
  rw [e]
  refine ⟨h.turn rfl rfl rfl (by omega) (h.mn d hd) (h.sz d hd) ?_ (h.fl d hd) (by have := h.wr d hd; show (ms d).writes + 1 ≤ K + 1; omega) ?_ (fun e he => rfl) (fun e he => rfl) (fun e r he => ?_), rfl⟩
  · show ((ms d).rows.set row x).length = 20
    rw [List.length_set]; exact h.ln d hd
  · intro r hr' hl
    rw [Ar.S.setC_c]
    show ((ms d).rows.set row x).getD r ⟨#[]⟩ = _
    rw [Gv.set_getD (by rw [h.ln d hd]; omega)]
    by_cases e1 : r = row
    · rw [if_pos e1, if_pos ⟨rfl, e1⟩]
    · rw [if_neg e1, if_neg (fun h => e1 h.2)]; exact h.cl d r hd hr' hl
  · rw [Ar.S.setC_c, if_neg (fun h => he h.1)]
end ArySee
theorem AryAt.ext {w : World} {b g c : Nat} {mb db : Nat → Nat} {n rows size : Nat} {ms ms' : Nat → Dk.D} {bt bt' : Nat → Nat} (h : AryAt w b g c mb db n rows size ms bt) (h1 : ∀ d, d < n → ms' d = ms d) (h2 : ∀ d, d < n → bt' d = bt d) : AryAt w b g c mb db n rows size ms' bt' :=
  ⟨h.blk, h.cap, h.lst, fun i hi => by rw [h2 i hi]; exact h.mem i hi, fun i hi => by rw [h1 i hi]; exact h.dsk i hi, h.inj, h.inj2, h.ng⟩
def AryPost (F : Nat → Prop) (K b : Nat) (v : Value) (s : Ar.S) (w : World) (e : Ending) (w' : World) : Prop := e = .returned v ∧ AryOk F K w' b s ∧ Kept F w w'
theorem hasB_has (s : Ar.S) (d : Int) : hasB s.n d = decide (s.has d) := by
  unfold hasB Ar.S.has
  by_cases h1 : 0 ≤ d <;> by_cases h2 : d < (s.n : Int) <;> simp [h1, h2]
theorem hasB_row (s : Ar.S) (d : Int) : hasB s.rows d = decide (s.hasRow d) := by
  unfold hasB Ar.S.hasRow
  by_cases h1 : 0 ≤ d <;> by_cases h2 : d < (s.rows : Int) <;> simp [h1, h2]
end Go.Proofs.Ytcldioneiededaa
