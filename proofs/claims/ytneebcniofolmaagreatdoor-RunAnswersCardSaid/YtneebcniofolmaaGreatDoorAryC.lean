/- The array of disks, in plain: what each thing that is done leaves. -/
import Derived.Test.YtneebcniofolmaaGreatDoorAryP
namespace Go.Proofs.YtneebcniofolmaaGreatDoor
set_option linter.unusedVariables false
namespace Ar.S
theorem lost_lt {s : S} {d row : Nat} (h : s.lost d row = false) : s.fl d = false ∧ row < s.bt d := by
  unfold lost at h
  rw [Bool.or_eq_false_iff] at h
  exact ⟨h.1, by have := of_decide_eq_false h.2; omega⟩
theorem fail_ok {s : S} (h : s.Ok) (d : Int) : (s.fail d).2.Ok := by
  unfold fail
  split
  · split
    · exact h
    · refine ⟨h.n3, h.n10, h.r1, h.r20, h.z1, h.z16, fun e r he hr hl => h.cl e r he hr ?_, h.bt⟩
      have hl := lost_lt hl
      have h1 : s.fl e = false := by
        have h5 : up s.fl d.toNat true e = false := hl.1
        unfold up at h5
        split at h5
        · cases h5
        · exact h5
      unfold lost
      rw [h1, decide_eq_false (by have := hl.2; show ¬ s.bt e ≤ r; have h3 : r < s.bt e := hl.2; omega)]; rfl
  · exact h
theorem replace_ok {s : S} (h : s.Ok) (d : Int) : (s.replace d).2.Ok := by
  unfold replace
  split
  · split
    · refine ⟨h.n3, h.n10, h.r1, h.r20, h.z1, h.z16, fun e r he hr hl => ?_, fun e he => ?_⟩
      · have hl := lost_lt hl
        have h1 : r < up s.bt d.toNat 0 e := hl.2
        have h2 : up s.fl d.toNat false e = false := hl.1
        have hne : e ≠ d.toNat := fun e2 => by rw [e2, up_self] at h1; omega
        rw [up_ne _ _ hne] at h1 h2
        refine h.cl e r he hr ?_
        unfold lost
        rw [h2, decide_eq_false (by omega)]; rfl
      · show up s.bt d.toNat 0 e ≤ s.rows
        unfold up
        split
        · omega
        · exact h.bt e he
    · exact h
  · exact h
theorem setC_c (s : S) (d row : Nat) (b : ByteArray) (e r : Nat) : (s.setC d row b).c e r = if e = d ∧ r = row then b else s.c e r := by
  show up s.c d (up (s.c d) row b) e r = _
  unfold up
  by_cases h1 : e = d
  · subst h1
    rw [if_pos rfl]
    by_cases h2 : r = row
    · rw [if_pos h2, if_pos ⟨rfl, h2⟩]
    · rw [if_neg h2, if_neg (fun h => h2 h.2)]
  · rw [if_neg h1, if_neg (fun h => h1 h.1)]
theorem setC_ok {s : S} (h : s.Ok) (d row : Nat) {b : ByteArray} (hb : b.size = s.size) : (s.setC d row b).Ok := by
  refine ⟨h.n3, h.n10, h.r1, h.r20, h.z1, h.z16, fun e r he hr hl => ?_, h.bt⟩
  rw [setC_c]
  split
  · exact hb
  · exact h.cl e r he hr hl
theorem heal_size {s : S} (h : s.Ok) {row j : Nat} (hr : row < s.rows) (h2 : ¬ 2 < s.many row) (hj : j < s.n) : ((s.heal row).getD j ⟨#[]⟩).size = s.size := by
  have h3 := h.n3
  have hc := heal_cw h hr h2
  exact hc.sz (by omega) _ (Gv.getD_mem (by rw [hc.len]; omega))
theorem built_ok {s : S} (h : s.Ok) {d : Nat} (hd : d < s.n) (hlt : s.bt d < s.rows) (h2 : ¬ 2 < s.many (s.bt d)) (hf : s.fl d = false) : (s.built d).Ok := by
  have h3 := h.n3
  refine ⟨h.n3, h.n10, h.r1, h.r20, h.z1, h.z16, fun e r he hr hl => ?_, fun e he => ?_⟩
  · show ((s.setC d (s.bt d) _).c e r).size = s.size
    rw [setC_c]
    split
    · exact heal_size h hlt h2 (ix_lt (by omega))
    · rename_i hn
      refine h.cl e r he hr ?_
      have hl := lost_lt hl
      have h1 : r < up s.bt d (s.bt d + 1) e := hl.2
      have h4 : s.fl e = false := hl.1
      unfold lost
      rw [h4]
      have : r < s.bt e := by
        unfold up at h1
        split at h1
        · rename_i e2; subst e2
          have : r ≠ s.bt e := fun e3 => hn ⟨rfl, e3⟩
          omega
        · exact h1
      rw [decide_eq_false (by omega)]; rfl
  · show up s.bt d (s.bt d + 1) e ≤ s.rows
    unfold up
    split
    · omega
    · exact h.bt e he
theorem has_nat {s : S} {d : Int} (h : s.has d) : ∃ k : Nat, d = k ∧ k < s.n := ⟨d.toNat, by have := h.1; omega, by have := h.2; have := h.1; omega⟩
theorem hasRow_nat {s : S} {d : Int} (h : s.hasRow d) : ∃ k : Nat, d = k ∧ k < s.rows := ⟨d.toNat, by have := h.1; omega, by have := h.2; have := h.1; omega⟩
theorem hasBlock_nat {s : S} {d : Int} (h : s.hasBlock d) : ∃ k : Nat, d = k ∧ k < s.rows * (s.n - 2) := ⟨d.toNat, by have := h.1; omega, by have := h.2; have := h.1; omega⟩
theorem rebuild_ok {s : S} (h : s.Ok) (d : Int) : (s.rebuild d).2.Ok := by
  unfold rebuild
  split
  · rename_i hd
    obtain ⟨k, rfl, hk⟩ := has_nat hd
    simp only [Int.toNat_natCast]
    split
    · exact h
    · rename_i hc
      split
      · exact h
      · rename_i h2
        have := h.bt k hk
        exact built_ok h hk (by have : s.bt k ≠ s.rows := fun e => hc (.inr e); omega) h2 (by cases hf : s.fl k with | false => rfl | true => exact absurd (.inl hf) hc)
  · exact h
theorem turned_cw {s : S} (h : s.Ok) {row j : Nat} {x : ByteArray} (hr : row < s.rows) (h2 : ¬ 2 < s.many row) (hx : x.size = s.size) : Gv.Cw s.size (s.n - 2) (s.turned row j x) := by
  have h3 := h.n3
  have hc := heal_cw h hr h2
  refine ⟨_, ?_, ?_, rfl⟩
  · rw [List.length_set, List.length_take, hc.len]; omega
  · intro y hy
    rcases List.mem_or_eq_of_mem_set hy with h4 | h4
    · exact hc.sz (by omega) y (List.mem_of_mem_take h4)
    · rw [h4]; exact hx
theorem putRow_ok {s : S} (h : s.Ok) {row : Nat} {l : List ByteArray} (hl : Gv.Cw s.size (s.n - 2) l) : (s.putRow row l).Ok := by
  have h3 := h.n3
  refine ⟨h.n3, h.n10, h.r1, h.r20, h.z1, h.z16, fun e r he hr hlo => ?_, h.bt⟩
  show (if r = row then l.getD (ix s.n row e) ⟨#[]⟩ else s.c e r).size = s.size
  split
  · refine hl.sz (by omega) _ (Gv.getD_mem ?_)
    have := ix_lt (n := s.n) (row := row) (d := e) (by omega)
    rw [hl.len]; omega
  · exact h.cl e r he hr hlo
theorem row_lt {s : S} (h : s.Ok) {b : Nat} (hb : b < s.rows * (s.n - 2)) : b / (s.n - 2) < s.rows := by
  have := h.n3
  exact (Nat.div_lt_iff_lt_mul (by omega)).2 hb
theorem write_ok {s : S} (h : s.Ok) (b : Int) (x : ByteArray) : (s.write b x).2.Ok := by
  unfold write
  split
  · rename_i hb
    obtain ⟨k, rfl, hk⟩ := hasBlock_nat hb
    simp only [Int.toNat_natCast]
    split
    · rename_i hx
      split
      · exact h
      · rename_i h2
        exact putRow_ok h (turned_cw h (row_lt h hk) h2 hx)
    · exact h
  · exact h
theorem poke_ok {s : S} (h : s.Ok) (d row : Int) (x : ByteArray) : (s.poke d row x).2.Ok := by
  unfold poke
  split
  · split
    · rename_i hx
      split
      · exact h
      · exact setC_ok h _ _ hx
    · exact h
  · exact h
/-- rows that are right -/
theorem heal_full {s : S} (h : s.Ok) {row : Nat} (hcw : Gv.Cw s.size (s.n - 2) (s.full row)) (h2 : ¬ 2 < s.many row) : s.heal row = s.full row := by
  have h3 := h.n3
  have h10 := h.n10
  have hg := s.many_gone h row
  have hps : ∀ i, i < s.n → Gv.lo (s.marks row) i = false → (s.parts row).getD i ⟨#[]⟩ = (s.full row).getD i ⟨#[]⟩ := fun i hi h0 => by
    rw [s.marks_at row hi] at h0
    rw [s.parts_at row hi, s.full_at row hi]
    unfold part
    rw [h0, if_neg (by decide)]
  have hxy : ∃ x y, ∀ i, i < s.n → Gv.lo (s.marks row) i = true → i = x ∨ i = y := by
    have hm : ∀ i, i < s.n → Gv.lo (s.marks row) i = true → i ∈ Gv.goneL (s.marks row) s.n := fun i hi h0 => Gv.gone_mem.2 ⟨hi, h0⟩
    generalize Gv.goneL (s.marks row) s.n = g at *
    match g, hg with
    | [], _ => exact ⟨0, 0, fun i hi h0 => by have := hm i hi h0; simp at this⟩
    | [a], _ => exact ⟨a, a, fun i hi h0 => by have := hm i hi h0; simp at this; exact .inl this⟩
    | [a, b], _ => exact ⟨a, b, fun i hi h0 => by have := hm i hi h0; simpa using this⟩
    | a :: b :: c :: l, hg => simp at hg; omega
  obtain ⟨x, y, hxy⟩ := hxy
  obtain ⟨ds, h1, h4, h5⟩ := hcw.ex
  unfold heal
  rw [h5] at hps ⊢
  exact Gv.heal_right (x := x) (y := y) h4 (by omega) (by omega) (by rw [s.parts_len]; omega) (fun i hi h0 => hps i (by omega) h0) (fun i h0 => by
    by_cases hi : i < s.n
    · exact hxy i hi h0
    · exfalso
      unfold Gv.lo at h0
      rw [List.getD_eq_getElem?_getD, List.getElem?_eq_none (by rw [s.marks_len]; omega)] at h0
      cases h0)
/-- all rows are right -/
structure Good (s : S) : Prop extends Ok s where
  cw : ∀ row, row < s.rows → Gv.Cw s.size (s.n - 2) (s.full row)
theorem full_congr {s t : S} (hn : s.n = t.n) {row : Nat} (h : ∀ d, s.c d row = t.c d row) : s.full row = t.full row := by
  unfold full
  rw [hn]
  exact List.map_congr_left (fun j _ => h _)
theorem fail_good {s : S} (h : s.Good) (d : Int) : (s.fail d).2.Good := by
  refine ⟨fail_ok h.toOk d, ?_⟩
  unfold fail
  split
  · split
    · exact h.cw
    · exact h.cw
  · exact h.cw
theorem replace_good {s : S} (h : s.Good) (d : Int) : (s.replace d).2.Good := by
  refine ⟨replace_ok h.toOk d, ?_⟩
  unfold replace
  split
  · split
    · exact h.cw
    · exact h.cw
  · exact h.cw
theorem built_c {s : S} (h : s.Good) {d : Nat} (hd : d < s.n) (hlt : s.bt d < s.rows) (h2 : ¬ 2 < s.many (s.bt d)) (e r : Nat) : (s.built d).c e r = s.c e r := by
  have h3 := h.n3
  show (s.setC d (s.bt d) _).c e r = _
  rw [setC_c]
  split
  · rename_i he
    rw [he.1, he.2, heal_full h.toOk (h.cw _ hlt) h2, s.full_at _ (ix_lt (by omega)), dk_ix h.n3 h.n10 hd]
  · rfl
theorem rebuild_good {s : S} (h : s.Good) (d : Int) : (s.rebuild d).2.Good := by
  refine ⟨rebuild_ok h.toOk d, ?_⟩
  unfold rebuild
  split
  · rename_i hd
    obtain ⟨k, rfl, hk⟩ := has_nat hd
    simp only [Int.toNat_natCast]
    split
    · exact h.cw
    · rename_i hc
      split
      · exact h.cw
      · rename_i h2
        have h4 := h.bt k hk
        intro row hr
        have e : (s.built k).full row = s.full row := full_congr (s := s.built k) (t := s) rfl (fun d => built_c h hk (by have : s.bt k ≠ s.rows := fun e => hc (.inr e); omega) h2 d row)
        show Gv.Cw s.size (s.n - 2) ((s.built k).full row)
        rw [e]; exact h.cw row hr
  · exact h.cw
theorem putRow_full {s : S} (h : s.Ok) {row r : Nat} {l : List ByteArray} (hl : l.length = s.n) : (s.putRow row l).full r = if r = row then l else s.full r := by
  have h3 := h.n3
  split
  · rename_i e
    subst e
    refine Gv.list_ext (by rw [full_len, hl]; rfl) (fun i hi => ?_)
    rw [full_len] at hi
    rw [full_at _ _ hi]
    show (if r = r then l.getD (ix s.n r (dk s.n r i)) ⟨#[]⟩ else _) = _
    rw [if_pos rfl, ix_dk h.n3 h.n10 hi]
  · rename_i hn
    refine full_congr (s := s.putRow row l) (t := s) rfl (fun d => ?_)
    show (if r = row then _ else s.c d r) = _
    rw [if_neg hn]
theorem write_good {s : S} (h : s.Good) (b : Int) (x : ByteArray) : (s.write b x).2.Good := by
  have h3 := h.n3
  refine ⟨write_ok h.toOk b x, ?_⟩
  unfold write
  split
  · rename_i hb
    obtain ⟨k, rfl, hk⟩ := hasBlock_nat hb
    simp only [Int.toNat_natCast]
    split
    · rename_i hx
      split
      · exact h.cw
      · rename_i h2
        have hc := turned_cw h.toOk (row := k / (s.n - 2)) (j := k % (s.n - 2)) (row_lt h.toOk hk) h2 hx
        intro row hr
        show Gv.Cw s.size (s.n - 2) ((s.putRow _ _).full row)
        rw [putRow_full h.toOk (by rw [hc.len]; omega)]
        split
        · exact hc
        · exact h.cw row hr
    · exact h.cw
  · exact h.cw
/-- the block, where it stands -/
def blk (s : S) (b : Nat) : ByteArray := s.c (dk s.n (b / (s.n - 2)) (b % (s.n - 2))) (b / (s.n - 2))
theorem blk_full {s : S} (h : s.Ok) (b : Nat) : s.blk b = (s.full (b / (s.n - 2))).getD (b % (s.n - 2)) ⟨#[]⟩ := by
  have h3 := h.n3
  rw [s.full_at _ (by have := Nat.mod_lt b (show s.n - 2 > 0 by omega); omega)]; rfl
theorem readAt_good {s : S} (h : s.Good) {b : Nat} (hb : b < s.rows * (s.n - 2)) (h2 : ¬ 2 < s.many (b / (s.n - 2))) : s.readAt b = (s.blk b, 0) := by
  unfold readAt
  split
  · rfl
  · rw [heal_full h.toOk (h.cw _ (row_lt h.toOk hb)) h2, ← blk_full h.toOk]
theorem read_good {s : S} (h : s.Good) {b : Nat} (hb : b < s.rows * (s.n - 2)) (h2 : ¬ 2 < s.many (b / (s.n - 2))) : s.read (b : Int) = (s.blk b, 0) := by
  unfold read
  rw [if_pos ⟨by omega, by omega⟩, Int.toNat_natCast, readAt_good h hb h2]
theorem turned_at {s : S} (h : s.Good) {row j i : Nat} {x : ByteArray} (hr : row < s.rows) (h2 : ¬ 2 < s.many row) (hj : j < s.n - 2) (hi : i < s.n - 2) : (s.turned row j x).getD i ⟨#[]⟩ = if i = j then x else (s.full row).getD i ⟨#[]⟩ := by
  have hfl := s.full_len row
  unfold turned
  rw [heal_full h.toOk (h.cw _ hr) h2, Gv.all_at (by rw [List.length_set, List.length_take]; omega), Gv.set_getD (by rw [List.length_take]; omega)]
  split
  · rfl
  · rw [List.getD_eq_getElem?_getD, List.getD_eq_getElem?_getD, List.getElem?_take, if_pos hi]
/-- what a write does to the blocks -/
theorem write_blk {s : S} (h : s.Good) {b : Nat} {x : ByteArray} (hb : b < s.rows * (s.n - 2)) (hx : x.size = s.size) (h2 : ¬ 2 < s.many (b / (s.n - 2))) : (s.write b x).1 = 0 ∧ ∀ q, q < s.rows * (s.n - 2) → (s.write b x).2.blk q = if q = b then x else s.blk q := by
  have h3 := h.n3
  have hk : s.n - 2 > 0 := by omega
  have e : s.write b x = (0, s.putRow (b / (s.n - 2)) (s.turned (b / (s.n - 2)) (b % (s.n - 2)) x)) := by
    unfold write
    rw [if_pos ⟨by omega, by omega⟩, if_pos hx, Int.toNat_natCast, if_neg h2]
  have hok := write_ok h.toOk (b : Int) x
  rw [e] at hok ⊢
  refine ⟨rfl, fun q hq => ?_⟩
  rw [blk_full hok, blk_full h.toOk]
  show ((s.putRow _ _).full (q / (s.n - 2))).getD (q % (s.n - 2)) ⟨#[]⟩ = _
  have hc := turned_cw h.toOk (row := b / (s.n - 2)) (j := b % (s.n - 2)) (row_lt h.toOk hb) h2 hx
  rw [putRow_full h.toOk (by rw [hc.len]; omega)]
  have d1 := Nat.div_add_mod q (s.n - 2)
  have d2 := Nat.div_add_mod b (s.n - 2)
  split
  · rename_i e1
    rw [e1, turned_at h (row_lt h.toOk hb) h2 (Nat.mod_lt _ hk) (Nat.mod_lt _ hk)]
    by_cases e2 : q % (s.n - 2) = b % (s.n - 2)
    · rw [if_pos e2, if_pos (by rw [← d1, ← d2, e1, e2])]
    · rw [if_neg e2, if_neg (fun e3 => e2 (by rw [e3]))]
  · rename_i e1
    rw [if_neg (fun e3 => e1 (by rw [e3]))]
theorem blk_congr {s t : S} (hn : t.n = s.n) (h : ∀ d r, t.c d r = s.c d r) (q : Nat) : t.blk q = s.blk q := by unfold blk; rw [hn, h]
end Ar.S
end Go.Proofs.YtneebcniofolmaaGreatDoor
