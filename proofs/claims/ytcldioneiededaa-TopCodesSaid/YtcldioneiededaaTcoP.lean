/- The walk of the law PqHeals: it returns true. · The walk of the law PqHeals, all asked for: it returns true. · Two codes of one data, in plain: what comes back without any two. -/
import Derived.Test.YtcldioneiededaaPqD
import Derived.Test.YtcldioneiededaaOpen
import Derived.Deep.AppendLies
import Derived.Test.YtcldioneiededaaAnyP
import Derived.Test.YtcldioneiededaaCodG
namespace Go.Proofs.Ytcldioneiededaa
open Go.ChangeShapes Go.WideShapes Go.ChangeAt Go.RowKit
set_option linter.unusedVariables false
def q56 : List ByteArray := [⟨#[5]⟩, ⟨#[6]⟩]
theorem q56_f : Gv.pqF q56 = 0 := by decide +kernel
theorem q56_p : Gv.P q56 = ⟨#[3]⟩ := by decide +kernel
theorem q56_q : Gv.Q q56 = ⟨#[9]⟩ := by decide +kernel
theorem q56_row (w : World) : Strs (w.alloc (.cells #[.string ⟨#[5]⟩, .string ⟨#[6]⟩] 9)) (.slice (some ⟨w.heap.size, 0, none⟩) 2 2) q56 :=
  alloc_row w [.string ⟨#[5]⟩, .string ⟨#[6]⟩] _ (by simp [maxLen])
theorem pqF_zero {ds : List ByteArray} (h : Gv.pqF ds = 0) : 1 ≤ ds.length ∧ ds.length ≤ 10 ∧ (∀ s ∈ ds, s.size = size0 ds) ∧ size0 ds ≤ 16 := by
  unfold Gv.pqF at h
  cases hm : manyB ((ds.length : Int) + 2) with
  | false => rw [hm] at h; simp at h
  | true =>
    rw [hm, if_pos rfl] at h
    have := blkF_zero h
    unfold manyB at hm
    simp at hm
    exact ⟨by omega, by omega, this.1, this.2⟩
theorem info_strG : (Try.prog.info? 9).map (fun i => (i.zero, i.size, i.bytes)) = some (some (.string ⟨#[]⟩), 1, 16) := by kernel_rfl
end Go.Proofs.Ytcldioneiededaa
namespace Go.Proofs.Ytcldioneiededaa
open Go.ChangeShapes Go.WideShapes Go.ChangeAt Go.RowKit
set_option linter.unusedVariables false
theorem owns_bools (N : Nat) (hN : N ≤ 1000000) (w : World) : OwnR (w.alloc (.cells (madeCells #[.bool false] N) 4)) w.heap.size 4 (.slice (some ⟨w.heap.size, 0, none⟩) N N) (List.replicate N (.bool false)) := by
  have hl : (madeCells #[Value.bool false] N).toList = List.replicate N (.bool false) := toList_madeCells_one _ _
  have hs : (madeCells #[Value.bool false] N).size = N := by rw [← Array.length_toList, hl, List.length_replicate]
  refine .inr ⟨w.heap.size, 0, N, _, by rw [List.length_replicate], Nat.le_refl _, heap_alloc_new w _, by rw [List.length_replicate]; exact Nat.le_refl _, by unfold maxLen; omega, by rw [hs]; omega, fun j hj => ?_⟩
  rw [Nat.zero_add, ← Array.getElem?_toList, hl]
theorem OwnR.cellS {w : World} {base g n cap : Nat} {l : List ByteArray} (h : OwnR w base 9 (.slice (some ⟨g, 0, none⟩) n cap) (l.map Value.string)) {j : Nat} (hj : j < l.length) : w.cell? ⟨g, j, none⟩ = some (.string (l.getD j ⟨#[]⟩)) := by
  obtain ⟨gx, ox, cx, hvx, _, _, _, _, hcx, _⟩ := h.at0 (by rw [List.length_map]; omega)
  injection hvx with e1 e2 e3
  injection e1 with e1
  injection e1 with e4 e5
  subst e4 e5
  have h := hcx j (by rw [List.length_map]; exact hj)
  rw [Nat.zero_add] at h
  rw [h, List.getElem?_map, List.getElem?_eq_getElem hj, List.getD_eq_getElem?_getD, List.getElem?_eq_getElem hj]; rfl
theorem OwnR.storeS {w : World} {base g n cap j : Nat} {l : List ByteArray} (h : OwnR w base 9 (.slice (some ⟨g, 0, none⟩) n cap) (l.map Value.string)) (hj : j < l.length) (x : ByteArray) : OwnR (w.setCell ⟨g, j, none⟩ (.string x)) base 9 (.slice (some ⟨g, 0, none⟩) n cap) ((l.set j x).map Value.string) := by
  have h1 := h.setStr hj x
  rw [Nat.zero_add] at h1; exact h1
theorem OwnR.apart {w : World} {base : Nat} {E : TypeId} {v : Value} {xs : List Value} (h : OwnR w base E v xs) {g j : Nat} {u : Value} (hne : ∀ g', v.ownBlock = some g' → g' ≠ g) : OwnR (w.setCell ⟨g, j, none⟩ u) base E v xs :=
  h.kept ((Kept.self g w).set1 j u) (fun g' hg e => hne g' hg e)
theorem cells_two (w : World) (a b : Value) (E : TypeId) : ∀ j u, [a, b][j]? = some u → (w.alloc (.cells #[a, b] E)).cell? ((⟨w.heap.size, 0, none⟩ : Addr).add j) = some u := by
  intro j u hj
  have hj2 : j = 0 ∨ j = 1 := by have := (List.getElem?_eq_some_iff.1 hj).1; simp at this; omega
  rw [Addr.add_lit, Nat.zero_add, World.cell?_alloc_at _ _ _ _ rfl]
  rcases hj2 with rfl | rfl <;> exact hj
end Go.Proofs.Ytcldioneiededaa
namespace Go.Proofs.Ytcldioneiededaa
set_option linter.unusedVariables false
open Mx Gv
theorem countP_both {α : Type} (p : α → Bool) : ∀ l : List α, l.countP p + l.countP (fun x => !(p x)) = l.length
  | [] => rfl
  | a :: l => by
    have h := countP_both p l
    rw [List.countP_cons, List.countP_cons, List.length_cons]
    cases p a
    · simp; omega
    · simp; omega
theorem countP_orle {α : Type} (p q : α → Bool) : ∀ l : List α, l.countP (fun x => p x || q x) ≤ l.countP p + l.countP q
  | [] => Nat.le_refl _
  | a :: l => by
    have h := countP_orle p q l
    rw [List.countP_cons, List.countP_cons, List.countP_cons]
    cases p a <;> cases q a <;> simp <;> omega
theorem countP_eqN (N i : Nat) : (List.range N).countP (fun j => j == i) ≤ 1 := by
  have h := List.nodup_iff_count.1 (List.nodup_range (n := N)) i
  exact h
/-- of N parts at most two are not there -/
theorem hx_two (N i k : Nat) : N ≤ (hx (marks2 N i k) N).length + 2 := by
  have e : (hx (marks2 N i k) N).length = (List.range N).countP (fun j => !(los (marks2 N i k) j)) := by
    unfold hx; rw [List.countP_eq_length_filter]
  have h1 := countP_both (fun j => los (marks2 N i k) j) (List.range N)
  have h2 : (List.range N).countP (fun j => los (marks2 N i k) j) ≤ (List.range N).countP (fun j => (j == i) || (j == k)) := by
    refine List.countP_mono_left (fun j _ hj => ?_)
    have h3 := (marks2_at.1 (show lo (marks2 N i k) j = true from hj)).2
    rcases h3 with h3 | h3
    · rw [h3]; simp
    · rw [h3]; simp
  have h3 := countP_orle (fun j => j == i) (fun j => j == k) (List.range N)
  have h4 := countP_eqN N i
  have h5 := countP_eqN N k
  rw [List.length_range] at h1
  omega
theorem two_dec {k x y : Nat} {data : List ByteArray} {e : ByteArray} (h1 : 1 ≤ k) (h2 : k + 2 ≤ 12) (hd : data.length = k) (hall : ∀ s ∈ data, s.size = size0 data) (hn : size0 data ≤ 16) (hx' : x < k + 2) (hy : y < k + 2) :
    decF k (k + 2) (((allP k 2 data).set x e).set y e) (marks2 (k + 2) x y) = 0 ∧ decR k (k + 2) (((allP k 2 data).set x e).set y e) (marks2 (k + 2) x y) = data := by
  have hlen := hx_two (k + 2) x y
  have hl : (allP k 2 data).length = k + 2 := allP_len hd
  have hv : ∀ i, i < (hx (marks2 (k + 2) x y) (k + 2)).length → (hvS (((allP k 2 data).set x e).set y e) (marks2 (k + 2) x y) (k + 2))[i]? = some (cPart k data ((hx (marks2 (k + 2) x y) (k + 2)).getD i 0)) := fun i hi => by
    have hlt := hx_lt hi
    have hno := hx_los hi
    rw [hvS_at hi]
    generalize (hx (marks2 (k + 2) x y) (k + 2)).getD i 0 = q at hlt hno ⊢
    have hq : ¬ (q = x ∨ q = y) := fun hc => by
      have := marks2_at.2 (And.intro hlt hc)
      rw [show lo (marks2 (k + 2) x y) q = los (marks2 (k + 2) x y) q from rfl, hno] at this
      cases this
    rw [set_getD (by rw [List.length_set, hl]; exact hy), if_neg (fun h => hq (.inr h)), set_getD (by rw [hl]; exact hx'), if_neg (fun h => hq (.inl h)), List.getD_eq_getElem?_getD, allP_get hd hall hlt]; rfl
  constructor
  · unfold decF
    rw [if_neg (by omega)]
    have hb : blkF (hvS (((allP k 2 data).set x e).set y e) (marks2 (k + 2) x y) (k + 2)) = 0 := blkF_all (n0 := size0 data) (fun s hs => by
      obtain ⟨i, hi⟩ := List.mem_iff_getElem?.1 hs
      have hl := (List.getElem?_eq_some_iff.1 hi).1
      rw [hvS_len] at hl
      rw [hv i hl] at hi
      rw [← Option.some.inj hi]; exact cPart_size _ _ _) hn
    rw [hb, if_neg (by simp), dN_full (by omega) h2, if_neg (by omega)]
  · exact dec_right (by omega) h2 hd h1 hall (fun i hi => hv i (by omega))
theorem encF_0T {k m : Int} {ls : List ByteArray} (h : encF k m ls = 0) : codF k m = 0 ∧ (ls.length : Int) = k ∧ blkF ls = 0 := by
  unfold encF at h
  by_cases h1 : codF k m = 0
  · rw [if_neg (by simp [h1])] at h
    by_cases h2 : (ls.length : Int) = k
    · rw [if_neg (by simp [h2])] at h; exact ⟨h1, h2, h⟩
    · rw [if_pos h2] at h; cases h
  · rw [if_pos h1] at h; exact absurd h h1
end Go.Proofs.Ytcldioneiededaa
