/- Lists of ints in a block of the object's own, from whatever cell on: cut ahead, with a number more, one taken out, one put in. -/
import Derived.Test.YtangcjffiooapaaDoorShelf
import Derived.Test.YtangcjffiooapaaDoorKept
import Derived.Deep.RegionLaw
import Derived.Lib.SliceRun
import Derived.Deep.Upon
namespace Go.Proofs.YtangcjffiooapaaDoor
open Go.ChangeShapes Go.WideShapes Go.ChangeAt Go.RowKit
set_option linter.unusedVariables false
/-- v is a list xs of one-cell values of type E, in a block from 'base' on that nobody else has -/
def OwnR (w : World) (base : Nat) (E : TypeId) (v : Value) (xs : List Value) : Prop :=
  (v = .slice none 0 0 ∧ xs = []) ∨
  ∃ g o cap cur, v = .slice (some ⟨g, o, none⟩) xs.length cap ∧ base ≤ g ∧ w.heap[g]? = some (.cells cur E (0, 0)) ∧ xs.length ≤ cap ∧ cap ≤ maxLen ∧ o + cap ≤ cur.size ∧ ∀ j, j < xs.length → cur[o + j]? = xs[j]?
namespace OwnR
variable {w w1 : World} {base : Nat} {E : TypeId} {v : Value} {xs : List Value}
theorem nil (w : World) (base : Nat) (E : TypeId) : OwnR w base E (.slice none 0 0) [] := .inl ⟨rfl, rfl⟩
theorem of_owns {n : Nat} (h : w.ownsRow base E 1 v n xs) : OwnR w base E v xs := by
  have hl : xs.length = n := by simpa using h.1
  rcases h.2 with ⟨hv, h0⟩ | ⟨g, cap, cur, rfl, hb, hg, hnc, hcm, hcs, ht⟩
  · exact .inl ⟨hv, List.eq_nil_of_length_eq_zero (by omega)⟩
  · refine .inr ⟨g, 0, cap, cur, by rw [hl], hb, hg, by omega, hcm, by omega, fun j hj => ?_⟩
    rw [← ht, Nat.zero_add, List.getElem?_take, if_pos (by omega), Array.getElem?_toList]
theorem row (h : OwnR w base E v xs) : Row w v xs := by
  rcases h with ⟨rfl, rfl⟩ | ⟨g, o, cap, cur, rfl, hb, hg, h1, h2, h3, h4⟩
  · exact ⟨none, 0, rfl, Nat.le_refl _, Nat.zero_le _, fun _ => rfl, fun h => by simp at h⟩
  · refine ⟨some ⟨g, o, none⟩, cap, rfl, h1, h2, (fun h => by cases h), fun _ => ⟨g, o, rfl, fun j hj => ?_⟩⟩
    rw [cell_of_row _ _ _ _ _ _ hg]; exact h4 j hj
theorem shape (h : OwnR w base E v xs) : ∃ p cap, v = .slice p xs.length cap ∧ xs.length ≤ cap ∧ cap ≤ maxLen := by
  rcases h with ⟨rfl, rfl⟩ | ⟨g, o, cap, cur, rfl, hb, hg, h1, h2, h3, h4⟩
  · exact ⟨none, 0, rfl, Nat.le_refl _, Nat.zero_le _⟩
  · exact ⟨_, cap, rfl, h1, h2⟩
theorem slice (h : OwnR w base E v xs) : ∃ p m c, v = .slice p m c := by
  obtain ⟨p, c, h1, _⟩ := h.shape
  exact ⟨p, _, c, h1⟩
theorem kept {F : Nat → Prop} (h : OwnR w base E v xs) (hk : Kept F w w1) (hn : ∀ g, v.ownBlock = some g → ¬ F g) : OwnR w1 base E v xs := by
  rcases h with h | ⟨g, o, cap, cur, rfl, hb, hg, h1, h2, h3, h4⟩
  · exact .inl h
  · exact .inr ⟨g, o, cap, cur, rfl, hb, hk.heap hg (hn g rfl), h1, h2, h3, h4⟩
theorem below (h : OwnR w base E v xs) (hb : Below w.heap.size w w1) : OwnR w1 base E v xs := by
  rcases h with h | ⟨g, o, cap, cur, rfl, hb', hg, h1, h2, h3, h4⟩
  · exact .inl h
  · exact .inr ⟨g, o, cap, cur, rfl, hb', by rw [hb.block g (Array.getElem?_eq_some_iff.1 hg).1]; exact hg, h1, h2, h3, h4⟩
theorem lt (h : OwnR w base E v xs) {g : Nat} (hv : v.ownBlock = some g) : base ≤ g ∧ g < w.heap.size := by
  rcases h with ⟨rfl, _⟩ | ⟨g', o, cap, cur, rfl, hb, hg, _⟩
  · cases hv
  · simp only [Value.ownBlock, Option.some.injEq] at hv
    subst hv
    exact ⟨hb, (Array.getElem?_eq_some_iff.1 hg).1⟩
theorem mono {base' : Nat} (h : OwnR w base E v xs) (hb : base' ≤ base) : OwnR w base' E v xs := by
  rcases h with h | ⟨g, o, cap, cur, rfl, hb', h1⟩
  · exact .inl h
  · exact .inr ⟨g, o, cap, cur, rfl, by omega, h1⟩
theorem at0 (h : OwnR w base E v xs) (h0 : 0 < xs.length) : ∃ g o cap, v = .slice (some ⟨g, o, none⟩) xs.length cap ∧ base ≤ g ∧ g < w.heap.size ∧ xs.length ≤ cap ∧ cap ≤ maxLen ∧ (∀ j, j < xs.length → w.cell? ⟨g, o + j, none⟩ = xs[j]?) ∧ ∀ j, w.frozen? ⟨g, j, none⟩ = false := by
  rcases h with ⟨rfl, rfl⟩ | ⟨g, o, cap, cur, rfl, hb, hg, h1, h2, h3, h4⟩
  · simp at h0
  · exact ⟨g, o, cap, rfl, hb, (Array.getElem?_eq_some_iff.1 hg).1, h1, h2, fun j hj => by rw [cell_of_row _ _ _ _ _ _ hg]; exact h4 j hj, fun j => frozen_of_row _ _ _ _ _ hg⟩
/-- the list without its first -/
theorem tail {g o n cap : Nat} {x : Value} (h : OwnR w base E (.slice (some ⟨g, o, none⟩) n cap) (x :: xs)) : OwnR w base E (.slice (some ⟨g, o + 1, none⟩) (n - 1) (cap - 1)) xs ∧ OwnR w base E (.slice (some ⟨g, o, none⟩) xs.length cap) (x :: xs).dropLast := by
  rcases h with ⟨hv, hx⟩ | ⟨g', o', cap', cur, hv, hb, hg, h1, h2, h3, h4⟩
  · cases hv
  · cases hv
    rw [List.length_cons] at h1
    refine ⟨.inr ⟨g, o + 1, cap - 1, cur, by rw [List.length_cons]; rfl, hb, hg, by omega, by omega, by omega, fun j hj => ?_⟩, .inr ⟨g, o, cap, cur, by simp, hb, hg, by simp; omega, h2, h3, fun j hj => ?_⟩⟩
    · have := h4 (j + 1) (by rw [List.length_cons]; omega)
      rw [show o + 1 + j = o + (j + 1) by omega, this]; rfl
    · rw [List.length_dropLast, List.length_cons] at hj
      rw [h4 j (by rw [List.length_cons]; omega), List.getElem?_dropLast, if_pos (by rw [List.length_cons]; omega)]
end OwnR
theorem shape_of {w : World} {g : Nat} {cur : Array Value} {E : TypeId} (h : w.heap[g]? = some (.cells cur E (0, 0))) : w.shape? g = some (E, cur.size) := by unfold World.shape?; rw [h]
theorem setCells_at (g : Nat) (e : TypeId) : ∀ (vs : List Value) (o : Nat) (w : World) (cur : Array Value), w.heap[g]? = some (.cells cur e (0, 0)) →
    ∃ cur', (w.setCells g o vs).heap[g]? = some (.cells cur' e (0, 0)) ∧ cur'.size = cur.size ∧ ∀ j, j < cur.size → cur'[j]? = if o ≤ j ∧ j < o + vs.length then vs[j - o]? else cur[j]?
  | [], o, w, cur, h => ⟨cur, h, rfl, fun j _ => by rw [if_neg (by simp)]⟩
  | v :: vs, o, w, cur, h => by
    obtain ⟨cur', h1, h2, h3⟩ := setCells_at g e vs (o + 1) (w.setCell ⟨g, o, none⟩ v) (cur.setIfInBounds o v) (heap_setCell_same _ _ _ _ _ _ h)
    refine ⟨cur', h1, by rw [h2]; simp, fun j hj => ?_⟩
    rw [h3 j (by simpa using hj)]
    by_cases c : j = o
    · subst c
      rw [if_neg (by omega), if_pos (by simp), Array.getElem?_setIfInBounds_self_of_lt hj]
      simp
    · by_cases c2 : o ≤ j ∧ j < o + (v :: vs).length
      · rw [List.length_cons] at c2
        rw [if_pos (by omega), if_pos (by rw [List.length_cons]; omega), show j - o = (j - (o + 1)) + 1 by omega, List.getElem?_cons_succ]
      · rw [List.length_cons] at c2
        rw [if_neg (by omega), if_neg (by rw [List.length_cons]; omega), Array.getElem?_setIfInBounds_ne (by omega)]
theorem kept_setCells (w : World) (g o : Nat) (vs : List Value) : Kept (· = g) w (w.setCells g o vs) := by
  have h := (World.keptBut_setCells g (may := fun _ => True) vs o w (fun _ _ => trivial))
  refine ⟨h.1, ?_, h.2.1, ?_, fun k hk hne => World.heap_setCells_other _ _ _ _ hk (fun e => hne e)⟩
  · induction vs generalizing o w with
    | nil => rfl
    | cons v vs ih => exact (ih (w.setCell ⟨g, o, none⟩ v) (o + 1) (World.keptBut_setCells g vs (o + 1) _ (fun _ _ => trivial))).trans rfl
  · induction vs generalizing o w with
    | nil => exact Nat.le_refl _
    | cons v vs ih => exact Nat.le_trans (by simp [World.setCell]) (ih (w.setCell ⟨g, o, none⟩ v) (o + 1) (World.keptBut_setCells g vs (o + 1) _ (fun _ _ => trivial)))
/-- of the blocks that there were at most v's own has turned; v' lies in that block or in a new one -/
def Turned (w w' : World) (v v' : Value) : Prop := Kept (fun k => some k = v.ownBlock) w w' ∧ (v'.ownBlock = v.ownBlock ∨ ∀ g, v'.ownBlock = some g → w.heap.size ≤ g)
def InsPost (base : Nat) (xs : List Value) (i : Nat) (x : Value) (v : Value) (w : World) (e : Ending) (w' : World) : Prop :=
  ∃ v', e = .returned v' ∧ OwnR w' base 3 v' (xs.take i ++ x :: xs.drop i) ∧ Turned w w' v v'
theorem insert_any {w : World} {base : Nat} {v : Value} (xs : List Value) (h : OwnR w base 3 v xs) (hbase : base ≤ w.heap.size) (hlen : xs.length ≤ 1000000) (h1 : ∀ u ∈ xs, u.oneCell' = true) (x : Value) (hx1 : x.oneCell' = true) (i : Nat) (hi : i ≤ xs.length)
    (vb : Nat) (hvb : w.heap[vb]? = some (.cells #[x] 3 (0, 0))) (hne : v.ownBlock ≠ some vb) :
    Calls Tryd.prog 65 #[v, iv i, .slice (some ⟨vb, 0, none⟩) 1 1] w (InsPost base xs i x v w) := by
  have hvs : ∀ j u, [x][j]? = some u → w.cell? ⟨vb, 0 + j, none⟩ = some u := by
    intro j u hj
    have h0 : j = 0 := by have := (List.getElem?_eq_some_iff.1 hj).1; simp at this; omega
    subst h0
    rw [cell_of_row _ _ _ _ _ _ hvb]
    simpa using hj
  have h1v : ∀ u ∈ [x], u.oneCell' = true := by intro u hu; simp at hu; subst hu; exact hx1
  have grow : ∀ (base0 : Option Addr) (n cap : Nat), v = .slice base0 n cap → xs.length = n → i = n → n ≤ cap → cap < n + 1 → (base0 = none → n = 0) → (∀ a, base0 = some a → ∀ j u, xs[j]? = some u → w.cell? (a.add j) = some u) →
      Calls Tryd.prog 65 #[v, iv i, .slice (some ⟨vb, 0, none⟩) 1 1] w (InsPost base xs i x v w) := by
    intro base0 n cap hv hn hin hnc hroom hnil hcs
    subst hv hin
    refine (Tryd.slices_Insert_int_end_grow base0 i cap vb 0 1 1 xs [x] w (by omega) hnc hroom (by omega) hn rfl hnil hcs hvs h1v).mono ?_
    rintro e w' ⟨rfl, rfl⟩
    have hge := grownCap_ge w (i + 1) cap 3
    have hle := grownCap_le_maxLen w (i + 1) cap 3 (by unfold maxLen; omega)
    unfold InsPost
    rw [List.take_of_length_le (by omega), List.drop_of_length_le (by omega)]
    refine ⟨_, rfl, .inr ⟨w.heap.size, 0, grownCap w (i + 1) cap 3, _, by rw [List.length_append]; simp [hn], hbase, heap_alloc_new _ _, by rw [List.length_append]; simp [hn]; omega, hle, ?_, fun j hj => ?_⟩, ?_, .inr ?_⟩
    · rw [Nat.zero_add, Array.size_append]
      have : (Builtin.zeroCells (Value.int .i64 0).cells (grownCap w (i + 1) cap 3 - (i + 1))).size = grownCap w (i + 1) cap 3 - (i + 1) := by simp [Builtin.zeroCells, Value.cells]
      rw [this]; simp [hn]; omega
    · rw [Nat.zero_add, Array.getElem?_append_left (by simpa using hj)]
      simp
    · exact ((Kept.refl (fun k => some k = (Value.slice base0 i cap).ownBlock) w).drew).alloc _
    · intro g hg; simp only [Value.ownBlock, Option.some.injEq] at hg; omega
  rcases h with ⟨rfl, rfl⟩ | ⟨g, o, cap, cur, rfl, hb, hg, hnc, hcm, hoc, hcur⟩
  · simp at hi
    subst hi
    exact grow none 0 0 rfl rfl rfl (Nat.le_refl _) (by omega) (fun _ => rfl) (fun a ha => by cases ha)
  · have hcell : ∀ j u, xs[j]? = some u → w.cell? ⟨g, o + j, none⟩ = some u := by
      intro j u hj
      have hjl := (List.getElem?_eq_some_iff.1 hj).1
      rw [cell_of_row _ _ _ _ _ _ hg, hcur j hjl, hj]
    have hgv : vb ≠ g := fun e => hne (by rw [e]; rfl)
    have hcm' := hcm
    unfold maxLen at hcm'
    by_cases hroom : xs.length + 1 ≤ cap
    · have hspare : ∀ j, o + j < cur.size → (w.cell? ⟨g, o + j, none⟩).isSome = true := by
        intro j hj
        rw [cell_of_row _ _ _ _ _ _ hg, Array.getElem?_eq_getElem hj]; rfl
      have hfz : ∀ j, w.frozen? ⟨g, j, none⟩ = false := fun j => frozen_of_row _ _ _ _ _ hg
      by_cases hin : i = xs.length
      · subst hin
        have hsp1 : ∀ j, j < 1 → (w.cell? ⟨g, o + xs.length + j, none⟩).isSome = true := by
          intro j hj
          have h0 : j = 0 := by omega
          subst h0
          rw [Nat.add_zero]; exact hspare _ (by omega)
        refine (Tryd.slices_Insert_int_end_room g o xs.length cap vb 0 1 1 [x] w (by omega) hroom (by omega) rfl hsp1 (fun j _ => hfz _) hvs h1v).mono ?_
        rintro e w' ⟨rfl, rfl⟩
        obtain ⟨cur', k1, k2, k3⟩ := setCells_at g 3 [x] (o + xs.length) w cur hg
        unfold InsPost
        rw [List.take_of_length_le (Nat.le_refl _), List.drop_of_length_le (Nat.le_refl _)]
        refine ⟨_, rfl, .inr ⟨g, o, cap, cur', by rw [List.length_append]; rfl, hb, k1, by rw [List.length_append]; exact hroom, hcm, by omega, fun j hj => ?_⟩, (kept_setCells w g _ _).mono (fun k _ hk => by rw [hk]; rfl), .inl rfl⟩
        rw [List.length_append, List.length_singleton] at hj
        rw [k3 (o + j) (by omega)]
        by_cases hj2 : j < xs.length
        · rw [if_neg (by omega), hcur j hj2, List.getElem?_append_left hj2]
        · have hjx : j = xs.length := by omega
          subst hjx
          rw [if_pos (by simp), List.getElem?_append_right (Nat.le_refl _)]
          simp
      · have hin2 : i < xs.length := by omega
        refine (Tryd.slices_Insert_int_shift g o xs.length cap i vb 0 1 1 xs [x] w hin2 (by omega) hroom (by omega) hgv rfl rfl hcell (fun j hj => hspare j (by omega)) (fun j _ => hfz _) hvs h1 h1v 3 3 1 cur.size (shape_of hvb) (shape_of hg) (by omega) (frozen_of_row _ _ _ _ _ hvb) (frozen_of_row _ _ _ _ _ hvb)).mono ?_
        rintro e w' ⟨rfl, rfl⟩
        obtain ⟨cur1, k1, k2, k3⟩ := setCells_at g 3 (xs.drop i) (o + (i + 1)) w.drew cur hg
        obtain ⟨cur2, l1, l2, l3⟩ := setCells_at g 3 [x] (o + i) _ cur1 k1
        refine ⟨_, rfl, .inr ⟨g, o, cap, cur2, ?_, hb, l1, ?_, hcm, by omega, fun j hj => ?_⟩, ?_, .inl rfl⟩
        · have : (xs.take i ++ x :: xs.drop i).length = xs.length + 1 := by simp; omega
          rw [this]
        · have : (xs.take i ++ x :: xs.drop i).length = xs.length + 1 := by simp; omega
          rw [this]; exact hroom
        · have hl : (xs.take i ++ x :: xs.drop i).length = xs.length + 1 := by simp; omega
          rw [hl] at hj
          rw [l3 (o + j) (by omega), List.length_singleton]
          by_cases c1 : j = i
          · subst c1
            rw [if_pos (by omega), List.getElem?_append_right (by simp; omega)]
            have e1 : o + j - (o + j) = 0 := by omega
            have e2 : j - (xs.take j).length = 0 := by simp; omega
            rw [e1, e2]; rfl
          · rw [if_neg (by omega), k3 (o + j) (by omega), List.length_drop]
            by_cases c2 : j < i
            · rw [if_neg (by omega), hcur j (by omega), List.getElem?_append_left (by simp; omega), List.getElem?_take, if_pos c2]
            · rw [if_pos (by omega), List.getElem?_append_right (by simp; omega), List.getElem?_drop]
              have e2 : j - (xs.take i).length = (j - i - 1) + 1 := by simp; omega
              rw [e2, List.getElem?_cons_succ, List.getElem?_drop]
              congr 1 <;> omega
        · exact (((Kept.refl (fun k => some k = (Value.slice (some ⟨g, o, none⟩) xs.length cap).ownBlock) w).drew).also ((kept_setCells _ g _ _).mono (fun k _ hk => by rw [hk]; rfl))).also ((kept_setCells _ g _ _).mono (fun k _ hk => by rw [hk]; rfl))
    · by_cases hin : i = xs.length
      · exact grow (some ⟨g, o, none⟩) xs.length cap rfl rfl hin hnc (by omega) (fun h => by cases h) (fun a ha j u hj => by cases ha; rw [Addr.add_lit]; exact hcell j u hj)
      · have hin2 : i < xs.length := by omega
        refine (Tryd.slices_Insert_int_grow g o xs.length cap i vb 0 1 1 xs [x] w hin2 (by omega) hnc (by omega) (by omega) rfl rfl hcell hvs h1 h1v).mono ?_
        rintro e w' ⟨rfl, rfl⟩
        have hge := grownCap_ge w (xs.length + 1) cap 3
        have hle := grownCap_le_maxLen w (xs.length + 1) cap 3 (by unfold maxLen; omega)
        generalize grownCap w (xs.length + 1) cap 3 = G at hge hle ⊢
        obtain ⟨C, hC⟩ : ∃ C : Array Value, C = (xs.take i).toArray ++ Builtin.zeroCells (Value.int .i64 0).cells (xs.length + 1 - i) ++ Builtin.zeroCells (Value.int .i64 0).cells (G - (xs.length + 1)) := ⟨_, rfl⟩
        rw [← hC]
        have hz : ∀ q, (Builtin.zeroCells (Value.int .i64 0).cells q).size = q := fun q => by simp [Builtin.zeroCells, Value.cells]
        have hCs : C.size = G := by rw [hC, Array.size_append, Array.size_append, hz, hz]; simp; omega
        have hCt : ∀ j, j < i → C[j]? = xs[j]? := by
          intro j hj
          rw [hC, Array.append_assoc, Array.getElem?_append_left (by simp; omega)]
          simp [hj]
        obtain ⟨cur1, k1, k2, k3⟩ := setCells_at w.heap.size 3 [x] i (w.alloc (.cells C 3)).drew C (heap_alloc_new w _)
        obtain ⟨cur2, l1, l2, l3⟩ := setCells_at w.heap.size 3 (xs.drop i) (i + 1) ((w.alloc (.cells C 3)).drew.setCells w.heap.size i [x]).drew cur1 k1
        have hl : (xs.take i ++ x :: xs.drop i).length = xs.length + 1 := by simp; omega
        refine ⟨_, rfl, .inr ⟨w.heap.size, 0, G, cur2, by rw [hl], hbase, l1, by rw [hl]; exact hge, hle, by omega, fun j hj => ?_⟩, ?_, .inr ?_⟩
        · rw [hl] at hj
          rw [Nat.zero_add, l3 j (by omega), List.length_drop]
          by_cases c2 : i + 1 ≤ j
          · rw [if_pos (by omega), List.getElem?_append_right (by simp; omega), List.getElem?_drop]
            have e2 : j - (xs.take i).length = (j - i - 1) + 1 := by simp; omega
            rw [e2, List.getElem?_cons_succ, List.getElem?_drop]
            congr 1 <;> omega
          · rw [if_neg (by omega), k3 j (by omega), List.length_singleton]
            by_cases c1 : j = i
            · subst c1
              rw [if_pos (by omega), List.getElem?_append_right (by simp; omega)]
              have e1 : j - j = 0 := by omega
              have e2 : j - (xs.take j).length = 0 := by simp; omega
              rw [e1, e2]; rfl
            · rw [if_neg (by omega), hCt j (by omega), List.getElem?_append_left (by simp; omega), List.getElem?_take, if_pos (by omega)]
        · have hK0 : Kept (fun k => some k = (Value.slice (some ⟨g, o, none⟩) xs.length cap).ownBlock) w ((w.alloc (.cells C 3)).drew) := ((Kept.refl _ w).alloc _).drew
          refine Kept.new _ ?_
          have hb1 : Below w.heap.size w ((w.alloc (.cells C 3)).drew) := ((Below.refl _ _).alloc (Nat.le_refl _) _).drew
          have hsz : ((w.alloc (.cells C 3)).drew).heap.size = w.heap.size + 1 := by simp
          have hb2 := (kept_setCells ((w.alloc (.cells C 3)).drew) w.heap.size i [x]).toBelow (B := w.heap.size) (by omega) (fun k _ hk => by omega)
          have hb3 := (kept_setCells (((w.alloc (.cells C 3)).drew.setCells w.heap.size i [x]).drew) w.heap.size (i + 1) (xs.drop i)).toBelow (B := w.heap.size) (by have := hb2.size; show w.heap.size ≤ ((w.alloc (.cells C 3)).drew.setCells w.heap.size i [x]).heap.size; omega) (fun k _ hk => by omega)
          exact (hb1.trans (hb2.drew)).trans hb3
        · intro q hq; simp only [Value.ownBlock, Option.some.injEq] at hq; omega
def DelPost (base : Nat) (xs : List Int) (i : Nat) (v : Value) (w : World) (e : Ending) (w' : World) : Prop :=
  ∃ v', e = .returned v' ∧ OwnR w' base 3 v' ((xs.take i ++ xs.drop (i + 1)).map iv) ∧ Turned w w' v v'
theorem delete_any {w : World} {base : Nat} {v : Value} (xs : List Int) (h : OwnR w base 3 v (xs.map iv)) (i : Nat) (hi : i < xs.length) :
    Calls Tryd.prog 66 #[v, iv i, iv ((i : Int) + 1)] w (DelPost base xs i v w) := by
  rcases h with ⟨rfl, hx⟩ | ⟨g, o, cap, cur, rfl, hb, hg, hnc, hcm, hoc, hcur⟩
  · simp at hx; subst hx; simp at hi
  · rw [List.length_map] at hnc hcur ⊢
    have hcm' := hcm
    unfold maxLen at hcm'
    have hcell : ∀ j, j < xs.length → w.cell? ⟨g, o + j, none⟩ = some (.int .i64 (xs.getD j 0)) := by
      intro j hj
      rw [cell_of_row _ _ _ _ _ _ hg, hcur j hj, List.getElem?_map, List.getElem?_eq_getElem hj, List.getD_eq_getElem?_getD, List.getElem?_eq_getElem hj]; rfl
    have hcall := Tryd.slices_Delete_int_cells g o xs.length cap i (i + 1) xs w (Nat.le_refl _) hnc (by omega) (by omega) (by omega) hcell (fun j _ => frozen_of_row _ _ _ _ _ hg)
    refine hcall.mono ?_
    rintro e w' ⟨rfl, q, rfl⟩
    have hlist : ((xs.take xs.length).take i ++ (xs.take xs.length).drop (i + 1) ++ List.replicate (i + 1 - i) (0 : Int)).length = xs.length := by simp; omega
    obtain ⟨cur', k1, k2, k3⟩ := setCells_at g 3 ((((xs.take xs.length).take i ++ (xs.take xs.length).drop (i + 1) ++ List.replicate (i + 1 - i) (0 : Int)).map (Value.int .i64))) o (w.drewN q) cur hg
    have hl : ((xs.take i ++ xs.drop (i + 1)).map iv).length = xs.length - 1 := by simp; omega
    refine ⟨_, rfl, .inr ⟨g, o, cap, cur', ?_, hb, k1, by omega, hcm, by omega, fun j hj => ?_⟩, ?_, .inl rfl⟩
    · rw [hl]; congr 1 <;> omega
    · rw [hl] at hj
      rw [k3 (o + j) (by omega), List.length_map, hlist, if_pos (by omega), show o + j - o = j by omega, List.getElem?_map, List.getElem?_map]
      rw [List.take_of_length_le (Nat.le_refl xs.length), List.getElem?_append_left (by simp; omega)]
    · exact ((Kept.refl (fun k => some k = (Value.slice (some ⟨g, o, none⟩) xs.length cap).ownBlock) w).drewN q).also ((kept_setCells _ g _ _).mono (fun k _ hk => by rw [hk]; rfl))
theorem search_any {w : World} {v : Value} (xs : List Int) (h : Row w v (xs.map iv)) (hs : xs.Pairwise (· ≤ ·)) (hn : xs.length ≤ 1000000) (x : Int) :
    Calls Tryd.prog 64 #[v, iv x] w fun e w' => e = .returned (.tuple #[iv (xs.countP (· < x) : Nat), .bool (xs.contains x)]) ∧ ∃ q, w.drewN q = w' := by
  obtain ⟨p, cap, rfl, h1, h2, h0, h3⟩ := h
  rw [List.length_map] at *
  by_cases hl : xs = []
  · subst hl
    refine (Tryd.slices_BinarySearch_int_empty p cap x w).mono ?_
    rintro e w' ⟨rfl, rfl⟩
    exact ⟨rfl, 0, rfl⟩
  · have hpos : 0 < xs.length := List.length_pos_iff.2 hl
    obtain ⟨g, off, rfl, h4⟩ := h3 hpos
    have hc := Tryd.slices_BinarySearch_int g off xs.length cap xs x w (Nat.le_refl _) (by omega) (fun j hj => by
      rw [h4 j hj, List.getElem?_map, List.getElem?_eq_getElem hj, List.getD_eq_getElem?_getD, List.getElem?_eq_getElem hj]; rfl) (by rw [List.take_of_length_le (Nat.le_refl _)]; exact hs)
    rw [List.take_of_length_le (Nat.le_refl _)] at hc
    exact hc.mono fun e w' ⟨he, q, hq⟩ => ⟨he, q, hq.symm⟩
end Go.Proofs.YtangcjffiooapaaDoor
