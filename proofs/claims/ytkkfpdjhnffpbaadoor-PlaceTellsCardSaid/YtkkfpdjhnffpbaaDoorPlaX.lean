/- The walk of place.Place. -/
import Derived.Test.YtkkfpdjhnffpbaaDoorPlaW
namespace Go.Proofs.YtkkfpdjhnffpbaaDoor
open Go.ChangeShapes Go.WideShapes Go.ChangeAt Go.RowKit
set_option linter.unusedVariables false
namespace Pl
def plF (n w m : Int) : Int := if n < 1 ∨ 10 < n ∨ w < 1 ∨ n < w ∨ m < 0 ∨ 40 < m then 1 else 0
/-- loads while a stripe is taken -/
def part (L s : List Nat) (j : Nat) : List Nat := (List.range L.length).map (fun d => L.getD d 0 + if d ∈ s.take j then 1 else 0)
theorem part_len (L s : List Nat) (j : Nat) : (part L s j).length = L.length := by unfold part; simp
theorem part_0 (L s : List Nat) : part L s 0 = L := by
  refine List.ext_getElem? (fun k => ?_)
  unfold part
  by_cases hk : k < L.length
  · rw [List.getElem?_map, List.getElem?_range hk, List.getElem?_eq_getElem hk, List.take_zero, Option.map_some, if_neg (by simp), List.getD_eq_getElem?_getD, List.getElem?_eq_getElem hk]; rfl
  · rw [List.getElem?_eq_none (by simp; omega), List.getElem?_eq_none (by omega)]
theorem part_get {L s : List Nat} {j d : Nat} (h : d < L.length) : (part L s j)[d]? = some (L.getD d 0 + if d ∈ s.take j then 1 else 0) := by
  unfold part; rw [List.getElem?_map, List.getElem?_range h]; rfl
theorem not_taken {s : List Nat} (hs : s.Nodup) {j d : Nat} (hd : s[j]? = some d) : d ∉ s.take j := by
  intro h
  obtain ⟨k, hk, e⟩ := List.mem_iff_getElem.1 h
  rw [List.length_take] at hk
  rw [List.getElem_take] at e
  have hj := (List.getElem?_eq_some_iff.1 hd)
  obtain ⟨hj1, hj2⟩ := hj
  have := (List.pairwise_iff_getElem.1 hs) k j (by omega) hj1 (by omega)
  exact this (by rw [e, hj2])
theorem part_succ {L s : List Nat} (hs : s.Nodup) {j d : Nat} (hd : s[j]? = some d) (hL : d < L.length) : part L s (j + 1) = (part L s j).set d (L.getD d 0 + 1) := by
  refine List.ext_getElem? (fun k => ?_)
  by_cases hk : k < L.length
  · rw [part_get hk, List.getElem?_set, part_len, List.take_add_one, hd]
    by_cases e : d = k
    · subst e; rw [if_pos rfl, if_pos hL, if_pos (by simp)]
    · rw [if_neg e, part_get hk]
      have : (k ∈ s.take j ++ (some d).toList) ↔ k ∈ s.take j := by simp; exact fun h => absurd h.symm e
      by_cases hm : k ∈ s.take j
      · rw [if_pos hm, if_pos (this.2 hm)]
      · rw [if_neg hm, if_neg (fun h => hm (this.1 h))]
  · rw [List.getElem?_eq_none (by rw [part_len]; omega), List.getElem?_eq_none (by rw [List.length_set, part_len]; omega)]
theorem part_full (L : List Nat) (w : Nat) {j : Nat} (hj : (sel L w).length ≤ j) : part L (sel L w) j = add L w := by
  unfold part add
  rw [List.take_of_length_le hj]
  refine List.map_congr_left (fun d hd => ?_)
  have hd := List.mem_range.1 hd
  by_cases h : rank L d < w
  · rw [if_pos h, if_pos (mem_sel.2 ⟨hd, h⟩)]
  · rw [if_neg h, if_neg (fun e => h (mem_sel.1 e).2)]
theorem ld_le (n w : Nat) : ∀ (k d : Nat), (ld n w k).getD d 0 ≤ k
  | 0, d => by
    rw [ld_0, List.getD_eq_getElem?_getD, List.getElem?_replicate]
    by_cases h : d < n
    · rw [if_pos h]; exact Nat.le_refl _
    · rw [if_neg h]; exact Nat.le_refl _
  | k + 1, d => by
    by_cases h : d < (ld n w k).length
    · rw [ld_succ, add_get _ _ h]
      have := ld_le n w k d
      split <;> omega
    · rw [List.getD_eq_getElem?_getD, List.getElem?_eq_none (by rw [ld_len]; rw [ld_len] at h; omega)]; exact Nat.zero_le _
theorem st_lt {n w : Nat} : ∀ {k : Nat} {r : List Nat} {d : Nat}, r ∈ st n w k → d ∈ r → d < n
  | 0, r, d, h, _ => by cases h
  | k + 1, r, d, h, hd => by
    rw [st_succ, List.mem_append, List.mem_singleton] at h
    rcases h with h | rfl
    · exact st_lt h hd
    · have := (mem_sel.1 hd).1
      rw [ld_len] at this; exact this
theorem sel_nodup (L : List Nat) (w : Nat) : (sel L w).Nodup := (sel_sorted L w).imp (fun h => Nat.ne_of_lt h)
theorem sorted_cast {xs : List Int} {ys : List Nat} (hp : xs.Perm (ys.map (fun k : Nat => (k : Int)))) (hs : ys.Pairwise (· ≤ ·)) : (xs.mergeSort fun x y => decide (x ≤ y)) = ys.map (fun k : Nat => (k : Int)) := by
  refine List.Perm.eq_of_pairwise (le := fun a b => decide (a ≤ b) = true) (fun a b _ _ h1 h2 => by have h1 := of_decide_eq_true h1; have h2 := of_decide_eq_true h2; omega) (List.pairwise_mergeSort (fun a b c h1 h2 => ?_) (fun a b => ?_) _) ?_ ((List.mergeSort_perm _ _).trans hp)
  · have h1 := of_decide_eq_true h1; have h2 := of_decide_eq_true h2; exact decide_eq_true (by omega)
  · rw [Bool.or_eq_true]
    rcases Int.le_total a b with h | h
    · exact .inl (decide_eq_true h)
    · exact .inr (decide_eq_true h)
  · rw [List.pairwise_map]
    exact hs.imp (fun h => decide_eq_true (by omega))
end Pl
def ci (xs : List Nat) : List Int := xs.map (fun k : Nat => (k : Int))
theorem ci_ivn (xs : List Nat) : (ci xs).map iv = xs.map ivn := by unfold ci; rw [List.map_map]; rfl
theorem ci_len (xs : List Nat) : (ci xs).length = xs.length := by unfold ci; simp
/-- rows of numbers collected, all in blocks from B on, each in its own -/
structure RowsI (w : World) (B : Nat) (v : Value) (vs : List Value) (M : List (List Nat)) : Prop where
  own : w.ownsRow B 23 1 v vs.length vs
  len : vs.length = M.length
  rows : ∀ (i : Nat) u r, vs[i]? = some u → M[i]? = some r → OwnR w B 3 u (r.map ivn) ∧ ∀ g, u.ownBlock = some g → v.ownBlock ≠ some g
theorem RowsI.nil (w : World) (B : Nat) : RowsI w B (.slice none 0 0) [] [] := ⟨World.ownsRow_nil _ _ _ _, rfl, fun i u r hu => by simp at hu⟩
theorem RowsI.below {w w1 : World} {B : Nat} {v : Value} {vs : List Value} {M : List (List Nat)} (h : RowsI w B v vs M) (hb : Below w.heap.size w w1) : RowsI w1 B v vs M :=
  ⟨owns_below h.own hb, h.len, fun i u r hu hr => ⟨OwnR.below (h.rows i u r hu hr).1 hb, (h.rows i u r hu hr).2⟩⟩
theorem RowsI.kept {w w1 : World} {B g0 : Nat} {v : Value} {vs : List Value} {M : List (List Nat)} (h : RowsI w B v vs M) (hk : Kept (fun k => k = g0) w w1) (hg : g0 < B) : RowsI w1 B v vs M := by
  have hl : ∀ g, v.ownBlock = some g → ¬ g = g0 := fun g e => by have := (OwnR.lt (OwnR.of_owns h.own) e).1; omega
  refine ⟨?_, h.len, fun i u r hu hr => ⟨OwnR.kept (h.rows i u r hu hr).1 hk (fun g e => by have := (OwnR.lt (h.rows i u r hu hr).1 e).1; omega), (h.rows i u r hu hr).2⟩⟩
  refine ⟨h.own.1, ?_⟩
  rcases h.own.2 with h1 | ⟨g, cap, cur, hv, hb, hc, h2, h3, h4, h5⟩
  · exact .inl h1
  · exact .inr ⟨g, cap, cur, hv, hb, hk.heap hc (hl g (by rw [hv]; rfl)), h2, h3, h4, h5⟩
theorem RowsI.push {w0 w' : World} {B : Nat} {v v' u : Value} {vs : List Value} {M : List (List Nat)} {r : List Nat} (h : RowsI w0 B v vs M) (hu : OwnR w0 B 3 u (r.map ivn))
    (hub : ∀ g, u.ownBlock = some g → v.ownBlock ≠ some g) (hown : w'.ownsRow B 23 1 v' (vs.length + 1) (vs ++ [u])) (hg : w0.grownBy w' v.ownBlock) (hv : v'.ownBlock = v.ownBlock ∨ v'.ownBlock = some (w0.heap.size + 1)) :
    RowsI w' B v' (vs ++ [u]) (M ++ [r]) := by
  have hk := Kept.grown hg
  refine ⟨by rw [List.length_append]; exact hown, by rw [List.length_append, List.length_append, h.len]; rfl, fun i u2 r2 h2 hr2 => ?_⟩
  have key : ∀ {u2 : Value} {r2 : List Nat}, OwnR w0 B 3 u2 (r2.map ivn) → (∀ g, u2.ownBlock = some g → v.ownBlock ≠ some g) → OwnR w' B 3 u2 (r2.map ivn) ∧ ∀ g, u2.ownBlock = some g → v'.ownBlock ≠ some g := fun {u2 r2} k1 k2 => by
    refine ⟨OwnR.kept k1 hk (fun g hg' e => k2 g hg' e.symm), fun g hg' e => ?_⟩
    rcases hv with h | h
    · rw [h] at e; exact k2 g hg' e
    · rw [h] at e
      injection e with e
      have := (OwnR.lt k1 hg').2
      omega
  by_cases hik : i < vs.length
  · rw [List.getElem?_append_left hik] at h2
    rw [List.getElem?_append_left (by rw [← h.len]; exact hik)] at hr2
    obtain ⟨k1, k2⟩ := h.rows i u2 r2 h2 hr2
    exact key k1 k2
  · have hi9 := (List.getElem?_eq_some_iff.1 h2).1
    rw [List.length_append] at hi9
    obtain rfl : i = vs.length := by simp at hi9; omega
    rw [List.getElem?_append_right (by omega), Nat.sub_self] at h2
    obtain rfl : u = u2 := Option.some.inj h2
    rw [List.getElem?_append_right (by rw [h.len]; omega), h.len, Nat.sub_self] at hr2
    obtain rfl : r = r2 := Option.some.inj hr2
    exact key hu hub
theorem RowsI.rows2 {w : World} {B : Nat} {v : Value} {vs : List Value} {M : List (List Nat)} (h : RowsI w B v vs M) (hw : ∀ r ∈ M, ∀ d ∈ r, d < 1000) : Rows2 w v (M.map ci) := by
  refine ⟨vs, OwnR.row (OwnR.of_owns h.own), by rw [List.length_map]; exact h.len, fun i l hl' => ?_⟩
  rw [List.getElem?_map] at hl'
  obtain ⟨r, hr, rfl⟩ := Option.map_eq_some_iff.1 hl'
  have hin := (List.getElem?_eq_some_iff.1 hr).1
  obtain ⟨u, hu⟩ : ∃ u, vs[i]? = some u := ⟨vs[i]'(by rw [h.len]; exact hin), List.getElem?_eq_getElem _⟩
  refine ⟨u, hu, ?_, fun n hn => ?_⟩
  · rw [ci_ivn]; exact OwnR.row (h.rows i u r hu hr).1
  · obtain ⟨d, hd, rfl⟩ := List.mem_map.1 hn
    have := hw r (List.mem_of_getElem? hr) d hd
    have h1 : IntKind.min .i64 ≤ (d : Int) := by show (-9223372036854775808 : Int) ≤ _; omega
    have h2 : (d : Int) ≤ IntKind.max .i64 := by show _ ≤ (9223372036854775807 : Int); omega
    show (decide (IntKind.min .i64 ≤ (d : Int)) && decide ((d : Int) ≤ IntKind.max .i64)) = true
    rw [decide_eq_true h1, decide_eq_true h2]; rfl
set_option maxRecDepth 100000 in
theorem place_bad (n wd m : Int) (h : Pl.plF n wd m = 1) (w : World) :
    Calls Tryd.prog 13 #[iv n, iv wd, iv m] w fun e w' => e = .returned (.tuple #[.slice none 0 0, ev 1]) ∧ w = w' := by
  have HD := Lib.hid (pdisks n w)
  obtain ⟨T, hT⟩ : ∃ T, T = decide (1 ≤ n ∧ n ≤ 10) := ⟨_, rfl⟩
  rw [← hT] at HD
  unfold Pl.plF at h
  by_cases h1 : 1 ≤ n ∧ n ≤ 10
  · rw [decide_eq_true h1] at hT
    subst hT
    by_cases h2 : wd < 1
    · clear h h1
      go_enter Tryd.func13, Tryd.ntmps13
      go_wp2_with fail
      refine HD.out.mono ?_
      rintro e w' ⟨rfl, rfl⟩
      go_wp2_with fail
      go_ret2
      exact ⟨rfl, rfl⟩
    · by_cases h3 : n < wd
      · clear h h1
        go_enter Tryd.func13, Tryd.ntmps13
        go_wp2_with fail
        refine HD.out.mono ?_
        rintro e w' ⟨rfl, rfl⟩
        go_wp2_with fail
        go_ret2
        exact ⟨rfl, rfl⟩
      · by_cases h4 : m < 0
        · clear h h1
          go_enter Tryd.func13, Tryd.ntmps13
          go_wp2_with fail
          refine HD.out.mono ?_
          rintro e w' ⟨rfl, rfl⟩
          go_wp2_with fail
          go_ret2
          exact ⟨rfl, rfl⟩
        · have h5 : 40 < m := by
            by_cases c : 40 < m
            · exact c
            · rw [if_neg (by omega)] at h; omega
          clear h h1
          go_enter Tryd.func13, Tryd.ntmps13
          go_wp2_with fail
          refine HD.out.mono ?_
          rintro e w' ⟨rfl, rfl⟩
          go_wp2_with fail
          go_ret2
          exact ⟨rfl, rfl⟩
  · rw [decide_eq_false h1] at hT
    subst hT
    clear h h1
    go_enter Tryd.func13, Tryd.ntmps13
    go_wp2_with fail
    refine HD.out.mono ?_
    rintro e w' ⟨rfl, rfl⟩
    go_wp2_with fail
    go_ret2
    exact ⟨rfl, rfl⟩
theorem Pl.take_perm {L ys : List Nat} (hp : ys.Perm (List.range L.length)) (hs : ys.Pairwise (fun a b => Pl.bef L a b = true)) (w : Nat) : (ys.take w).Perm (Pl.sel L w) := by
  rw [← Pl.filter_take hp hs]; exact hp.filter _
theorem info_ints : (Tryd.prog.info? 23).map (fun i => (i.zero, i.size, i.bytes)) = some (some (.slice none 0 0), 1, 24) := by kernel_rfl
theorem psort_nat {w : World} {B g o cap n : Nat} {xs zs : List Nat} (hl : xs.length = n) (h0 : 0 < n) (hn : n ≤ 1000) (hO : OwnR w B 3 (.slice (some ⟨g, o, none⟩) n cap) (xs.map ivn)) (hp : xs.Perm zs) (hs : zs.Pairwise (· ≤ ·)) :
    Calls Tryd.prog 26 #[.slice (some ⟨g, o, none⟩) n cap] w fun e w' => e = .returned (.tuple #[]) ∧ Kept (fun k => k = g) w w' ∧ OwnR w' B 3 (.slice (some ⟨g, o, none⟩) n cap) (zs.map ivn) := by
  have hl2 := ci_len xs
  rw [← ci_ivn, ← hl, ← hl2] at hO
  have h := psort_own (ci xs) hO (by omega) (by omega)
  have hs2 : ((ci xs).mergeSort fun x y => decide (x ≤ y)) = ci zs := Pl.sorted_cast (hp.map _) hs
  rw [hs2, hl2, hl] at h
  exact h.mono (fun e w' h => ⟨h.1, h.2.1, by have h3 := h.2.2; rw [← ci_ivn]; exact h3⟩)
/-- what stands while stripes are placed: those that there are, the row of disks, the loads, where they are found -/
structure PlSt (w0 : World) (B2 gp gl gr o cap n : Nat) (w : World) (v : Value) (vs : List Value) (M : List (List Nat)) (ys L : List Nat) : Prop where
  rows : RowsI w B2 v vs M
  row : OwnR w w0.heap.size 3 (.slice (some ⟨gr, o, none⟩) n cap) (ys.map ivn)
  lds : OwnR w w0.heap.size 3 (.slice (some ⟨gl, 0, none⟩) n n) (L.map ivn)
  ptr : w.cell? ⟨gp, 0, none⟩ = some (.slice (some ⟨gl, 0, none⟩) n n)
  bel : Below w0.heap.size w0 w
  sz : B2 ≤ w.heap.size
  apart : gl = w0.heap.size ∧ gl < gp ∧ gp < gr ∧ gr < B2
namespace PlSt
variable {w0 w w1 : World} {B2 gp gl gr o cap n : Nat} {v : Value} {vs : List Value} {M : List (List Nat)} {ys L : List Nat}
theorem below (h : PlSt w0 B2 gp gl gr o cap n w v vs M ys L) (hb : Below w.heap.size w w1) : PlSt w0 B2 gp gl gr o cap n w1 v vs M ys L :=
  ⟨h.rows.below hb, OwnR.below h.row hb, OwnR.below h.lds hb, (hb.cell (p := ⟨gp, 0, none⟩) (by have := h.apart; have := h.sz; show gp < _; omega)).trans h.ptr, h.bel.trans (hb.mono h.bel.size), Nat.le_trans h.sz hb.size, h.apart⟩
theorem sorted {ys' : List Nat} (h : PlSt w0 B2 gp gl gr o cap n w v vs M ys L) (hk : Kept (fun k => k = gr) w w1) (hO : OwnR w1 w0.heap.size 3 (.slice (some ⟨gr, o, none⟩) n cap) (ys'.map ivn)) : PlSt w0 B2 gp gl gr o cap n w1 v vs M ys' L := by
  have ha := h.apart
  exact ⟨h.rows.kept hk (by omega), hO, OwnR.kept h.lds hk (fun g e => by have e : gl = g := Option.some.inj e; omega), hk.cell h.ptr (by omega), h.bel.trans (hk.toBelow h.bel.size (fun k _ e => by omega)), Nat.le_trans h.sz hk.size, h.apart⟩
theorem load {L' : List Nat} (h : PlSt w0 B2 gp gl gr o cap n w v vs M ys L) (hk : Kept (fun k => k = gl) w w1) (hO : OwnR w1 w0.heap.size 3 (.slice (some ⟨gl, 0, none⟩) n n) (L'.map ivn)) : PlSt w0 B2 gp gl gr o cap n w1 v vs M ys L' := by
  have ha := h.apart
  exact ⟨h.rows.kept hk (by omega), OwnR.kept h.row hk (fun g e => by have e : gr = g := Option.some.inj e; omega), hO, hk.cell h.ptr (by omega), h.bel.trans (hk.toBelow h.bel.size (fun k _ e => by omega)), Nat.le_trans h.sz hk.size, h.apart⟩
theorem push {v' u : Value} {r : List Nat} (h : PlSt w0 B2 gp gl gr o cap n w v vs M ys L) (hu : OwnR w B2 3 u (r.map ivn)) (hub : ∀ g, u.ownBlock = some g → v.ownBlock ≠ some g)
    (hown : w1.ownsRow B2 23 1 v' (vs.length + 1) (vs ++ [u])) (hg : w.grownBy w1 v.ownBlock) (hv : v'.ownBlock = v.ownBlock ∨ v'.ownBlock = some (w.heap.size + 1)) :
    PlSt w0 B2 gp gl gr o cap n w1 v' (vs ++ [u]) (M ++ [r]) ys L := by
  have ha := h.apart
  have hk := Kept.grown hg
  have hlow : ∀ g, some g = v.ownBlock → B2 ≤ g := fun g e => (OwnR.lt (OwnR.of_owns h.rows.own) e.symm).1
  exact ⟨h.rows.push hu hub hown hg hv, OwnR.kept h.row hk (fun g e e2 => by have e : gr = g := Option.some.inj e; have := hlow g e2; omega), OwnR.kept h.lds hk (fun g e e2 => by have e : gl = g := Option.some.inj e; have := hlow g e2; omega),
    hk.cell h.ptr (fun e => by have := hlow _ e; omega), h.bel.trans (hk.toBelow h.bel.size (fun k _ e => by have := hlow _ e; have := h.bel.size; have := h.rows; omega)), Nat.le_trans h.sz hk.size, h.apart⟩
theorem ldAt (h : PlSt w0 B2 gp gl gr o cap n w v vs M ys L) (hn : n = L.length) (h0 : 0 < n) : LdAt w gp gl 0 n L := by
  obtain ⟨_, _, _, _, _, hc, _⟩ := OwnR.cellsO h.lds (by rw [List.length_map]; omega)
  refine ⟨by rw [← hn]; exact h.ptr, fun j hj => ?_⟩
  rw [hc j (by omega), List.getElem?_map, List.getElem?_eq_getElem hj, List.getD_eq_getElem?_getD, List.getElem?_eq_getElem hj]; rfl
end PlSt
theorem ld0_ivn (n wd : Nat) : (Pl.ld n wd 0).map ivn = (List.range n).map (fun _ => iv 0) := by
  rw [Pl.ld_0]
  refine List.ext_getElem? (fun k => ?_)
  rw [List.getElem?_map, List.getElem?_map, List.getElem?_replicate]
  by_cases h : k < n
  · rw [if_pos h, List.getElem?_range h]; rfl
  · rw [if_neg h, List.getElem?_eq_none (by rw [List.length_range]; omega)]; rfl
set_option maxRecDepth 100000 in
set_option maxHeartbeats 2000000 in
theorem place_good (n wd m : Nat) (h1 : 1 ≤ n) (h10 : n ≤ 10) (hw1 : 1 ≤ wd) (hwn : wd ≤ n) (hm : m ≤ 40) (w : World) :
    Calls Tryd.prog 13 #[iv n, iv wd, iv m] w fun e w' => ∃ v, e = .returned (.tuple #[v, .nilIface]) ∧ Below w.heap.size w w' ∧ Rows2 w' v ((Pl.st n wd m).map ci) := by
  have HD := Lib.hid (pdisks n w)
  rw [decide_eq_true (by omega)] at HD
  have mk := make_intsO n (by omega) w
  have hO0 := made_intsO n (by omega) w
  rw [← ld0_ivn n wd] at hO0
  have hal : Below w.heap.size w (w.alloc (.cells (madeCells #[.int .i64 0] n) 3)) := (Below.refl _ _).alloc (Nat.le_refl _) _
  have hsz1 : (w.alloc (.cells (madeCells #[.int .i64 0] n) 3)).heap.size = w.heap.size + 1 := by simp
  obtain ⟨w1, hw1'⟩ : ∃ w1, w1 = w.alloc (.cells (madeCells #[.int .i64 0] n) 3) := ⟨_, rfl⟩
  rw [← hw1'] at mk hal hO0 hsz1
  obtain ⟨gl, hgl⟩ : ∃ g, g = w.heap.size := ⟨_, rfl⟩
  obtain ⟨gp, hgp⟩ : ∃ g, g = w1.heap.size := ⟨_, rfl⟩
  rw [← hgl] at mk hO0
  obtain ⟨w3, hw3⟩ : ∃ w3, w3 = w1.alloc (.cells #[.slice (some ⟨gl, 0, none⟩) n n] 23) := ⟨_, rfl⟩
  have hal3 : Below w1.heap.size w1 w3 := by rw [hw3]; exact (Below.refl _ _).alloc (Nat.le_refl _) _
  have hsz3 : w3.heap.size = w1.heap.size + 1 := by rw [hw3]; simp
  have hcp : w3.cell? ⟨gp, 0, none⟩ = some (.slice (some ⟨gl, 0, none⟩) n n) := by rw [hw3, hgp, cell_of_row _ _ _ _ _ _ (heap_alloc_new w1 _)]; rfl
  have hfp : w3.frozen? ⟨gp, 0, none⟩ = false := by rw [hw3, hgp]; exact frozen_of_row _ _ _ _ _ (heap_alloc_new w1 _)
  have hO3 := OwnR.below hO0 hal3
  have HB3 := Lib.hid (hal.trans (hal3.mono (by omega)))
  have HO3 := Lib.hid hO3
  have HCp := Lib.hid hcp
  have HFp := Lib.hid hfp
  have Hg := Lib.hid (show gl = w.heap.size ∧ gp = w.heap.size + 1 ∧ w3.heap.size = w.heap.size + 2 by omega)
  have Hw3 := Lib.hid hw3
  have Hgp := Lib.hid hgp
  have hI1 : (wd : Int) ≤ (n : Int) := by omega
  have hI2 : decide ((wd : Int) < 1) = false := dec_f (by omega)
  have hI3 : decide ((m : Int) < 0) = false := dec_f (by omega)
  have hI4 : decide ((40 : Int) < (m : Int)) = false := dec_f (by omega)
  have hI5 : decide (n < wd) = false := dec_f (by omega)
  clear hO0 hal hsz1 hw1' hgl hgp hw3 hal3 hsz3 hcp hfp hO3
  go_enter Tryd.func13, Tryd.ntmps13
  go_wp2_with fail
  refine HD.out.mono ?_
  rintro e w' ⟨rfl, rfl⟩
  clear HD
  go_wp2_with fail
  rw [← Hgp.out, ← Hw3.out]
  clear mk Hgp Hw3
  obtain ⟨B1, hB1⟩ : ∃ x, x = w3.heap.size := ⟨_, rfl⟩
  go_loopg [9, 10, 39] n (fun gk v9 v10 v39 wr => ∃ k : Nat, k + gk = n ∧ v39 = iv k ∧ wr.ownsRow B1 3 1 v9 k ((List.range k).map ivn) ∧ Below B1 w3 wr)
  case atStart => exact ⟨0, by omega, rfl, World.ownsRow_nil _ _ _ _, Below.refl _ _⟩
  case round =>
    obtain ⟨k, hk, rfl, hO, hB⟩ := hrel
    have Hk := Lib.hid hk
    have HO := Lib.hid hO
    have HB := Lib.hid hB
    have hz : B1 ≤ wr.heap.size := by rw [hB1]; exact hB.size
    have HB1 := Lib.hid hB1
    clear hk hO hB hB1
    by_cases hkn : k < n
    · have hk9 : k + 1 ≤ 1000000 := by omega
      have hap : (List.range k).map ivn ++ [iv (k : Int)] = (List.range (k + 1)).map ivn := by rw [List.range_succ, List.map_append]; rfl
      have Hap := Lib.hid hap
      obtain ⟨pv, nv, cv, rfl⟩ := (OwnR.of_owns HO.out).slice
      clear hap
      go_wp2_with (at_builtin; refine app1 w3 wr _ 3 23 rfl _ _ rfl B1 Tryd.underlying23 info_int rfl _ k _ rfl _ rfl rfl HO.out rfl hk9 (by decide) hz HB.out ?_)
      intro v8 w8 hown8 hb8 _ _
      rw [Hap.out] at hown8
      have HO8 := Lib.hid hown8
      have HB8 := Lib.hid hb8
      clear hown8 hb8 HO HB
      go_wp2_with fail
      go_roundg (gk - 1)
      case measure => have := Hk.out; omega
      case rel => exact ⟨k + 1, by have := Hk.out; omega, by go_num, HO8.out, HB8.out⟩
    · have hkn' : k = n := by have := Hk.out; omega
      subst hkn'
      obtain ⟨gr, o, cap, hv, hgr, hgz, hc1, hc2, _, _⟩ := OwnR.at0 (OwnR.of_owns HO.out) (by rw [List.length_map, List.length_range]; omega)
      rw [List.length_map, List.length_range] at hv hc1
      subst hv
      have hg := Hg.out
      have hb := HB1.out
      obtain ⟨B2, hB2⟩ : ∃ x, x = wr.heap.size := ⟨_, rfl⟩
      have HP : Hid (PlSt w B2 gp gl gr o cap k wr (.slice none 0 0) [] (Pl.st k wd 0) (List.range k) (Pl.ld k wd 0)) := Lib.hid
        ⟨RowsI.nil _ _, (OwnR.of_owns HO.out).mono (by omega), (OwnR.below (HO3.out) (HB.out.mono (by omega))).mono (by omega), (HB.out.cell (p := ⟨gp, 0, none⟩) (by show gp < _; omega)).trans HCp.out, HB3.out.trans (HB.out.mono (by omega)), by omega, by omega, by omega, by omega, by omega⟩
      have hcI : (wd : Int) ≤ (cap : Int) := by omega
      have hcN : wd ≤ cap := by omega
      clear hg hb hgr hgz hc1 HO HB HO3 HCp HFp HB3 Hk hB2 hkn HB1
      go_wp2_with fail
      go_loopg [11, 12, 14, 48] m (fun gk v11 v12 v14 v48 wr => ∃ (i : Nat) (vs : List Value) (ys : List Nat), i + gk = m ∧ v48 = iv i ∧ ys.Perm (List.range k) ∧ PlSt w B2 gp gl gr o cap k wr v11 vs (Pl.st k wd i) ys (Pl.ld k wd i))
      case atStart => exact ⟨0, [], List.range k, by omega, rfl, List.Perm.refl _, HP.out⟩
      case round =>
        obtain ⟨gO, hgO⟩ : ∃ x : Nat, x = gk := ⟨_, rfl⟩
        obtain ⟨wO, hwO⟩ : ∃ x : World, x = wr := ⟨_, rfl⟩
        subst hgO hwO
        clear HP
        obtain ⟨i, vs, ys, hi, rfl, hys, hP⟩ := hrel
        have Hi := Lib.hid hi
        have HP := Lib.hid hP
        obtain ⟨L, hL⟩ : ∃ x, x = Pl.ld k wd i := ⟨_, rfl⟩
        obtain ⟨M, hM⟩ : ∃ x, x = Pl.st k wd i := ⟨_, rfl⟩
        rw [← hL, ← hM] at HP
        have hLl : L.length = k := by rw [hL, Pl.ld_len]
        have hLb : ∀ d, L.getD d 0 ≤ i := fun d => by rw [hL]; exact Pl.ld_le _ _ _ _
        have HL := Lib.hid (And.intro hL hM)
        have HLl := Lib.hid hLl
        have HLb := Lib.hid hLb
        have hysl : ys.length = k := by have := hys.length_eq; rw [List.length_range] at this; exact this
        have HS1 := Lib.hid (psort_nat (zs := List.range k) hysl (by omega) (by omega) HP.out.row hys (List.pairwise_lt_range.imp (fun h => Nat.le_of_lt h)))
        clear hi hys hP hL hM hLl hLb hysl
        by_cases him : i < m
        · go_wp2_with fail
          refine HS1.out.mono ?_
          rintro e w4 ⟨rfl, hK4, hO4⟩
          have HP4 := Lib.hid (HP.out.sorted hK4 hO4)
          clear hK4 hO4 HS1 HP
          have HS2 := Lib.hid (sortstable_any (HP4.out.ldAt HLl.out.symm (by omega)) HLl.out.symm h10 h1 HP4.out.row (by have := HP4.out.apart; omega) (by have := HP4.out.apart; omega))
          go_wp2_with fail
          refine HS2.out.mono ?_
          rintro e w5 ⟨rfl, hK5, ys5, hp5, hs5, hO5⟩
          have HP5 := Lib.hid (HP4.out.sorted hK5 hO5)
          have hy5 : ys5.length = k := by have := hp5.length_eq; rw [List.length_range] at this; exact this
          have hrow := row_headI (k := wd) (OwnR.row HP5.out.row) (by rw [List.length_map, hy5]; omega)
          rw [← List.map_take] at hrow
          have htl : (ys5.take wd).length = wd := by rw [List.length_take]; omega
          have HC := Lib.hid (clone_any ((ys5.take wd).map ivn) (fun u hu => by obtain ⟨x, _, rfl⟩ := List.mem_map.1 hu; rfl) (by rw [List.length_map]; omega) _ w5 hrow)
          have Hp5 := Lib.hid (And.intro hp5 hs5)
          have Htl := Lib.hid htl
          clear hK5 hO5 HS2 HP4 hp5 hs5 hrow hy5 htl
          go_wp2_with fail
          refine HC.out.mono ?_
          rintro e w6 ⟨u6, rfl, hown6, hb6⟩
          have HP6 := Lib.hid (HP5.out.below hb6)
          rw [List.length_map, Htl.out] at hown6
          obtain ⟨g2, o2, c2, hu6, hg2, hgz2, hl2, hc2, _, _⟩ := OwnR.at0 (OwnR.of_owns hown6) (by rw [List.length_map, Htl.out]; omega)
          rw [List.length_map, Htl.out] at hu6 hl2
          subst hu6
          have hperm : (ys5.take wd).Perm (Pl.sel L wd) := Pl.take_perm (by rw [HLl.out]; exact Hp5.out.1) Hp5.out.2 wd
          have HS3 := Lib.hid (psort_nat (zs := Pl.sel L wd) Htl.out (by omega) (by omega) (OwnR.of_owns hown6) hperm ((Pl.sel_sorted L wd).imp (fun h => Nat.le_of_lt h)))
          have Hb6 := Lib.hid hb6
          have hgB : B2 ≤ g2 := Nat.le_trans HP5.out.sz hg2
          have hz5 : B2 ≤ w5.heap.size := HP5.out.sz
          have hgl : g2 ≠ gl := by have := HP5.out.apart; omega
          have hv11 : ∀ g, u11.ownBlock = some g → g < w5.heap.size := fun g e => (OwnR.lt (OwnR.of_owns HP5.out.rows.own) e).2
          have Hv11 := Lib.hid hv11
          have Hg2 := Lib.hid hg2
          have hpl : gp ≠ gl := by have := HP5.out.apart; omega
          clear hown6 hb6 hperm HC HP6 hgz2 hc2 hv11
          go_wp2_with fail
          refine HS3.out.mono ?_
          rintro e w7 ⟨rfl, hK7, hO7⟩
          have HB7 := Lib.hid (Hb6.out.trans (hK7.toBelow Hb6.out.size (fun q _ e => by rw [e]; exact hg2)))
          have HP7 := Lib.hid (HP5.out.below HB7.out)
          have HO7 := Lib.hid hO7
          have hsl : (Pl.sel L wd).length = wd := Pl.sel_len L (by rw [HLl.out]; exact hwn)
          have Hsl := Lib.hid hsl
          clear HS3 hK7 hO7 HP5 hsl hg2
          go_wp2_with fail
          go_loopg [14, 63] wd (fun gk v14 v63 wr => ∃ j : Nat, j + gk = wd ∧ v63 = iv j ∧ PlSt w B2 gp gl gr o cap k wr u11 vs M ys5 (Pl.part L (Pl.sel L wd) j) ∧ Kept (fun q => q = gl) w7 wr)
          case atStart => exact ⟨0, by omega, rfl, by rw [Pl.part_0]; exact HP7.out, Kept.refl _ _⟩
          case round =>
            clear HP7
            obtain ⟨j, hj, rfl, hP, hK⟩ := hrel
            have Hj := Lib.hid hj
            have HP := Lib.hid hP
            have HK := Lib.hid hK
            clear hj hP hK
            have HOj := Lib.hid (OwnR.kept HO7.out HK.out (fun g e => by have e : g2 = g := Option.some.inj e; omega))
            by_cases hjw : j < wd
            · obtain ⟨d, hd⟩ : ∃ d, (Pl.sel L wd)[j]? = some d := ⟨(Pl.sel L wd)[j]'(by rw [Hsl.out]; exact hjw), List.getElem?_eq_getElem _⟩
              have hdL : d < L.length := (Pl.mem_sel.1 (List.mem_of_getElem? hd)).1
              have hdk : d < k := by rw [HLl.out] at hdL; exact hdL
              obtain ⟨hx1, hx2, hx3, hx4, hx5, hcc, hff⟩ := OwnR.cellsO HOj.out (by rw [List.length_map, Hsl.out]; omega)
              have c1 := hcc j hjw
              rw [ivn_at hd] at c1
              clear hx1 hx2 hx3 hx4 hx5 hcc hff
              obtain ⟨hx1, hx2, hx3, hx4, hx5, hcc, hff⟩ := OwnR.cellsO HP.out.lds (by rw [List.length_map, Pl.part_len, HLl.out]; omega)
              have c2 := hcc d hdk
              rw [ivn_at (Pl.part_get hdL), if_neg (Pl.not_taken (Pl.sel_nodup _ _) hd), Nat.add_zero, Nat.zero_add] at c2
              have f2 := hff d
              have c0 := HP.out.ptr
              obtain ⟨x, hx⟩ : ∃ x, x = L.getD d 0 := ⟨_, rfl⟩
              have hxi : x ≤ i := by rw [hx]; exact HLb.out d
              rw [← hx] at c2
              have hps := Pl.part_succ (Pl.sel_nodup L wd) hd hdL
              rw [← hx] at hps
              have hst : ∀ v, OwnR (wr.setCell ⟨gl, d, none⟩ v) w.heap.size 3 (.slice (some ⟨gl, 0, none⟩) k k) (((Pl.part L (Pl.sel L wd) j).map ivn).set d v) := fun v => by
                have h := HP.out.lds.setAtO (k := d) (by rw [List.length_map, Pl.part_len]; exact hdL) v
                rw [Nat.zero_add] at h; exact h
              have hst1 := hst (ivn (x + 1))
              rw [← List.map_set, ← hps] at hst1
              have Hst := Lib.hid hst1
              have hjI : (j : Int) < (wd : Int) := by omega
              have hdI : (d : Int) < (k : Int) := by omega
              have hw1' : IntKind.i64.wrap ((x : Int) + 1) = ((x + 1 : Nat) : Int) := by rw [IntWalk.i64_in _ (by omega)]; omega
              clear hcc hff hx1 hx2 hx3 hx4 hx5 hd hdL hx hps hst hst1
              go_wp2_with fail
              go_roundg (gk - 1)
              case measure => have := Hj.out; omega
              case rel => exact ⟨j + 1, by have := Hj.out; omega, by go_num, HP.out.load ((Kept.self gl wr).set1 d _) Hst.out, HK.out.set1 d _⟩
            · have hjw' : j = wd := by have := Hj.out; omega
              have hpf : Pl.part L (Pl.sel L wd) j = Pl.ld k wd (i + 1) := by rw [Pl.part_full _ _ (by rw [Hsl.out]; omega), Pl.ld_succ, ← HL.out.1]
              rw [hpf] at HP
              have hjI : ¬ (j : Int) < (wd : Int) := by omega
              obtain ⟨pv, nv, cv, rfl⟩ := (OwnR.of_owns HP.out.rows.own).slice
              have hk9 : vs.length + 1 ≤ 1000000 := by rw [HP.out.rows.len, HL.out.2, Pl.st_len]; omega
              have hB2 := HP.out.sz
              have HOs := Lib.hid (HOj.out.mono (base' := B2) hz5)
              have hM9 : M ++ [Pl.sel L wd] = Pl.st k wd (i + 1) := by rw [Pl.st_succ, ← HL.out.1, ← HL.out.2]
              have HM9 := Lib.hid hM9
              clear hjw hpf hjw' hM9 HOj
              go_wp2_with (at_builtin; refine app1 wr wr _ 23 22 rfl _ _ rfl B2 Tryd.underlying22 info_ints rfl _ vs.length _ rfl _ rfl rfl HP.out.rows.own rfl hk9 (by decide) hB2 (Below.refl _ _) ?_)
              intro v8 w8 hown8 hb8 hgr8 hat8
              have HP8 := Lib.hid (HP.out.push HOs.out (fun g e e2 => by have e : g2 = g := Option.some.inj e; have := Hv11.out g e2; have := Hg2.out; omega) hown8 hgr8 hat8)
              rw [HM9.out] at HP8
              clear hown8 hb8 hgr8 hat8 HP
              go_wp2_with fail
              go_roundg (gO - 1)
              case measure => have := Hi.out; omega
              case rel => exact ⟨i + 1, _, ys5, by have := Hi.out; omega, by go_num, Hp5.out.1, HP8.out⟩
        · obtain rfl : i = m := by have := Hi.out; omega
          have hR : Rows2 wO u11 ((Pl.st k wd i).map ci) := by
            rw [← HL.out.2]
            refine HP.out.rows.rows2 (fun r hr d hd => ?_)
            rw [HL.out.2] at hr
            exact Nat.lt_of_lt_of_le (Pl.st_lt hr hd) (by omega)
          have HR := Lib.hid hR
          clear him HS1 hR
          go_wp2_with fail
          go_ret2
          exact ⟨_, rfl, HP.out.bel, HR.out⟩
namespace Pl
def plL (n w m : Int) : List (List Int) := if plF n w m = 0 then (st n.toNat w.toNat m.toNat).map ci else []
theorem plF_cases (n w m : Int) : plF n w m = 1 ∨ plF n w m = 0 ∧ ∃ a b c : Nat, n = a ∧ w = b ∧ m = c ∧ 1 ≤ a ∧ a ≤ 10 ∧ 1 ≤ b ∧ b ≤ a ∧ c ≤ 40 := by
  unfold plF
  by_cases h : n < 1 ∨ 10 < n ∨ w < 1 ∨ n < w ∨ m < 0 ∨ 40 < m
  · exact .inl (if_pos h)
  · exact .inr ⟨if_neg h, n.toNat, w.toNat, m.toNat, by omega, by omega, by omega, by omega, by omega, by omega, by omega, by omega⟩
end Pl
theorem rows2_nil (w : World) : Rows2 w (.slice none 0 0) [] := ⟨[], ⟨none, 0, rfl, Nat.le_refl _, Nat.zero_le _, fun _ => rfl, fun h => by simp at h⟩, rfl, fun i xs h => by simp at h⟩
/-- Place: the stripes, or what is wrong -/
theorem place_tot (n wd m : Int) (w : World) :
    Calls Tryd.prog 13 #[iv n, iv wd, iv m] w fun e w' => ∃ v, e = .returned (.tuple #[v, errV (Pl.plF n wd m)]) ∧ Below w.heap.size w w' ∧ Rows2 w' v (Pl.plL n wd m) := by
  rcases Pl.plF_cases n wd m with h | ⟨h, a, b, c, rfl, rfl, rfl, h1, h2, h3, h4, h5⟩
  · refine (place_bad n wd m h w).mono ?_
    rintro e w' ⟨rfl, rfl⟩
    refine ⟨.slice none 0 0, ?_, Below.refl _ _, ?_⟩
    · rw [h]; rfl
    · unfold Pl.plL; rw [if_neg (by omega)]; exact rows2_nil _
  · refine (place_good a b c h1 h2 h3 h4 h5 w).mono ?_
    rintro e w' ⟨v, rfl, hb, hr⟩
    refine ⟨v, ?_, hb, ?_⟩
    · rw [h]; rfl
    · unfold Pl.plL; rw [if_pos h]; exact hr
end Go.Proofs.YtkkfpdjhnffpbaaDoor
