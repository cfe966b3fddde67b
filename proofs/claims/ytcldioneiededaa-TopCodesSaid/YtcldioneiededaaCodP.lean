/- What is decoded is what was encoded. Plain. -/
import Derived.Test.YtcldioneiededaaMatI
namespace Go.Proofs.Ytcldioneiededaa
set_option linter.unusedVariables false
open Mx Gv
theorem hx_lt {ls : List Bool} {n i : Nat} (h : i < (hx ls n).length) : (hx ls n).getD i 0 < n := by
  rw [List.getD_eq_getElem?_getD, List.getElem?_eq_getElem h]
  have := List.getElem_mem h
  unfold hx at this
  rw [List.mem_filter, List.mem_range] at this
  exact this.1
theorem hx_inj {ls : List Bool} {n i j : Nat} (hi : i < (hx ls n).length) (hj : j < (hx ls n).length) (e : (hx ls n).getD i 0 = (hx ls n).getD j 0) : i = j := by
  rw [List.getD_eq_getElem?_getD, List.getElem?_eq_getElem hi, List.getD_eq_getElem?_getD, List.getElem?_eq_getElem hj] at e
  have e' : (hx ls n)[i] = (hx ls n)[j] := e
  have hp : (hx ls n).Pairwise (· ≠ ·) := List.Pairwise.filter _ List.nodup_range
  rw [List.pairwise_iff_getElem] at hp
  rcases Nat.lt_trichotomy i j with h | h | h
  · exact absurd e' (hp i j hi hj h)
  · exact h
  · exact absurd e'.symm (hp j i hj hi h)
theorem dN_full {k n : Nat} {ls : List Bool} (hk : k ≤ (hx ls n).length) (hn : n ≤ 12) : rk k k (dN k ls n) = k :=
  code_full (fun i => (hx ls n).getD i 0) (fun i j hi hj e => hx_inj (by omega) (by omega) e) (fun i hi => by have := hx_lt (ls := ls) (n := n) (i := i) (by omega); omega) (by have := hx_le ls n; omega)
theorem hvS_at {ps : List ByteArray} {ls : List Bool} {n i : Nat} (h : i < (hx ls n).length) : (hvS ps ls n)[i]? = some (ps.getD ((hx ls n).getD i 0) ⟨#[]⟩) := by
  unfold hvS
  have e : (hx ls n).getD i 0 = (hx ls n)[i] := by rw [List.getD_eq_getElem?_getD, List.getElem?_eq_getElem h]; rfl
  rw [List.getElem?_map, List.getElem?_eq_getElem h, e]; rfl
theorem cPart_size (k : Nat) (ls : List ByteArray) (i : Nat) : (cPart k ls i).size = size0 ls := sumS_size _ _
theorem ent_sum {ls : List ByteArray} {t : Nat → UInt8} {j : Nat} (hj : j < size0 ls) : at' (sumS ls t).data.toList j = xsum ls.length (fun r => Gf.mul (t r) (ent ls r j)) := by
  unfold sumS comb
  rw [txt_data]
  show List.getD _ _ _ = _
  rw [tab_at _ hj]
theorem dec_right {k n : Nat} {ps : List ByteArray} {ls : List Bool} {data : List ByteArray} (hk : k ≤ (hx ls n).length) (hn : n ≤ 12) (hd : data.length = k) (h1 : 1 ≤ k) (hall : ∀ s ∈ data, s.size = size0 data)
    (hp : ∀ i, i < k → (hvS ps ls n)[i]? = some (cPart k data ((hx ls n).getD i 0))) : decR k n ps ls = data := by
  have hL : ((hvS ps ls n).take k).length = k := by
    rw [List.length_take]
    have : (hvS ps ls n).length = (hx ls n).length := by unfold hvS; rw [List.length_map]
    omega
  have hget : ∀ q, q < k → ((hvS ps ls n).take k)[q]? = some (cPart k data ((hx ls n).getD q 0)) := fun q hq => by
    rw [List.getElem?_take, if_pos hq]; exact hp q hq
  have hs0 : size0 ((hvS ps ls n).take k) = size0 data := by
    have h := hget 0 (by omega)
    cases hc : (hvS ps ls n).take k with
    | nil => rw [hc] at h; simp at h
    | cons a t =>
      rw [hc] at h
      obtain rfl : a = _ := Option.some.inj h
      exact cPart_size _ _ _
  have hI := iv_ok (dN_full (ls := ls) hk hn)
  apply List.ext_getElem?
  intro i
  by_cases hi : i < k
  · unfold decR
    rw [List.getElem?_map, List.getElem?_range hi, List.getElem?_eq_getElem (by omega)]
    show some _ = some _
    congr 1
    have hsz : data[i].size = size0 data := hall _ (List.getElem_mem _)
    have he : ∀ j, ent data i j = at' data[i].data.toList j := fun j => by
      unfold ent
      rw [List.getD_eq_getElem?_getD, List.getElem?_eq_getElem (by omega)]; rfl
    unfold sumS comb
    rw [hs0, hL]
    have hrow : tab (size0 data) (fun j => xsum k (fun q => Gf.mul (iv' k (dN k ls n) i q) (ent ((hvS ps ls n).take k) q j))) = data[i].data.toList := by
      have hl : data[i].data.toList.length = size0 data := by rw [Array.length_toList]; exact hsz
      rw [← tab_self data[i].data.toList, hl]
      refine tab_ext (fun j hj => ?_)
      have e1 : xsum k (fun q => Gf.mul (iv' k (dN k ls n) i q) (ent ((hvS ps ls n).take k) q j)) = mm k (iv' k (dN k ls n)) (mm k (dN k ls n) (ent data)) i j := xsum_congr (fun q hq => by
        congr 1
        unfold ent
        rw [List.getD_eq_getElem?_getD, hget q hq]
        show at' (sumS data _).data.toList j = _
        rw [ent_sum hj, hd]; rfl)
      rw [e1, ← mm_assoc]
      have e2 : mm k (mm k (iv' k (dN k ls n)) (dN k ls n)) (ent data) i j = mm k un (ent data) i j := mm_congr (fun q hq => hI.2 i hi q hq) (fun _ _ => rfl)
      rw [e2, un_mm hi, he]; rfl
    show txt (tab (size0 data) fun j => xsum k fun q => Gf.mul (iv' k (dN k ls n) i q) (ent (List.take k (hvS ps ls n)) q j)) = data[i]
    rw [hrow, txt_self]
  · rw [List.getElem?_eq_none (by unfold decR; rw [List.length_map, List.length_range]; omega), List.getElem?_eq_none (by omega)]
end Go.Proofs.Ytcldioneiededaa
