/- The walks of package disk: the methods. · The walks of package disk: blank, Replace, New. -/
import Derived.Test.YtcldioneiededaaDoorDiskW
namespace Go.Proofs.YtcldioneiededaaDoor
open Go.ChangeShapes Go.WideShapes Go.ChangeAt Go.RowKit
set_option linter.unusedVariables false
variable {w : World} {b : Nat} {d : Dk.D}
theorem ready_any (h : DiskAt w b d) (row : Int) :
    Calls Tryd.prog 75 #[.pointer (some ⟨b, 0, none⟩), iv row] w fun e w' => e = .returned (errV (d.ready row)) ∧ w = w' := by
  have c1 := h.m
  have c3 := h.fl
  have hm := h.room
  clear h
  cases hf : d.failed with
  | true =>
    have e : d.ready row = 6 := by unfold Dk.D.ready; rw [hf, if_pos rfl]
    rw [e]
    rw [hf] at c3
    clear hf e
    go_enter Tryd.func75, Tryd.ntmps75
    go_wp2_with fail
    go_ret
    exact ⟨rfl, rfl⟩
  | false =>
    rw [hf] at c3
    have e0 : d.ready row = if row < 0 ∨ (d.many : Int) ≤ row then 1 else 0 := by unfold Dk.D.ready; rw [hf, if_neg (by decide)]
    clear hf
    by_cases h1 : row < 0
    · rw [e0, if_pos (.inl h1)]
      clear e0
      go_enter Tryd.func75, Tryd.ntmps75
      go_wp2_with fail
      go_ret
      exact ⟨rfl, rfl⟩
    · by_cases h2 : (d.many : Int) ≤ row
      · rw [e0, if_pos (.inr h2)]
        clear e0
        go_enter Tryd.func75, Tryd.ntmps75
        go_wp2_with fail
        go_ret
        exact ⟨rfl, rfl⟩
      · rw [e0, if_neg (by omega)]
        clear e0
        go_enter Tryd.func75, Tryd.ntmps75
        go_wp2_with fail
        go_ret
        exact ⟨rfl, rfl⟩
theorem read_any (h : DiskAt w b d) (row : Int) :
    Calls Tryd.prog 50 #[.pointer (some ⟨b, 0, none⟩), iv row] w fun e w' => e = .returned (.tuple #[.string (d.read row).1, errV (d.read row).2]) ∧ w = w' := by
  have H := Lib.hid h
  unfold Dk.D.read
  by_cases h0 : d.ready row = 0
  · obtain ⟨_, h1, h2⟩ := Dk.D.ready_in h0
    obtain ⟨r, rfl⟩ : ∃ r : Nat, row = r := ⟨row.toNat, by omega⟩
    have hr20 : r < 20 := by have := h.room; omega
    have hc := h.row hr20
    rw [if_pos h0, Int.toNat_natCast]
    have H0 := Lib.hid h0
    clear h0 h1 h2 h
    go_enter Tryd.func50, Tryd.ntmps50
    go_wp2_with fail
    refine (ready_any H.out r).mono ?_
    rintro e w' ⟨rfl, rfl⟩
    rw [H0.out, errV_0]
    go_wp2_with fail
    go_ret2
    exact ⟨rfl, rfl⟩
  · rw [if_neg h0]
    obtain ⟨n, hn⟩ : ∃ n, n = d.ready row := ⟨_, rfl⟩
    rw [← hn] at h0 ⊢
    have Hn := Lib.hid hn
    have H0 := Lib.hid h0
    clear hn h0 h
    go_enter Tryd.func50, Tryd.ntmps50
    go_wp2_with fail
    refine (ready_any H.out row).mono ?_
    rintro e w' ⟨rfl, rfl⟩
    rw [← Hn.out, errV_ne H0.out]
    go_wp2_with fail
    go_ret2
    rw [errV_ne H0.out]
    exact ⟨rfl, rfl⟩
def DkPost (b : Nat) (r : Int × Dk.D) (w : World) (e : Ending) (w' : World) : Prop := e = .returned (errV r.1) ∧ DiskAt w' b r.2 ∧ Kept (· = b) w w' ∧ w.heap.size = w'.heap.size
theorem write_any (h : DiskAt w b d) (row : Int) (s : ByteArray) (hs : s.size ≤ maxLen) (hw : d.writes < 1000000) :
    Calls Tryd.prog 55 #[.pointer (some ⟨b, 0, none⟩), iv row, .string s] w (DkPost b (d.write row s) w) := by
  unfold maxLen at hs
  have H := Lib.hid h
  have hz := h.sz
  unfold Dk.D.write
  by_cases h0 : d.ready row = 0
  · obtain ⟨_, h1, h2⟩ := Dk.D.ready_in h0
    obtain ⟨r, rfl⟩ : ∃ r : Nat, row = r := ⟨row.toNat, by omega⟩
    have hr20 : r < 20 := by have := h.room; omega
    have c2 := h.z
    have c4 := h.n
    have cr := h.row hr20
    have cf := h.f
    rw [if_pos h0, Int.toNat_natCast]
    have H0 := Lib.hid h0
    by_cases hq : s.size = d.size
    · rw [if_pos hq]
      have Hq := Lib.hid hq
      have hd : ((s.size : Int) != (d.size : Int)) = false := bne_f (by rw [hq])
      have hn : r ≠ 23 := by omega
      clear h0 h1 h2 h hq
      go_enter Tryd.func55, Tryd.ntmps55
      go_wp2_with fail
      refine (ready_any H.out r).mono ?_
      rintro e w' ⟨rfl, rfl⟩
      rw [H0.out, errV_0]
      go_wp2_with fail
      go_ret
      exact ⟨rfl, (H.out.setRow hr20 s).setN (d.writes + 1), (Kept.self b w).set1 _ _ |>.set1 _ _, by simp [World.setCell]⟩
    · rw [if_neg hq]
      have hd : ((s.size : Int) != (d.size : Int)) = true := bne_t (by omega)
      clear h0 h1 h2 h hq
      go_enter Tryd.func55, Tryd.ntmps55
      go_wp2_with fail
      refine (ready_any H.out r).mono ?_
      rintro e w' ⟨rfl, rfl⟩
      rw [H0.out, errV_0]
      go_wp2_with fail
      go_ret
      exact ⟨rfl, H.out, Kept.self b w, rfl⟩
  · rw [if_neg h0]
    obtain ⟨n, hn⟩ : ∃ n, n = d.ready row := ⟨_, rfl⟩
    rw [← hn] at h0 ⊢
    have Hn := Lib.hid hn
    have H0 := Lib.hid h0
    clear hn h0 h
    go_enter Tryd.func55, Tryd.ntmps55
    go_wp2_with fail
    refine (ready_any H.out row).mono ?_
    rintro e w' ⟨rfl, rfl⟩
    rw [← Hn.out, errV_ne H0.out]
    go_wp2_with fail
    go_ret
    rw [DkPost, errV_ne H0.out]
    exact ⟨rfl, H.out, Kept.self b w, rfl⟩
theorem fail_any (h : DiskAt w b d) :
    Calls Tryd.prog 46 #[.pointer (some ⟨b, 0, none⟩)] w (DkPost b d.fail w) := by
  have H := Lib.hid h
  have c3 := h.fl
  have cf := h.f
  unfold Dk.D.fail
  clear h
  cases hf : d.failed with
  | true =>
    rw [hf] at c3
    clear hf
    go_enter Tryd.func46, Tryd.ntmps46
    go_wp2_with fail
    go_ret
    exact ⟨rfl, H.out, Kept.self b w, rfl⟩
  | false =>
    rw [hf] at c3
    clear hf
    go_enter Tryd.func46, Tryd.ntmps46
    go_wp2_with fail
    go_ret
    exact ⟨rfl, H.out.setF true, (Kept.self b w).set1 _ _, by simp [World.setCell]⟩
theorem works_any (h : DiskAt w b d) :
    Calls Tryd.prog 60 #[.pointer (some ⟨b, 0, none⟩)] w fun e w' => e = .returned (.bool (!d.failed)) ∧ w = w' := by
  have c3 := h.fl
  clear h
  go_enter Tryd.func60, Tryd.ntmps60
  go_wp2_with fail
  go_ret
  exact ⟨rfl, rfl⟩
end Go.Proofs.YtcldioneiededaaDoor
namespace Go.Proofs.YtcldioneiededaaDoor
open Go.ChangeShapes Go.WideShapes Go.ChangeAt Go.RowKit
set_option linter.unusedVariables false
variable {w : World} {b : Nat} {d : Dk.D}
def BlankPost (b : Nat) (d : Dk.D) (w : World) (e : Ending) (w' : World) : Prop := e = .returned (.tuple #[]) ∧ DiskAt w' b d.blank ∧ Kept (· = b) w w'
def BlankRel (b : Nat) (d : Dk.D) (w : World) (gk : Nat) (i : Value) (wr : World) : Prop :=
  ∃ k : Nat, k + gk = d.many ∧ i = iv k ∧ DiskAt wr b { d with rows := Dk.fresh k d.size d.rows } ∧ Kept (· = b) w wr
theorem DiskAt.drew (h : DiskAt w b d) : DiskAt w.drew b d := h.below ((Below.refl _ _).drew)
theorem conv_bytes1 (n : Nat) (w : World) : (convert 50 9 (.slice (some ⟨w.heap.size, 0, none⟩) n n)).run Tryd.prog (w.alloc (.cells (madeCells #[.int .u8 0] n) 5)).drew = .ok (.string (Dk.noughts n)) (w.alloc (.cells (madeCells #[.int .u8 0] n) 5)).drew := by
  have h := run_convert_bytes_back (P := Tryd.prog) (w.alloc (.cells (madeCells #[.int .u8 0] n) 5)).drew 50 9 5 ⟨w.heap.size, 0, none⟩ n (List.replicate n 0) Tryd.underlying50 Tryd.underlying5 Tryd.underlying9 (fun j hj => by
    rw [List.length_replicate] at hj
    show (w.alloc (.cells (madeCells #[.int .u8 0] n) 5)).cell? _ = _
    rw [Addr.add_lit, Nat.zero_add, World.cell?_alloc_at _ _ _ _ rfl]
    show (madeCells #[Value.int .u8 0] n)[j]? = _
    rw [made_at n j hj, List.getElem_replicate]; rfl)
  rw [List.length_replicate] at h
  exact h
theorem blank_any (h : DiskAt w b d) :
    Calls Tryd.prog 73 #[.pointer (some ⟨b, 0, none⟩)] w (BlankPost b d w) := by
  have H := Lib.hid h
  have c1 := h.m
  have hm := h.room
  have hz := h.sz
  clear h
  go_enter Tryd.func73, Tryd.ntmps73
  go_wp2_with fail
  go_loopg [7] d.many (fun gk i wr => BlankRel b d w gk i wr)
  case atStart => exact ⟨0, by omega, rfl, by rw [Dk.fresh_zero]; exact H.out, Kept.self b w⟩
  case round =>
    obtain ⟨k, hk, rfl, hD, hK⟩ := hrel
    have Hk := Lib.hid hk
    have HD := Lib.hid hD
    have HK := Lib.hid hK
    by_cases hlt : k < d.many
    · have f2 := hD.z
      have fk : ∃ v, wr.cell? ⟨b, k, none⟩ = some v := ⟨_, hD.row (by omega)⟩
      obtain ⟨vk, fk⟩ := fk
      have ff := hD.f
      have hbl := hD.lt
      have mk := make_bytes d.size (by omega)
      have cv := conv_bytes1 d.size wr
      clear hk hD hK
      go_wp2_with fail
      go_region
      go_wp2_with fail
      go_roundg (gk - 1)
      case measure => have := Hk.out; omega
      case rel =>
        refine ⟨k + 1, by have := Hk.out; omega, by go_num, ?_, ?_⟩
        · have hx := (HD.out.setRow (j := k) (by omega) (Dk.noughts d.size)).below ((((Below.refl (wr.setCell ⟨b, k, none⟩ (.string (Dk.noughts d.size))).heap.size _).alloc (Nat.le_refl _) (.cells (madeCells #[.int .u8 0] d.size) 5))).drew)
          rw [← Dk.fresh_succ (by have := HD.out.len; rw [Dk.fresh_len] at this; omega)]
          exact hx
        · exact ((HK.out.set1 _ _).alloc _).drew
    · obtain rfl : k = d.many := by omega
      clear hk hD hK
      go_wp2_with fail
      go_end0
      exact ⟨rfl, HD.out, HK.out⟩
theorem replace_any (h : DiskAt w b d) :
    Calls Tryd.prog 59 #[.pointer (some ⟨b, 0, none⟩)] w fun e w' => e = .returned (errV d.replace.1) ∧ DiskAt w' b d.replace.2 ∧ Kept (· = b) w w' := by
  have H := Lib.hid h
  have c3 := h.fl
  have cf := h.f
  unfold Dk.D.replace
  clear h
  cases hf : d.failed with
  | false =>
    rw [hf] at c3
    clear hf
    go_enter Tryd.func59, Tryd.ntmps59
    go_wp2_with fail
    go_ret
    exact ⟨rfl, H.out, Kept.self b w⟩
  | true =>
    rw [hf] at c3
    have H1 := Lib.hid (H.out.setF false)
    clear hf
    go_enter Tryd.func59, Tryd.ntmps59
    go_wp2_with fail
    refine (blank_any H1.out).mono ?_
    rintro e w1 ⟨rfl, hD, hK⟩
    go_wp2_with fail
    go_ret
    exact ⟨rfl, hD, ((Kept.self b w).set1 _ _).also hK⟩
theorem made_blk (m z : Nat) (hm : m ≤ 20) (hz : z ≤ 16) (w : World) (o : Array Value) (ho : o = ((List.replicate 20 (Value.string ⟨#[]⟩)) ++ [iv m, iv z, .bool false, iv 0]).toArray) :
    DiskAt (w.alloc (.cells o 125)) w.heap.size ⟨List.replicate 20 ⟨#[]⟩, m, z, false, 0⟩ := by
  refine ⟨rfl, hm, hz, ?_⟩
  rw [heap_alloc_new, ho, List.map_replicate]
  rfl
def NewPost (m z : Nat) (w : World) (e : Ending) (w' : World) : Prop :=
  e = .returned (.tuple #[.pointer (some ⟨w.heap.size, 0, none⟩), .nilIface]) ∧ DiskAt w' w.heap.size (Dk.made m z) ∧ Below w.heap.size w w' ∧ w.heap.size < w'.heap.size
theorem new_any (m z : Nat) (h1 : 1 ≤ m) (h2 : m ≤ 20) (h3 : 1 ≤ z) (h4 : z ≤ 16) (w : World) :
    Calls Tryd.prog 44 #[iv m, iv z] w (NewPost m z w) := by
  go_enter Tryd.func44, Tryd.ntmps44
  go_wp2_with fail
  refine (blank_any (d := ⟨List.replicate 20 ⟨#[]⟩, m, z, false, 0⟩) (made_blk m z h2 h4 w _ ?hx)).mono ?_
  case hx => rfl
  rintro e w1 ⟨rfl, hD, hK⟩
  go_wp2_with fail
  go_ret2
  refine ⟨rfl, hD, ((Kept.refl (· = w.heap.size) w).alloc _ |>.also hK).toBelow (Nat.le_refl _) (by intro k hk h; omega), ?_⟩
  have := hK.size; simp at this; omega
theorem new_no (x y : Int) (h : x < 1 ∨ 1 ≤ x ∧ 20 < x ∨ 1 ≤ x ∧ x ≤ 20 ∧ y < 1 ∨ 1 ≤ x ∧ x ≤ 20 ∧ 1 ≤ y ∧ 16 < y) (w : World) :
    Calls Tryd.prog 44 #[iv x, iv y] w fun e w' => e = .returned (.tuple #[.pointer none, ev 1]) ∧ w = w' := by
  rcases h with h | ⟨h1, h2⟩ | ⟨h1, h2, h3⟩ | ⟨h1, h2, h3, h4⟩
  all_goals
    go_enter Tryd.func44, Tryd.ntmps44
    go_wp2_with fail
    go_ret2
    exact ⟨rfl, rfl⟩
end Go.Proofs.YtcldioneiededaaDoor
