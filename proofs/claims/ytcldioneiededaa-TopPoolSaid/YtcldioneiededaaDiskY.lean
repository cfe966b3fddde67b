/- The walks of package disk: blank, Replace, New. -/
import Derived.Test.YtcldioneiededaaDiskX
namespace Go.Proofs.Ytcldioneiededaa
open Go.ChangeShapes Go.WideShapes Go.ChangeAt Go.RowKit
set_option linter.unusedVariables false
variable {w : World} {b : Nat} {d : Dk.D}
def BlankPost (b : Nat) (d : Dk.D) (w : World) (e : Ending) (w' : World) : Prop := e = .returned (.tuple #[]) ∧ DiskAt w' b d.blank ∧ Kept (· = b) w w'
def BlankRel (b : Nat) (d : Dk.D) (w : World) (gk : Nat) (i : Value) (wr : World) : Prop :=
  ∃ k : Nat, k + gk = d.many ∧ i = iv k ∧ DiskAt wr b { d with rows := Dk.fresh k d.size d.rows } ∧ Kept (· = b) w wr
theorem DiskAt.drew (h : DiskAt w b d) : DiskAt w.drew b d := h.below ((Below.refl _ _).drew)
theorem conv_bytes1 (n : Nat) (w : World) : (convert 74 9 (.slice (some ⟨w.heap.size, 0, none⟩) n n)).run Try.prog (w.alloc (.cells (madeCells #[.int .u8 0] n) 5)).drew = .ok (.string (Dk.noughts n)) (w.alloc (.cells (madeCells #[.int .u8 0] n) 5)).drew := by
  have h := run_convert_bytes_back (P := Try.prog) (w.alloc (.cells (madeCells #[.int .u8 0] n) 5)).drew 74 9 5 ⟨w.heap.size, 0, none⟩ n (List.replicate n 0) Try.underlying74 Try.underlying5 Try.underlying9 (fun j hj => by
    rw [List.length_replicate] at hj
    show (w.alloc (.cells (madeCells #[.int .u8 0] n) 5)).cell? _ = _
    rw [Addr.add_lit, Nat.zero_add, World.cell?_alloc_at _ _ _ _ rfl]
    show (madeCells #[Value.int .u8 0] n)[j]? = _
    rw [made_at n j hj, List.getElem_replicate]; rfl)
  rw [List.length_replicate] at h
  exact h
theorem blank_any (h : DiskAt w b d) :
    Calls Try.prog 48 #[.pointer (some ⟨b, 0, none⟩)] w (BlankPost b d w) := by
  have H := Lib.hid h
  have c1 := h.m
  have hm := h.room
  have hz := h.sz
  clear h
  go_enter Try.func48, Try.ntmps48
  go_wp2_with fail
  go_loopg [7] d.many (fun gk i wr => BlankRel b d w gk i wr)
  case atStart => exact ⟨0, by omega, rfl, by rw [Dk.fresh_zero]; exact H.out, Kept.self b w⟩
  case round =>
    obtain ⟨k, hk, rfl, hD, hK⟩ := hrel
    have Hk := Lib.hid hk
    have HD := Lib.hid hD
    have HK := Lib.hid hK
    by_cases hlt : k < d.many
    · have f2 := hD.z
      have fk : ∃ v, wr.cell? ⟨b, k, none⟩ = some v := ⟨_, hD.row (by omega)⟩
      obtain ⟨vk, fk⟩ := fk
      have ff := hD.f
      have hbl := hD.lt
      have mk := make_bytes d.size (by omega)
      have cv := conv_bytes1 d.size wr
      clear hk hD hK
      go_wp2_with fail
      go_region
      go_wp2_with fail
      go_roundg (gk - 1)
      case measure => have := Hk.out; omega
      case rel =>
        refine ⟨k + 1, by have := Hk.out; omega, by go_num, ?_, ?_⟩
        · have hx := (HD.out.setRow (j := k) (by omega) (Dk.noughts d.size)).below ((((Below.refl (wr.setCell ⟨b, k, none⟩ (.string (Dk.noughts d.size))).heap.size _).alloc (Nat.le_refl _) (.cells (madeCells #[.int .u8 0] d.size) 5))).drew)
          rw [← Dk.fresh_succ (by have := HD.out.len; rw [Dk.fresh_len] at this; omega)]
          exact hx
        · exact ((HK.out.set1 _ _).alloc _).drew
    · obtain rfl : k = d.many := by omega
      clear hk hD hK
      go_wp2_with fail
      go_end0
      exact ⟨rfl, HD.out, HK.out⟩
theorem replace_any (h : DiskAt w b d) :
    Calls Try.prog 35 #[.pointer (some ⟨b, 0, none⟩)] w fun e w' => e = .returned (errV d.replace.1) ∧ DiskAt w' b d.replace.2 ∧ Kept (· = b) w w' := by
  have H := Lib.hid h
  have c3 := h.fl
  have cf := h.f
  unfold Dk.D.replace
  clear h
  cases hf : d.failed with
  | false =>
    rw [hf] at c3
    clear hf
    go_enter Try.func35, Try.ntmps35
    go_wp2_with fail
    go_ret
    exact ⟨rfl, H.out, Kept.self b w⟩
  | true =>
    rw [hf] at c3
    have H1 := Lib.hid (H.out.setF false)
    clear hf
    go_enter Try.func35, Try.ntmps35
    go_wp2_with fail
    refine (blank_any H1.out).mono ?_
    rintro e w1 ⟨rfl, hD, hK⟩
    go_wp2_with fail
    go_ret
    exact ⟨rfl, hD, ((Kept.self b w).set1 _ _).also hK⟩
theorem made_blk (m z : Nat) (hm : m ≤ 20) (hz : z ≤ 16) (w : World) (o : Array Value) (ho : o = ((List.replicate 20 (Value.string ⟨#[]⟩)) ++ [iv m, iv z, .bool false, iv 0]).toArray) :
    DiskAt (w.alloc (.cells o 93)) w.heap.size ⟨List.replicate 20 ⟨#[]⟩, m, z, false, 0⟩ := by
  refine ⟨rfl, hm, hz, ?_⟩
  rw [heap_alloc_new, ho, List.map_replicate]
  rfl
def NewPost (m z : Nat) (w : World) (e : Ending) (w' : World) : Prop :=
  e = .returned (.tuple #[.pointer (some ⟨w.heap.size, 0, none⟩), .nilIface]) ∧ DiskAt w' w.heap.size (Dk.made m z) ∧ Below w.heap.size w w' ∧ w.heap.size < w'.heap.size
theorem new_any (m z : Nat) (h1 : 1 ≤ m) (h2 : m ≤ 20) (h3 : 1 ≤ z) (h4 : z ≤ 16) (w : World) :
    Calls Try.prog 25 #[iv m, iv z] w (NewPost m z w) := by
  go_enter Try.func25, Try.ntmps25
  go_wp2_with fail
  refine (blank_any (d := ⟨List.replicate 20 ⟨#[]⟩, m, z, false, 0⟩) (made_blk m z h2 h4 w _ ?hx)).mono ?_
  case hx => rfl
  rintro e w1 ⟨rfl, hD, hK⟩
  go_wp2_with fail
  go_ret2
  refine ⟨rfl, hD, ((Kept.refl (· = w.heap.size) w).alloc _ |>.also hK).toBelow (Nat.le_refl _) (by intro k hk h; omega), ?_⟩
  have := hK.size; simp at this; omega
theorem new_no (x y : Int) (h : x < 1 ∨ 1 ≤ x ∧ 20 < x ∨ 1 ≤ x ∧ x ≤ 20 ∧ y < 1 ∨ 1 ≤ x ∧ x ≤ 20 ∧ 1 ≤ y ∧ 16 < y) (w : World) :
    Calls Try.prog 25 #[iv x, iv y] w fun e w' => e = .returned (.tuple #[.pointer none, ev 1]) ∧ w = w' := by
  rcases h with h | ⟨h1, h2⟩ | ⟨h1, h2, h3⟩ | ⟨h1, h2, h3, h4⟩
  all_goals
    go_enter Try.func25, Try.ntmps25
    go_wp2_with fail
    go_ret2
    exact ⟨rfl, rfl⟩
end Go.Proofs.Ytcldioneiededaa
