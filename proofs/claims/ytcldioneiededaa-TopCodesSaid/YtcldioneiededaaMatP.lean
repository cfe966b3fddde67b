/- Matrices over the field by their entries: products, what rows make of rows, Gauss's way, inverses and ranks. Plain. -/
import Derived.Test.YtcldioneiededaaVecP
namespace Go.Proofs.Ytcldioneiededaa
set_option linter.unusedVariables false
namespace Mx
open Gv
abbrev Mt := Nat → Nat → UInt8
def un : Mt := fun i j => if i = j then 1 else 0
theorem un_self (i : Nat) : un i i = 1 := if_pos rfl
theorem un_ne {i j : Nat} (h : i ≠ j) : un i j = 0 := if_neg h
def mm (n : Nat) (A B : Mt) : Mt := fun i j => xsum n (fun k => Gf.mul (A i k) (B k j))
theorem mm_congr {n : Nat} {A A' B B' : Mt} {i j : Nat} (h : ∀ k, k < n → A i k = A' i k) (h' : ∀ k, k < n → B k j = B' k j) : mm n A B i j = mm n A' B' i j :=
  xsum_congr (fun k hk => by rw [h k hk, h' k hk])
theorem mm_assoc (n m : Nat) (A B C : Mt) (i j : Nat) : mm m (mm n A B) C i j = mm n A (mm m B C) i j := by
  have h1 : mm m (mm n A B) C i j = xsum m (fun k => xsum n (fun l => Gf.mul (A i l) (Gf.mul (B l k) (C k j)))) := xsum_congr (fun k _ => by
    show Gf.mul (xsum n _) _ = _
    rw [mul_xsum]
    exact xsum_congr (fun l _ => Gf.mul_assoc _ _ _))
  rw [h1, xsum_swap]
  exact xsum_congr (fun l _ => by
    show _ = Gf.mul _ (xsum m _)
    rw [xsum_mul])
theorem pick_mm {n a : Nat} (ha : a < n) (f : Nat → UInt8) : xsum n (fun k => Gf.mul (un a k) (f k)) = f a := by
  rw [xsum_single ha _ (fun k _ hne => by rw [un_ne (Ne.symm hne), Gf.zero_mul]), un_self, Gf.one_mul]
theorem mm_pick {n a : Nat} (ha : a < n) (f : Nat → UInt8) : xsum n (fun k => Gf.mul (f k) (un k a)) = f a := by
  rw [xsum_single ha _ (fun k _ hne => by rw [un_ne hne, Gf.mul_zero]), un_self, Gf.mul_one]
theorem un_mm {n i : Nat} (hi : i < n) (A : Mt) (j : Nat) : mm n un A i j = A i j := pick_mm hi (fun k => A k j)
theorem mm_un {n j : Nat} (hj : j < n) (A : Mt) (i : Nat) : mm n A un i j = A i j := mm_pick hj (fun k => A i k)
/-- m' is m, its rows turned by what can be turned back -/
def Turn (n : Nat) (m m' : Mt) : Prop := ∃ P Q : Mt, (∀ i, i < n → ∀ j, m' i j = mm n P m i j) ∧ (∀ i, i < n → ∀ j, j < n → mm n P Q i j = un i j) ∧ (∀ i, i < n → ∀ j, j < n → mm n Q P i j = un i j)
theorem Turn.refl (n : Nat) (m : Mt) : Turn n m m := ⟨un, un, fun i hi j => (un_mm hi m j).symm, fun i hi j _ => un_mm hi un j, fun i hi j _ => un_mm hi un j⟩
theorem Turn.trans {n : Nat} {a b c : Mt} (h : Turn n a b) (h' : Turn n b c) : Turn n a c := by
  obtain ⟨P, Q, h1, h2, h3⟩ := h
  obtain ⟨P', Q', k1, k2, k3⟩ := h'
  have key : ∀ {A B C D : Mt}, (∀ i, i < n → ∀ j, j < n → mm n A B i j = un i j) → (∀ i, i < n → ∀ j, j < n → mm n C D i j = un i j) → ∀ i, i < n → ∀ j, j < n → mm n (mm n C A) (mm n B D) i j = un i j := by
    intro A B C D hab hcd i hi j hj
    rw [mm_assoc]
    have e : mm n C (mm n A (mm n B D)) i j = mm n C D i j := mm_congr (fun _ _ => rfl) (fun k hk => by
      rw [← mm_assoc]
      have e2 : mm n (mm n A B) D k j = mm n un D k j := mm_congr (fun l hl => hab k hk l hl) (fun _ _ => rfl)
      rw [e2, un_mm hk])
    rw [e]; exact hcd i hi j hj
  refine ⟨mm n P' P, mm n Q Q', fun i hi j => ?_, key h2 k2, key k3 h3⟩
  rw [k1 i hi j, mm_assoc]
  exact mm_congr (fun _ _ => rfl) (fun k hk => h1 k hk j)
theorem Turn.back {n : Nat} {m m' : Mt} (h : Turn n m m') : ∃ Q : Mt, ∀ i, i < n → ∀ j, m i j = mm n Q m' i j := by
  obtain ⟨P, Q, h1, h2, h3⟩ := h
  refine ⟨Q, fun i hi j => ?_⟩
  have e : mm n Q m' i j = mm n Q (mm n P m) i j := mm_congr (fun _ _ => rfl) (fun k hk => h1 k hk j)
  rw [e, ← mm_assoc]
  have e2 : mm n (mm n Q P) m i j = mm n un m i j := mm_congr (fun k hk => h3 i hi k hk) (fun _ _ => rfl)
  rw [e2, un_mm hi]
theorem Turn.of {n : Nat} (f g : Mt → Mt) (hf : ∀ m i, i < n → ∀ j, f m i j = mm n (f un) m i j) (hg : ∀ m i, i < n → ∀ j, g m i j = mm n (g un) m i j)
    (hfg : ∀ m i, i < n → ∀ j, f (g m) i j = m i j) (hgf : ∀ m i, i < n → ∀ j, g (f m) i j = m i j) (m : Mt) : Turn n m (f m) :=
  ⟨f un, g un, hf m, fun i hi j _ => by rw [← hf (g un) i hi j]; exact hfg un i hi j, fun i hi j _ => by rw [← hg (f un) i hi j]; exact hgf un i hi j⟩
/-- two rows change places -/
def sg (r k i : Nat) : Nat := if i = r then k else if i = k then r else i
theorem sg_lt {n r k i : Nat} (hr : r < n) (hk : k < n) (hi : i < n) : sg r k i < n := by
  unfold sg
  by_cases h : i = r
  · rw [if_pos h]; exact hk
  · rw [if_neg h]
    by_cases h2 : i = k
    · rw [if_pos h2]; exact hr
    · rw [if_neg h2]; exact hi
theorem sg_sg (r k i : Nat) : sg r k (sg r k i) = i := by
  unfold sg
  by_cases h : i = r
  · rw [if_pos h]
    by_cases h2 : k = r
    · rw [if_pos h2]; omega
    · rw [if_neg h2, if_pos rfl]; exact h.symm
  · rw [if_neg h]
    by_cases h2 : i = k
    · rw [if_pos h2, if_pos rfl]; exact h2.symm
    · rw [if_neg h2, if_neg h, if_neg h2]
def sw (r k : Nat) (m : Mt) : Mt := fun i j => m (sg r k i) j
theorem sw_turn {n r k : Nat} (hr : r < n) (hk : k < n) (m : Mt) : Turn n m (sw r k m) := by
  have h : ∀ m i, i < n → ∀ j, sw r k m i j = mm n (sw r k un) m i j := fun m i hi j => (pick_mm (sg_lt hr hk hi) (fun l => m l j)).symm
  have h2 : ∀ m i, i < n → ∀ j, sw r k (sw r k m) i j = m i j := fun m i _ j => by show m (sg r k (sg r k i)) j = _; rw [sg_sg]
  exact Turn.of _ _ h h h2 h2 m
/-- a row so many times -/
def sc (r : Nat) (t : UInt8) (m : Mt) : Mt := fun i j => if i = r then Gf.mul (m i j) t else m i j
theorem sc_turn {n r : Nat} {t : UInt8} (ht : t ≠ 0) (m : Mt) : Turn n m (sc r t m) := by
  have h : ∀ t m i, i < n → ∀ j, sc r t m i j = mm n (sc r t un) m i j := fun t m i hi j => by
    unfold mm sc
    by_cases e : i = r
    · rw [if_pos e, xsum_single hi _ (fun k _ hne => by rw [if_pos e, un_ne (Ne.symm hne), Gf.zero_mul, Gf.zero_mul]), if_pos e, un_self, Gf.one_mul, Gf.mul_comm]
    · rw [if_neg e, xsum_single hi _ (fun k _ hne => by rw [if_neg e, un_ne (Ne.symm hne), Gf.zero_mul]), if_neg e, un_self, Gf.one_mul]
  have h2 : ∀ {t u : UInt8}, Gf.mul t u = 1 → ∀ m i, i < n → ∀ j, sc r u (sc r t m) i j = m i j := fun {t u} htu m i _ j => by
    unfold sc
    by_cases e : i = r
    · rw [if_pos e, if_pos e, Gf.mul_assoc, htu, Gf.mul_one]
    · rw [if_neg e, if_neg e]
  exact Turn.of _ (sc r (Gf.inv t)) (h _) (h _) (h2 (Gf.inv_mul ht)) (h2 (Gf.mul_inv ht)) m
/-- all other rows less so many times that one -/
def ls (r : Nat) (t : Nat → UInt8) (m : Mt) : Mt := fun i j => if i = r then m i j else m i j ^^^ Gf.mul (m r j) (t i)
theorem ls_turn {n r : Nat} (hr : r < n) (t : Nat → UInt8) (m : Mt) : Turn n m (ls r t m) := by
  have h : ∀ m i, i < n → ∀ j, ls r t m i j = mm n (ls r t un) m i j := fun m i hi j => by
    unfold mm ls
    by_cases e : i = r
    · subst e
      rw [if_pos rfl]
      have : xsum n (fun k => Gf.mul (if i = i then un i k else un i k ^^^ Gf.mul (un i k) (t i)) (m k j)) = xsum n (fun k => Gf.mul (un i k) (m k j)) := xsum_congr (fun k _ => by rw [if_pos rfl])
      rw [this, pick_mm hi (fun l => m l j)]
    · rw [if_neg e]
      have : xsum n (fun k => Gf.mul (if i = r then un i k else un i k ^^^ Gf.mul (un r k) (t i)) (m k j)) = xsum n (fun k => Gf.mul (un i k) (m k j) ^^^ Gf.mul (un r k) (Gf.mul (t i) (m k j))) := xsum_congr (fun k _ => by rw [if_neg e, Gf.add_mul, Gf.mul_assoc])
      rw [this, xsum_xor, pick_mm hi (fun l => m l j), pick_mm hr (fun l => Gf.mul (t i) (m l j)), Gf.mul_comm (t i)]
  have h2 : ∀ m i, i < n → ∀ j, ls r t (ls r t m) i j = m i j := fun m i _ j => by
    unfold ls
    by_cases e : i = r
    · rw [if_pos e, if_pos e]
    · rw [if_neg e, if_neg e, if_pos rfl, Gf.add_assoc, Gf.add_self, Gf.add_zero]
  exact Turn.of _ _ h h h2 h2 m
/-- the first from a on of f that is so; a + f: none -/
def fd (p : Nat → Bool) (a : Nat) : Nat → Nat
  | 0 => a
  | f + 1 => if p a = true then a else fd p (a + 1) f
theorem fd_ge (p : Nat → Bool) : ∀ f a, a ≤ fd p a f ∧ fd p a f ≤ a + f
  | 0, a => ⟨Nat.le_refl _, Nat.le_refl _⟩
  | f + 1, a => by
    unfold fd; split
    · omega
    · have := fd_ge p f (a + 1); omega
theorem fd_yes (p : Nat → Bool) : ∀ f a, fd p a f < a + f → p (fd p a f) = true
  | 0, a, h => absurd h (by unfold fd; omega)
  | f + 1, a, h => by
    unfold fd at h ⊢
    by_cases e : p a = true
    · rw [if_pos e]; exact e
    · rw [if_neg e] at h ⊢; exact fd_yes p f (a + 1) (by omega)
theorem fd_no (p : Nat → Bool) : ∀ f a j, a ≤ j → j < fd p a f → p j = false
  | 0, a, j, h1, h2 => absurd h2 (by unfold fd; omega)
  | f + 1, a, j, h1, h2 => by
    unfold fd at h2
    by_cases e : p a = true
    · rw [if_pos e] at h2; omega
    · rw [if_neg e] at h2
      by_cases hj : j = a
      · rw [hj]; simpa using e
      · exact fd_no p f (a + 1) j (by omega) h2
theorem fd_congr {p q : Nat → Bool} : ∀ f a, (∀ j, a ≤ j → j < a + f → p j = q j) → fd p a f = fd q a f
  | 0, a, _ => rfl
  | f + 1, a, h => by
    unfold fd
    rw [h a (Nat.le_refl _) (by omega), fd_congr f (a + 1) (fun j h1 h2 => h j (by omega) (by omega))]
theorem fd_unique {p : Nat → Bool} {a f k : Nat} (h1 : a ≤ k) (h2 : k < a + f) (hy : p k = true) (hn : ∀ j, a ≤ j → j < k → p j = false) : fd p a f = k := by
  have g := fd_ge p f a
  by_cases c : fd p a f < k
  · have := fd_yes p f a (by omega)
    rw [hn _ g.1 c] at this; cases this
  · by_cases c2 : k < fd p a f
    · have := fd_no p f a k h1 c2
      rw [hy] at this; cases this
    · omega
theorem fd_none {p : Nat → Bool} {a f : Nat} (hn : ∀ j, a ≤ j → j < a + f → p j = false) : fd p a f = a + f := by
  have g := fd_ge p f a
  by_cases c : fd p a f < a + f
  · have := fd_yes p f a c
    rw [hn _ g.1 c] at this; cases this
  · omega
/-- where column c begins -/
def pv (n : Nat) (s : Mt × Nat) (c : Nat) : Nat := fd (fun i => s.1 i c != 0) s.2 (n - s.2)
/-- column c done: k begins -/
def clr (m : Mt) (r k c : Nat) : Mt := ls r (fun i => sc r (Gf.inv (sw r k m r c)) (sw r k m) i c) (sc r (Gf.inv (sw r k m r c)) (sw r k m))
def st (n : Nat) (s : Mt × Nat) (c : Nat) : Mt × Nat := if pv n s c < n then (clr s.1 s.2 (pv n s c) c, s.2 + 1) else s
def el (n : Nat) (m : Mt) : Nat → Mt × Nat
  | 0 => (m, 0)
  | c + 1 => st n (el n m c) c
structure Inv (n c : Nat) (m : Mt) (s : Mt × Nat) : Prop where
  turn : Turn n m s.1
  le : s.2 ≤ c
  len : s.2 ≤ n
  piv : ∃ pc : Nat → Nat, (∀ i, i < s.2 → pc i < c ∧ ∀ r, r < n → s.1 r (pc i) = un r i) ∧ (s.2 = c → ∀ i, i < c → pc i = i)
  zero : ∀ r, s.2 ≤ r → r < n → ∀ j, j < c → s.1 r j = 0
theorem pv_ge {n : Nat} {s : Mt × Nat} (c : Nat) (h : s.2 ≤ n) : s.2 ≤ pv n s c ∧ pv n s c ≤ n := by
  have := fd_ge (fun i => s.1 i c != 0) (n - s.2) s.2
  unfold pv; omega
theorem Inv.step {n c : Nat} {m : Mt} {s : Mt × Nat} (h : Inv n c m s) : Inv n (c + 1) m (st n s c) := by
  obtain ⟨pc, hp, hid⟩ := h.piv
  have hg := pv_ge c h.len
  unfold st
  by_cases hk : pv n s c < n
  · rw [if_pos hk]
    obtain ⟨k, hke⟩ : ∃ k, k = pv n s c := ⟨_, rfl⟩
    have hne : s.1 k c ≠ 0 := by
      have := fd_yes (fun i => s.1 i c != 0) (n - s.2) s.2 (by have := h.len; show pv n s c < _; omega)
      rw [hke]; exact bne_iff_ne.1 this
    rw [← hke] at hk hg ⊢
    clear hke
    obtain ⟨m0, r⟩ := s
    have hle := h.le
    have hlen := h.len
    have hturn := h.turn
    have hz := h.zero
    clear h
    simp only at hle hlen hturn hz hp hid hg hne ⊢
    have hr : r < n := by omega
    obtain ⟨m1, hm1⟩ : ∃ m1, m1 = sw r k m0 := ⟨_, rfl⟩
    have e1 : m1 r c = m0 k c := by rw [hm1]; show m0 (sg r k r) c = _; unfold sg; rw [if_pos rfl]
    obtain ⟨t, ht⟩ : ∃ t, t = Gf.inv (m1 r c) := ⟨_, rfl⟩
    have ht0 : t ≠ 0 := by rw [ht, e1]; exact Gf.inv_ne hne
    obtain ⟨m2, hm2⟩ : ∃ m2, m2 = sc r t m1 := ⟨_, rfl⟩
    have hclr : clr m0 r k c = ls r (fun i => m2 i c) m2 := by unfold clr; rw [← hm1, ← ht, ← hm2]
    rw [hclr]
    have hrow : ∀ j, m2 r j = Gf.mul (m0 k j) t := fun j => by
      rw [hm2]; unfold sc; rw [if_pos rfl, hm1]; show Gf.mul (m0 (sg r k r) j) t = _; unfold sg; rw [if_pos rfl]
    have hoth : ∀ i j, i ≠ r → m2 i j = m0 (sg r k i) j := fun i j hi => by
      rw [hm2]; unfold sc; rw [if_neg hi, hm1]; rfl
    have hrc : m2 r c = 1 := by rw [hrow, ht, e1, Gf.mul_inv hne]
    refine ⟨?_, by show r + 1 ≤ c + 1; omega, by show r + 1 ≤ n; omega, ⟨fun i => if i = r then c else pc i, fun i hi => ?_, fun hrc' i hi => ?_⟩, fun i hi hin j hj => ?_⟩
    · have t1 := sw_turn hr hk m0
      rw [← hm1] at t1
      have t2 := sc_turn (n := n) (r := r) ht0 m1
      rw [← hm2] at t2
      exact ((hturn.trans t1).trans t2).trans (ls_turn hr _ m2)
    · simp only at hi ⊢
      by_cases e : i = r
      · subst e
        rw [if_pos rfl]
        refine ⟨by omega, fun q hq => ?_⟩
        unfold ls
        by_cases eq : q = i
        · rw [if_pos eq, eq, hrc, un_self]
        · rw [if_neg eq, hrc, Gf.one_mul, Gf.add_self, un_ne eq]
      · rw [if_neg e]
        obtain ⟨h1, h2⟩ := hp i (by omega)
        refine ⟨by omega, fun q hq => ?_⟩
        have hr0 : m2 r (pc i) = 0 := by rw [hrow, h2 k hk, un_ne (by omega), Gf.zero_mul]
        unfold ls
        by_cases eq : q = r
        · rw [if_pos eq, eq, hr0, un_ne (by omega)]
        · rw [if_neg eq, hr0, Gf.zero_mul, Gf.add_zero, hoth q _ eq, h2 _ (sg_lt hr hk hq)]
          unfold sg
          rw [if_neg eq]
          by_cases eq2 : q = k
          · rw [if_pos eq2, un_ne (by omega), un_ne (by omega)]
          · rw [if_neg eq2]
    · simp only at hrc' ⊢
      by_cases e : i = r
      · rw [if_pos e]; omega
      · rw [if_neg e]; exact hid (by omega) i (by omega)
    · have hir : i ≠ r := by simp only at hi; omega
      show ls r (fun q => m2 q c) m2 i j = 0
      unfold ls
      rw [if_neg hir]
      by_cases ej : j = c
      · rw [ej, hrc, Gf.one_mul, Gf.add_self]
      · rw [hrow, hz k (by omega) hk j (by omega), Gf.zero_mul, Gf.zero_mul, Gf.add_zero, hoth i j hir]
        refine hz _ ?_ (sg_lt hr hk hin) j (by omega)
        unfold sg
        rw [if_neg hir]
        simp only at hi
        split <;> omega
  · rw [if_neg hk]
    refine ⟨h.turn, by have := h.le; omega, h.len, ⟨pc, fun i hi => ⟨by have := (hp i hi).1; omega, (hp i hi).2⟩, fun e => absurd e (by have := h.le; omega)⟩, fun r h1 h2 j hj => ?_⟩
    by_cases ej : j = c
    · have := fd_no (fun i => s.1 i c != 0) (n - s.2) s.2 r h1 (by show r < pv n s c; omega)
      rw [ej]
      simpa using this
    · exact h.zero r h1 h2 j (by omega)
theorem el_inv (n : Nat) (m : Mt) : ∀ c, Inv n c m (el n m c)
  | 0 => ⟨Turn.refl n m, Nat.le_refl _, Nat.zero_le _, ⟨fun i => i, fun i hi => absurd hi (by show ¬ i < 0; omega), fun _ i hi => rfl⟩, fun _ _ _ j hj => absurd hj (by omega)⟩
  | c + 1 => (el_inv n m c).step
/-- what stands behind does not matter -/
theorem el_agree {n C : Nat} {m m' : Mt} (h : ∀ i, i < n → ∀ j, j < C → m i j = m' i j) : ∀ c, c ≤ C → (el n m c).2 = (el n m' c).2 ∧ ∀ i, i < n → ∀ j, j < C → (el n m c).1 i j = (el n m' c).1 i j
  | 0, _ => ⟨rfl, h⟩
  | c + 1, hc => by
    obtain ⟨h1, h2⟩ := el_agree h c (by omega)
    have hi := el_inv n m c
    obtain ⟨a, ha⟩ : ∃ a, a = el n m c := ⟨_, rfl⟩
    obtain ⟨b, hb⟩ : ∃ b, b = el n m' c := ⟨_, rfl⟩
    show (st n (el n m c) c).2 = (st n (el n m' c) c).2 ∧ ∀ i, i < n → ∀ j, j < C → (st n (el n m c) c).1 i j = (st n (el n m' c) c).1 i j
    rw [← ha] at h1 h2 hi ⊢
    rw [← hb] at h1 h2 ⊢
    clear ha hb
    obtain ⟨ma, ra⟩ := a
    obtain ⟨mb, rb⟩ := b
    simp only at h1 h2
    subst h1
    have hlen : ra ≤ n := hi.len
    have hpv : pv n (ma, ra) c = pv n (mb, ra) c := by
      unfold pv
      exact fd_congr _ _ (fun j h1' h2' => by
        simp only at h1' h2' ⊢
        rw [h2 j (by omega) c (by omega)])
    unfold st
    rw [← hpv]
    by_cases hk : pv n (ma, ra) c < n
    · rw [if_pos hk, if_pos hk]
      have hg := pv_ge (n := n) (s := (ma, ra)) c hlen
      simp only at hg
      have hr : ra < n := by omega
      refine ⟨rfl, fun i hi' j hj => ?_⟩
      show clr ma ra (pv n (ma, ra) c) c i j = clr mb ra (pv n (ma, ra) c) c i j
      generalize pv n (ma, ra) c = k at *
      have e1 : ∀ i, i < n → ∀ j, j < C → sw ra k ma i j = sw ra k mb i j := fun i hi j hj => h2 _ (sg_lt hr hk hi) j hj
      have e2 : ∀ i, i < n → ∀ j, j < C → sc ra (Gf.inv (sw ra k ma ra c)) (sw ra k ma) i j = sc ra (Gf.inv (sw ra k mb ra c)) (sw ra k mb) i j := fun i hi j hj => by
        unfold sc; rw [e1 ra hr c (by omega), e1 i hi j hj]
      unfold clr ls
      simp only [e2 i hi' j hj, e2 ra hr j hj, e2 i hi' c (by omega)]
    · rw [if_neg hk, if_neg hk]; exact ⟨rfl, h2⟩
/-- the rank -/
def rk (n C : Nat) (m : Mt) : Nat := (el n m C).2
/-- beside a matrix the unit matrix -/
def both (n : Nat) (A : Mt) : Mt := fun i j => if j < n then A i j else un i (j - n)
def iv' (n : Nat) (A : Mt) : Mt := fun i j => (el n (both n A) n).1 i (n + j)
theorem rk_both (n : Nat) (A : Mt) : rk n n (both n A) = rk n n A := (el_agree (C := n) (fun i _ j hj => by unfold both; rw [if_pos hj]) n (Nat.le_refl _)).1
/-- each the other's inverse -/
def Iv (n : Nat) (A X : Mt) : Prop := (∀ i, i < n → ∀ j, j < n → mm n A X i j = un i j) ∧ (∀ i, i < n → ∀ j, j < n → mm n X A i j = un i j)
theorem Iv.symm {n : Nat} {A X : Mt} (h : Iv n A X) : Iv n X A := ⟨h.2, h.1⟩
theorem Iv.unique {n : Nat} {A X Y : Mt} (h : Iv n A X) (h' : Iv n A Y) : ∀ i, i < n → ∀ j, j < n → X i j = Y i j := by
  intro i hi j hj
  rw [← mm_un hj X i]
  have e1 : mm n X un i j = mm n X (mm n A Y) i j := mm_congr (fun _ _ => rfl) (fun k hk => (h'.1 k hk j hj).symm)
  rw [e1, ← mm_assoc]
  have e2 : mm n (mm n X A) Y i j = mm n un Y i j := mm_congr (fun k hk => h.2 i hi k hk) (fun _ _ => rfl)
  rw [e2, un_mm hi]
theorem Iv.congr {n : Nat} {A A' X X' : Mt} (h : Iv n A X) (hA : ∀ i, i < n → ∀ j, j < n → A i j = A' i j) (hX : ∀ i, i < n → ∀ j, j < n → X i j = X' i j) : Iv n A' X' :=
  ⟨fun i hi j hj => by rw [← h.1 i hi j hj]; exact mm_congr (fun k hk => (hA i hi k hk).symm) (fun k hk => (hX k hk j hj).symm),
   fun i hi j hj => by rw [← h.2 i hi j hj]; exact mm_congr (fun k hk => (hX i hi k hk).symm) (fun k hk => (hA k hk j hj).symm)⟩
theorem Iv.mul {n : Nat} {A B X Y : Mt} (h : Iv n A X) (h' : Iv n B Y) : Iv n (mm n A B) (mm n Y X) := by
  have key : ∀ {A B X Y : Mt}, (∀ i, i < n → ∀ j, j < n → mm n A X i j = un i j) → (∀ i, i < n → ∀ j, j < n → mm n B Y i j = un i j) → ∀ i, i < n → ∀ j, j < n → mm n (mm n A B) (mm n Y X) i j = un i j := by
    intro A B X Y ha hb i hi j hj
    rw [mm_assoc]
    have e : mm n A (mm n B (mm n Y X)) i j = mm n A X i j := mm_congr (fun _ _ => rfl) (fun k hk => by
      rw [← mm_assoc]
      have e2 : mm n (mm n B Y) X k j = mm n un X k j := mm_congr (fun l hl => hb k hk l hl) (fun _ _ => rfl)
      rw [e2, un_mm hk])
    rw [e]; exact ha i hi j hj
  exact ⟨key h.1 h'.1, key h'.2 h.2⟩
theorem iv_ok {n : Nat} {A : Mt} (h : rk n n A = n) : Iv n A (iv' n A) := by
  have hi := el_inv n (both n A) n
  have hr : (el n (both n A) n).2 = n := (rk_both n A).trans h
  obtain ⟨X, hX⟩ : ∃ X, X = iv' n A := ⟨_, rfl⟩
  have hXe : ∀ i j, X i j = (el n (both n A) n).1 i (n + j) := fun i j => by rw [hX]; rfl
  rw [← hX]
  clear hX h
  generalize el n (both n A) n = s at *
  obtain ⟨P, Q, h1, h2, h3⟩ := hi.turn
  obtain ⟨pc, hp, hid⟩ := hi.piv
  have hPA : ∀ i, i < n → ∀ j, j < n → mm n P A i j = un i j := fun i hi' j hj => by
    have e := (hp j (by rw [hr]; exact hj)).2 i hi'
    rw [hid hr j hj, h1 i hi' j] at e
    rw [← e]
    exact mm_congr (fun _ _ => rfl) (fun k _ => by unfold both; rw [if_pos hj])
  have hP : ∀ i, i < n → ∀ j, j < n → P i j = X i j := fun i hi' j hj => by
    rw [hXe, h1 i hi', ← mm_un hj P i]
    exact xsum_congr (fun k _ => by unfold both; rw [if_neg (by omega), show n + j - n = j by omega])
  have hA : ∀ i, i < n → ∀ j, j < n → A i j = Q i j := fun i hi j hj => by
    have e0 : mm n un A i j = A i j := un_mm hi A j
    have e1 : mm n un A i j = mm n (mm n Q P) A i j := mm_congr (fun k hk => (h3 i hi k hk).symm) (fun _ _ => rfl)
    have e2 : mm n Q (mm n P A) i j = mm n Q un i j := mm_congr (fun _ _ => rfl) (fun k hk => hPA k hk j hj)
    rw [← e0, e1, mm_assoc, e2]
    exact mm_un hj Q i
  have hQP : Iv n Q P := ⟨h3, h2⟩
  exact Iv.congr hQP (fun i hi j hj => (hA i hi j hj).symm) hP
/-- if the rank is less some rows' sum is nought, and not each none times -/
theorem low {n C : Nat} {A : Mt} (h : rk n C A < n) : ∃ u : Nat → UInt8, (∀ j, j < C → xsum n (fun k => Gf.mul (u k) (A k j)) = 0) ∧ ∃ k, k < n ∧ u k ≠ 0 := by
  have hi := el_inv n A C
  obtain ⟨P, Q, h1, h2, h3⟩ := hi.turn
  refine ⟨P (n - 1), fun j hj => ?_, ?_⟩
  · have e := hi.zero (n - 1) (by show rk n C A ≤ n - 1; omega) (by omega) j hj
    rw [h1 (n - 1) (by omega) j] at e
    exact e
  · refine Classical.byContradiction (fun hc => ?_)
    have e := h2 (n - 1) (by omega) (n - 1) (by omega)
    rw [un_self] at e
    have e0 : mm n P Q (n - 1) (n - 1) = 0 := xsum_all0 (fun k hk => by
      have : P (n - 1) k = 0 := Classical.byContradiction (fun hne => hc ⟨k, hk, hne⟩)
      rw [this, Gf.zero_mul])
    rw [e0] at e
    exact absurd e (by decide)
/-- the rows' sum is nought: so it is of what they make -/
theorem kill {n m : Nat} {u : Nat → UInt8} {A B : Mt} {j : Nat} (h : ∀ l, l < m → xsum n (fun k => Gf.mul (u k) (A k l)) = 0) : xsum n (fun k => Gf.mul (u k) (mm m A B k j)) = 0 := by
  have e := mm_assoc n m (fun _ => u) A B 0 j
  have e2 : mm n (fun _ => u) (mm m A B) 0 j = xsum n (fun k => Gf.mul (u k) (mm m A B k j)) := rfl
  rw [← e2, ← e]
  exact xsum_all0 (fun l hl => by
    show Gf.mul (xsum n (fun k => Gf.mul (u k) (A k l))) _ = 0
    rw [h l hl, Gf.zero_mul])
theorem rk_full {n : Nat} {A X : Mt} (h : ∀ i, i < n → ∀ j, j < n → mm n A X i j = un i j) : rk n n A = n := by
  have hlen : rk n n A ≤ n := (el_inv n A n).len
  refine Classical.byContradiction (fun hc => ?_)
  obtain ⟨u, h1, k, hk, hne⟩ := low (n := n) (C := n) (A := A) (by omega)
  apply hne
  have e := kill (B := X) (j := k) h1
  rw [← mm_pick hk u, ← e]
  exact xsum_congr (fun l hl => by rw [h l hl k hk])
theorem rk_iff (n : Nat) (A : Mt) : rk n n A = n ↔ ∃ X, Iv n A X := ⟨fun h => ⟨_, iv_ok h⟩, fun ⟨X, h⟩ => rk_full h.1⟩
/-- what goes through r has no more rank -/
theorem rk_through {n C r : Nat} {m X Y : Mt} (h : ∀ i, i < n → ∀ j, j < C → m i j = mm r X Y i j) : rk n C m ≤ r := by
  have hi := el_inv n m C
  refine Classical.byContradiction (fun hc => ?_)
  obtain ⟨s, hs⟩ : ∃ s, s = rk n C m := ⟨_, rfl⟩
  rw [← hs] at hc
  obtain ⟨P, Q, h1, h2, h3⟩ := hi.turn
  obtain ⟨pc, hp, _⟩ := hi.piv
  have hsn : s ≤ n := by rw [hs]; exact hi.len
  have hun : ∀ i, i < s → ∀ l, l < s → un i l = mm r (mm n P X) (fun k l => Y k (pc l)) i l := fun i hi' l hl => by
    have h5 := hp l (by show l < rk n C m; omega)
    rw [← h5.2 i (by omega), h1 i (by omega), show mm r (mm n P X) (fun k l => Y k (pc l)) i l = mm r (mm n P X) Y i (pc l) from rfl, mm_assoc]
    exact mm_congr (fun _ _ => rfl) (fun k hk => h k hk _ h5.1)
  have hrz : rk s r (mm n P X) < s := by
    have := (el_inv s (mm n P X) r).le
    have : rk s r (mm n P X) ≤ r := this
    omega
  obtain ⟨u, g1, k, hk, hne⟩ := low hrz
  apply hne
  have e := kill (B := fun k l => Y k (pc l)) (j := k) g1
  rw [← mm_pick hk u, ← e]
  exact xsum_congr (fun l hl => by rw [hun l hl k hk])
theorem rk_low {n C : Nat} (m : Mt) : ∃ Q R : Mt, ∀ i, i < n → ∀ j, j < C → m i j = mm (rk n C m) Q R i j := by
  have hi := el_inv n m C
  obtain ⟨Q, h⟩ := hi.turn.back
  refine ⟨Q, (el n m C).1, fun i hin j hj => ?_⟩
  rw [h i hin j]
  have hl : rk n C m ≤ n := hi.len
  obtain ⟨d, hd⟩ : ∃ d, n = rk n C m + d := ⟨n - rk n C m, by omega⟩
  have e : mm n Q (el n m C).1 i j = mm (rk n C m + d) Q (el n m C).1 i j := by rw [← hd]
  rw [e]
  unfold mm
  rw [xsum_add, xsum_all0 (n := d) (fun k hk => by
    rw [hi.zero (rk n C m + k) (by show rk n C m ≤ _; omega) (by omega) j hj, Gf.mul_zero]), Gf.add_zero]
theorem rk_mul {n k L : Nat} (A B : Mt) : rk n L (mm k A B) ≤ rk n k A ∧ rk n L (mm k A B) ≤ rk k L B := by
  constructor
  · obtain ⟨Q, R, h⟩ := rk_low (n := n) (C := k) A
    refine rk_through (X := Q) (Y := mm k R B) (fun i hi j hj => ?_)
    rw [← mm_assoc]
    exact mm_congr (fun l hl => h i hi l hl) (fun _ _ => rfl)
  · obtain ⟨Q, R, h⟩ := rk_low (n := k) (C := L) B
    refine rk_through (X := mm k A Q) (Y := R) (fun i hi j hj => ?_)
    rw [mm_assoc]
    exact mm_congr (fun _ _ => rfl) (fun l hl => h l hl j hj)
end Mx
end Go.Proofs.Ytcldioneiededaa
