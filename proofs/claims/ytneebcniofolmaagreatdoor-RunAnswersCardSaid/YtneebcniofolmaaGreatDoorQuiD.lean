/- The walks of package field: each function returns what the plain field says. · Lists of bytes over the field by their entries, and sums over them, in plain lists. · Lists of bytes of the call's own: an entry is stored, the list made, as a text. · Words that the references' walks share. -/
import Derived.Test.YtneebcniofolmaaGreatDoorLift
import Derived.Test.YtneebcniofolmaaGreatDoorGf
import Derived.Test.YtneebcniofolmaaGreatDoorSlI
import Derived.Test.YtneebcniofolmaaGreatDoorBlk
import Derived.StillTailTactics
import Derived.Deep.OwnRows
import Derived.Laws.OwnMore
namespace Go.Proofs.YtneebcniofolmaaGreatDoor
open Go.ChangeShapes Go.WideShapes Go.ChangeAt Go.RowKit


theorem wrap_i64_small (n : Nat) (h : n < 512) : IntKind.i64.wrap (n : Int) = n := by
  simp [IntKind.wrap, IntKind.bits, IntKind.signed]; omega
theorem i64_xor_small (a b : Nat) (ha : a < 512) (hb : b < 512) : bits .xor .i64 (a : Int) (b : Int) = ((a ^^^ b : Nat) : Int) := by
  have hx : a ^^^ b < 512 := Nat.xor_lt_two_pow (n := 9) ha hb
  have h1 : (BitVec.ofInt 64 (a : Int)).toNat = a := by
    rw [BitVec.ofInt_natCast, BitVec.toNat_ofNat]; exact Nat.mod_eq_of_lt (by omega)
  have h2 : (BitVec.ofInt 64 (b : Int)).toNat = b := by
    rw [BitVec.ofInt_natCast, BitVec.toNat_ofNat]; exact Nat.mod_eq_of_lt (by omega)
  show IntKind.i64.wrap ((BitVec.ofInt 64 (a : Int) ^^^ BitVec.ofInt 64 (b : Int)).toNat : Int) = _
  rw [BitVec.toNat_xor, h1, h2, wrap_i64_small _ hx]

/-- what one round of the product does -/
theorem gmF_step {f s x b : Nat} : Gf.gmF (f + 1) s x b = Gf.gmF f (if b % 2 = 1 then s ^^^ x else s) (Gf.xt x) (b / 2) := rfl
theorem odd_yes {b : Nat} (hb : b < 256) (h : (bits .and .u8 (b : Int) 1 == 1) = true) : b % 2 = 1 := by
  have := u8_and_nat b 1 hb (by omega)
  rw [nat_mask1] at this
  have e : bits .and .u8 (b : Int) 1 = ((b % 2 : Nat) : Int) := this
  rw [e] at h; simp at h; omega
theorem odd_no {b : Nat} (hb : b < 256) (h : (bits .and .u8 (b : Int) 1 == 1) = false) : ¬ b % 2 = 1 := by
  have := u8_and_nat b 1 hb (by omega)
  rw [nat_mask1] at this
  have e : bits .and .u8 (b : Int) 1 = ((b % 2 : Nat) : Int) := this
  rw [e] at h; simp at h; omega

theorem xt_hi {x : Nat} (hx : x < 256) (h : 256 ≤ (x : Int) * 2) : Value.int .i64 (bits .xor .i64 ((x : Int) * 2) 285) = .int .i64 (Gf.xt x : Nat) := by
  have e : ((x : Int) * 2) = ((2 * x : Nat) : Int) := by omega
  rw [e]
  have := i64_xor_small (2 * x) 285 (by omega) (by omega)
  refine val_i64 (this.trans ?_)
  unfold Gf.xt; rw [if_neg (by omega)]
theorem xt_lo {x : Nat} (h : (x : Int) * 2 < 256) : Value.int .i64 ((x : Int) * 2) = .int .i64 (Gf.xt x : Nat) := by
  refine val_i64 ?_
  unfold Gf.xt; rw [if_pos (by omega)]; omega
theorem sum_x {s x : Nat} (hs : s < 256) (hx : x < 256) : Value.int .i64 (bits .xor .i64 (s : Int) (x : Int)) = .int .i64 ((s ^^^ x : Nat) : Int) :=
  val_i64 (i64_xor_small s x (by omega) (by omega))

def MulInv (a b : Nat) (bb xx ss : Value) : Prop :=
  ∃ f c x s : Nat, c < 2 ^ f ∧ f ≤ 8 ∧ c < 256 ∧ x < 256 ∧ s < 256 ∧ bb = .int .u8 c ∧ xx = .int .i64 x ∧ ss = .int .i64 s ∧ Gf.gmF f s x c = Gf.gm a b

theorem gmF_nil : ∀ (f s x : Nat), Gf.gmF f s x 0 = s := Gf.gmF_null

set_option maxRecDepth 100000 in
theorem mul_any (a b : UInt8) (x y : Int) (hx : x = a.toNat) (hy : y = b.toNat) (w : World) :
    Calls Tryz.prog 147 #[.int .u8 x, .int .u8 y] w fun e w' => e = .returned (bv (Gf.mul a b)) ∧ w = w' := by
  subst hx hy
  have h1 := a.toNat_lt
  have h2 := b.toNat_lt
  have hr := Lib.hid (Gf.mul_nat a b)
  generalize a.toNat = m at *
  generalize b.toNat = n at *
  generalize Gf.mul a b = p at *
  go_enter Tryz.func147, Tryz.ntmps147
  go_wp2
  go_loop [1, 5, 6] (fun bb xx ss => MulInv m n bb xx ss) (fun bb _ _ => (intOf bb).toNat)
  case atStart => exact ⟨8, n, m, 0, h2, by omega, h2, h1, by omega, rfl, rfl, rfl, rfl⟩
  case round =>
    obtain ⟨f, c, x, s, hcf, hf, hc, hx, hs, rfl, rfl, rfl, hg⟩ := hrel
    by_cases hpos : 0 < c
    · obtain ⟨g, rfl⟩ : ∃ g, f = g + 1 := by
        cases f with
        | zero => simp at hcf; omega
        | succ g => exact ⟨g, rfl⟩
      have hG := Lib.hid hg
      have hcf' : c / 2 < 2 ^ g := by have := Nat.pow_succ 2 g; omega
      clear hg hcf
      go_wp2
      all_goals
        go_round
        case rel =>
          refine ⟨g, c / 2, Gf.xt x, if c % 2 = 1 then s ^^^ x else s, hcf', by omega, by omega, Gf.xt_lt hx, ?_, val_u8 (by omega), ?_, ?_, by rw [← hG.out, gmF_step]⟩
          · split
            · exact Gf.xor_lt hs hx
            · exact hs
          · first | exact xt_hi hx ‹_› | exact xt_lo ‹_›
          · first | (rw [if_pos (odd_yes hc ‹_›)]; exact sum_x hs hx) | rw [if_neg (odd_no hc ‹_›)]
        case measure => simp [intOf]; omega
    · obtain rfl : c = 0 := by omega
      rw [gmF_nil] at hg
      have hG := Lib.hid hg
      clear hg
      go_wp2
      go_ret
      exact ⟨ret_u8 (by rw [hr.out, ← hG.out]), rfl⟩

/-! power: the loop squares -/
def powF : Nat → UInt8 → UInt8 → Nat → UInt8
  | 0, out, _, _ => out
  | f + 1, out, a, n => powF f (if n % 2 = 1 then Gf.mul out a else out) (Gf.mul a a) (n / 2)
theorem powF_eq : ∀ (f : Nat) (out a : UInt8) (n : Nat), n < 2 ^ f → powF f out a n = Gf.mul out (Gf.pow a n)
  | 0, out, a, n, h => by
    obtain rfl : n = 0 := by simpa using h
    exact (Gf.mul_one _).symm
  | f + 1, out, a, n, h => by
    have h' : n / 2 < 2 ^ f := by have := Nat.pow_succ 2 f; omega
    unfold powF
    rw [powF_eq f _ _ _ h']
    have e : Gf.pow (Gf.mul a a) (n / 2) = Gf.pow a (2 * (n / 2)) := by
      rw [Gf.pow_mul]; congr 1; show _ = Gf.mul a (Gf.mul a 1); rw [Gf.mul_one]
    rw [e]
    split
    · rename_i ho
      conv => rhs; rw [show n = 2 * (n / 2) + 1 by omega]
      show _ = Gf.mul out (Gf.mul a (Gf.pow a (2 * (n / 2))))
      rw [Gf.mul_assoc]
    · rename_i ho
      conv => rhs; rw [show n = 2 * (n / 2) by omega]

theorem powF_zero : ∀ f (o a : UInt8), powF f o a 0 = o
  | 0, _, _ => rfl
  | f + 1, o, a => by unfold powF; simpa using powF_zero f o _

theorem i64_and1 (n : Nat) (h : n < 9223372036854775808) : bits .and .i64 (n : Int) 1 = ((n % 2 : Nat) : Int) := by
  have h1 : (BitVec.ofInt 64 (n : Int)).toNat = n := by
    rw [BitVec.ofInt_natCast, BitVec.toNat_ofNat]; exact Nat.mod_eq_of_lt (by omega)
  show IntKind.i64.wrap ((BitVec.ofInt 64 (n : Int) &&& BitVec.ofInt 64 1).toNat : Int) = _
  rw [BitVec.toNat_and, h1]
  have h2 : (BitVec.ofInt 64 1).toNat = 1 := by decide
  rw [h2, nat_mask1, wrap_i64_small _ (by omega)]
theorem oddi_yes {b : Nat} (hb : b < 9223372036854775808) (h : (bits .and .i64 (b : Int) 1 == 1) = true) : b % 2 = 1 := by
  rw [i64_and1 b hb] at h; simp at h; omega
theorem oddi_no {b : Nat} (hb : b < 9223372036854775808) (h : (bits .and .i64 (b : Int) 1 == 1) = false) : ¬ b % 2 = 1 := by
  rw [i64_and1 b hb] at h; simp at h; omega
theorem oddi_yes' {b : Nat} (hb : b < 9223372036854775808) (h : b % 2 = 1) : (bits .and .i64 (b : Int) 1 == 1) = true := by
  rw [i64_and1 b hb, h]; rfl
theorem oddi_no' {b : Nat} (hb : b < 9223372036854775808) (h : ¬ b % 2 = 1) : (bits .and .i64 (b : Int) 1 == 1) = false := by
  rw [i64_and1 b hb, show b % 2 = 0 by omega]; rfl

def PowInv (r : UInt8) (aa nn oo : Value) : Prop :=
  ∃ (f : Nat) (out a : UInt8) (n : Nat), n < 2 ^ f ∧ f ≤ 63 ∧ n < 9223372036854775808 ∧ aa = bv a ∧ nn = .int .i64 n ∧ oo = bv out ∧ powF f out a n = r

set_option maxRecDepth 100000 in
set_option maxHeartbeats 400000 in
theorem power_any (a : UInt8) (n : Nat) (x y : Int) (hx : x = a.toNat) (hy : y = n) (hn : n < 9223372036854775808) (w : World) :
    Calls Tryz.prog 146 #[.int .u8 x, .int .i64 y] w fun e w' => e = .returned (bv (Gf.pow a n)) ∧ w = w' := by
  subst hx hy
  have hr := Lib.hid ((powF_eq 63 1 a n hn).trans (Gf.one_mul _))
  go_enter Tryz.func146, Tryz.ntmps146
  go_wp2
  go_loop [0, 1, 5] (fun aa nn oo => PowInv (Gf.pow a n) aa nn oo) (fun _ nn _ => (intOf nn).toNat)
  case atStart => exact ⟨63, 1, a, n, hn, by omega, hn, rfl, rfl, rfl, hr.out⟩
  case round =>
    obtain ⟨f, out, c, k, hkf, hf, hk, rfl, rfl, rfl, hg⟩ := hrel
    clear hn hr
    have hG := Lib.hid hg
    clear hg
    by_cases hpos : 0 < k
    · obtain ⟨g, rfl⟩ : ∃ g, f = g + 1 := by
        cases f with
        | zero => simp at hkf; omega
        | succ g => exact ⟨g, rfl⟩
      have hcf' : k / 2 < 2 ^ g := by have := Nat.pow_succ 2 g; omega
      clear hkf
      by_cases ho : k % 2 = 1
      · have ht := oddi_yes' hk ho
        have ho' := Lib.hid ho
        clear ho
        go_wp2_with fail
        refine (mul_any out c _ _ rfl rfl _).mono ?_
        rintro e w' ⟨rfl, rfl⟩
        go_wp2_with fail
        refine (mul_any c c _ _ rfl rfl _).mono ?_
        rintro e w' ⟨rfl, rfl⟩
        go_wp2_with fail
        go_round
        case rel =>
          exact ⟨g, _, _, k / 2, hcf', by omega, by omega, rfl, val_i64 (by omega), rfl, by rw [← hG.out]; show _ = powF g (if k % 2 = 1 then _ else _) _ _; rw [if_pos ho'.out]⟩
        case measure => simp [intOf]; omega
      · have ht := oddi_no' hk ho
        have ho' := Lib.hid ho
        clear ho
        go_wp2_with fail
        refine (mul_any c c _ _ rfl rfl _).mono ?_
        rintro e w' ⟨rfl, rfl⟩
        go_wp2_with fail
        go_round
        case rel =>
          exact ⟨g, _, _, k / 2, hcf', by omega, by omega, rfl, val_i64 (by omega), rfl, by rw [← hG.out]; show _ = powF g (if k % 2 = 1 then _ else _) _ _; rw [if_neg ho'.out]⟩
        case measure => simp [intOf]; omega
    · obtain rfl : k = 0 := by omega
      go_wp2
      go_ret
      exact ⟨ret_u8 (by rw [← hG.out, powF_zero]), rfl⟩

theorem inverse_any (a : UInt8) (x : Int) (hx : x = a.toNat) (w : World) :
    Calls Tryz.prog 162 #[.int .u8 x] w fun e w' => e = .returned (bv (Gf.inv a)) ∧ w = w' := by
  subst hx
  go_enter Tryz.func162, Tryz.ntmps162
  go_wp2_with fail
  refine (power_any a 254 _ _ rfl rfl (by decide) _).mono ?_
  rintro e w' ⟨rfl, rfl⟩
  go_wp2_with fail
  go_ret
  exact ⟨rfl, rfl⟩


theorem bv_ne {a : UInt8} (h : a ≠ 0) : ((a.toNat : Int) == 0) = false := by
  have := Gf.nat_ne h
  rw [beq_eq_false_iff_ne]; omega

end Go.Proofs.YtneebcniofolmaaGreatDoor
namespace Go.Proofs.YtneebcniofolmaaGreatDoor.Gv
/-- the list of f 0, f 1, .. -/
def tab (n : Nat) (f : Nat → UInt8) : List UInt8 := (List.range n).map f
theorem tab_len (n : Nat) (f : Nat → UInt8) : (tab n f).length = n := by unfold tab; simp
theorem tab_get? (n : Nat) (f : Nat → UInt8) (j : Nat) : (tab n f)[j]? = if j < n then some (f j) else none := by
  unfold tab
  rw [List.getElem?_map]
  by_cases h : j < n
  · rw [List.getElem?_range h, if_pos h]; rfl
  · rw [if_neg h, List.getElem?_eq_none (by rw [List.length_range]; omega)]; rfl
theorem tab_getD (n : Nat) (f : Nat → UInt8) (j : Nat) : (tab n f).getD j 0 = if j < n then f j else 0 := by
  rw [List.getD_eq_getElem?_getD, tab_get?]
  by_cases h : j < n
  · rw [if_pos h, if_pos h]; rfl
  · rw [if_neg h, if_neg h]; rfl
theorem tab_at {n : Nat} (f : Nat → UInt8) {j : Nat} (h : j < n) : (tab n f).getD j 0 = f j := by rw [tab_getD, if_pos h]
theorem tab_ext {n : Nat} {f g : Nat → UInt8} (h : ∀ j, j < n → f j = g j) : tab n f = tab n g := by
  unfold tab
  exact List.map_congr_left (fun j hj => h j (List.mem_range.1 hj))
theorem ext {l m : List UInt8} (hl : l.length = m.length) (h : ∀ j, j < l.length → l.getD j 0 = m.getD j 0) : l = m := by
  apply List.ext_getElem? 
  intro j
  by_cases hj : j < l.length
  · have := h j hj
    rw [List.getD_eq_getElem?_getD, List.getD_eq_getElem?_getD, List.getElem?_eq_getElem hj, List.getElem?_eq_getElem (by omega)] at this
    rw [List.getElem?_eq_getElem hj, List.getElem?_eq_getElem (by omega)]
    exact congrArg some this
  · rw [List.getElem?_eq_none (by omega), List.getElem?_eq_none (by omega)]
theorem tab_self (l : List UInt8) : tab l.length (fun j => l.getD j 0) = l :=
  ext (tab_len _ _) (fun j hj => by rw [tab_len] at hj; rw [tab_at _ hj])
theorem tab_inj {n : Nat} {f g : Nat → UInt8} (h : tab n f = tab n g) {j : Nat} (hj : j < n) : f j = g j := by
  rw [← tab_at f hj, h, tab_at g hj]
/-- the first k as f, the others as g -/
def upto (k : Nat) (f g : Nat → UInt8) : Nat → UInt8 := fun j => if j < k then f j else g j
theorem upto_zero (f g : Nat → UInt8) : upto 0 f g = g := by funext j; unfold upto; rw [if_neg (by omega)]
theorem upto_at (k : Nat) (f g : Nat → UInt8) : upto k f g k = g k := by unfold upto; rw [if_neg (by omega)]
theorem tab_upto (n : Nat) (f g : Nat → UInt8) : tab n (upto n f g) = tab n f := tab_ext (fun j hj => by unfold upto; rw [if_pos hj])
theorem tab_set {n k : Nat} (f : Nat → UInt8) (v : UInt8) : (tab n f).set k v = tab n (fun j => if j = k then v else f j) := by
  apply ext
  · rw [List.length_set, tab_len, tab_len]
  · intro j hj
    rw [List.length_set, tab_len] at hj
    rw [List.getD_eq_getElem?_getD, List.getElem?_set, tab_len, tab_at _ hj]
    by_cases e : k = j
    · subst e; rw [if_pos rfl, if_pos hj, if_pos rfl]; rfl
    · rw [if_neg e, ← List.getD_eq_getElem?_getD, tab_at _ hj, if_neg (fun h => e h.symm)]
theorem upto_set {n k : Nat} (f g : Nat → UInt8) : (tab n (upto k f g)).set k (f k) = tab n (upto (k + 1) f g) := by
  rw [tab_set]
  refine tab_ext (fun j _ => ?_)
  unfold upto
  by_cases e : j = k
  · subst e; rw [if_pos rfl, if_pos (by omega)]
  · rw [if_neg e]
    by_cases h : j < k
    · rw [if_pos h, if_pos (by omega)]
    · rw [if_neg h, if_neg (by omega)]
theorem tab_zero (n : Nat) : tab n (fun _ => 0) = List.replicate n 0 := by
  apply List.ext_getElem?
  intro j
  rw [tab_get?, List.getElem?_replicate]
/-- a sum by exclusive or -/
def xsum : Nat → (Nat → UInt8) → UInt8
  | 0, _ => 0
  | n + 1, f => xsum n f ^^^ f n
theorem xsum_succ (n : Nat) (f : Nat → UInt8) : xsum (n + 1) f = xsum n f ^^^ f n := rfl
theorem xsum_congr {n : Nat} {f g : Nat → UInt8} (h : ∀ j, j < n → f j = g j) : xsum n f = xsum n g := by
  induction n with
  | zero => rfl
  | succ n ih => rw [xsum_succ, xsum_succ, ih (fun j hj => h j (by omega)), h n (by omega)]
theorem xsum_zero (n : Nat) : xsum n (fun _ => 0) = 0 := by
  induction n with
  | zero => rfl
  | succ n ih => rw [xsum_succ, ih]; rfl
theorem xsum_all0 {n : Nat} {f : Nat → UInt8} (h : ∀ j, j < n → f j = 0) : xsum n f = 0 := (xsum_congr h).trans (xsum_zero n)
theorem xsum_xor (n : Nat) (f g : Nat → UInt8) : xsum n (fun j => f j ^^^ g j) = xsum n f ^^^ xsum n g := by
  induction n with
  | zero => exact (Gf.add_self 0).symm
  | succ n ih =>
    rw [xsum_succ, xsum_succ, xsum_succ, ih, Gf.add_assoc, Gf.add_assoc, Gf.add_left_comm (xsum n g) (f n) (g n)]
theorem xsum_mul (c : UInt8) (n : Nat) (f : Nat → UInt8) : Gf.mul c (xsum n f) = xsum n (fun j => Gf.mul c (f j)) := by
  induction n with
  | zero => exact Gf.mul_zero c
  | succ n ih => rw [xsum_succ, xsum_succ, Gf.mul_add, ih]
theorem mul_xsum (c : UInt8) (n : Nat) (f : Nat → UInt8) : Gf.mul (xsum n f) c = xsum n (fun j => Gf.mul (f j) c) := by
  rw [Gf.mul_comm, xsum_mul]; exact xsum_congr (fun j _ => Gf.mul_comm _ _)
theorem xsum_swap (n m : Nat) (f : Nat → Nat → UInt8) : xsum n (fun i => xsum m (fun j => f i j)) = xsum m (fun j => xsum n (fun i => f i j)) := by
  induction n with
  | zero => exact (xsum_zero m).symm
  | succ n ih => rw [xsum_succ, ih, ← xsum_xor]; rfl
theorem xsum_single {n k : Nat} (hk : k < n) (f : Nat → UInt8) (h : ∀ j, j < n → j ≠ k → f j = 0) : xsum n f = f k := by
  induction n with
  | zero => omega
  | succ n ih =>
    rw [xsum_succ]
    by_cases e : k = n
    · subst e
      rw [xsum_all0 (fun j hj => h j (by omega) (by omega)), Gf.zero_add]
    · rw [ih (by omega) (fun j hj => h j (by omega)), h n (by omega) (by omega), Gf.add_zero]
theorem xsum_add (n m : Nat) (f : Nat → UInt8) : xsum (n + m) f = xsum n f ^^^ xsum m (fun j => f (n + j)) := by
  induction m with
  | zero => exact (Gf.add_zero _).symm
  | succ m ih => rw [← Nat.add_assoc, xsum_succ, ih, xsum_succ, Gf.add_assoc]
/-- a sum of k lists of n, each so many times -/
def comb (n k : Nat) (t : Nat → UInt8) (x : Nat → Nat → UInt8) : List UInt8 := tab n (fun j => xsum k (fun i => Gf.mul (t i) (x i j)))
theorem comb_len (n k : Nat) (t : Nat → UInt8) (x : Nat → Nat → UInt8) : (comb n k t x).length = n := tab_len _ _
theorem comb_zero (n : Nat) (t : Nat → UInt8) (x : Nat → Nat → UInt8) : comb n 0 t x = tab n (fun _ => 0) := rfl
/-- an entry of a list of bytes -/
def at' (l : List UInt8) (j : Nat) : UInt8 := l.getD j 0
theorem at_get? {l : List UInt8} {j : Nat} (h : j < l.length) : l[j]? = some (at' l j) := by
  unfold at'; rw [List.getD_eq_getElem?_getD, List.getElem?_eq_getElem h]; rfl
end Go.Proofs.YtneebcniofolmaaGreatDoor.Gv
namespace Go.Proofs.YtneebcniofolmaaGreatDoor
open Go.ChangeShapes Go.WideShapes Go.ChangeAt Go.RowKit
set_option linter.unusedVariables false
theorem OwnR.setAt {w : World} {base g o n cap k : Nat} {E : TypeId} {xs : List Value} (h : OwnR w base E (.slice (some ⟨g, o, none⟩) n cap) xs) (hk : k < xs.length) (u : Value) :
    OwnR (w.setCell ⟨g, o + k, none⟩ u) base E (.slice (some ⟨g, o, none⟩) n cap) (xs.set k u) := by
  rcases h with ⟨hn, hx⟩ | ⟨g', o', cap', cur, hv', hb', hg', h1, h2, h3, h4⟩
  · cases hn
  · injection hv' with e1 e2 e3
    injection e1 with e1
    injection e1 with e4 e5
    subst e4 e5 e3
    refine .inr ⟨g, o, cap, cur.setIfInBounds (o + k) u, by rw [List.length_set, e2], hb', heap_setCell_same _ _ _ _ _ _ hg', by rw [List.length_set]; exact h1, h2, by rw [Array.size_setIfInBounds]; exact h3, fun j hj => ?_⟩
    rw [List.length_set] at hj
    rw [List.getElem?_set]
    by_cases e : k = j
    · subst e
      rw [Array.getElem?_setIfInBounds_self_of_lt (by omega), if_pos rfl, if_pos hk]
    · rw [Array.getElem?_setIfInBounds_ne (by omega), if_neg e]
      exact h4 j hj
/-- a list of bytes of one's own -/
def OwnB (w : World) (base : Nat) (v : Value) (l : List UInt8) : Prop := OwnR w base 5 v (l.map bv)
theorem OwnB.setAt {w : World} {base g o n cap k : Nat} {l : List UInt8} (h : OwnB w base (.slice (some ⟨g, o, none⟩) n cap) l) (hk : k < l.length) (u : UInt8) :
    OwnB (w.setCell ⟨g, o + k, none⟩ (bv u)) base (.slice (some ⟨g, o, none⟩) n cap) (l.set k u) := by
  unfold OwnB
  rw [List.map_set]
  exact OwnR.setAt h (by rw [List.length_map]; exact hk) (bv u)
theorem OwnB.cellAt {w : World} {base : Nat} {v : Value} {l : List UInt8} (h : OwnB w base v l) {j : Nat} (hj : j < l.length) :
    ∃ g o cap, v = .slice (some ⟨g, o, none⟩) l.length cap ∧ base ≤ g ∧ g < w.heap.size ∧ l.length ≤ cap ∧ cap ≤ maxLen ∧ w.cell? ⟨g, o + j, none⟩ = some (bv (Gv.at' l j)) ∧ ∀ i, w.frozen? ⟨g, i, none⟩ = false := by
  obtain ⟨g, o, cap, hv, hb, hg, h1, h2, h3, h4⟩ := OwnR.at0 h (by rw [List.length_map]; omega)
  rw [List.length_map] at hv h1
  refine ⟨g, o, cap, hv, hb, hg, h1, h2, ?_, h4⟩
  rw [h3 j (by rw [List.length_map]; exact hj), List.getElem?_map, Gv.at_get? hj]; rfl
theorem info_byteV : (Tryz.prog.info? 5).map (fun i => (i.zero, i.size, i.bytes)) = some (some (.int .u8 0), 1, 1) := by kernel_rfl
theorem make_bytesV (n : Nat) (h : n ≤ 1000000) (w : World) : (Instr.makeSlice 44 (.int .i64 (n : Int)) (.int .i64 (n : Int))).run Tryz.prog w = .ok (.slice (some ⟨w.heap.size, 0, none⟩) n n) (w.alloc (.cells (madeCells #[.int .u8 0] n) 5)) :=
  run_make_row' 44 5 (.int .u8 0) 1 Tryz.underlying44 info_byteV rfl .i64 .i64 n (by omega) (by omega) w
theorem owns_made (n : Nat) (hn : n ≤ 1000000) (w : World) : OwnB (w.alloc (.cells (madeCells #[.int .u8 0] n) 5)) w.heap.size (.slice (some ⟨w.heap.size, 0, none⟩) n n) (Gv.tab n (fun _ => 0)) := by
  have hl : (madeCells #[Value.int .u8 0] n).toList = List.replicate n (.int .u8 0) := toList_madeCells_one _ _
  have hs : (madeCells #[Value.int .u8 0] n).size = n := by rw [← Array.length_toList, hl, List.length_replicate]
  refine .inr ⟨w.heap.size, 0, n, _, by rw [List.length_map, Gv.tab_len], Nat.le_refl _, heap_alloc_new w _, by rw [List.length_map, Gv.tab_len]; exact Nat.le_refl _, by unfold maxLen; omega, by rw [hs]; omega, fun j hj => ?_⟩
  rw [List.length_map, Gv.tab_len] at hj
  rw [Nat.zero_add, ← Array.getElem?_toList, hl, List.getElem?_replicate, if_pos hj, List.getElem?_map, Gv.tab_get?, if_pos hj]; rfl
theorem conv_nilB (w : World) : (convert 44 9 (.slice none 0 0)).run Tryz.prog w = .ok (.string ⟨#[]⟩) w := by kernel_rfl
/-- bytes of the call's own, as a text -/
theorem conv_ownB (w : World) (base : Nat) (v : Value) (l : List UInt8) (h : OwnB w base v l) : (convert 44 9 v).run Tryz.prog w = .ok (.string ⟨l.toArray⟩) w := by
  rcases h with ⟨rfl, hx⟩ | ⟨g, o, cap, cur, rfl, hb, hg, h1, h2, h3, h4⟩
  · obtain rfl : l = [] := by cases l with | nil => rfl | cons a t => cases hx
    exact conv_nilB w
  · rw [List.length_map]
    exact run_convert_bytes_back (P := Tryz.prog) w 44 9 5 ⟨g, o, none⟩ cap l Tryz.underlying44 Tryz.underlying5 Tryz.underlying9 (fun j hj => by
      rw [Addr.add_lit, cell_of_row _ _ _ _ _ _ hg, h4 j (by rw [List.length_map]; exact hj), List.getElem?_map, List.getElem?_eq_getElem hj]; rfl)
/-- a list of bytes, wherever it lies: what is read there -/
def RowB (w : World) (v : Value) (l : List UInt8) : Prop := Row w v (l.map bv)
theorem RowB.below {w w' : World} {v : Value} {l : List UInt8} (h : RowB w v l) (hb : Below w.heap.size w w') : RowB w' v l := Row.below h hb
theorem RowB.cellAt {w : World} {v : Value} {l : List UInt8} (h : RowB w v l) {j : Nat} (hj : j < l.length) :
    ∃ g o cap, v = .slice (some ⟨g, o, none⟩) l.length cap ∧ g < w.heap.size ∧ l.length ≤ cap ∧ cap ≤ maxLen ∧ w.cell? ⟨g, o + j, none⟩ = some (bv (Gv.at' l j)) := by
  obtain ⟨g, o, cap, hv, h1, h2, h3⟩ := Row.pos h (by rw [List.length_map]; omega)
  rw [List.length_map] at hv h1
  have h4 := h3 j (by rw [List.length_map]; exact hj)
  rw [List.getElem?_map, Gv.at_get? hj] at h4
  exact ⟨g, o, cap, hv, World.block_lt_of_cell? w _ h4, h1, h2, h4⟩
theorem RowB.shape {w : World} {v : Value} {l : List UInt8} (h : RowB w v l) : ∃ p cap, v = .slice p l.length cap ∧ l.length ≤ cap ∧ cap ≤ maxLen := by
  obtain ⟨p, cap, hv, h1, h2, _⟩ := Row.shape h
  rw [List.length_map] at *
  exact ⟨p, cap, hv, h1, h2⟩
end Go.Proofs.YtneebcniofolmaaGreatDoor
namespace Go.Proofs.YtneebcniofolmaaGreatDoor
open Go.ChangeShapes Go.WideShapes Go.ChangeAt Go.RowKit
set_option linter.unusedVariables false
theorem quiet_drew {P : Program} {f : FuncId} {args : Array Value} {w : World} {n : Nat} {v : Value}
    (h : Calls P f args (w.drewN n) fun e w' => e = .returned v ∧ ∃ k, (w.drewN n).drewN k = w') : Calls P f args (w.drewN n) fun e w'' => e = .returned v ∧ ∃ m, w'' = w.drewN m :=
  h.mono fun _ _ ⟨he, k, hm⟩ => ⟨he, n + k, by rw [← hm, World.drewN_drewN]⟩
theorem tab_succ (q : Nat) (f : Nat → UInt8) : (Gv.tab (q + 1) f).map bv = (Gv.tab q f).map bv ++ [bv (f q)] := by
  unfold Gv.tab; rw [List.range_succ]; simp
end Go.Proofs.YtneebcniofolmaaGreatDoor
