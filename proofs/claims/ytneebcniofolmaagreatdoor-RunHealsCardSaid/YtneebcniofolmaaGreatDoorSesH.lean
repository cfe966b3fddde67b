/- A session that heals, in plain. -/
import Derived.Test.YtneebcniofolmaaGreatDoorSesP
import Derived.Test.YtneebcniofolmaaGreatDoorArK
namespace Go.Proofs.YtneebcniofolmaaGreatDoor
set_option linter.unusedVariables false
namespace Ar
/-- of a good array two disks are built up to some rows, all others are whole -/
structure Rh (x y rx ry : Nat) (cells : List ByteArray) (t : S) : Prop where
  kp : Kp 5 4 2 t cells
  fl : ∀ e, t.fl e = false
  bt : ∀ e, t.bt e = if e = x then rx else if e = y then ry else 4
theorem rh_swap {x y rx ry : Nat} {cells : List ByteArray} {t : S} (h : Rh x y rx ry cells t) (hxy : x ≠ y) : Rh y x ry rx cells t :=
  ⟨h.kp, h.fl, fun e => by
    rw [h.bt]
    by_cases h1 : e = x
    · subst h1; rw [if_pos rfl, if_neg hxy, if_pos rfl]
    · rw [if_neg h1]
      by_cases h2 : e = y
      · rw [if_pos h2, if_pos h2]
      · rw [if_neg h2, if_neg h2, if_neg h1]⟩
theorem rh_build {x y rx ry : Nat} {cells : List ByteArray} {t : S} (h : Rh x y rx ry cells t) (hx : x < 5) (hr : rx < 4) : (t.rebuild (x : Int)).1 = (4 - ((rx : Int) + 1), 0) ∧ Rh x y (rx + 1) ry cells (t.rebuild (x : Int)).2 := by
  have hk := (kp_rebuild h.kp (x : Int)).2
  have hb : t.bt x = rx := by rw [h.bt, if_pos rfl]
  have hm : ¬ 2 < t.many (t.bt x) := by have := h.kp.two (t.bt x) (by omega); omega
  have e : t.rebuild (x : Int) = (((t.rows : Int) - (t.bt x + 1), 0), t.built x) := by
    unfold S.rebuild
    rw [if_pos ⟨by omega, by rw [h.kp.en]; omega⟩, Int.toNat_natCast, if_neg (by rw [h.fl, h.kp.er, hb]; exact fun h => h.elim (fun h => by cases h) (fun h => by omega)), if_neg hm]
  rw [e] at hk ⊢
  refine ⟨by show ((t.rows : Int) - (t.bt x + 1), (0 : Int)) = _; rw [h.kp.er, hb]; rfl, hk, h.fl, fun e => ?_⟩
  show up t.bt x (t.bt x + 1) e = _
  unfold up
  rw [hb]
  split
  · rfl
  · rename_i h1; rw [h.bt, if_neg h1]
theorem rh_wh {x y : Nat} {cells : List ByteArray} {t : S} (h : Rh x y 4 4 cells t) : Wh 5 4 2 t :=
  ⟨h.kp.good, h.kp.en, h.kp.er, h.kp.ez, h.fl, fun e => by
    rw [h.bt]
    split
    · rfl
    · split <;> rfl⟩
theorem wh_scrubTo {n rows size : Nat} {s : S} (h : Wh n rows size s) : ∀ k, k ≤ rows → s.scrubTo k = (s, [])
  | 0, _ => rfl
  | k + 1, hk => by
    have ih := wh_scrubTo h k (by omega)
    have hs := S.scrub_right h.good.toOk (row := k) (by rw [many0 h (by omega)]; omega) (h.good.cw k (by rw [h.er]; omega))
    show (((s.scrubTo k).1.scrubAt k).2, if ((s.scrubTo k).1.scrubAt k).1.2 = 0 ∧ 0 ≤ ((s.scrubTo k).1.scrubAt k).1.1 then (s.scrubTo k).2 ++ [(((s.scrubTo k).1.scrubAt k).1.1.toNat, k)] else (s.scrubTo k).2) = _
    rw [ih]
    show ((s.scrubAt k).2, if (s.scrubAt k).1.2 = 0 ∧ 0 ≤ (s.scrubAt k).1.1 then [] ++ [((s.scrubAt k).1.1.toNat, k)] else []) = _
    rw [hs, if_neg (fun h => absurd h.2 (by show ¬ ((0 : Int) ≤ -1); decide))]
theorem fail_yes {s : S} {d : Nat} (hd : d < s.n) (hf : s.fl d = false) : s.fail (d : Int) = (0, { s with fl := up s.fl d true }) := by
  unfold S.fail
  rw [if_pos ⟨by omega, by omega⟩, Int.toNat_natCast, hf, if_neg (by decide)]
theorem replace_yes {s : S} {d : Nat} (hd : d < s.n) (hf : s.fl d = true) : s.replace (d : Int) = (0, { s with fl := up s.fl d false, bt := up s.bt d 0 }) := by
  unfold S.replace
  rw [if_pos ⟨by omega, by omega⟩, Int.toNat_natCast, if_pos hf]
/-- written, two disks fail, and are replaced -/
theorem rh_start {q x y : Nat} {b : ByteArray} (hq : q < 12) (hx : x < 5) (hy : y < 5) (hxy : x ≠ y) (hb : b.size = 2) :
    ∃ s1 s2 s3 s4 s5 cells, (s0 5 4 2).write (q : Int) b = (0, s1) ∧ s1.fail (x : Int) = (0, s2) ∧ s2.fail (y : Int) = (0, s3) ∧ s3.read (q : Int) = (b, 0) ∧ s3.replace (x : Int) = (0, s4) ∧ s4.replace (y : Int) = (0, s5) ∧ Rh x y 0 0 cells s5 ∧ cells.length = 12 ∧ cells.getD q ⟨#[]⟩ = b := by
  have h := s0_wh (n := 5) (rows := 4) (size := 2) (by omega) (by omega) (by omega) (by omega) (by omega) (by omega)
  have hw := wh_write h (y := q) (x := b) hq hb
  have k0 := kp_start (n := 5) (rows := 4) (size := 2) (by omega) (by omega) (by omega) (by omega) (by omega) (by omega)
  have k1 := kp_write k0 (y := q) (x := b) hq hb
  obtain ⟨s1, hs1⟩ : ∃ s1, s1 = ((s0 5 4 2).write (q : Int) b).2 := ⟨_, rfl⟩
  have w1 := hw.2.1
  have k1' := k1.2
  rw [← hs1] at w1 k1'
  obtain ⟨cells, hcells⟩ : ∃ c, c = (List.replicate (4 * (5 - 2)) (Dk.noughts 2)).set q b := ⟨_, rfl⟩
  rw [← hcells] at k1'
  have hc : cells.getD q ⟨#[]⟩ = b := by rw [hcells, Gv.set_getD (by simpa using hq), if_pos rfl]
  have n1 := w1.en
  have f1 := fail_yes (s := s1) (d := x) (by omega) (w1.fl x)
  have m1 : ∀ row, row < 4 → s1.many row ≤ 1 := fun row hr => by rw [many0 w1 hr]; omega
  have k2 := kp_fail k1' m1 (x : Int)
  rw [f1] at k2
  have m2 : ∀ row, row < 4 → ({ s1 with fl := up s1.fl x true } : S).many row ≤ 1 := fun row hr => by
    have := S.many_one (s := s1) (t := { s1 with fl := up s1.fl x true }) rfl (row := row) (d := x) (fun e _ hne hl => by
      unfold S.lost at hl ⊢
      have e1 : up s1.fl x true e = s1.fl e := up_ne _ _ hne
      rw [← e1]; exact hl)
    rw [many0 w1 hr] at this
    omega
  have f2 := fail_yes (s := { s1 with fl := up s1.fl x true }) (d := y) (by show y < s1.n; omega) (by show up s1.fl x true y = false; rw [up_ne _ _ (Ne.symm hxy)]; exact w1.fl y)
  have k3 := kp_fail k2 m2 (y : Int)
  rw [f2] at k3
  have hr := kp_read k3 (y := q) hq
  rw [hc] at hr
  have r1 := replace_yes (s := { s1 with fl := up (up s1.fl x true) y true }) (d := x) (by show x < s1.n; omega) (by show up (up s1.fl x true) y true x = true; rw [up_ne _ _ hxy, up_self])
  have k4 := kp_replace k3 (x : Int)
  rw [r1] at k4
  have r2 := replace_yes (s := { s1 with fl := up (up (up s1.fl x true) y true) x false, bt := up s1.bt x 0 }) (d := y) (by show y < s1.n; omega) (by show up (up (up s1.fl x true) y true) x false y = true; rw [up_ne _ _ (Ne.symm hxy), up_self])
  have k5 := kp_replace k4 (y : Int)
  rw [r2] at k5
  refine ⟨s1, _, _, _, _, cells, by rw [hs1]; exact Prod.ext hw.1 rfl, f1, f2, hr, r1, r2, ⟨k5, fun e => ?_, fun e => ?_⟩, by rw [hcells]; simp, hc⟩
  · show up (up (up (up s1.fl x true) y true) x false) y false e = false
    by_cases e1 : e = y
    · rw [e1, up_self]
    · rw [up_ne _ _ e1]
      by_cases e2 : e = x
      · rw [e2, up_self]
      · rw [up_ne _ _ e2, up_ne _ _ e1, up_ne _ _ e2]; exact w1.fl e
  · show up (up s1.bt x 0) y 0 e = _
    by_cases e2 : e = x
    · rw [e2, up_ne _ _ hxy, up_self, if_pos rfl]
    · rw [if_neg e2]
      by_cases e1 : e = y
      · rw [e1, up_self, if_pos rfl]
      · rw [if_neg e1, up_ne _ _ e1, up_ne _ _ e2]; exact w1.bt e
end Ar
namespace Ru
/-- the lines of a session that heals: n, x, y as digits, h as hex -/
def two (x y : List UInt8) : List (List UInt8) := [Wd.rebuild.txt ++ 32 :: x, Wd.rebuild.txt ++ 32 :: y]
def heals (n h x y : List UInt8) : List (List UInt8) :=
  (Wd.write.txt ++ 32 :: (n ++ 32 :: h)) :: (Wd.fail.txt ++ 32 :: x) :: (Wd.fail.txt ++ 32 :: y) :: (Wd.read.txt ++ 32 :: n) :: (Wd.replace.txt ++ 32 :: x) :: (Wd.replace.txt ++ 32 :: y) ::
  (two x y ++ (two x y ++ (two x y ++ (two x y ++ [Wd.read.txt ++ 32 :: n, Wd.lost.txt ++ 32 :: [51], Wd.scrub.txt]))))
theorem ans_cons {s s' : Ar.S} {l a : List UInt8} {r : List (List UInt8)} (h : line s l = (a, s')) : ans s (l :: r) = a :: ans s' r := by
  show (line s l).1 :: ans (line s l).2 r = _
  rw [h]
theorem num_dec {v : Nat} (h : v < 100) : num (Lib.decDigits v) = some v := by rw [dec_d4 (by omega), num_d4v (by omega)]
theorem ans_two {x y rx : Nat} {cells : List ByteArray} {t : Ar.S} (h : Ar.Rh x y rx rx cells t) (hx : x < 5) (hy : y < 5) (hxy : x ≠ y) (hr : rx < 4) (r : List (List UInt8)) :
    ∃ t', Ar.Rh x y (rx + 1) (rx + 1) cells t' ∧ ans t (two (Lib.decDigits x) (Lib.decDigits y) ++ r) = [Lib.decDigits (3 - rx), Lib.decDigits (3 - rx)] ++ ans t' r := by
  obtain ⟨a1, a2⟩ := Ar.rh_build h hx hr
  obtain ⟨b1, b2⟩ := Ar.rh_build (Ar.rh_swap a2 hxy) hy hr
  refine ⟨_, Ar.rh_swap b2 (Ne.symm hxy), ?_⟩
  have p1 := parse_one (k := .rebuild) rfl rfl (num_dec (v := x) (by omega)) (dec_no32 x)
  have p2 := parse_one (k := .rebuild) rfl rfl (num_dec (v := y) (by omega)) (dec_no32 y)
  have hn : (4 - ((rx : Int) + 1)).toNat = 3 - rx := by omega
  have l1 : line t (Wd.rebuild.txt ++ 32 :: Lib.decDigits x) = (Lib.decDigits (3 - rx), (t.rebuild (x : Int)).2) := by
    rw [line_of p1]
    show (told (Lib.decDigits (t.rebuild (x : Int)).1.1.toNat, (t.rebuild (x : Int)).1.2), (t.rebuild (x : Int)).2) = _
    rw [a1]
    show (told (Lib.decDigits (4 - ((rx : Int) + 1)).toNat, 0), _) = _
    rw [hn]; rfl
  have l2 : line (t.rebuild (x : Int)).2 (Wd.rebuild.txt ++ 32 :: Lib.decDigits y) = (Lib.decDigits (3 - rx), ((t.rebuild (x : Int)).2.rebuild (y : Int)).2) := by
    rw [line_of p2]
    show (told (Lib.decDigits ((t.rebuild (x : Int)).2.rebuild (y : Int)).1.1.toNat, ((t.rebuild (x : Int)).2.rebuild (y : Int)).1.2), ((t.rebuild (x : Int)).2.rebuild (y : Int)).2) = _
    rw [b1]
    show (told (Lib.decDigits (4 - ((rx : Int) + 1)).toNat, 0), _) = _
    rw [hn]; rfl
  show ans t ((Wd.rebuild.txt ++ 32 :: Lib.decDigits x) :: (Wd.rebuild.txt ++ 32 :: Lib.decDigits y) :: r) = _
  rw [ans_cons l1, ans_cons l2]; rfl
theorem heals_ans {q x y : Nat} {c d : UInt8} (hq : q < 12) (hx : x < 5) (hy : y < 5) (hxy : x ≠ y) :
    ans (Ar.s0 5 4 2) (heals (Lib.decDigits q) (hex [c, d]) (Lib.decDigits x) (Lib.decDigits y))
      = [ok, ok, ok, hex [c, d], ok, ok, [51], [51], [50], [50], [49], [49], [48], [48], hex [c, d], [48], [45]] := by
  obtain ⟨s1, s2, s3, s4, s5, cells, w, f1, f2, rd, r1, r2, h0, hl, hc⟩ := Ar.rh_start (b := ⟨#[c, d]⟩) hq hx hy hxy rfl
  have pw := parse_write (num_dec (v := q) (by omega)) (dec_no32 q) (hex_no32 [c, d]) (unhex_hex c d)
  have pr := parse_one (k := .read) rfl rfl (num_dec (v := q) (by omega)) (dec_no32 q)
  have pf1 := parse_one (k := .fail) rfl rfl (num_dec (v := x) (by omega)) (dec_no32 x)
  have pf2 := parse_one (k := .fail) rfl rfl (num_dec (v := y) (by omega)) (dec_no32 y)
  have pr1 := parse_one (k := .replace) rfl rfl (num_dec (v := x) (by omega)) (dec_no32 x)
  have pr2 := parse_one (k := .replace) rfl rfl (num_dec (v := y) (by omega)) (dec_no32 y)
  have pl : parse (Wd.lost.txt ++ 32 :: [51]) = some (.lost, [3], []) := parse_one (k := .lost) rfl rfl (by decide) (by decide)
  have ps : parse Wd.scrub.txt = some (.scrub, [], []) := by decide
  have l1 : line (Ar.s0 5 4 2) (Wd.write.txt ++ 32 :: (Lib.decDigits q ++ 32 :: hex [c, d])) = (ok, s1) := by
    rw [line_of pw]
    show (told (ok, ((Ar.s0 5 4 2).write (q : Int) ⟨#[c, d]⟩).1), ((Ar.s0 5 4 2).write (q : Int) ⟨#[c, d]⟩).2) = _
    rw [w]; rfl
  have l2 : line s1 (Wd.fail.txt ++ 32 :: Lib.decDigits x) = (ok, s2) := by
    rw [line_of pf1]
    show (told (ok, (s1.fail (x : Int)).1), (s1.fail (x : Int)).2) = _
    rw [f1]; rfl
  have l3 : line s2 (Wd.fail.txt ++ 32 :: Lib.decDigits y) = (ok, s3) := by
    rw [line_of pf2]
    show (told (ok, (s2.fail (y : Int)).1), (s2.fail (y : Int)).2) = _
    rw [f2]; rfl
  have rdl : ∀ s : Ar.S, s.read (q : Int) = (⟨#[c, d]⟩, 0) → line s (Wd.read.txt ++ 32 :: Lib.decDigits q) = (hex [c, d], s) := fun s hs => by
    rw [line_of pr]
    show (told (hex (s.read (q : Int)).1.data.toList, (s.read (q : Int)).2), s) = _
    rw [hs]; rfl
  have l5 : line s3 (Wd.replace.txt ++ 32 :: Lib.decDigits x) = (ok, s4) := by
    rw [line_of pr1]
    show (told (ok, (s3.replace (x : Int)).1), (s3.replace (x : Int)).2) = _
    rw [r1]; rfl
  have l6 : line s4 (Wd.replace.txt ++ 32 :: Lib.decDigits y) = (ok, s5) := by
    rw [line_of pr2]
    show (told (ok, (s4.replace (y : Int)).1), (s4.replace (y : Int)).2) = _
    rw [r2]; rfl
  obtain ⟨t1, h1, e1⟩ := ans_two h0 hx hy hxy (by omega) (two (Lib.decDigits x) (Lib.decDigits y) ++ (two (Lib.decDigits x) (Lib.decDigits y) ++ (two (Lib.decDigits x) (Lib.decDigits y) ++ [Wd.read.txt ++ 32 :: Lib.decDigits q, Wd.lost.txt ++ 32 :: [51], Wd.scrub.txt])))
  obtain ⟨t2, h2, e2⟩ := ans_two h1 hx hy hxy (by omega) (two (Lib.decDigits x) (Lib.decDigits y) ++ (two (Lib.decDigits x) (Lib.decDigits y) ++ [Wd.read.txt ++ 32 :: Lib.decDigits q, Wd.lost.txt ++ 32 :: [51], Wd.scrub.txt]))
  obtain ⟨t3, h3, e3⟩ := ans_two h2 hx hy hxy (by omega) (two (Lib.decDigits x) (Lib.decDigits y) ++ [Wd.read.txt ++ 32 :: Lib.decDigits q, Wd.lost.txt ++ 32 :: [51], Wd.scrub.txt])
  obtain ⟨t4, h4, e4⟩ := ans_two h3 hx hy hxy (by omega) [Wd.read.txt ++ 32 :: Lib.decDigits q, Wd.lost.txt ++ 32 :: [51], Wd.scrub.txt]
  have wh := Ar.rh_wh h4
  have hr4 := Ar.kp_read h4.kp (y := q) hq
  rw [hc] at hr4
  have l15 : line t4 (Wd.lost.txt ++ 32 :: [51]) = (Lib.decDigits 0, t4) := by
    rw [line_of pl]
    show (told (Lib.decDigits (t4.lostN ((3 : Nat) : Int)), t4.rawF ((3 : Nat) : Int)), t4) = _
    have h3r : t4.hasRow ((3 : Nat) : Int) := ⟨by omega, by rw [wh.er]; omega⟩
    unfold Ar.S.lostN Ar.S.rawF
    rw [if_pos h3r, if_pos h3r, Int.toNat_natCast, Ar.many0 wh (by omega)]; rfl
  have l16 : line t4 Wd.scrub.txt = ([45], t4) := by
    rw [line_of ps]
    rw [run1_scrub, Ar.wh_scrubTo wh 4 (by omega)]; rfl
  unfold heals
  rw [ans_cons l1, ans_cons l2, ans_cons l3, ans_cons (rdl s3 rd), ans_cons l5, ans_cons l6]
  rw [e1, e2, e3, e4, ans_cons (rdl t4 hr4), ans_cons l15, ans_cons l16, dec_s (v := 3 - 0) (by omega), dec_s (v := 3 - (0 + 1)) (by omega), dec_s (v := 3 - (0 + 1 + 1)) (by omega), dec_s (v := 3 - (0 + 1 + 1 + 1)) (by omega)]
  first
  | rfl
  | (rw [dec_s (v := 0) (by omega)]; rfl)
/-- the closed session -/
theorem fact_ans : runs (Ar.s0 5 4 2) (lines [119, 114, 105, 116, 101, 32, 51, 32, 48, 97, 49, 102, 10, 102, 97, 105, 108, 32, 50, 10, 102, 108, 121, 10, 114, 101, 97, 100, 32, 51, 10]) = [111, 107, 10, 111, 107, 10, 98, 97, 100, 10, 48, 97, 49, 102, 10] := by
  have h := Ar.s0_wh (n := 5) (rows := 4) (size := 2) (by omega) (by omega) (by omega) (by omega) (by omega) (by omega)
  have hw := Ar.wh_write h (y := 3) (x := ⟨#[10, 31]⟩) (by omega) rfl
  have k0 := Ar.kp_start (n := 5) (rows := 4) (size := 2) (by omega) (by omega) (by omega) (by omega) (by omega) (by omega)
  have k1 := Ar.kp_write k0 (y := 3) (x := ⟨#[10, 31]⟩) (by omega) rfl
  have w1 := hw.2.1
  obtain ⟨s1, hs1⟩ : ∃ s1, s1 = ((Ar.s0 5 4 2).write ((3 : Nat) : Int) ⟨#[10, 31]⟩).2 := ⟨_, rfl⟩
  have k1' := k1.2
  rw [← hs1] at w1 k1'
  have hw0 : (Ar.s0 5 4 2).write ((3 : Nat) : Int) ⟨#[10, 31]⟩ = (0, s1) := by rw [hs1]; exact Prod.ext hw.1 rfl
  have f1 := Ar.fail_yes (s := s1) (d := 2) (by rw [w1.en]; omega) (w1.fl 2)
  have k2 := Ar.kp_fail k1' (fun row hr => by rw [Ar.many0 w1 hr]; omega) ((2 : Nat) : Int)
  rw [f1] at k2
  have hr := Ar.kp_read k2 (y := 3) (by omega)
  have hc : ((List.replicate (4 * (5 - 2)) (Dk.noughts 2)).set 3 ⟨#[10, 31]⟩).getD 3 ⟨#[]⟩ = ⟨#[10, 31]⟩ := by rw [Gv.set_getD (by simp), if_pos rfl]
  rw [hc] at hr
  have hl : lines [119, 114, 105, 116, 101, 32, 51, 32, 48, 97, 49, 102, 10, 102, 97, 105, 108, 32, 50, 10, 102, 108, 121, 10, 114, 101, 97, 100, 32, 51, 10] = [[119, 114, 105, 116, 101, 32, 51, 32, 48, 97, 49, 102], [102, 97, 105, 108, 32, 50], [102, 108, 121], [114, 101, 97, 100, 32, 51]] := by decide +kernel
  have p1 : parse [119, 114, 105, 116, 101, 32, 51, 32, 48, 97, 49, 102] = some (.write, [3], [10, 31]) := by decide +kernel
  have p2 : parse [102, 97, 105, 108, 32, 50] = some (.fail, [2], []) := by decide +kernel
  have p3 : parse [102, 108, 121] = none := by decide +kernel
  have p4 : parse [114, 101, 97, 100, 32, 51] = some (.read, [3], []) := by decide +kernel
  have l1 : line (Ar.s0 5 4 2) [119, 114, 105, 116, 101, 32, 51, 32, 48, 97, 49, 102] = (ok, s1) := by
    rw [line_of p1]
    show (told (ok, ((Ar.s0 5 4 2).write ((3 : Nat) : Int) ⟨#[10, 31]⟩).1), ((Ar.s0 5 4 2).write ((3 : Nat) : Int) ⟨#[10, 31]⟩).2) = _
    rw [hw0]; rfl
  obtain ⟨s2, hs2⟩ : ∃ s2 : Ar.S, s2 = { s1 with fl := Ar.up s1.fl 2 true } := ⟨_, rfl⟩
  rw [← hs2] at f1 hr
  have l2 : line s1 [102, 97, 105, 108, 32, 50] = (ok, s2) := by
    rw [line_of p2]
    show (told (ok, (s1.fail ((2 : Nat) : Int)).1), (s1.fail ((2 : Nat) : Int)).2) = _
    rw [f1]; rfl
  have l3 : line s2 [102, 108, 121] = (bad, s2) := by unfold line; rw [p3]
  have l4 : line s2 [114, 101, 97, 100, 32, 51] = (hex [10, 31], s2) := by
    rw [line_of p4]
    show (told (hex (s2.read ((3 : Nat) : Int)).1.data.toList, (s2.read ((3 : Nat) : Int)).2), s2) = _
    rw [hr]; rfl
  rw [runs_ans, hl, ans_cons l1, ans_cons l2, ans_cons l3, ans_cons l4]
  show joined [ok, ok, bad, hex [10, 31]] = _
  decide +kernel
end Ru
end Go.Proofs.YtneebcniofolmaaGreatDoor
