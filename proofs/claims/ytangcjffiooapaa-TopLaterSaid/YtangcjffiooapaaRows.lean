/-
  No cell of these rows narrows 'for every input' (looked for: loops, veiled, ifaces, maps, wideKeys, modest, calm, conditions, laid).
  DERIVED. THE GIVEN ROWS OF THIS SEAT. 5 by the template 'for every input the law returns true; each argument reads behind the call as it read before'; 0 by the template 'total and deterministic' (their statements: YtangcjffiooapaaTotals.lean).
  GIVEN WITH THE SEED: the statements are not yours to turn. If you find one false, say at which input.
  Laid BY PROGRAM, IN A SANDBOX (cutbox-rows.mjs): the forced cells as the released guide's own fill.sh prints them over the translation 596c5955e0d7399e… (all of the seat's roots in one cut). By AI agents, Wed Nov 11 2026. No macro, syntax, notation, axiom, sorry.
-/
import Derived.Test.YtangcjffiooapaaChecked
import GoSem.Claim
import GoSem.ClaimJoined
import GoSem.ClaimMapViews
import Derived.JoinedTies
import Derived.KernelRfl
namespace Go.Proofs.Ytangcjffiooapaa
/- THE CELL 'sum', in the pinned program and in every row, IS THE sha256 OF THE DUMP (.gsa) THAT YtangcjffiooapaaProg.lean LOADS. Nothing in Lean hashes anything: it is a label: what it is worth is what the hold of that sum in a sandbox is worth. -/
noncomputable def Try.pinned : Pinned := { name := "ytangcjffiooapaa", sum := "596c5955e0d7399e82173096c14767b5cd116c299477b8a4460bd102322b19f1", checked := Try.checked }
namespace Rows
def none {H : Type} : Left H := { results := [], args := [] }

/-- 'paritylaw4.CacheRoom': WHATEVER THE INPUT: true; the input reads as it did. -/
def cacheRoomSpec : ChangeSpec := { name := "cacheRoom", fn := fun _ => fun
  | [d1, d2] => { results := [.lit (.bool true)], args := [d1, d2] }
  | _ => none }
def cacheRoomRow : OpenClaim := { program := "ytangcjffiooapaa", sum := "596c5955e0d7399e82173096c14767b5cd116c299477b8a4460bd102322b19f1", func := "paritymill/paritylaw4.CacheRoom", spec := "cacheRoom", unfollowed := true, recurses := true, apart := false }
def CacheRoomSaid : Prop := cacheRoomRow.holds Try.pinned (OpenSpec.ofChange cacheRoomSpec)

/-- ITS FALSE NEIGHBOUR: 'it returns false'. Refute it at one input. -/
def cacheRoomWrong : ChangeSpec := { name := "cacheRoom", fn := fun _ => fun
  | [d1, d2] => { results := [.lit (.bool false)], args := [d1, d2] }
  | _ => none }
def CacheRoomWrongFalsely : Prop := cacheRoomRow.holds Try.pinned (OpenSpec.ofChange cacheRoomWrong)

/-- 'paritylaw2.CacheSame': WHATEVER THE INPUT: true; the input reads as it did. -/
def cacheSameSpec : ChangeSpec := { name := "cacheSame", fn := fun _ => fun
  | [d1, d2, d3, d4] => { results := [.lit (.bool true)], args := [d1, d2, d3, d4] }
  | _ => none }
def cacheSameRow : OpenClaim := { program := "ytangcjffiooapaa", sum := "596c5955e0d7399e82173096c14767b5cd116c299477b8a4460bd102322b19f1", func := "paritymill/paritylaw2.CacheSame", spec := "cacheSame", unfollowed := true, recurses := true, apart := false }
def CacheSameSaid : Prop := cacheSameRow.holds Try.pinned (OpenSpec.ofChange cacheSameSpec)

/-- ITS FALSE NEIGHBOUR: 'it returns false'. Refute it at one input. -/
def cacheSameWrong : ChangeSpec := { name := "cacheSame", fn := fun _ => fun
  | [d1, d2, d3, d4] => { results := [.lit (.bool false)], args := [d1, d2, d3, d4] }
  | _ => none }
def CacheSameWrongFalsely : Prop := cacheSameRow.holds Try.pinned (OpenSpec.ofChange cacheSameWrong)

/-- 'paritylaw4.IntentClean': WHATEVER THE INPUT: true; the input reads as it did. -/
def intentCleanSpec : ChangeSpec := { name := "intentClean", fn := fun _ => fun
  | [d1, d2] => { results := [.lit (.bool true)], args := [d1, d2] }
  | _ => none }
def intentCleanRow : OpenClaim := { program := "ytangcjffiooapaa", sum := "596c5955e0d7399e82173096c14767b5cd116c299477b8a4460bd102322b19f1", func := "paritymill/paritylaw4.IntentClean", spec := "intentClean", inPlace := ["slices.overlaps[int]"], apart := false }
def IntentCleanSaid : Prop := intentCleanRow.holds Try.pinned (OpenSpec.ofChange intentCleanSpec)

/-- ITS FALSE NEIGHBOUR: 'it returns false'. Refute it at one input. -/
def intentCleanWrong : ChangeSpec := { name := "intentClean", fn := fun _ => fun
  | [d1, d2] => { results := [.lit (.bool false)], args := [d1, d2] }
  | _ => none }
def IntentCleanWrongFalsely : Prop := intentCleanRow.holds Try.pinned (OpenSpec.ofChange intentCleanWrong)

/-- 'paritylaw2.IntentCovers': WHATEVER THE INPUT: true; the input reads as it did. -/
def intentCoversSpec : ChangeSpec := { name := "intentCovers", fn := fun _ => fun
  | [d1, d2] => { results := [.lit (.bool true)], args := [d1, d2] }
  | _ => none }
def intentCoversRow : OpenClaim := { program := "ytangcjffiooapaa", sum := "596c5955e0d7399e82173096c14767b5cd116c299477b8a4460bd102322b19f1", func := "paritymill/paritylaw2.IntentCovers", spec := "intentCovers", inPlace := ["slices.overlaps[int]"], apart := false }
def IntentCoversSaid : Prop := intentCoversRow.holds Try.pinned (OpenSpec.ofChange intentCoversSpec)

/-- ITS FALSE NEIGHBOUR: 'it returns false'. Refute it at one input. -/
def intentCoversWrong : ChangeSpec := { name := "intentCovers", fn := fun _ => fun
  | [d1, d2] => { results := [.lit (.bool false)], args := [d1, d2] }
  | _ => none }
def IntentCoversWrongFalsely : Prop := intentCoversRow.holds Try.pinned (OpenSpec.ofChange intentCoversWrong)

/-- 'paritytop.TopLater': WHATEVER THE INPUT: true; the input reads as it did. -/
def topLaterSpec : ChangeSpec := { name := "topLater", fn := fun _ => fun
  | [d1, d2, d3, d4] => { results := [.lit (.bool true)], args := [d1, d2, d3, d4] }
  | _ => none }
def topLaterRow : OpenClaim := { program := "ytangcjffiooapaa", sum := "596c5955e0d7399e82173096c14767b5cd116c299477b8a4460bd102322b19f1", func := "paritymill/paritytop.TopLater", spec := "topLater", unfollowed := true, recurses := true, apart := false }
def TopLaterSaid : Prop := topLaterRow.holds Try.pinned (OpenSpec.ofChange topLaterSpec)

/-- ITS FALSE NEIGHBOUR: 'it returns false'. Refute it at one input. -/
def topLaterWrong : ChangeSpec := { name := "topLater", fn := fun _ => fun
  | [d1, d2, d3, d4] => { results := [.lit (.bool false)], args := [d1, d2, d3, d4] }
  | _ => none }
def TopLaterWrongFalsely : Prop := topLaterRow.holds Try.pinned (OpenSpec.ofChange topLaterWrong)

/- THE SECOND FORM. 'bulk': how many values and letters a reading holds, each counted each time it is reached (what is shared counts as often as it is met; a slice's spare places count too). A statement '..UptoSaid' is the law's where the arguments, and the package variables that the reading takes, are together of bulk at most 1048576: NARROWER than '..Said'. Prove '..Said' where nothing that the law and all that it calls make is longer than what came in: it says more and counts as full. Else prove '..UptoSaid'. A law counts once. -/
mutual
def uptoBulk {H : Type} : DataW H → Nat
  | .lit (.string bytes) => bytes.length + 1
  | .lit _ => 1
  | .nil => 1
  | .ptr d => uptoBulk d + 1
  | .slice elems spare => uptoBulkAll elems + uptoBulkAll spare + 1
  | .agg parts => uptoBulkAll parts + 1
  | .iface _ d => uptoBulk d + 1
  | .map entries => uptoBulkEntries entries + 1
  | .held _ => 1
def uptoBulkAll {H : Type} : List (DataW H) → Nat
  | [] => 0
  | d :: r => uptoBulk d + uptoBulkAll r
def uptoBulkEntries {H : Type} : List (Lit × DataW H) → Nat
  | [] => 0
  | x :: r => uptoBulkEntry x + uptoBulkEntries r
def uptoBulkEntry {H : Type} : Lit × DataW H → Nat
  | (.string bytes, d) => bytes.length + uptoBulk d + 1
  | (_, d) => uptoBulk d + 1
 end
def uptoSmall : (H : Type) → List (DataW H) → Bool := fun _ ds => decide (uptoBulkAll ds ≤ 1048576)
def OpenSpec.upto (s : _root_.Go.ChangeSpec) : _root_.Go.OpenSpec := { _root_.Go.OpenSpec.ofChange s with cond := some uptoSmall }

/-- 'paritylaw4.CacheRoom', WHERE WHAT IT READS IS OF BULK AT MOST 1048576: true; the input reads as it did. -/
def cacheRoomUptoRow : OpenClaim := { program := "ytangcjffiooapaa", sum := "596c5955e0d7399e82173096c14767b5cd116c299477b8a4460bd102322b19f1", func := "paritymill/paritylaw4.CacheRoom", spec := "cacheRoom", unfollowed := true, recurses := true, apart := false, narrowed := true }
def CacheRoomUptoSaid : Prop := cacheRoomUptoRow.holds Try.pinned (OpenSpec.upto cacheRoomSpec)

/-- 'paritylaw2.CacheSame', WHERE WHAT IT READS IS OF BULK AT MOST 1048576: true; the input reads as it did. -/
def cacheSameUptoRow : OpenClaim := { program := "ytangcjffiooapaa", sum := "596c5955e0d7399e82173096c14767b5cd116c299477b8a4460bd102322b19f1", func := "paritymill/paritylaw2.CacheSame", spec := "cacheSame", unfollowed := true, recurses := true, apart := false, narrowed := true }
def CacheSameUptoSaid : Prop := cacheSameUptoRow.holds Try.pinned (OpenSpec.upto cacheSameSpec)

/-- 'paritylaw4.IntentClean', WHERE WHAT IT READS IS OF BULK AT MOST 1048576: true; the input reads as it did. -/
def intentCleanUptoRow : OpenClaim := { program := "ytangcjffiooapaa", sum := "596c5955e0d7399e82173096c14767b5cd116c299477b8a4460bd102322b19f1", func := "paritymill/paritylaw4.IntentClean", spec := "intentClean", inPlace := ["slices.overlaps[int]"], apart := false, narrowed := true }
def IntentCleanUptoSaid : Prop := intentCleanUptoRow.holds Try.pinned (OpenSpec.upto intentCleanSpec)

/-- 'paritylaw2.IntentCovers', WHERE WHAT IT READS IS OF BULK AT MOST 1048576: true; the input reads as it did. -/
def intentCoversUptoRow : OpenClaim := { program := "ytangcjffiooapaa", sum := "596c5955e0d7399e82173096c14767b5cd116c299477b8a4460bd102322b19f1", func := "paritymill/paritylaw2.IntentCovers", spec := "intentCovers", inPlace := ["slices.overlaps[int]"], apart := false, narrowed := true }
def IntentCoversUptoSaid : Prop := intentCoversUptoRow.holds Try.pinned (OpenSpec.upto intentCoversSpec)

/-- 'paritytop.TopLater', WHERE WHAT IT READS IS OF BULK AT MOST 1048576: true; the input reads as it did. -/
def topLaterUptoRow : OpenClaim := { program := "ytangcjffiooapaa", sum := "596c5955e0d7399e82173096c14767b5cd116c299477b8a4460bd102322b19f1", func := "paritymill/paritytop.TopLater", spec := "topLater", unfollowed := true, recurses := true, apart := false, narrowed := true }
def TopLaterUptoSaid : Prop := topLaterUptoRow.holds Try.pinned (OpenSpec.upto topLaterSpec)

end Rows
end Go.Proofs.Ytangcjffiooapaa
