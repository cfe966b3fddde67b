/-
  No cell of these rows narrows 'for every input' (looked for: loops, veiled, ifaces, maps, wideKeys, modest, calm, conditions, laid).
  DERIVED. THE GIVEN ROWS OF THIS SEAT. 7 by the template 'for every input the law returns true; each argument reads behind the call as it read before'; 0 by the template 'total and deterministic' (their statements: YtoddoekmgkcomaaTotals.lean).
  GIVEN WITH THE SEED: the statements are not yours to turn. If you find one false, say at which input.
  Laid BY PROGRAM, IN A SANDBOX (cutbox-rows.mjs): the forced cells as the released guide's own fill.sh prints them over the translation dab0979625851ae4… (all of the seat's roots in one cut). By AI agents, Wed Nov 11 2026. No macro, syntax, notation, axiom, sorry.
-/
import Derived.Test.YtoddoekmgkcomaaChecked
import GoSem.Claim
import GoSem.ClaimJoined
import GoSem.ClaimMapViews
import Derived.JoinedTies
import Derived.KernelRfl
namespace Go.Proofs.Ytoddoekmgkcomaa
/- THE CELL 'sum', in the pinned program and in every row, IS THE sha256 OF THE DUMP (.gsa) THAT YtoddoekmgkcomaaProg.lean LOADS. Nothing in Lean hashes anything: it is a label: what it is worth is what the hold of that sum in a sandbox is worth. -/
noncomputable def Try.pinned : Pinned := { name := "ytoddoekmgkcomaa", sum := "dab0979625851ae4883f44eb9739178e5693e271f4c38734795fd0ef86bc724b", checked := Try.checked }
namespace Rows
def none {H : Type} : Left H := { results := [], args := [] }

/-- 'paritylaw4.WireLong': WHATEVER THE INPUT: true; the input reads as it did. -/
def wireLongSpec : ChangeSpec := { name := "wireLong", fn := fun _ => fun
  | [d1, d2] => { results := [.lit (.bool true)], args := [d1, d2] }
  | _ => none }
def wireLongRow : OpenClaim := { program := "ytoddoekmgkcomaa", sum := "dab0979625851ae4883f44eb9739178e5693e271f4c38734795fd0ef86bc724b", func := "paritymill/paritylaw4.WireLong", spec := "wireLong", apart := false }
def WireLongSaid : Prop := wireLongRow.holds Try.pinned (OpenSpec.ofChange wireLongSpec)

/-- ITS FALSE NEIGHBOUR: 'it returns false'. Refute it at one input. -/
def wireLongWrong : ChangeSpec := { name := "wireLong", fn := fun _ => fun
  | [d1, d2] => { results := [.lit (.bool false)], args := [d1, d2] }
  | _ => none }
def WireLongWrongFalsely : Prop := wireLongRow.holds Try.pinned (OpenSpec.ofChange wireLongWrong)

/-- 'paritylaw3.WireMends': WHATEVER THE INPUT: true; the input reads as it did. -/
def wireMendsSpec : ChangeSpec := { name := "wireMends", fn := fun _ => fun
  | [d1, d2, d3, d4, d5] => { results := [.lit (.bool true)], args := [d1, d2, d3, d4, d5] }
  | _ => none }
def wireMendsRow : OpenClaim := { program := "ytoddoekmgkcomaa", sum := "dab0979625851ae4883f44eb9739178e5693e271f4c38734795fd0ef86bc724b", func := "paritymill/paritylaw3.WireMends", spec := "wireMends", apart := false }
def WireMendsSaid : Prop := wireMendsRow.holds Try.pinned (OpenSpec.ofChange wireMendsSpec)

/-- ITS FALSE NEIGHBOUR: 'it returns false'. Refute it at one input. -/
def wireMendsWrong : ChangeSpec := { name := "wireMends", fn := fun _ => fun
  | [d1, d2, d3, d4, d5] => { results := [.lit (.bool false)], args := [d1, d2, d3, d4, d5] }
  | _ => none }
def WireMendsWrongFalsely : Prop := wireMendsRow.holds Try.pinned (OpenSpec.ofChange wireMendsWrong)

/-- 'paritylaw4.LocksShare': WHATEVER THE INPUT: true; the input reads as it did. -/
def locksShareSpec : ChangeSpec := { name := "locksShare", fn := fun _ => fun
  | [d] => { results := [.lit (.bool true)], args := [d] }
  | _ => none }
def locksShareRow : OpenClaim := { program := "ytoddoekmgkcomaa", sum := "dab0979625851ae4883f44eb9739178e5693e271f4c38734795fd0ef86bc724b", func := "paritymill/paritylaw4.LocksShare", spec := "locksShare", unfollowed := true, recurses := true, apart := false }
def LocksShareSaid : Prop := locksShareRow.holds Try.pinned (OpenSpec.ofChange locksShareSpec)

/-- ITS FALSE NEIGHBOUR: 'it returns false'. Refute it at one input. -/
def locksShareWrong : ChangeSpec := { name := "locksShare", fn := fun _ => fun
  | [d] => { results := [.lit (.bool false)], args := [d] }
  | _ => none }
def LocksShareWrongFalsely : Prop := locksShareRow.holds Try.pinned (OpenSpec.ofChange locksShareWrong)

/-- 'paritylaw3.LocksHold': WHATEVER THE INPUT: true; the input reads as it did. -/
def locksHoldSpec : ChangeSpec := { name := "locksHold", fn := fun _ => fun
  | [d1, d2] => { results := [.lit (.bool true)], args := [d1, d2] }
  | _ => none }
def locksHoldRow : OpenClaim := { program := "ytoddoekmgkcomaa", sum := "dab0979625851ae4883f44eb9739178e5693e271f4c38734795fd0ef86bc724b", func := "paritymill/paritylaw3.LocksHold", spec := "locksHold", unfollowed := true, recurses := true, apart := false }
def LocksHoldSaid : Prop := locksHoldRow.holds Try.pinned (OpenSpec.ofChange locksHoldSpec)

/-- ITS FALSE NEIGHBOUR: 'it returns false'. Refute it at one input. -/
def locksHoldWrong : ChangeSpec := { name := "locksHold", fn := fun _ => fun
  | [d1, d2] => { results := [.lit (.bool false)], args := [d1, d2] }
  | _ => none }
def LocksHoldWrongFalsely : Prop := locksHoldRow.holds Try.pinned (OpenSpec.ofChange locksHoldWrong)

/-- 'paritylaw4.GrowOne': WHATEVER THE INPUT: true; the input reads as it did. -/
def growOneSpec : ChangeSpec := { name := "growOne", fn := fun _ => fun
  | [d] => { results := [.lit (.bool true)], args := [d] }
  | _ => none }
def growOneRow : OpenClaim := { program := "ytoddoekmgkcomaa", sum := "dab0979625851ae4883f44eb9739178e5693e271f4c38734795fd0ef86bc724b", func := "paritymill/paritylaw4.GrowOne", spec := "growOne", unfollowed := true, recurses := true, apart := false }
def GrowOneSaid : Prop := growOneRow.holds Try.pinned (OpenSpec.ofChange growOneSpec)

/-- ITS FALSE NEIGHBOUR: 'it returns false'. Refute it at one input. -/
def growOneWrong : ChangeSpec := { name := "growOne", fn := fun _ => fun
  | [d] => { results := [.lit (.bool false)], args := [d] }
  | _ => none }
def GrowOneWrongFalsely : Prop := growOneRow.holds Try.pinned (OpenSpec.ofChange growOneWrong)

/-- 'paritylaw4.ReserveTakes': WHATEVER THE INPUT: true; the input reads as it did. -/
def reserveTakesSpec : ChangeSpec := { name := "reserveTakes", fn := fun _ => fun
  | [d1, d2, d3] => { results := [.lit (.bool true)], args := [d1, d2, d3] }
  | _ => none }
def reserveTakesRow : OpenClaim := { program := "ytoddoekmgkcomaa", sum := "dab0979625851ae4883f44eb9739178e5693e271f4c38734795fd0ef86bc724b", func := "paritymill/paritylaw4.ReserveTakes", spec := "reserveTakes", apart := false }
def ReserveTakesSaid : Prop := reserveTakesRow.holds Try.pinned (OpenSpec.ofChange reserveTakesSpec)

/-- ITS FALSE NEIGHBOUR: 'it returns false'. Refute it at one input. -/
def reserveTakesWrong : ChangeSpec := { name := "reserveTakes", fn := fun _ => fun
  | [d1, d2, d3] => { results := [.lit (.bool false)], args := [d1, d2, d3] }
  | _ => none }
def ReserveTakesWrongFalsely : Prop := reserveTakesRow.holds Try.pinned (OpenSpec.ofChange reserveTakesWrong)

/-- 'paritylaw2.ReserveOne': WHATEVER THE INPUT: true; the input reads as it did. -/
def reserveOneSpec : ChangeSpec := { name := "reserveOne", fn := fun _ => fun
  | [d] => { results := [.lit (.bool true)], args := [d] }
  | _ => none }
def reserveOneRow : OpenClaim := { program := "ytoddoekmgkcomaa", sum := "dab0979625851ae4883f44eb9739178e5693e271f4c38734795fd0ef86bc724b", func := "paritymill/paritylaw2.ReserveOne", spec := "reserveOne", apart := false }
def ReserveOneSaid : Prop := reserveOneRow.holds Try.pinned (OpenSpec.ofChange reserveOneSpec)

/-- ITS FALSE NEIGHBOUR: 'it returns false'. Refute it at one input. -/
def reserveOneWrong : ChangeSpec := { name := "reserveOne", fn := fun _ => fun
  | [d] => { results := [.lit (.bool false)], args := [d] }
  | _ => none }
def ReserveOneWrongFalsely : Prop := reserveOneRow.holds Try.pinned (OpenSpec.ofChange reserveOneWrong)

/- THE SECOND FORM. 'bulk': how many values and letters a reading holds, each counted each time it is reached (what is shared counts as often as it is met; a slice's spare places count too). A statement '..UptoSaid' is the law's where the arguments, and the package variables that the reading takes, are together of bulk at most 1048576: NARROWER than '..Said'. Prove '..Said' where nothing that the law and all that it calls make is longer than what came in: it says more and counts as full. Else prove '..UptoSaid'. A law counts once. -/
mutual
def uptoBulk {H : Type} : DataW H → Nat
  | .lit (.string bytes) => bytes.length + 1
  | .lit _ => 1
  | .nil => 1
  | .ptr d => uptoBulk d + 1
  | .slice elems spare => uptoBulkAll elems + uptoBulkAll spare + 1
  | .agg parts => uptoBulkAll parts + 1
  | .iface _ d => uptoBulk d + 1
  | .map entries => uptoBulkEntries entries + 1
  | .held _ => 1
def uptoBulkAll {H : Type} : List (DataW H) → Nat
  | [] => 0
  | d :: r => uptoBulk d + uptoBulkAll r
def uptoBulkEntries {H : Type} : List (Lit × DataW H) → Nat
  | [] => 0
  | x :: r => uptoBulkEntry x + uptoBulkEntries r
def uptoBulkEntry {H : Type} : Lit × DataW H → Nat
  | (.string bytes, d) => bytes.length + uptoBulk d + 1
  | (_, d) => uptoBulk d + 1
 end
def uptoSmall : (H : Type) → List (DataW H) → Bool := fun _ ds => decide (uptoBulkAll ds ≤ 1048576)
def OpenSpec.upto (s : _root_.Go.ChangeSpec) : _root_.Go.OpenSpec := { _root_.Go.OpenSpec.ofChange s with cond := some uptoSmall }

/-- 'paritylaw4.WireLong', WHERE WHAT IT READS IS OF BULK AT MOST 1048576: true; the input reads as it did. -/
def wireLongUptoRow : OpenClaim := { program := "ytoddoekmgkcomaa", sum := "dab0979625851ae4883f44eb9739178e5693e271f4c38734795fd0ef86bc724b", func := "paritymill/paritylaw4.WireLong", spec := "wireLong", apart := false, narrowed := true }
def WireLongUptoSaid : Prop := wireLongUptoRow.holds Try.pinned (OpenSpec.upto wireLongSpec)

/-- 'paritylaw3.WireMends', WHERE WHAT IT READS IS OF BULK AT MOST 1048576: true; the input reads as it did. -/
def wireMendsUptoRow : OpenClaim := { program := "ytoddoekmgkcomaa", sum := "dab0979625851ae4883f44eb9739178e5693e271f4c38734795fd0ef86bc724b", func := "paritymill/paritylaw3.WireMends", spec := "wireMends", apart := false, narrowed := true }
def WireMendsUptoSaid : Prop := wireMendsUptoRow.holds Try.pinned (OpenSpec.upto wireMendsSpec)

/-- 'paritylaw4.LocksShare', WHERE WHAT IT READS IS OF BULK AT MOST 1048576: true; the input reads as it did. -/
def locksShareUptoRow : OpenClaim := { program := "ytoddoekmgkcomaa", sum := "dab0979625851ae4883f44eb9739178e5693e271f4c38734795fd0ef86bc724b", func := "paritymill/paritylaw4.LocksShare", spec := "locksShare", unfollowed := true, recurses := true, apart := false, narrowed := true }
def LocksShareUptoSaid : Prop := locksShareUptoRow.holds Try.pinned (OpenSpec.upto locksShareSpec)

/-- 'paritylaw3.LocksHold', WHERE WHAT IT READS IS OF BULK AT MOST 1048576: true; the input reads as it did. -/
def locksHoldUptoRow : OpenClaim := { program := "ytoddoekmgkcomaa", sum := "dab0979625851ae4883f44eb9739178e5693e271f4c38734795fd0ef86bc724b", func := "paritymill/paritylaw3.LocksHold", spec := "locksHold", unfollowed := true, recurses := true, apart := false, narrowed := true }
def LocksHoldUptoSaid : Prop := locksHoldUptoRow.holds Try.pinned (OpenSpec.upto locksHoldSpec)

/-- 'paritylaw4.GrowOne', WHERE WHAT IT READS IS OF BULK AT MOST 1048576: true; the input reads as it did. -/
def growOneUptoRow : OpenClaim := { program := "ytoddoekmgkcomaa", sum := "dab0979625851ae4883f44eb9739178e5693e271f4c38734795fd0ef86bc724b", func := "paritymill/paritylaw4.GrowOne", spec := "growOne", unfollowed := true, recurses := true, apart := false, narrowed := true }
def GrowOneUptoSaid : Prop := growOneUptoRow.holds Try.pinned (OpenSpec.upto growOneSpec)

/-- 'paritylaw4.ReserveTakes', WHERE WHAT IT READS IS OF BULK AT MOST 1048576: true; the input reads as it did. -/
def reserveTakesUptoRow : OpenClaim := { program := "ytoddoekmgkcomaa", sum := "dab0979625851ae4883f44eb9739178e5693e271f4c38734795fd0ef86bc724b", func := "paritymill/paritylaw4.ReserveTakes", spec := "reserveTakes", apart := false, narrowed := true }
def ReserveTakesUptoSaid : Prop := reserveTakesUptoRow.holds Try.pinned (OpenSpec.upto reserveTakesSpec)

/-- 'paritylaw2.ReserveOne', WHERE WHAT IT READS IS OF BULK AT MOST 1048576: true; the input reads as it did. -/
def reserveOneUptoRow : OpenClaim := { program := "ytoddoekmgkcomaa", sum := "dab0979625851ae4883f44eb9739178e5693e271f4c38734795fd0ef86bc724b", func := "paritymill/paritylaw2.ReserveOne", spec := "reserveOne", apart := false, narrowed := true }
def ReserveOneUptoSaid : Prop := reserveOneUptoRow.holds Try.pinned (OpenSpec.upto reserveOneSpec)

end Rows
end Go.Proofs.Ytoddoekmgkcomaa
