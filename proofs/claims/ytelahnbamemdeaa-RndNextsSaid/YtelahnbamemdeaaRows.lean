/-
  No cell of these rows narrows 'for every input' (looked for: loops, veiled, ifaces, maps, wideKeys, modest, calm, conditions, laid).
  DERIVED. THE GIVEN ROWS OF THIS SEAT. 7 by the template 'for every input the law returns true; each argument reads behind the call as it read before'; 0 by the template 'total and deterministic' (their statements: YtelahnbamemdeaaTotals.lean).
  GIVEN WITH THE SEED: the statements are not yours to turn. If you find one false, say at which input.
  Laid BY PROGRAM, IN A SANDBOX (cutbox-rows.mjs): the forced cells as the released guide's own fill.sh prints them over the translation 068fe23c45472931… (all of the seat's roots in one cut). By AI agents, Wed Nov 11 2026. No macro, syntax, notation, axiom, sorry.
-/
import Derived.Test.YtelahnbamemdeaaChecked
import GoSem.Claim
import GoSem.ClaimJoined
import GoSem.ClaimMapViews
import Derived.JoinedTies
import Derived.KernelRfl
namespace Go.Proofs.Ytelahnbamemdeaa
/- THE CELL 'sum', in the pinned program and in every row, IS THE sha256 OF THE DUMP (.gsa) THAT YtelahnbamemdeaaProg.lean LOADS. Nothing in Lean hashes anything: it is a label: what it is worth is what the hold of that sum in a sandbox is worth. -/
noncomputable def Try.pinned : Pinned := { name := "ytelahnbamemdeaa", sum := "068fe23c454729312a7b4bae9a7c9d728bdff40e10c4ebb769acaabbb50380ea", checked := Try.checked }
namespace Rows
def none {H : Type} : Left H := { results := [], args := [] }

/-- 'mootkeep5.RndRange': WHATEVER THE INPUT: true; the input reads as it did. -/
def rndRangeSpec : ChangeSpec := { name := "rndRange", fn := fun _ => fun
  | [d1, d2] => { results := [.lit (.bool true)], args := [d1, d2] }
  | _ => none }
def rndRangeRow : OpenClaim := { program := "ytelahnbamemdeaa", sum := "068fe23c454729312a7b4bae9a7c9d728bdff40e10c4ebb769acaabbb50380ea", func := "moothall/mootkeep5.RndRange", spec := "rndRange", apart := false }
def RndRangeSaid : Prop := rndRangeRow.holds Try.pinned (OpenSpec.ofChange rndRangeSpec)

/-- ITS FALSE NEIGHBOUR: 'it returns false'. Refute it at one input. -/
def rndRangeWrong : ChangeSpec := { name := "rndRange", fn := fun _ => fun
  | [d1, d2] => { results := [.lit (.bool false)], args := [d1, d2] }
  | _ => none }
def RndRangeWrongFalsely : Prop := rndRangeRow.holds Try.pinned (OpenSpec.ofChange rndRangeWrong)

/-- 'mootlaw5.RndNexts': WHATEVER THE INPUT: true; the input reads as it did. -/
def rndNextsSpec : ChangeSpec := { name := "rndNexts", fn := fun _ => fun
  | [d1, d2, d3] => { results := [.lit (.bool true)], args := [d1, d2, d3] }
  | _ => none }
def rndNextsRow : OpenClaim := { program := "ytelahnbamemdeaa", sum := "068fe23c454729312a7b4bae9a7c9d728bdff40e10c4ebb769acaabbb50380ea", func := "moothall/mootlaw5.RndNexts", spec := "rndNexts", apart := false }
def RndNextsSaid : Prop := rndNextsRow.holds Try.pinned (OpenSpec.ofChange rndNextsSpec)

/-- ITS FALSE NEIGHBOUR: 'it returns false'. Refute it at one input. -/
def rndNextsWrong : ChangeSpec := { name := "rndNexts", fn := fun _ => fun
  | [d1, d2, d3] => { results := [.lit (.bool false)], args := [d1, d2, d3] }
  | _ => none }
def RndNextsWrongFalsely : Prop := rndNextsRow.holds Try.pinned (OpenSpec.ofChange rndNextsWrong)

/-- 'mootlaw5.RndPicks': WHATEVER THE INPUT: true; the input reads as it did. -/
def rndPicksSpec : ChangeSpec := { name := "rndPicks", fn := fun _ => fun
  | [d1, d2] => { results := [.lit (.bool true)], args := [d1, d2] }
  | _ => none }
def rndPicksRow : OpenClaim := { program := "ytelahnbamemdeaa", sum := "068fe23c454729312a7b4bae9a7c9d728bdff40e10c4ebb769acaabbb50380ea", func := "moothall/mootlaw5.RndPicks", spec := "rndPicks", apart := false }
def RndPicksSaid : Prop := rndPicksRow.holds Try.pinned (OpenSpec.ofChange rndPicksSpec)

/-- ITS FALSE NEIGHBOUR: 'it returns false'. Refute it at one input. -/
def rndPicksWrong : ChangeSpec := { name := "rndPicks", fn := fun _ => fun
  | [d1, d2] => { results := [.lit (.bool false)], args := [d1, d2] }
  | _ => none }
def RndPicksWrongFalsely : Prop := rndPicksRow.holds Try.pinned (OpenSpec.ofChange rndPicksWrong)

/-- 'mootkeep5.RndChosen': WHATEVER THE INPUT: true; the input reads as it did. -/
def rndChosenSpec : ChangeSpec := { name := "rndChosen", fn := fun _ => fun
  | [d1, d2] => { results := [.lit (.bool true)], args := [d1, d2] }
  | _ => none }
def rndChosenRow : OpenClaim := { program := "ytelahnbamemdeaa", sum := "068fe23c454729312a7b4bae9a7c9d728bdff40e10c4ebb769acaabbb50380ea", func := "moothall/mootkeep5.RndChosen", spec := "rndChosen", unfollowed := true, recurses := true, leaving := true, apart := false }
def RndChosenSaid : Prop := rndChosenRow.holds Try.pinned (OpenSpec.ofChange rndChosenSpec)

/-- ITS FALSE NEIGHBOUR: 'it returns false'. Refute it at one input. -/
def rndChosenWrong : ChangeSpec := { name := "rndChosen", fn := fun _ => fun
  | [d1, d2] => { results := [.lit (.bool false)], args := [d1, d2] }
  | _ => none }
def RndChosenWrongFalsely : Prop := rndChosenRow.holds Try.pinned (OpenSpec.ofChange rndChosenWrong)

/-- 'mootkeep5.RndMixes': WHATEVER THE INPUT: true; the input reads as it did. -/
def rndMixesSpec : ChangeSpec := { name := "rndMixes", fn := fun _ => fun
  | [d1, d2] => { results := [.lit (.bool true)], args := [d1, d2] }
  | _ => none }
def rndMixesRow : OpenClaim := { program := "ytelahnbamemdeaa", sum := "068fe23c454729312a7b4bae9a7c9d728bdff40e10c4ebb769acaabbb50380ea", func := "moothall/mootkeep5.RndMixes", spec := "rndMixes", recurses := true, apart := false }
def RndMixesSaid : Prop := rndMixesRow.holds Try.pinned (OpenSpec.ofChange rndMixesSpec)

/-- ITS FALSE NEIGHBOUR: 'it returns false'. Refute it at one input. -/
def rndMixesWrong : ChangeSpec := { name := "rndMixes", fn := fun _ => fun
  | [d1, d2] => { results := [.lit (.bool false)], args := [d1, d2] }
  | _ => none }
def RndMixesWrongFalsely : Prop := rndMixesRow.holds Try.pinned (OpenSpec.ofChange rndMixesWrong)

/-- 'mootkeep5.CrewFolds': WHATEVER THE INPUT: true; the input reads as it did. -/
def crewFoldsSpec : ChangeSpec := { name := "crewFolds", fn := fun _ => fun
  | [d1, d2] => { results := [.lit (.bool true)], args := [d1, d2] }
  | _ => none }
def crewFoldsRow : OpenClaim := { program := "ytelahnbamemdeaa", sum := "068fe23c454729312a7b4bae9a7c9d728bdff40e10c4ebb769acaabbb50380ea", func := "moothall/mootkeep5.CrewFolds", spec := "crewFolds", inPlace := ["(*sync.WaitGroup).Add", "internal/race.ReleaseMerge", "internal/race.Disable", "internal/race.Enable", "internal/synctest.IsInBubble", "internal/synctest.Associate[sync.WaitGroup]", "sync.fatal", "sync/atomic.OrUint64", "sync/atomic.AddUint64", "internal/race.Read", "sync/atomic.LoadUint64", "sync/atomic.StoreUint64", "internal/synctest.Disassociate[sync.WaitGroup]", "sync.runtime_Semrelease", "(*sync.WaitGroup).Done", "(*sync.WaitGroup).Wait", "internal/race.Acquire", "internal/synctest.IsAssociated[sync.WaitGroup]", "sync/atomic.CompareAndSwapUint64", "internal/race.Write", "sync.runtime_SemacquireWaitGroup"], unfollowed := true, recurses := true, leaving := true, apart := false }
def CrewFoldsSaid : Prop := crewFoldsRow.holds Try.pinned (OpenSpec.ofChange crewFoldsSpec)

/-- ITS FALSE NEIGHBOUR: 'it returns false'. Refute it at one input. -/
def crewFoldsWrong : ChangeSpec := { name := "crewFolds", fn := fun _ => fun
  | [d1, d2] => { results := [.lit (.bool false)], args := [d1, d2] }
  | _ => none }
def CrewFoldsWrongFalsely : Prop := crewFoldsRow.holds Try.pinned (OpenSpec.ofChange crewFoldsWrong)

/-- 'mootlaw5.CrewMaps': WHATEVER THE INPUT: true; the input reads as it did. -/
def crewMapsSpec : ChangeSpec := { name := "crewMaps", fn := fun _ => fun
  | [d1, d2] => { results := [.lit (.bool true)], args := [d1, d2] }
  | _ => none }
def crewMapsRow : OpenClaim := { program := "ytelahnbamemdeaa", sum := "068fe23c454729312a7b4bae9a7c9d728bdff40e10c4ebb769acaabbb50380ea", func := "moothall/mootlaw5.CrewMaps", spec := "crewMaps", inPlace := ["internal/abi.NoEscape", "internal/bytealg.MakeNoZero", "(*sync.WaitGroup).Add", "internal/race.ReleaseMerge", "internal/race.Disable", "internal/race.Enable", "internal/synctest.IsInBubble", "internal/synctest.Associate[sync.WaitGroup]", "sync.fatal", "sync/atomic.OrUint64", "sync/atomic.AddUint64", "internal/race.Read", "sync/atomic.LoadUint64", "sync/atomic.StoreUint64", "internal/synctest.Disassociate[sync.WaitGroup]", "sync.runtime_Semrelease", "(*sync.WaitGroup).Done", "(*sync.WaitGroup).Wait", "internal/race.Acquire", "internal/synctest.IsAssociated[sync.WaitGroup]", "sync/atomic.CompareAndSwapUint64", "internal/race.Write", "sync.runtime_SemacquireWaitGroup"], unfollowed := true, recurses := true, leaving := true, apart := false }
def CrewMapsSaid : Prop := crewMapsRow.holds Try.pinned (OpenSpec.ofChange crewMapsSpec)

/-- ITS FALSE NEIGHBOUR: 'it returns false'. Refute it at one input. -/
def crewMapsWrong : ChangeSpec := { name := "crewMaps", fn := fun _ => fun
  | [d1, d2] => { results := [.lit (.bool false)], args := [d1, d2] }
  | _ => none }
def CrewMapsWrongFalsely : Prop := crewMapsRow.holds Try.pinned (OpenSpec.ofChange crewMapsWrong)

/- THE SECOND FORM. 'bulk': how many values and letters a reading holds, each counted each time it is reached (what is shared counts as often as it is met; a slice's spare places count too). A statement '..UptoSaid' is the law's where the arguments, and the package variables that the reading takes, are together of bulk at most 1048576: NARROWER than '..Said'. Prove '..Said' where nothing that the law and all that it calls make is longer than what came in: it says more and counts as full. Else prove '..UptoSaid'. A law counts once. -/
mutual
def uptoBulk {H : Type} : DataW H → Nat
  | .lit (.string bytes) => bytes.length + 1
  | .lit _ => 1
  | .nil => 1
  | .ptr d => uptoBulk d + 1
  | .slice elems spare => uptoBulkAll elems + uptoBulkAll spare + 1
  | .agg parts => uptoBulkAll parts + 1
  | .iface _ d => uptoBulk d + 1
  | .map entries => uptoBulkEntries entries + 1
  | .held _ => 1
def uptoBulkAll {H : Type} : List (DataW H) → Nat
  | [] => 0
  | d :: r => uptoBulk d + uptoBulkAll r
def uptoBulkEntries {H : Type} : List (Lit × DataW H) → Nat
  | [] => 0
  | x :: r => uptoBulkEntry x + uptoBulkEntries r
def uptoBulkEntry {H : Type} : Lit × DataW H → Nat
  | (.string bytes, d) => bytes.length + uptoBulk d + 1
  | (_, d) => uptoBulk d + 1
 end
def uptoSmall : (H : Type) → List (DataW H) → Bool := fun _ ds => decide (uptoBulkAll ds ≤ 1048576)
def OpenSpec.upto (s : _root_.Go.ChangeSpec) : _root_.Go.OpenSpec := { _root_.Go.OpenSpec.ofChange s with cond := some uptoSmall }

/-- 'mootkeep5.RndRange', WHERE WHAT IT READS IS OF BULK AT MOST 1048576: true; the input reads as it did. -/
def rndRangeUptoRow : OpenClaim := { program := "ytelahnbamemdeaa", sum := "068fe23c454729312a7b4bae9a7c9d728bdff40e10c4ebb769acaabbb50380ea", func := "moothall/mootkeep5.RndRange", spec := "rndRange", apart := false, narrowed := true }
def RndRangeUptoSaid : Prop := rndRangeUptoRow.holds Try.pinned (OpenSpec.upto rndRangeSpec)

/-- 'mootlaw5.RndNexts', WHERE WHAT IT READS IS OF BULK AT MOST 1048576: true; the input reads as it did. -/
def rndNextsUptoRow : OpenClaim := { program := "ytelahnbamemdeaa", sum := "068fe23c454729312a7b4bae9a7c9d728bdff40e10c4ebb769acaabbb50380ea", func := "moothall/mootlaw5.RndNexts", spec := "rndNexts", apart := false, narrowed := true }
def RndNextsUptoSaid : Prop := rndNextsUptoRow.holds Try.pinned (OpenSpec.upto rndNextsSpec)

/-- 'mootlaw5.RndPicks', WHERE WHAT IT READS IS OF BULK AT MOST 1048576: true; the input reads as it did. -/
def rndPicksUptoRow : OpenClaim := { program := "ytelahnbamemdeaa", sum := "068fe23c454729312a7b4bae9a7c9d728bdff40e10c4ebb769acaabbb50380ea", func := "moothall/mootlaw5.RndPicks", spec := "rndPicks", apart := false, narrowed := true }
def RndPicksUptoSaid : Prop := rndPicksUptoRow.holds Try.pinned (OpenSpec.upto rndPicksSpec)

/-- 'mootkeep5.RndChosen', WHERE WHAT IT READS IS OF BULK AT MOST 1048576: true; the input reads as it did. -/
def rndChosenUptoRow : OpenClaim := { program := "ytelahnbamemdeaa", sum := "068fe23c454729312a7b4bae9a7c9d728bdff40e10c4ebb769acaabbb50380ea", func := "moothall/mootkeep5.RndChosen", spec := "rndChosen", unfollowed := true, recurses := true, leaving := true, apart := false, narrowed := true }
def RndChosenUptoSaid : Prop := rndChosenUptoRow.holds Try.pinned (OpenSpec.upto rndChosenSpec)

/-- 'mootkeep5.RndMixes', WHERE WHAT IT READS IS OF BULK AT MOST 1048576: true; the input reads as it did. -/
def rndMixesUptoRow : OpenClaim := { program := "ytelahnbamemdeaa", sum := "068fe23c454729312a7b4bae9a7c9d728bdff40e10c4ebb769acaabbb50380ea", func := "moothall/mootkeep5.RndMixes", spec := "rndMixes", recurses := true, apart := false, narrowed := true }
def RndMixesUptoSaid : Prop := rndMixesUptoRow.holds Try.pinned (OpenSpec.upto rndMixesSpec)

/-- 'mootkeep5.CrewFolds', WHERE WHAT IT READS IS OF BULK AT MOST 1048576: true; the input reads as it did. -/
def crewFoldsUptoRow : OpenClaim := { program := "ytelahnbamemdeaa", sum := "068fe23c454729312a7b4bae9a7c9d728bdff40e10c4ebb769acaabbb50380ea", func := "moothall/mootkeep5.CrewFolds", spec := "crewFolds", inPlace := ["(*sync.WaitGroup).Add", "internal/race.ReleaseMerge", "internal/race.Disable", "internal/race.Enable", "internal/synctest.IsInBubble", "internal/synctest.Associate[sync.WaitGroup]", "sync.fatal", "sync/atomic.OrUint64", "sync/atomic.AddUint64", "internal/race.Read", "sync/atomic.LoadUint64", "sync/atomic.StoreUint64", "internal/synctest.Disassociate[sync.WaitGroup]", "sync.runtime_Semrelease", "(*sync.WaitGroup).Done", "(*sync.WaitGroup).Wait", "internal/race.Acquire", "internal/synctest.IsAssociated[sync.WaitGroup]", "sync/atomic.CompareAndSwapUint64", "internal/race.Write", "sync.runtime_SemacquireWaitGroup"], unfollowed := true, recurses := true, leaving := true, apart := false, narrowed := true }
def CrewFoldsUptoSaid : Prop := crewFoldsUptoRow.holds Try.pinned (OpenSpec.upto crewFoldsSpec)

/-- 'mootlaw5.CrewMaps', WHERE WHAT IT READS IS OF BULK AT MOST 1048576: true; the input reads as it did. -/
def crewMapsUptoRow : OpenClaim := { program := "ytelahnbamemdeaa", sum := "068fe23c454729312a7b4bae9a7c9d728bdff40e10c4ebb769acaabbb50380ea", func := "moothall/mootlaw5.CrewMaps", spec := "crewMaps", inPlace := ["internal/abi.NoEscape", "internal/bytealg.MakeNoZero", "(*sync.WaitGroup).Add", "internal/race.ReleaseMerge", "internal/race.Disable", "internal/race.Enable", "internal/synctest.IsInBubble", "internal/synctest.Associate[sync.WaitGroup]", "sync.fatal", "sync/atomic.OrUint64", "sync/atomic.AddUint64", "internal/race.Read", "sync/atomic.LoadUint64", "sync/atomic.StoreUint64", "internal/synctest.Disassociate[sync.WaitGroup]", "sync.runtime_Semrelease", "(*sync.WaitGroup).Done", "(*sync.WaitGroup).Wait", "internal/race.Acquire", "internal/synctest.IsAssociated[sync.WaitGroup]", "sync/atomic.CompareAndSwapUint64", "internal/race.Write", "sync.runtime_SemacquireWaitGroup"], unfollowed := true, recurses := true, leaving := true, apart := false, narrowed := true }
def CrewMapsUptoSaid : Prop := crewMapsUptoRow.holds Try.pinned (OpenSpec.upto crewMapsSpec)

end Rows
end Go.Proofs.Ytelahnbamemdeaa
