/-
  No cell of these rows narrows 'for every input' (looked for: loops, veiled, ifaces, maps, wideKeys, modest, calm, conditions, laid).
  DERIVED. THE GIVEN ROWS OF THIS SEAT. 6 by the template 'for every input the law returns true; each argument reads behind the call as it read before'; 0 by the template 'total and deterministic' (their statements: YtihmanjgkjenbaaTotals.lean).
  GIVEN WITH THE SEED: the statements are not yours to turn. If you find one false, say at which input.
  Laid BY PROGRAM, IN A SANDBOX (cutbox-rows.mjs): the forced cells as the released guide's own fill.sh prints them over the translation 5da92d9709c61705… (all of the seat's roots in one cut). By AI agents, Wed Nov 11 2026. No macro, syntax, notation, axiom, sorry.
-/
import Derived.Test.YtihmanjgkjenbaaChecked
import GoSem.Claim
import GoSem.ClaimJoined
import GoSem.ClaimMapViews
import Derived.JoinedTies
import Derived.KernelRfl
namespace Go.Proofs.Ytihmanjgkjenbaa
/- THE CELL 'sum', in the pinned program and in every row, IS THE sha256 OF THE DUMP (.gsa) THAT YtihmanjgkjenbaaProg.lean LOADS. Nothing in Lean hashes anything: it is a label: what it is worth is what the hold of that sum in a sandbox is worth. -/
noncomputable def Try.pinned : Pinned := { name := "ytihmanjgkjenbaa", sum := "5da92d9709c61705c0d91ab924c177721bbb92c331fe359d24b3650da85ac2d6", checked := Try.checked }
namespace Rows
def none {H : Type} : Left H := { results := [], args := [] }

/-- 'mootlaw5.GroupGinis': WHATEVER THE INPUT: true; the input reads as it did. -/
def groupGinisSpec : ChangeSpec := { name := "groupGinis", fn := fun _ => fun
  | [d] => { results := [.lit (.bool true)], args := [d] }
  | _ => none }
def groupGinisRow : OpenClaim := { program := "ytihmanjgkjenbaa", sum := "5da92d9709c61705c0d91ab924c177721bbb92c331fe359d24b3650da85ac2d6", func := "moothall/mootlaw5.GroupGinis", spec := "groupGinis", unfollowed := true, recurses := true, apart := false }
def GroupGinisSaid : Prop := groupGinisRow.holds Try.pinned (OpenSpec.ofChange groupGinisSpec)

/-- ITS FALSE NEIGHBOUR: 'it returns false'. Refute it at one input. -/
def groupGinisWrong : ChangeSpec := { name := "groupGinis", fn := fun _ => fun
  | [d] => { results := [.lit (.bool false)], args := [d] }
  | _ => none }
def GroupGinisWrongFalsely : Prop := groupGinisRow.holds Try.pinned (OpenSpec.ofChange groupGinisWrong)

/-- 'mootlaw5.GroupParts': WHATEVER THE INPUT: true; the input reads as it did. -/
def groupPartsSpec : ChangeSpec := { name := "groupParts", fn := fun _ => fun
  | [d1, d2, d3, d4] => { results := [.lit (.bool true)], args := [d1, d2, d3, d4] }
  | _ => none }
def groupPartsRow : OpenClaim := { program := "ytihmanjgkjenbaa", sum := "5da92d9709c61705c0d91ab924c177721bbb92c331fe359d24b3650da85ac2d6", func := "moothall/mootlaw5.GroupParts", spec := "groupParts", unfollowed := true, recurses := true, apart := false }
def GroupPartsSaid : Prop := groupPartsRow.holds Try.pinned (OpenSpec.ofChange groupPartsSpec)

/-- ITS FALSE NEIGHBOUR: 'it returns false'. Refute it at one input. -/
def groupPartsWrong : ChangeSpec := { name := "groupParts", fn := fun _ => fun
  | [d1, d2, d3, d4] => { results := [.lit (.bool false)], args := [d1, d2, d3, d4] }
  | _ => none }
def GroupPartsWrongFalsely : Prop := groupPartsRow.holds Try.pinned (OpenSpec.ofChange groupPartsWrong)

/-- 'mootkeep5.GroupRatios': WHATEVER THE INPUT: true; the input reads as it did. -/
def groupRatiosSpec : ChangeSpec := { name := "groupRatios", fn := fun _ => fun
  | [d1, d2, d3] => { results := [.lit (.bool true)], args := [d1, d2, d3] }
  | _ => none }
def groupRatiosRow : OpenClaim := { program := "ytihmanjgkjenbaa", sum := "5da92d9709c61705c0d91ab924c177721bbb92c331fe359d24b3650da85ac2d6", func := "moothall/mootkeep5.GroupRatios", spec := "groupRatios", unfollowed := true, recurses := true, apart := false }
def GroupRatiosSaid : Prop := groupRatiosRow.holds Try.pinned (OpenSpec.ofChange groupRatiosSpec)

/-- ITS FALSE NEIGHBOUR: 'it returns false'. Refute it at one input. -/
def groupRatiosWrong : ChangeSpec := { name := "groupRatios", fn := fun _ => fun
  | [d1, d2, d3] => { results := [.lit (.bool false)], args := [d1, d2, d3] }
  | _ => none }
def GroupRatiosWrongFalsely : Prop := groupRatiosRow.holds Try.pinned (OpenSpec.ofChange groupRatiosWrong)

/-- 'mootkeep5.GroupMeans': WHATEVER THE INPUT: true; the input reads as it did. -/
def groupMeansSpec : ChangeSpec := { name := "groupMeans", fn := fun _ => fun
  | [d] => { results := [.lit (.bool true)], args := [d] }
  | _ => none }
def groupMeansRow : OpenClaim := { program := "ytihmanjgkjenbaa", sum := "5da92d9709c61705c0d91ab924c177721bbb92c331fe359d24b3650da85ac2d6", func := "moothall/mootkeep5.GroupMeans", spec := "groupMeans", unfollowed := true, recurses := true, apart := false }
def GroupMeansSaid : Prop := groupMeansRow.holds Try.pinned (OpenSpec.ofChange groupMeansSpec)

/-- ITS FALSE NEIGHBOUR: 'it returns false'. Refute it at one input. -/
def groupMeansWrong : ChangeSpec := { name := "groupMeans", fn := fun _ => fun
  | [d] => { results := [.lit (.bool false)], args := [d] }
  | _ => none }
def GroupMeansWrongFalsely : Prop := groupMeansRow.holds Try.pinned (OpenSpec.ofChange groupMeansWrong)

/-- 'mootkeep5.GroupWhole': WHATEVER THE INPUT: true; the input reads as it did. -/
def groupWholeSpec : ChangeSpec := { name := "groupWhole", fn := fun _ => fun
  | [d1, d2, d3] => { results := [.lit (.bool true)], args := [d1, d2, d3] }
  | _ => none }
def groupWholeRow : OpenClaim := { program := "ytihmanjgkjenbaa", sum := "5da92d9709c61705c0d91ab924c177721bbb92c331fe359d24b3650da85ac2d6", func := "moothall/mootkeep5.GroupWhole", spec := "groupWhole", unfollowed := true, recurses := true, apart := false }
def GroupWholeSaid : Prop := groupWholeRow.holds Try.pinned (OpenSpec.ofChange groupWholeSpec)

/-- ITS FALSE NEIGHBOUR: 'it returns false'. Refute it at one input. -/
def groupWholeWrong : ChangeSpec := { name := "groupWhole", fn := fun _ => fun
  | [d1, d2, d3] => { results := [.lit (.bool false)], args := [d1, d2, d3] }
  | _ => none }
def GroupWholeWrongFalsely : Prop := groupWholeRow.holds Try.pinned (OpenSpec.ofChange groupWholeWrong)

/-- 'mootlaw5.GroupSums': WHATEVER THE INPUT: true; the input reads as it did. -/
def groupSumsSpec : ChangeSpec := { name := "groupSums", fn := fun _ => fun
  | [d1, d2] => { results := [.lit (.bool true)], args := [d1, d2] }
  | _ => none }
def groupSumsRow : OpenClaim := { program := "ytihmanjgkjenbaa", sum := "5da92d9709c61705c0d91ab924c177721bbb92c331fe359d24b3650da85ac2d6", func := "moothall/mootlaw5.GroupSums", spec := "groupSums", unfollowed := true, recurses := true, apart := false }
def GroupSumsSaid : Prop := groupSumsRow.holds Try.pinned (OpenSpec.ofChange groupSumsSpec)

/-- ITS FALSE NEIGHBOUR: 'it returns false'. Refute it at one input. -/
def groupSumsWrong : ChangeSpec := { name := "groupSums", fn := fun _ => fun
  | [d1, d2] => { results := [.lit (.bool false)], args := [d1, d2] }
  | _ => none }
def GroupSumsWrongFalsely : Prop := groupSumsRow.holds Try.pinned (OpenSpec.ofChange groupSumsWrong)

/- THE SECOND FORM. 'bulk': how many values and letters a reading holds, each counted each time it is reached (what is shared counts as often as it is met; a slice's spare places count too). A statement '..UptoSaid' is the law's where the arguments, and the package variables that the reading takes, are together of bulk at most 1048576: NARROWER than '..Said'. Prove '..Said' where nothing that the law and all that it calls make is longer than what came in: it says more and counts as full. Else prove '..UptoSaid'. A law counts once. -/
mutual
def uptoBulk {H : Type} : DataW H → Nat
  | .lit (.string bytes) => bytes.length + 1
  | .lit _ => 1
  | .nil => 1
  | .ptr d => uptoBulk d + 1
  | .slice elems spare => uptoBulkAll elems + uptoBulkAll spare + 1
  | .agg parts => uptoBulkAll parts + 1
  | .iface _ d => uptoBulk d + 1
  | .map entries => uptoBulkEntries entries + 1
  | .held _ => 1
def uptoBulkAll {H : Type} : List (DataW H) → Nat
  | [] => 0
  | d :: r => uptoBulk d + uptoBulkAll r
def uptoBulkEntries {H : Type} : List (Lit × DataW H) → Nat
  | [] => 0
  | x :: r => uptoBulkEntry x + uptoBulkEntries r
def uptoBulkEntry {H : Type} : Lit × DataW H → Nat
  | (.string bytes, d) => bytes.length + uptoBulk d + 1
  | (_, d) => uptoBulk d + 1
 end
def uptoSmall : (H : Type) → List (DataW H) → Bool := fun _ ds => decide (uptoBulkAll ds ≤ 1048576)
def OpenSpec.upto (s : _root_.Go.ChangeSpec) : _root_.Go.OpenSpec := { _root_.Go.OpenSpec.ofChange s with cond := some uptoSmall }

/-- 'mootlaw5.GroupGinis', WHERE WHAT IT READS IS OF BULK AT MOST 1048576: true; the input reads as it did. -/
def groupGinisUptoRow : OpenClaim := { program := "ytihmanjgkjenbaa", sum := "5da92d9709c61705c0d91ab924c177721bbb92c331fe359d24b3650da85ac2d6", func := "moothall/mootlaw5.GroupGinis", spec := "groupGinis", unfollowed := true, recurses := true, apart := false, narrowed := true }
def GroupGinisUptoSaid : Prop := groupGinisUptoRow.holds Try.pinned (OpenSpec.upto groupGinisSpec)

/-- 'mootlaw5.GroupParts', WHERE WHAT IT READS IS OF BULK AT MOST 1048576: true; the input reads as it did. -/
def groupPartsUptoRow : OpenClaim := { program := "ytihmanjgkjenbaa", sum := "5da92d9709c61705c0d91ab924c177721bbb92c331fe359d24b3650da85ac2d6", func := "moothall/mootlaw5.GroupParts", spec := "groupParts", unfollowed := true, recurses := true, apart := false, narrowed := true }
def GroupPartsUptoSaid : Prop := groupPartsUptoRow.holds Try.pinned (OpenSpec.upto groupPartsSpec)

/-- 'mootkeep5.GroupRatios', WHERE WHAT IT READS IS OF BULK AT MOST 1048576: true; the input reads as it did. -/
def groupRatiosUptoRow : OpenClaim := { program := "ytihmanjgkjenbaa", sum := "5da92d9709c61705c0d91ab924c177721bbb92c331fe359d24b3650da85ac2d6", func := "moothall/mootkeep5.GroupRatios", spec := "groupRatios", unfollowed := true, recurses := true, apart := false, narrowed := true }
def GroupRatiosUptoSaid : Prop := groupRatiosUptoRow.holds Try.pinned (OpenSpec.upto groupRatiosSpec)

/-- 'mootkeep5.GroupMeans', WHERE WHAT IT READS IS OF BULK AT MOST 1048576: true; the input reads as it did. -/
def groupMeansUptoRow : OpenClaim := { program := "ytihmanjgkjenbaa", sum := "5da92d9709c61705c0d91ab924c177721bbb92c331fe359d24b3650da85ac2d6", func := "moothall/mootkeep5.GroupMeans", spec := "groupMeans", unfollowed := true, recurses := true, apart := false, narrowed := true }
def GroupMeansUptoSaid : Prop := groupMeansUptoRow.holds Try.pinned (OpenSpec.upto groupMeansSpec)

/-- 'mootkeep5.GroupWhole', WHERE WHAT IT READS IS OF BULK AT MOST 1048576: true; the input reads as it did. -/
def groupWholeUptoRow : OpenClaim := { program := "ytihmanjgkjenbaa", sum := "5da92d9709c61705c0d91ab924c177721bbb92c331fe359d24b3650da85ac2d6", func := "moothall/mootkeep5.GroupWhole", spec := "groupWhole", unfollowed := true, recurses := true, apart := false, narrowed := true }
def GroupWholeUptoSaid : Prop := groupWholeUptoRow.holds Try.pinned (OpenSpec.upto groupWholeSpec)

/-- 'mootlaw5.GroupSums', WHERE WHAT IT READS IS OF BULK AT MOST 1048576: true; the input reads as it did. -/
def groupSumsUptoRow : OpenClaim := { program := "ytihmanjgkjenbaa", sum := "5da92d9709c61705c0d91ab924c177721bbb92c331fe359d24b3650da85ac2d6", func := "moothall/mootlaw5.GroupSums", spec := "groupSums", unfollowed := true, recurses := true, apart := false, narrowed := true }
def GroupSumsUptoSaid : Prop := groupSumsUptoRow.holds Try.pinned (OpenSpec.upto groupSumsSpec)

end Rows
end Go.Proofs.Ytihmanjgkjenbaa
