/-
  No cell of these rows narrows 'for every input' (looked for: loops, veiled, ifaces, maps, wideKeys, modest, calm, conditions, laid).
  DERIVED. THE GIVEN ROWS OF THIS SEAT. 3 by the template 'for every input the law returns true; each argument reads behind the call as it read before'; 0 by the template 'total and deterministic' (their statements: YtpafpefealopoaaGreatTotals.lean).
  GIVEN WITH THE SEED: the statements are not yours to turn. If you find one false, say at which input.
  Laid BY PROGRAM, IN A SANDBOX (cutbox-rows.mjs): the forced cells as the released guide's own fill.sh prints them over the translation 875c8e8ef24aaa72… (all of the seat's roots in one cut). By AI agents, Wed Nov 11 2026. No macro, syntax, notation, axiom, sorry.
-/
import Derived.Test.YtpafpefealopoaaGreatChecked
import GoSem.Claim
import GoSem.ClaimJoined
import GoSem.ClaimMapViews
import Derived.JoinedTies
import Derived.KernelRfl
namespace Go.Proofs.YtpafpefealopoaaGreat
/- THE CELL 'sum', in the pinned program and in every row, IS THE sha256 OF THE DUMP (.gsa) THAT YtpafpefealopoaaGreatProg.lean LOADS. Nothing in Lean hashes anything: it is a label: what it is worth is what the hold of that sum in a sandbox is worth. -/
noncomputable def Tryz.pinned : Pinned := { name := "ytpafpefealopoaagreat", sum := "875c8e8ef24aaa722ff619359296589bf9f2d927bc3f70c1eeadfba5a059150d", checked := Tryz.checked }
namespace Rows
def none {H : Type} : Left H := { results := [], args := [] }

/-- 'mootlaw5.PopMakes': WHATEVER THE INPUT: true; the input reads as it did. -/
def popMakesSpec : ChangeSpec := { name := "popMakes", fn := fun _ => fun
  | [d1, d2, d3, d4, d5] => { results := [.lit (.bool true)], args := [d1, d2, d3, d4, d5] }
  | _ => none }
def popMakesRow : OpenClaim := { program := "ytpafpefealopoaagreat", sum := "875c8e8ef24aaa722ff619359296589bf9f2d927bc3f70c1eeadfba5a059150d", func := "moothall/mootlaw5.PopMakes", spec := "popMakes", unfollowed := true, recurses := true, plainKeys := false, apart := false }
def PopMakesSaid : Prop := popMakesRow.holds Tryz.pinned (OpenSpec.ofChange popMakesSpec)

/-- ITS FALSE NEIGHBOUR: 'it returns false'. Refute it at one input. -/
def popMakesWrong : ChangeSpec := { name := "popMakes", fn := fun _ => fun
  | [d1, d2, d3, d4, d5] => { results := [.lit (.bool false)], args := [d1, d2, d3, d4, d5] }
  | _ => none }
def PopMakesWrongFalsely : Prop := popMakesRow.holds Tryz.pinned (OpenSpec.ofChange popMakesWrong)

/-- 'mootkeep5.PopFirst': WHATEVER THE INPUT: true; the input reads as it did. -/
def popFirstSpec : ChangeSpec := { name := "popFirst", fn := fun _ => fun
  | [d1, d2, d3, d4, d5] => { results := [.lit (.bool true)], args := [d1, d2, d3, d4, d5] }
  | _ => none }
def popFirstRow : OpenClaim := { program := "ytpafpefealopoaagreat", sum := "875c8e8ef24aaa722ff619359296589bf9f2d927bc3f70c1eeadfba5a059150d", func := "moothall/mootkeep5.PopFirst", spec := "popFirst", unfollowed := true, recurses := true, plainKeys := false, apart := false }
def PopFirstSaid : Prop := popFirstRow.holds Tryz.pinned (OpenSpec.ofChange popFirstSpec)

/-- ITS FALSE NEIGHBOUR: 'it returns false'. Refute it at one input. -/
def popFirstWrong : ChangeSpec := { name := "popFirst", fn := fun _ => fun
  | [d1, d2, d3, d4, d5] => { results := [.lit (.bool false)], args := [d1, d2, d3, d4, d5] }
  | _ => none }
def PopFirstWrongFalsely : Prop := popFirstRow.holds Tryz.pinned (OpenSpec.ofChange popFirstWrong)

/-- 'mootkeep5.PopRight': WHATEVER THE INPUT: true; the input reads as it did. -/
def popRightSpec : ChangeSpec := { name := "popRight", fn := fun _ => fun
  | [d1, d2, d3, d4] => { results := [.lit (.bool true)], args := [d1, d2, d3, d4] }
  | _ => none }
def popRightRow : OpenClaim := { program := "ytpafpefealopoaagreat", sum := "875c8e8ef24aaa722ff619359296589bf9f2d927bc3f70c1eeadfba5a059150d", func := "moothall/mootkeep5.PopRight", spec := "popRight", unfollowed := true, recurses := true, plainKeys := false, apart := false }
def PopRightSaid : Prop := popRightRow.holds Tryz.pinned (OpenSpec.ofChange popRightSpec)

/-- ITS FALSE NEIGHBOUR: 'it returns false'. Refute it at one input. -/
def popRightWrong : ChangeSpec := { name := "popRight", fn := fun _ => fun
  | [d1, d2, d3, d4] => { results := [.lit (.bool false)], args := [d1, d2, d3, d4] }
  | _ => none }
def PopRightWrongFalsely : Prop := popRightRow.holds Tryz.pinned (OpenSpec.ofChange popRightWrong)

/- THE SECOND FORM. 'bulk': how many values and letters a reading holds, each counted each time it is reached (what is shared counts as often as it is met; a slice's spare places count too). A statement '..UptoSaid' is the law's where the arguments, and the package variables that the reading takes, are together of bulk at most 1048576: NARROWER than '..Said'. Prove '..Said' where nothing that the law and all that it calls make is longer than what came in: it says more and counts as full. Else prove '..UptoSaid'. A law counts once. -/
mutual
def uptoBulk {H : Type} : DataW H → Nat
  | .lit (.string bytes) => bytes.length + 1
  | .lit _ => 1
  | .nil => 1
  | .ptr d => uptoBulk d + 1
  | .slice elems spare => uptoBulkAll elems + uptoBulkAll spare + 1
  | .agg parts => uptoBulkAll parts + 1
  | .iface _ d => uptoBulk d + 1
  | .map entries => uptoBulkEntries entries + 1
  | .held _ => 1
def uptoBulkAll {H : Type} : List (DataW H) → Nat
  | [] => 0
  | d :: r => uptoBulk d + uptoBulkAll r
def uptoBulkEntries {H : Type} : List (Lit × DataW H) → Nat
  | [] => 0
  | x :: r => uptoBulkEntry x + uptoBulkEntries r
def uptoBulkEntry {H : Type} : Lit × DataW H → Nat
  | (.string bytes, d) => bytes.length + uptoBulk d + 1
  | (_, d) => uptoBulk d + 1
 end
def uptoSmall : (H : Type) → List (DataW H) → Bool := fun _ ds => decide (uptoBulkAll ds ≤ 1048576)
def OpenSpec.upto (s : _root_.Go.ChangeSpec) : _root_.Go.OpenSpec := { _root_.Go.OpenSpec.ofChange s with cond := some uptoSmall }

/-- 'mootlaw5.PopMakes', WHERE WHAT IT READS IS OF BULK AT MOST 1048576: true; the input reads as it did. -/
def popMakesUptoRow : OpenClaim := { program := "ytpafpefealopoaagreat", sum := "875c8e8ef24aaa722ff619359296589bf9f2d927bc3f70c1eeadfba5a059150d", func := "moothall/mootlaw5.PopMakes", spec := "popMakes", unfollowed := true, recurses := true, plainKeys := false, apart := false, narrowed := true }
def PopMakesUptoSaid : Prop := popMakesUptoRow.holds Tryz.pinned (OpenSpec.upto popMakesSpec)

/-- 'mootkeep5.PopFirst', WHERE WHAT IT READS IS OF BULK AT MOST 1048576: true; the input reads as it did. -/
def popFirstUptoRow : OpenClaim := { program := "ytpafpefealopoaagreat", sum := "875c8e8ef24aaa722ff619359296589bf9f2d927bc3f70c1eeadfba5a059150d", func := "moothall/mootkeep5.PopFirst", spec := "popFirst", unfollowed := true, recurses := true, plainKeys := false, apart := false, narrowed := true }
def PopFirstUptoSaid : Prop := popFirstUptoRow.holds Tryz.pinned (OpenSpec.upto popFirstSpec)

/-- 'mootkeep5.PopRight', WHERE WHAT IT READS IS OF BULK AT MOST 1048576: true; the input reads as it did. -/
def popRightUptoRow : OpenClaim := { program := "ytpafpefealopoaagreat", sum := "875c8e8ef24aaa722ff619359296589bf9f2d927bc3f70c1eeadfba5a059150d", func := "moothall/mootkeep5.PopRight", spec := "popRight", unfollowed := true, recurses := true, plainKeys := false, apart := false, narrowed := true }
def PopRightUptoSaid : Prop := popRightUptoRow.holds Tryz.pinned (OpenSpec.upto popRightSpec)

end Rows
end Go.Proofs.YtpafpefealopoaaGreat
