-- Written by this session's own program, out of the translation and of contracts of its own. Not trusted: Lean checks it.
import Derived.Test.YtelahnbamemdeaaProg
import Derived.Below
import Derived.Deep.Draws
import Derived.Deep.AppendLies
import Derived.Maps.AppendAt
import Derived.OwnWalk
import Derived.Laws.BytesArg
import Derived.Laws.MakeOwn
import Derived.Laws.OwnMore
import Derived.Deep.OwnRows
import Derived.Tactics
import Derived.Lib.ConvBytes
import Derived.Laws.Slices
import Derived.WalkKit
import Derived.KernelRfl
import Derived.RowKit3
import Derived.Deep.LoopGhost
import Derived.Deep.QuietTactic
import Derived.BigQuiet
import Derived.WideLaws
import Derived.Deep.DeepCutAuto
import Derived.Deep.CutBlock
import Derived.Deep.RegionHeld3
import Derived.Laws.Rows
import Derived.Lib.AppendStr
import Derived.ArgAppend
import Derived.Laws.IdiomCopy
import Derived.OrdersHeld
import Derived.Laws.BitsLemmas
import Derived.RowKit
import Derived.Handy
import Derived.Test.YtelahnbamemdeaaWWords
import Derived.Test.YtelahnbamemdeaaWLast
import Derived.Test.YtelahnbamemdeaaWTab
import Derived.Test.YtelahnbamemdeaaWFour
import Derived.Test.YtelahnbamemdeaaWQPut
import Derived.Test.YtelahnbamemdeaaWApart
import Derived.Test.YtelahnbamemdeaaWArr
import Derived.Test.YtelahnbamemdeaaWZeros
import Derived.Test.YtelahnbamemdeaaWFoot
import Derived.Test.YtelahnbamemdeaaWKept
import Derived.Test.YtelahnbamemdeaaWShare
import Derived.Test.YtelahnbamemdeaaWN
import Derived.Test.YtelahnbamemdeaaWFootNe
import Derived.Test.YtelahnbamemdeaaWAt
import Derived.Test.YtelahnbamemdeaaWEqStruct
import Derived.Test.YtelahnbamemdeaaWRepsOne
import Derived.Test.YtelahnbamemdeaaWInv
import Derived.Test.YtelahnbamemdeaaWInvWords
import Derived.Test.YtelahnbamemdeaaWGuard
import Derived.Test.YtelahnbamemdeaaWNEv
import Derived.Test.YtelahnbamemdeaaWMore
namespace Go.Proofs.Ytelahnbamemdeaa.PRndNexts
open Go.RowKit Go.Proofs.YtelahnbamemdeaaW.PrintWords Go.Proofs.YtelahnbamemdeaaW.PrintLast Go.Proofs.YtelahnbamemdeaaW.PrintMore
attribute [local go_sem] max2_int min2_int max_two min_two max_three min_three max_four min_four   -- for this text's walks alone
set_option linter.unusedVariables false
set_option linter.unusedSimpArgs false



def errW : Option Int → Value
  | none => .nilIface
  | some c => .iface 0 (.int .i64 c)
theorem errW_none : errW none = .nilIface := rfl
theorem errW_some (c : Int) : errW (some c) = .iface 0 (.int .i64 c) := rfl

theorem info3 : (Try.prog.info? 3).map (fun i => (i.zero, i.size, i.bytes)) = some (some (.int .i64 0), 1, 8) := by kernel_rfl
-- the values' own types

end Go.Proofs.Ytelahnbamemdeaa.PRndNexts
