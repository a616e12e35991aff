/-
  What the rows' proofs of this seat share: the program's knob, what a world's shape gives, a date among the arguments.
-/
import Derived.Test.YtlcomkhegppfgaaDoorCards
import Derived.Test.YtlcomkhegppfgaaDoorTie
import Derived.Test.YtlcomkhegppfgaaDoorLexQ
import Derived.ProofKit
import Derived.OpenShut
import Derived.Deep.DeepHandedRow
import Derived.LaidMore
import Derived.Lay
import Derived.MakeChecks
namespace Go.Proofs.YtlcomkhegppfgaaDoor
open Go.ChangeShapes Go.WideShapes Go.ChangeAt Go.RowKit

theorem own : ownKnob Tryd.prog.godebug = none := by kernel_rfl
/-- what the world's shape gives: MaxLen holds a number -/
theorem maxAt_of {W : World} (h : W.ShapedOpen Tryd.prog) : MaxAt W := Tryd.laysM155.s1_3 W h
end Go.Proofs.YtlcomkhegppfgaaDoor
