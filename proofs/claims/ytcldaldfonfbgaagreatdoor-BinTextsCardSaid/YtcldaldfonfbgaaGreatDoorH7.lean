/- The law BinTexts: more closed facts of the row. -/
import Derived.Test.YtcldaldfonfbgaaGreatDoorH4
set_option linter.unusedVariables false
set_option linter.unusedSimpArgs false
namespace Go.Proofs.YtcldaldfonfbgaaGreatDoor
open Go.ChangeShapes Go.WideShapes Go.ChangeAt Go.RowKit

theorem fact_kB1 : (Rows.binTextsRow.plainKeys == Tryz.pinned.checked.prog.plainKeys) = true := by kernel_rfl
theorem fact_kB2 : Tryz.pinned.checked.prog.stopsHeard = true := by kernel_rfl
theorem fact_kB3 : Tryz.pinned.checked.prog.mayEnter = true := by kernel_rfl
theorem fact_kC1 : (Rows.binTextsRow.lifted == Tryz.pinned.checked.prog.liftsFinal) = true := by kernel_rfl
theorem fact_kC2 : (Tryz.pinned.checked.prog.make == some Rows.binTextsRow.make) = true := by kernel_rfl
end Go.Proofs.YtcldaldfonfbgaaGreatDoor
