/- The law BinTexts: closed facts of the row. -/
import Derived.Test.YtcldaldfonfbgaaGreatDoorH4
set_option linter.unusedVariables false
set_option linter.unusedSimpArgs false
namespace Go.Proofs.YtcldaldfonfbgaaGreatDoor
open Go.ChangeShapes Go.WideShapes Go.ChangeAt Go.RowKit

theorem fact_kA : (Rows.binTextsRow.wf (OpenSpec.ofChange (OpenSpec.ofChange Rows.binTextsSpec).bare) && laidOutB Tryz.pinned.checked.prog && mapsRowed Tryz.pinned.checked.prog && Tryz.f3.params.all (Tryz.pinned.checked.prog.readableRec ·) && namedTie Tryz.pinned.checked.prog Rows.binTextsRow.named (OpenSpec.ofChange Rows.binTextsSpec).bare.vars && (Rows.binTextsRow.stops == []) && (Tryz.pinned.checked.prog.stops == []) && (Rows.binTextsRow.knobs == []) && (Tryz.pinned.checked.prog.stopKnobs == [])) = true := by kernel_rfl
theorem fact_k10 : (Rows.binTextsRow.inPlace == Tryz.pinned.checked.prog.inPlace 3) = true := by kernel_rfl
theorem fact_k11 : (Rows.binTextsRow.unfollowed == Tryz.pinned.checked.prog.unfollowed 3) = true := by kernel_rfl
theorem fact_k12 : (Rows.binTextsRow.recurses == Tryz.pinned.checked.prog.recurses 3) = true := by kernel_rfl
theorem fact_k13 : (Rows.binTextsRow.named == Tryz.pinned.checked.prog.varsNamed 3) = true := by kernel_rfl
end Go.Proofs.YtcldaldfonfbgaaGreatDoor
