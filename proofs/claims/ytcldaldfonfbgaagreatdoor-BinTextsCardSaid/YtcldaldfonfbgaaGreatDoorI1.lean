/- The law BinTexts: the card. -/
import Derived.Test.YtcldaldfonfbgaaGreatDoorH9
set_option linter.unusedVariables false
set_option linter.unusedSimpArgs false
namespace Go.Proofs.YtcldaldfonfbgaaGreatDoor
open Go.ChangeShapes Go.WideShapes Go.ChangeAt Go.RowKit

theorem binTexts_card : Rows.BinTextsCardSaid :=
  Claim7.holds_tied_plain_at .later [] _ _ _ _ said_ (fun _ h => by cases h) hw_ (fun _ h => by cases h) binTexts_row_tie rfl ⟨rfl, rfl⟩ hm_ rfl plain_ hg_
end Go.Proofs.YtcldaldfonfbgaaGreatDoor
