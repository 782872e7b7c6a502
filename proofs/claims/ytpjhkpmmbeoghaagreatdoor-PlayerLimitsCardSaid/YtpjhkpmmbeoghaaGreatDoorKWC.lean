/- A fact of the card. -/
import Derived.Test.YtpjhkpmmbeoghaaGreatDoorRows
import Derived.Test.YtpjhkpmmbeoghaaGreatDoorCards
import Derived.JoinedOf
import Derived.SevenTiedAt
set_option linter.unusedVariables false
set_option linter.unusedSimpArgs false
set_option linter.unusedSectionVars false
namespace Go.Proofs.YtpjhkpmmbeoghaaGreatDoor.Ev
open Go Go.Proofs Go.Proofs.YtpjhkpmmbeoghaaGreatDoor
open Go.ChangeShapes Go.WideShapes
theorem clC : (Rows.playerLimitsRow.recurses == Tryz.prog.recurses 4) = true := by kernel_rfl
end Go.Proofs.YtpjhkpmmbeoghaaGreatDoor.Ev
