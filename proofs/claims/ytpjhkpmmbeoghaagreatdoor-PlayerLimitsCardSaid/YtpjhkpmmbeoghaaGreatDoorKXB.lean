/- A fact of the card. -/
import Derived.Test.YtpjhkpmmbeoghaaGreatDoorRows
import Derived.Test.YtpjhkpmmbeoghaaGreatDoorCards
import Derived.JoinedOf
import Derived.SevenTiedAt
set_option linter.unusedVariables false
set_option linter.unusedSimpArgs false
set_option linter.unusedSectionVars false
namespace Go.Proofs.YtpjhkpmmbeoghaaGreatDoor.Ev
open Go Go.Proofs Go.Proofs.YtpjhkpmmbeoghaaGreatDoor
open Go.ChangeShapes Go.WideShapes
theorem cdB : Tryz.pinned.checked.prog.mainIs = some (true, "2a06fc18b23c9d7f8028ec3373eefb58eb1d33b98585eebf94fd970c6be81d89".toList) := by kernel_rfl
end Go.Proofs.YtpjhkpmmbeoghaaGreatDoor.Ev
