/- Part 7 of a verified evaluator, and what it reckons of the player. -/
import Derived.Test.YtpjhkpmmbeoghaaGreatDoorK06
set_option linter.unusedVariables false
set_option linter.unusedSimpArgs false
set_option linter.unusedSectionVars false
set_option maxRecDepth 100000
namespace Go.Proofs.YtpjhkpmmbeoghaaGreatDoor.Ev
open Go Go.RowKit Go.Proofs
noncomputable def evP : CallT := evS (lookT tabP) 100000
theorem evP_snd : CallSnd Tryz.prog evP := (evI_ok tabP_snd 100000).1
theorem runA : isOk (evP 7 [] 0 0 0 0 fun w M nm I ni => chainR evP 9 w (awakeL.map mkPL) M nm I ni) = true := by kernel_rfl
theorem runN : isOk (evP 7 [] 0 0 0 0 (chkK 5905580042 newM 14 newI 10)) = true := by kernel_rfl
theorem runE : isOk (constR evP 9 5905580042 (mkPL ([], [], 260)) newM 14 newI 10) = true := by kernel_rfl
end Go.Proofs.YtpjhkpmmbeoghaaGreatDoor.Ev
