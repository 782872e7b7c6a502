/- Part 9 of a verified evaluator and the run that it reckons. -/
import Derived.Test.YtpjhkpmmbeoghaaGreatV08
set_option linter.unusedVariables false
set_option linter.unusedSimpArgs false
namespace Go.Proofs.YtpjhkpmmbeoghaaGreat.Ev
open Go
noncomputable def kfin : KF := fun w _ _ _ _ => iff (Nat.beq w 33) .ok (.bad 0 0)
theorem run25 : isOk (evS tab 100000 13 [] 0 0 0 0 kfin) = true := by kernel_rfl
end Go.Proofs.YtpjhkpmmbeoghaaGreat.Ev
