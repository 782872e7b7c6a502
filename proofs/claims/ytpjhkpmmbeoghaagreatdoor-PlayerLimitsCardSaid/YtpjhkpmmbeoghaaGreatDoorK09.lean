/- Part 9 of a verified evaluator, and what it reckons of the player. -/
import Derived.Test.YtpjhkpmmbeoghaaGreatDoorK08
set_option linter.unusedVariables false
set_option linter.unusedSimpArgs false
set_option linter.unusedSectionVars false
set_option maxRecDepth 100000
namespace Go.Proofs.YtpjhkpmmbeoghaaGreatDoor.Ev
open Go Go.RowKit Go.Proofs
theorem runL0 : isOk (evP 7 [] 0 0 0 0 fun w M nm I ni => chainR evP 9 w ((lawL 0).map mkPL) M nm I ni) = true := by kernel_rfl
theorem runL1 : isOk (evP 7 [] 0 0 0 0 fun w M nm I ni => chainR evP 9 w ((lawL 1).map mkPL) M nm I ni) = true := by kernel_rfl
theorem runL2 : isOk (evP 7 [] 0 0 0 0 fun w M nm I ni => chainR evP 9 w ((lawL 2).map mkPL) M nm I ni) = true := by kernel_rfl
theorem runL3 : isOk (evP 7 [] 0 0 0 0 fun w M nm I ni => chainR evP 9 w ((lawL 3).map mkPL) M nm I ni) = true := by kernel_rfl
theorem runL4 : isOk (evP 7 [] 0 0 0 0 fun w M nm I ni => chainR evP 9 w ((lawL 4).map mkPL) M nm I ni) = true := by kernel_rfl
theorem runL5 : isOk (evP 7 [] 0 0 0 0 fun w M nm I ni => chainR evP 9 w ((lawL 5).map mkPL) M nm I ni) = true := by kernel_rfl
theorem runL6 : isOk (evP 7 [] 0 0 0 0 fun w M nm I ni => chainR evP 9 w ((lawL 6).map mkPL) M nm I ni) = true := by kernel_rfl
theorem runL7 : isOk (evP 7 [] 0 0 0 0 fun w M nm I ni => chainR evP 9 w ((lawL 7).map mkPL) M nm I ni) = true := by kernel_rfl
theorem runL8 : isOk (evP 7 [] 0 0 0 0 fun w M nm I ni => chainR evP 9 w ((lawL 8).map mkPL) M nm I ni) = true := by kernel_rfl
theorem runL9 : isOk (evP 7 [] 0 0 0 0 fun w M nm I ni => chainR evP 9 w ((lawL 9).map mkPL) M nm I ni) = true := by kernel_rfl
theorem runL10 : isOk (evP 7 [] 0 0 0 0 fun w M nm I ni => chainR evP 9 w ((lawL 10).map mkPL) M nm I ni) = true := by kernel_rfl
theorem runL11 : isOk (evP 7 [] 0 0 0 0 fun w M nm I ni => chainR evP 9 w ((lawL 11).map mkPL) M nm I ni) = true := by kernel_rfl
theorem runL12 : isOk (evP 7 [] 0 0 0 0 fun w M nm I ni => chainR evP 9 w ((lawL 12).map mkPL) M nm I ni) = true := by kernel_rfl
theorem runL13 : isOk (evP 7 [] 0 0 0 0 fun w M nm I ni => chainR evP 9 w ((lawL 13).map mkPL) M nm I ni) = true := by kernel_rfl
theorem runL14 : isOk (evP 7 [] 0 0 0 0 fun w M nm I ni => chainR evP 9 w ((lawL 14).map mkPL) M nm I ni) = true := by kernel_rfl
theorem runL15 : isOk (evP 7 [] 0 0 0 0 fun w M nm I ni => chainR evP 9 w ((lawL 15).map mkPL) M nm I ni) = true := by kernel_rfl
theorem runL16 : isOk (evP 7 [] 0 0 0 0 fun w M nm I ni => chainR evP 9 w ((lawL 16).map mkPL) M nm I ni) = true := by kernel_rfl
theorem runL17 : isOk (evP 7 [] 0 0 0 0 fun w M nm I ni => chainR evP 9 w ((lawL 17).map mkPL) M nm I ni) = true := by kernel_rfl
theorem runL18 : isOk (evP 7 [] 0 0 0 0 fun w M nm I ni => chainR evP 9 w ((lawL 18).map mkPL) M nm I ni) = true := by kernel_rfl
theorem runL19 : isOk (evP 7 [] 0 0 0 0 fun w M nm I ni => chainR evP 9 w ((lawL 19).map mkPL) M nm I ni) = true := by kernel_rfl
theorem runL20 : isOk (evP 7 [] 0 0 0 0 fun w M nm I ni => chainR evP 9 w ((lawL 20).map mkPL) M nm I ni) = true := by kernel_rfl
theorem runL21 : isOk (evP 7 [] 0 0 0 0 fun w M nm I ni => chainR evP 9 w ((lawL 21).map mkPL) M nm I ni) = true := by kernel_rfl
theorem runL22 : isOk (evP 7 [] 0 0 0 0 fun w M nm I ni => chainR evP 9 w ((lawL 22).map mkPL) M nm I ni) = true := by kernel_rfl
theorem runL23 : isOk (evP 7 [] 0 0 0 0 fun w M nm I ni => chainR evP 9 w ((lawL 23).map mkPL) M nm I ni) = true := by kernel_rfl
theorem runL24 : isOk (evP 7 [] 0 0 0 0 fun w M nm I ni => chainR evP 9 w ((lawL 24).map mkPL) M nm I ni) = true := by kernel_rfl
theorem runL25 : isOk (evP 7 [] 0 0 0 0 fun w M nm I ni => chainR evP 9 w ((lawL 25).map mkPL) M nm I ni) = true := by kernel_rfl
theorem runL26 : isOk (evP 7 [] 0 0 0 0 fun w M nm I ni => chainR evP 9 w ((lawL 26).map mkPL) M nm I ni) = true := by kernel_rfl
theorem runL27 : isOk (evP 7 [] 0 0 0 0 fun w M nm I ni => chainR evP 9 w ((lawL 27).map mkPL) M nm I ni) = true := by kernel_rfl
theorem runL28 : isOk (evP 7 [] 0 0 0 0 fun w M nm I ni => chainR evP 9 w ((lawL 28).map mkPL) M nm I ni) = true := by kernel_rfl
theorem runL29 : isOk (evP 7 [] 0 0 0 0 fun w M nm I ni => chainR evP 9 w ((lawL 29).map mkPL) M nm I ni) = true := by kernel_rfl
theorem runL : ∀ k, k < 30 → isOk (evP 7 [] 0 0 0 0 fun w M nm I ni => chainR evP 9 w ((lawL k).map mkPL) M nm I ni) = true
  | 0, _ => runL0
  | 1, _ => runL1
  | 2, _ => runL2
  | 3, _ => runL3
  | 4, _ => runL4
  | 5, _ => runL5
  | 6, _ => runL6
  | 7, _ => runL7
  | 8, _ => runL8
  | 9, _ => runL9
  | 10, _ => runL10
  | 11, _ => runL11
  | 12, _ => runL12
  | 13, _ => runL13
  | 14, _ => runL14
  | 15, _ => runL15
  | 16, _ => runL16
  | 17, _ => runL17
  | 18, _ => runL18
  | 19, _ => runL19
  | 20, _ => runL20
  | 21, _ => runL21
  | 22, _ => runL22
  | 23, _ => runL23
  | 24, _ => runL24
  | 25, _ => runL25
  | 26, _ => runL26
  | 27, _ => runL27
  | 28, _ => runL28
  | 29, _ => runL29
  | n + 30, h => absurd h (by omega)
end Go.Proofs.YtpjhkpmmbeoghaaGreatDoor.Ev
