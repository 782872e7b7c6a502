/- A fact of the card. -/
import Derived.Test.YtpjhkpmmbeoghaaGreatDoorRows
import Derived.Test.YtpjhkpmmbeoghaaGreatDoorCards
import Derived.JoinedOf
import Derived.SevenTiedAt
set_option linter.unusedVariables false
set_option linter.unusedSimpArgs false
set_option linter.unusedSectionVars false
namespace Go.Proofs.YtpjhkpmmbeoghaaGreatDoor.Ev
open Go Go.Proofs Go.Proofs.YtpjhkpmmbeoghaaGreatDoor
open Go.ChangeShapes Go.WideShapes
theorem goes_none {P : Program} (h : P.funcs.any Func.goes = false) (f : FuncId) : P.goes f = false := by
  have h1 : ∀ g : FuncId, (P.funcs[g]?).any Func.goes = false := fun g => by
    cases hg : P.funcs[g]? with
    | none => rfl
    | some fn =>
      obtain ⟨hlt, he⟩ := Array.getElem?_eq_some_iff.1 hg
      rw [Array.any_eq_false] at h
      have := h g hlt
      rw [he] at this
      simpa using this
  unfold Program.goes
  have h2 : ((P.closure f).any fun g => (P.funcs[g]?).any Func.goes) = false := by
    rw [List.any_eq_false]
    intro g _
    rw [h1 g]; decide
  have h3 : P.funcs.any Func.goes = false := h
  simp only [h2, h3, Bool.and_false, Bool.or_false]
theorem cdF0 : Tryz.prog.funcs.any Func.goes = false := by kernel_rfl
theorem cdF : false = Rows.playerLimitsRow.goesBy Tryz.pinned.checked.prog := by
  have h : ∀ f, Tryz.pinned.checked.prog.goes f = false := goes_none cdF0
  have hs : Rows.playerLimitsRow.start = .entering := rfl
  unfold OpenClaim.goesBy Program.goesAt Program.goesFrom
  rw [hs]
  cases Tryz.pinned.checked.prog.funcNamed Rows.playerLimitsRow.func with
  | none => rfl
  | some f => simp [h f]
end Go.Proofs.YtpjhkpmmbeoghaaGreatDoor.Ev
