/- PlayerLimits: the card. -/
import Derived.Test.YtpjhkpmmbeoghaaGreatDoorK12
import Derived.Test.YtpjhkpmmbeoghaaGreatDoorKWA
import Derived.Test.YtpjhkpmmbeoghaaGreatDoorKWB
import Derived.Test.YtpjhkpmmbeoghaaGreatDoorKWC
import Derived.Test.YtpjhkpmmbeoghaaGreatDoorKWD
import Derived.Test.YtpjhkpmmbeoghaaGreatDoorKXA
import Derived.Test.YtpjhkpmmbeoghaaGreatDoorKXB
import Derived.Test.YtpjhkpmmbeoghaaGreatDoorKXC
import Derived.Test.YtpjhkpmmbeoghaaGreatDoorKXD
import Derived.Test.YtpjhkpmmbeoghaaGreatDoorKXE
import Derived.Test.YtpjhkpmmbeoghaaGreatDoorKXF
set_option linter.unusedVariables false
set_option linter.unusedSimpArgs false
set_option linter.unusedSectionVars false
namespace Go.Proofs.YtpjhkpmmbeoghaaGreatDoor.Ev
open Go Go.Proofs Go.Proofs.YtpjhkpmmbeoghaaGreatDoor
open Go.ChangeShapes Go.WideShapes
theorem closedC : joinedFacts Tryz.pinned.checked.prog 4 Tryz.f4 Rows.playerLimitsSpec Rows.playerLimitsRow = true := by
  unfold joinedFacts
  rw [show (Rows.playerLimitsRow.inPlace == Tryz.pinned.checked.prog.inPlace 4) = true from clA, show (Rows.playerLimitsRow.unfollowed == Tryz.pinned.checked.prog.unfollowed 4) = true from clB,
    show (Rows.playerLimitsRow.recurses == Tryz.pinned.checked.prog.recurses 4) = true from clC, show (Rows.playerLimitsRow.named == Tryz.pinned.checked.prog.varsNamed 4) = true from clD]
  kernel_rfl
end Go.Proofs.YtpjhkpmmbeoghaaGreatDoor.Ev
set_option linter.unusedVariables false
namespace Go.Proofs.YtpjhkpmmbeoghaaGreatDoor.Ev
open Go Go.Proofs Go.Proofs.YtpjhkpmmbeoghaaGreatDoor
open Go.ChangeShapes Go.WideShapes Go.ChangeAt Go.WideMaps Go.WideElems Go.RowKit
theorem over : Rows.PlayerLimitsSaid :=
  OpenClaim.holds_of_wide 4 Tryz.f4 rfl rfl rfl rfl rfl rfl rfl ⟨rfl, rfl, rfl, rfl, rfl⟩ rfl rfl rfl rfl rfl cdC Tryz.func4 closedC
    (of_decide_eq_true (by kernel_rfl)) (by unfold Func.isWrapper; first | (rw [if_pos (by decide +kernel)]; kernel_rfl) | (rw [if_neg (by decide +kernel)]; exact ⟨rfl, rfl⟩))
    (fun os started H enc _ => lifted os started H enc)
end Go.Proofs.YtpjhkpmmbeoghaaGreatDoor.Ev
set_option linter.unusedVariables false
namespace Go.Proofs.YtpjhkpmmbeoghaaGreatDoor.Ev
open Go Go.Proofs Go.Proofs.YtpjhkpmmbeoghaaGreatDoor
open Go.ChangeShapes Go.WideShapes Go.ChangeAt Go.WideMaps Go.WideElems Go.RowKit
theorem card_holds : Rows.PlayerLimitsCardSaid :=
  Claim7.holds_tied_plain_at .later [] [.data, .data, .data, .data, .pinned] true (true, "2a06fc18b23c9d7f8028ec3373eefb58eb1d33b98585eebf94fd970c6be81d89") false
    over (fun _ h => by cases h) cdA (fun _ h => by cases h) playerLimits_row_tie rfl ⟨rfl, rfl⟩ cdB rfl
    (fun f fn hf hfn => by
      obtain rfl : f = 4 := Option.some.inj (cdC.symm.trans hf) |>.symm
      obtain rfl : fn = Tryz.f4 := (Option.some.inj (Tryz.func4.symm.trans hfn)).symm
      exact ⟨cdD, fun j t ht => by
        rw [Tryz.params4] at ht
        have hm : t ∈ [5] := by simpa using Array.mem_of_getElem? ht
        exact (show Tryz.prog.wantsStandIn t = false by simpa using List.all_eq_true.1 cdE t hm)⟩)
    cdF
end Go.Proofs.YtpjhkpmmbeoghaaGreatDoor.Ev
namespace Go.Proofs.YtpjhkpmmbeoghaaGreatDoor
theorem playerLimits_card_holds : Rows.PlayerLimitsCardSaid := Ev.card_holds
end Go.Proofs.YtpjhkpmmbeoghaaGreatDoor
