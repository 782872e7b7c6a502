/- Part 11 of a verified evaluator, and what it reckons of the player. -/
import Derived.Test.YtpjhkpmmbeoghaaGreatDoorK10
import Derived.ChangeSame
import Derived.ChangeVars
import Derived.JoinedOf
import Derived.RowKit
import Derived.RowKitTokens
import Derived.LaidLaws
import Derived.LaidHandle
import Derived.Stop.Joined
import Derived.ProofKit
import Derived.LaidMore
import Derived.OpenShut
import Derived.Lib.LaidTab
import Derived.Lib.LaidU8
import Derived.SevenTiedAt
import Derived.Test.YtpjhkpmmbeoghaaGreatDoorRows
import Derived.Test.YtpjhkpmmbeoghaaGreatDoorCards
import Derived.Test.YtpjhkpmmbeoghaaGreatDoorTie
set_option linter.unusedVariables false
set_option linter.unusedSimpArgs false
set_option linter.unusedSectionVars false
set_option linter.unusedVariables false
namespace Go.Proofs.YtpjhkpmmbeoghaaGreatDoor.Ev
open Go Go.Proofs Go.Proofs.YtpjhkpmmbeoghaaGreatDoor
open Go.ChangeShapes Go.WideShapes Go.ChangeAt Go.WideMaps Go.WideElems Go.RowKit
theorem own : ownKnob Tryz.prog.godebug = none := by kernel_rfl
theorem powG : Tryz.prog.globalNamed "internal/strconv.uint64pow10" = some 0 := by kernel_rfl
theorem powT : (Tryz.prog.globals[0]?).map (·.type) = some 241 := by kernel_rfl
theorem powC : Tryz.prog.cellsOf 241 = 20 := by kernel_rfl
theorem powE : Tryz.prog.underlying 241 = some (.array 20 97) ∧ Tryz.prog.underlying 97 = some (.int .u64) ∧ Tryz.prog.cellsOf 97 = 1 := ⟨by kernel_rfl, by kernel_rfl, by kernel_rfl⟩
theorem of_laid {W : World} (h : laidMetH Tryz.prog Rows.playerLimitsRow.laid W) : Lib.TabIs Tryz.prog W "internal/strconv.uint64pow10" .u64 Lib.pow10Tab := by
  rw [MakeChecks.laidMetH_plain _ _ _ (by kernel_rfl)] at h
  obtain ⟨ps, ⟨g0, t0, cs0, f0, p0, q0, hg0, ht0, hv0, hd0, ⟨g1, t1, cs1, f1, p1, q1, hg1, ht1, hv1, hd1, ⟨g2, t2, cs, fuel, p, q, hg', ht', hvar, hd, _, _⟩, _⟩, _⟩, _⟩ := h
  obtain rfl := Option.some.inj (powG.symm.trans hg')
  obtain rfl := Option.some.inj (powT.symm.trans ht')
  obtain ⟨h1, h2, h3⟩ := powE
  unfold Lib.TabIs
  have hd : DataW.trod _ Tryz.prog W 0 _ false fuel 241 cs.toList = some (Lib.tabData .u64 Lib.pow10Tab, p) := hd
  rw [hvar, ← Lib.cells_of_tab h1 h2 h3 powC hd]
noncomputable def wit (os : Os) : World :=
  let w0 := World.doorLaid Tryz.prog 34 os
  { w0 with heap := w0.heap.modify 2 fun
      | .cells _ t frozen => .cells (Go.Pinned.utf8FirstZ.map fun (n : Nat) => Value.int .u8 n).toArray t frozen
      | o => o }
set_option maxRecDepth 100000 in
theorem wit_met (os : Os) : laidMetH Tryz.prog Rows.playerLimitsRow.laid ((wit os).forCall (fun _ _ => 0) ⟨#[], #[.int .u8 0], []⟩).memory :=
  laidMetH_of_parts3 (fuel := 8) (laidMet_of_run' 8 (by kernel_rfl) (by kernel_rfl)) (by kernel_rfl) (by kernel_rfl)
end Go.Proofs.YtpjhkpmmbeoghaaGreatDoor.Ev
