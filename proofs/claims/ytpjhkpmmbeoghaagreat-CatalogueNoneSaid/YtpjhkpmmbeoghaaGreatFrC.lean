/- What the row of CatalogueNone asks of the program as a whole. -/
import Derived.Test.YtpjhkpmmbeoghaaGreatRow
namespace Go.Proofs.YtpjhkpmmbeoghaaGreat
open Go Go.RowKit Go.ChangeShapes Go.WideShapes Go.ChangeAt
theorem closed1 : (Rows.catalogueNoneRow.inPlace == Tryz.prog.inPlace 4) = true := by kernel_rfl
theorem closed2 : (Rows.catalogueNoneRow.unfollowed == Tryz.prog.unfollowed 4) = true := by kernel_rfl
theorem closed3 : (Rows.catalogueNoneRow.recurses == Tryz.prog.recurses 4) = true := by kernel_rfl
theorem closed4 : (Rows.catalogueNoneRow.named == Tryz.prog.varsNamed 4) = true := by kernel_rfl
theorem closedC : joinedFacts Tryz.pinned.checked.prog 4 Tryz.f4 Rows.catalogueNoneSpec Rows.catalogueNoneRow = true := by
  unfold joinedFacts
  rw [show (Rows.catalogueNoneRow.inPlace == Tryz.pinned.checked.prog.inPlace 4) = true from closed1, show (Rows.catalogueNoneRow.unfollowed == Tryz.pinned.checked.prog.unfollowed 4) = true from closed2,
    show (Rows.catalogueNoneRow.recurses == Tryz.pinned.checked.prog.recurses 4) = true from closed3, show (Rows.catalogueNoneRow.named == Tryz.pinned.checked.prog.varsNamed 4) = true from closed4]
  kernel_rfl
end Go.Proofs.YtpjhkpmmbeoghaaGreat
