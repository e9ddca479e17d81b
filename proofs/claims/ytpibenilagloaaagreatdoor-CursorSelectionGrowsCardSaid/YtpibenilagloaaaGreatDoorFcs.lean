/-
  The heavy closed facts of the row of CursorSelectionGrows, one at a time (so that the kernel gives its memory back behind each).
-/
import Derived.Test.YtpibenilagloaaaGreatDoorRows
import Derived.ProofKit
import Derived.JoinedOf
import Derived.SevenTiedAt
namespace Go.Proofs.YtpibenilagloaaaGreatDoor.csg
open Go Go.RowKit
set_option linter.unusedVariables false
set_option maxRecDepth 100000

theorem fct_in : (Rows.cursorSelectionGrowsRow.inPlace == Tryz.prog.inPlace 3) = true := by kernel_rfl
theorem fct_un : (Rows.cursorSelectionGrowsRow.unfollowed == Tryz.prog.unfollowed 3) = true := by kernel_rfl
theorem fct_rc : (Rows.cursorSelectionGrowsRow.recurses == Tryz.prog.recurses 3) = true := by kernel_rfl
theorem fct_nm : (Rows.cursorSelectionGrowsRow.named == Tryz.prog.varsNamed 3) = true := by kernel_rfl
theorem fct_l : true = Tryz.pinned.checked.prog.looks [] := by kernel_rfl
theorem fct_g : false = Rows.cursorSelectionGrowsRow.goesBy Tryz.pinned.checked.prog := by kernel_rfl
end Go.Proofs.YtpibenilagloaaaGreatDoor.csg
