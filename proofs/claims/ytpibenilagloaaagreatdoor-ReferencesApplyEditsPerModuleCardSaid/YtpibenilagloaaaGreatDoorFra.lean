/-
  The heavy closed facts of the row of ReferencesApplyEditsPerModule, one at a time (so that the kernel gives its memory back behind each).
-/
import Derived.Test.YtpibenilagloaaaGreatDoorRows
import Derived.ProofKit
import Derived.JoinedOf
import Derived.SevenTiedAt
namespace Go.Proofs.YtpibenilagloaaaGreatDoor.ral
open Go Go.RowKit
set_option linter.unusedVariables false
set_option maxRecDepth 100000

theorem fct_in : (Rows.referencesApplyEditsPerModuleRow.inPlace == Tryz.prog.inPlace 6) = true := by kernel_rfl
theorem fct_un : (Rows.referencesApplyEditsPerModuleRow.unfollowed == Tryz.prog.unfollowed 6) = true := by kernel_rfl
theorem fct_rc : (Rows.referencesApplyEditsPerModuleRow.recurses == Tryz.prog.recurses 6) = true := by kernel_rfl
theorem fct_nm : (Rows.referencesApplyEditsPerModuleRow.named == Tryz.prog.varsNamed 6) = true := by kernel_rfl
theorem fct_l : true = Tryz.pinned.checked.prog.looks [] := by kernel_rfl
theorem fct_g : false = Rows.referencesApplyEditsPerModuleRow.goesBy Tryz.pinned.checked.prog := by kernel_rfl
end Go.Proofs.YtpibenilagloaaaGreatDoor.ral
