/-
  The heavy closed facts of the row of SemtokensDiffApplies, one at a time (so that the kernel gives its memory back behind each).
-/
import Derived.Test.YtpibenilagloaaaGreatDoorRows
import Derived.ProofKit
import Derived.JoinedOf
import Derived.SevenTiedAt
namespace Go.Proofs.YtpibenilagloaaaGreatDoor.dam
open Go Go.RowKit
set_option linter.unusedVariables false
set_option maxRecDepth 100000

theorem fct_in : (Rows.semtokensDiffAppliesRow.inPlace == Tryz.prog.inPlace 5) = true := by kernel_rfl
theorem fct_un : (Rows.semtokensDiffAppliesRow.unfollowed == Tryz.prog.unfollowed 5) = true := by kernel_rfl
theorem fct_rc : (Rows.semtokensDiffAppliesRow.recurses == Tryz.prog.recurses 5) = true := by kernel_rfl
theorem fct_nm : (Rows.semtokensDiffAppliesRow.named == Tryz.prog.varsNamed 5) = true := by kernel_rfl
theorem fct_l : true = Tryz.pinned.checked.prog.looks [] := by kernel_rfl
theorem fct_g : false = Rows.semtokensDiffAppliesRow.goesBy Tryz.pinned.checked.prog := by kernel_rfl
end Go.Proofs.YtpibenilagloaaaGreatDoor.dam
