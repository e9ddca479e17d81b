/-
  The heavy closed facts of the row of SemtokensRoundTrip, one at a time (so that the kernel gives its memory back behind each).
-/
import Derived.Test.YtpibenilagloaaaGreatDoorRows
import Derived.ProofKit
import Derived.JoinedOf
import Derived.SevenTiedAt
namespace Go.Proofs.YtpibenilagloaaaGreatDoor.rtm
open Go Go.RowKit
set_option linter.unusedVariables false
set_option maxRecDepth 100000

theorem fct_in : (Rows.semtokensRoundTripRow.inPlace == Tryz.prog.inPlace 4) = true := by kernel_rfl
theorem fct_un : (Rows.semtokensRoundTripRow.unfollowed == Tryz.prog.unfollowed 4) = true := by kernel_rfl
theorem fct_rc : (Rows.semtokensRoundTripRow.recurses == Tryz.prog.recurses 4) = true := by kernel_rfl
theorem fct_nm : (Rows.semtokensRoundTripRow.named == Tryz.prog.varsNamed 4) = true := by kernel_rfl
theorem fct_l : true = Tryz.pinned.checked.prog.looks [] := by kernel_rfl
theorem fct_g : false = Rows.semtokensRoundTripRow.goesBy Tryz.pinned.checked.prog := by kernel_rfl
end Go.Proofs.YtpibenilagloaaaGreatDoor.rtm
