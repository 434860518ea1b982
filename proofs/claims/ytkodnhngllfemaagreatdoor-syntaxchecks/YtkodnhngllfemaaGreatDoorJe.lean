import Derived.Test.YtkodnhngllfemaaGreatDoorCards
import Derived.JoinedCond
import Derived.Test.YtkodnhngllfemaaGreatDoorJ0
set_option linter.unusedVariables false
namespace Go.Proofs.YtkodnhngllfemaaGreatDoor
open Go
theorem jf_lifted : (Rows.syntaxChecksRow.lifted == Tryz.pinned.checked.prog.liftsFinal) = true := by kernel_rfl
theorem jf_make : (Tryz.pinned.checked.prog.make == some Rows.syntaxChecksRow.make) = true := by kernel_rfl
theorem jf_inPlace : (Rows.syntaxChecksRow.inPlace == Tryz.pinned.checked.prog.inPlace 6) = true := by kernel_rfl
theorem jf_unfollowed : (Rows.syntaxChecksRow.unfollowed == Tryz.pinned.checked.prog.unfollowed 6) = true := by kernel_rfl
theorem jf_recurses : (Rows.syntaxChecksRow.recurses == Tryz.pinned.checked.prog.recurses 6) = true := by kernel_rfl
theorem jf_named : (Rows.syntaxChecksRow.named == Tryz.pinned.checked.prog.varsNamed 6) = true := by kernel_rfl
theorem jf : joinedFacts Tryz.pinned.checked.prog 6 Tryz.f6 (OpenSpec.ofChange Rows.syntaxChecksSpec).bare Rows.syntaxChecksRow = true := by
  unfold joinedFacts
  rw [jf_laid, jf_maps, jf_inPlace, jf_unfollowed, jf_recurses, jf_named, jf_heard, jf_enter, jf_lifted, jf_make]
  kernel_rfl
end Go.Proofs.YtkodnhngllfemaaGreatDoor
