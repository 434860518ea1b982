import Derived.Test.YtkodnhngllfemaaGreatDoorCards
import Derived.JoinedCond
import Derived.Test.YtkodnhngllfemaaGreatDoorJ0
set_option linter.unusedVariables false
namespace Go.Proofs.YtkodnhngllfemaaGreatDoor
open Go

theorem jf_lifted : (Rows.syntaxWellRow.lifted == Tryz.pinned.checked.prog.liftsFinal) = true := by kernel_rfl
theorem jf_make : (Tryz.pinned.checked.prog.make == some Rows.syntaxWellRow.make) = true := by kernel_rfl
theorem jf_inPlace : (Rows.syntaxWellRow.inPlace == Tryz.pinned.checked.prog.inPlace 9) = true := by kernel_rfl
theorem jf_unfollowed : (Rows.syntaxWellRow.unfollowed == Tryz.pinned.checked.prog.unfollowed 9) = true := by kernel_rfl
theorem jf_recurses : (Rows.syntaxWellRow.recurses == Tryz.pinned.checked.prog.recurses 9) = true := by kernel_rfl
theorem jf_named : (Rows.syntaxWellRow.named == Tryz.pinned.checked.prog.varsNamed 9) = true := by kernel_rfl
theorem jf : joinedFacts Tryz.pinned.checked.prog 9 Tryz.f9 (OpenSpec.ofChange Rows.syntaxWellSpec).bare Rows.syntaxWellRow = true := by
  unfold joinedFacts
  rw [jf_laid, jf_maps, jf_inPlace, jf_unfollowed, jf_recurses, jf_named, jf_heard, jf_enter, jf_lifted, jf_make]
  kernel_rfl
end Go.Proofs.YtkodnhngllfemaaGreatDoor
