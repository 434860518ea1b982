import Derived.Test.YtkodnhngllfemaaGreatDoorCards
import Derived.JoinedCond
import Derived.Test.YtkodnhngllfemaaGreatDoorJ0
set_option linter.unusedVariables false
namespace Go.Proofs.YtkodnhngllfemaaGreatDoor
open Go
theorem jf_lifted : (Rows.syntaxSameRow.lifted == Tryz.pinned.checked.prog.liftsFinal) = true := by kernel_rfl
theorem jf_make : (Tryz.pinned.checked.prog.make == some Rows.syntaxSameRow.make) = true := by kernel_rfl
theorem jf_inPlace : (Rows.syntaxSameRow.inPlace == Tryz.pinned.checked.prog.inPlace 10) = true := by kernel_rfl
theorem jf_unfollowed : (Rows.syntaxSameRow.unfollowed == Tryz.pinned.checked.prog.unfollowed 10) = true := by kernel_rfl
theorem jf_recurses : (Rows.syntaxSameRow.recurses == Tryz.pinned.checked.prog.recurses 10) = true := by kernel_rfl
theorem jf_named : (Rows.syntaxSameRow.named == Tryz.pinned.checked.prog.varsNamed 10) = true := by kernel_rfl
theorem jf : joinedFacts Tryz.pinned.checked.prog 10 Tryz.f10 (OpenSpec.ofChange Rows.syntaxSameSpec).bare Rows.syntaxSameRow = true := by
  unfold joinedFacts
  rw [jf_laid, jf_maps, jf_inPlace, jf_unfollowed, jf_recurses, jf_named, jf_heard, jf_enter, jf_lifted, jf_make]
  kernel_rfl
end Go.Proofs.YtkodnhngllfemaaGreatDoor
