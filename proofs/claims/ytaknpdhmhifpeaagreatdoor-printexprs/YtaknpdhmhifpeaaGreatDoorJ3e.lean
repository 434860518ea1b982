import Derived.Test.YtaknpdhmhifpeaaGreatDoorCards
import Derived.JoinedCond
import Derived.Test.YtaknpdhmhifpeaaGreatDoorJ0
set_option linter.unusedVariables false
namespace Go.Proofs.YtaknpdhmhifpeaaGreatDoor
open Go

/-! ### 51. .. and of PrintExprs -/
theorem jf_lifted : (Rows.printExprsRow.lifted == Tryz.pinned.checked.prog.liftsFinal) = true := by kernel_rfl
theorem jf_make : (Tryz.pinned.checked.prog.make == some Rows.printExprsRow.make) = true := by kernel_rfl
theorem jf_inPlace : (Rows.printExprsRow.inPlace == Tryz.pinned.checked.prog.inPlace 4) = true := by kernel_rfl
theorem jf_unfollowed : (Rows.printExprsRow.unfollowed == Tryz.pinned.checked.prog.unfollowed 4) = true := by kernel_rfl
theorem jf_recurses : (Rows.printExprsRow.recurses == Tryz.pinned.checked.prog.recurses 4) = true := by kernel_rfl
theorem jf_named : (Rows.printExprsRow.named == Tryz.pinned.checked.prog.varsNamed 4) = true := by kernel_rfl
theorem jf : joinedFacts Tryz.pinned.checked.prog 4 Tryz.f4 (OpenSpec.ofChange Rows.printExprsSpec).bare Rows.printExprsRow = true := by
  unfold joinedFacts
  rw [jf_laid, jf_maps, jf_inPlace, jf_unfollowed, jf_recurses, jf_named, jf_heard, jf_enter, jf_lifted, jf_make]
  kernel_rfl
end Go.Proofs.YtaknpdhmhifpeaaGreatDoor
