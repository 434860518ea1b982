import Derived.Test.YtaknpdhmhifpeaaGreatDoorCards
import Derived.JoinedCond
import Derived.Test.YtaknpdhmhifpeaaGreatDoorJ0
set_option linter.unusedVariables false
namespace Go.Proofs.YtaknpdhmhifpeaaGreatDoor
open Go

/-! ### 51. .. and of PrintTexts -/
theorem jf_lifted : (Rows.printTextsUptoRow.lifted == Tryz.pinned.checked.prog.liftsFinal) = true := by kernel_rfl
theorem jf_make : (Tryz.pinned.checked.prog.make == some Rows.printTextsUptoRow.make) = true := by kernel_rfl
theorem jf_inPlace : (Rows.printTextsUptoRow.inPlace == Tryz.pinned.checked.prog.inPlace 3) = true := by kernel_rfl
theorem jf_unfollowed : (Rows.printTextsUptoRow.unfollowed == Tryz.pinned.checked.prog.unfollowed 3) = true := by kernel_rfl
theorem jf_recurses : (Rows.printTextsUptoRow.recurses == Tryz.pinned.checked.prog.recurses 3) = true := by kernel_rfl
theorem jf_named : (Rows.printTextsUptoRow.named == Tryz.pinned.checked.prog.varsNamed 3) = true := by kernel_rfl
theorem jf : joinedFacts Tryz.pinned.checked.prog 3 Tryz.f3 (Rows.OpenSpec.upto Rows.printTextsSpec).bare Rows.printTextsUptoRow = true := by
  unfold joinedFacts
  rw [jf_laid, jf_maps, jf_inPlace, jf_unfollowed, jf_recurses, jf_named, jf_heard, jf_enter, jf_lifted, jf_make]
  kernel_rfl
end Go.Proofs.YtaknpdhmhifpeaaGreatDoor
