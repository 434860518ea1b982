import Derived.Test.YtaknpdhmhifpeaaGreatDoorCards
import Derived.JoinedCond
import Derived.Test.YtaknpdhmhifpeaaGreatDoorJ0
set_option linter.unusedVariables false
namespace Go.Proofs.YtaknpdhmhifpeaaGreatDoor
open Go

/-! ### 51. .. and of PrintConsts -/
theorem jf_inPlace : (Rows.printConstsRow.inPlace == Tryz.pinned.checked.prog.inPlace 5) = true := by kernel_rfl
theorem jf_unfollowed : (Rows.printConstsRow.unfollowed == Tryz.pinned.checked.prog.unfollowed 5) = true := by kernel_rfl
theorem jf_recurses : (Rows.printConstsRow.recurses == Tryz.pinned.checked.prog.recurses 5) = true := by kernel_rfl
theorem jf_named : (Rows.printConstsRow.named == Tryz.pinned.checked.prog.varsNamed 5) = true := by kernel_rfl
theorem jf : joinedFacts Tryz.pinned.checked.prog 5 Tryz.f5 (OpenSpec.ofChange Rows.printConstsSpec).bare Rows.printConstsRow = true := by
  unfold joinedFacts
  rw [jf_laid, jf_maps, jf_inPlace, jf_unfollowed, jf_recurses, jf_named, jf_heard, jf_enter, jf_lifted, jf_make]
  kernel_rfl
end Go.Proofs.YtaknpdhmhifpeaaGreatDoor
