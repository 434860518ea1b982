import Derived.Test.YtkodnhngllfemaaGreatDoorCards
import Derived.JoinedCond
set_option linter.unusedVariables false
namespace Go.Proofs.YtkodnhngllfemaaGreatDoor
open Go
theorem jf_laid : laidOutB Tryz.pinned.checked.prog = true := by kernel_rfl
theorem jf_maps : mapsRowed Tryz.pinned.checked.prog = true := by kernel_rfl
theorem jf_heard : Tryz.pinned.checked.prog.stopsHeard = true := by kernel_rfl
theorem jf_enter : Tryz.pinned.checked.prog.mayEnter = true := by kernel_rfl
end Go.Proofs.YtkodnhngllfemaaGreatDoor
