/- For any statements, print.Text and print.Short return their text, or ErrArg: winchlaw03.PrintTexts returns true for all its arguments, which read afterwards as before.
   Conditions: the row's own (what is read holds together at most 1048576 values and letters; laid: the listed package-level variables start as the program's text lays them; the card ties them). -/
import Derived.Test.YtaknpdhmhifpeaaGreatDoorK4e
import Derived.Test.YtaknpdhmhifpeaaGreatDoorJ4e
set_option linter.unusedVariables false
namespace Go.Proofs.YtaknpdhmhifpeaaGreatDoor
open Go Go.ChangeShapes Go.WideShapes Go.ChangeAt Go.RowKit

theorem said_texts : Rows.PrintTextsUptoSaid :=
  OpenClaim.holds_of_cond 3 Tryz.f3 rfl rfl rfl rfl rfl rfl rfl ⟨rfl, rfl, rfl, rfl, rfl⟩ rfl rfl rfl rfl rfl (by kernel_rfl) Tryz.func3 jf
    (of_decide_eq_true (by kernel_rfl)) (by unfold Func.isWrapper; first | (rw [if_pos (by decide +kernel)]; kernel_rfl) | (rw [if_neg (by decide +kernel)]; exact ⟨rfl, rfl⟩))
    (fun os started H enc _ F => by rw [OpenClaim.pre_eq_preRow]; exact lifted_texts os started H enc F)
theorem plain_texts (f : FuncId) (fn : Func) (hf : Tryz.pinned.checked.prog.funcNamed "winch/winchlaw03.PrintTexts" = some f) (hfn : Tryz.pinned.checked.prog.funcs[f]? = some fn) :
    false = Tryz.pinned.checked.prog.looks [] ∧ ∀ (j : Nat) t, fn.params[j]? = some t → Tryz.pinned.checked.prog.wantsStandIn t = false := by
  obtain rfl : f = 3 := Option.some.inj ((show Tryz.prog.funcNamed "winch/winchlaw03.PrintTexts" = some 3 by kernel_rfl).symm.trans hf) |>.symm
  obtain rfl : fn = Tryz.f3 := (Option.some.inj (Tryz.func3.symm.trans hfn)).symm
  refine ⟨by kernel_rfl, fun j t ht => ?_⟩
  rw [Tryz.params3] at ht
  obtain rfl : t = 22 := by simpa using Array.mem_of_getElem? ht
  exact (show Tryz.prog.wantsStandIn 22 = false by kernel_rfl)
/-- THE CARD -/
theorem card_texts : Rows.PrintTextsUptoCardSaid :=
  Claim7.holds_tied_plain_at .later [] _ _ _ _ said_texts (fun _ h => by cases h) (by kernel_rfl) (fun _ h => by cases h) printTextsUpto_row_tie rfl ⟨rfl, rfl⟩ (by kernel_rfl) rfl plain_texts (by kernel_rfl)
end Go.Proofs.YtaknpdhmhifpeaaGreatDoor
