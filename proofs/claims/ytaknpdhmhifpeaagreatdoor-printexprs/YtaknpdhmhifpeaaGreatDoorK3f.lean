/- For any expression, print.Expr returns its text, or ErrArg: winchlaw03.PrintExprs returns true for all its arguments, which read afterwards as before.
   Conditions: the row's own (laid: the listed package-level variables start as the program's text lays them; the card ties them). -/
import Derived.Test.YtaknpdhmhifpeaaGreatDoorK3e
import Derived.Test.YtaknpdhmhifpeaaGreatDoorJ3e
set_option linter.unusedVariables false
namespace Go.Proofs.YtaknpdhmhifpeaaGreatDoor
open Go Go.ChangeShapes Go.WideShapes Go.ChangeAt Go.RowKit

theorem said_exprs : Rows.PrintExprsSaid :=
  OpenClaim.holds_of_cond 4 Tryz.f4 rfl rfl rfl rfl rfl rfl rfl ⟨rfl, rfl, rfl, rfl, rfl⟩ rfl rfl rfl rfl rfl (by kernel_rfl) Tryz.func4 jf
    (of_decide_eq_true (by kernel_rfl)) (by unfold Func.isWrapper; first | (rw [if_pos (by decide +kernel)]; kernel_rfl) | (rw [if_neg (by decide +kernel)]; exact ⟨rfl, rfl⟩))
    (fun os started H enc _ F => by rw [OpenClaim.pre_eq_preRow]; exact lifted_exprs os started H enc F)
theorem plain_exprs (f : FuncId) (fn : Func) (hf : Tryz.pinned.checked.prog.funcNamed "winch/winchlaw03.PrintExprs" = some f) (hfn : Tryz.pinned.checked.prog.funcs[f]? = some fn) :
    false = Tryz.pinned.checked.prog.looks [] ∧ ∀ (j : Nat) t, fn.params[j]? = some t → Tryz.pinned.checked.prog.wantsStandIn t = false := by
  obtain rfl : f = 4 := Option.some.inj ((show Tryz.prog.funcNamed "winch/winchlaw03.PrintExprs" = some 4 by kernel_rfl).symm.trans hf) |>.symm
  obtain rfl : fn = Tryz.f4 := (Option.some.inj (Tryz.func4.symm.trans hfn)).symm
  refine ⟨by kernel_rfl, fun j t ht => ?_⟩
  rw [Tryz.params4] at ht
  obtain rfl : t = 32 := by simpa using Array.mem_of_getElem? ht
  exact (show Tryz.prog.wantsStandIn 32 = false by kernel_rfl)
/-- THE CARD -/
theorem card_exprs : Rows.PrintExprsCardSaid :=
  Claim7.holds_tied_plain_at .later [] _ _ _ _ said_exprs (fun _ h => by cases h) (by kernel_rfl) (fun _ h => by cases h) printExprs_row_tie rfl ⟨rfl, rfl⟩ (by kernel_rfl) rfl plain_exprs (by kernel_rfl)
end Go.Proofs.YtaknpdhmhifpeaaGreatDoor
