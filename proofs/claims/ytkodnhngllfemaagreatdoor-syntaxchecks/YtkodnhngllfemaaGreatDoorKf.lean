/- For any statements, syntax.Check says whether they are well formed, and Nodes their number of nodes and greatest depth, or ErrArg: winchlaw02.SyntaxChecks returns true for all its arguments, which read afterwards as before.
   Conditions: the row's own (laid: the listed package-level variables start as the program's text lays them; the card ties them). -/
import Derived.Test.YtkodnhngllfemaaGreatDoorKe
import Derived.Test.YtkodnhngllfemaaGreatDoorJe
set_option linter.unusedVariables false
namespace Go.Proofs.YtkodnhngllfemaaGreatDoor
open Go Go.ChangeShapes Go.WideShapes Go.ChangeAt Go.RowKit

theorem said_law : Rows.SyntaxChecksSaid :=
  OpenClaim.holds_of_cond 6 Tryz.f6 rfl rfl rfl rfl rfl rfl rfl ⟨rfl, rfl, rfl, rfl, rfl⟩ rfl rfl rfl rfl rfl (by kernel_rfl) Tryz.func6 jf
    (of_decide_eq_true (by kernel_rfl)) (by unfold Func.isWrapper; first | (rw [if_pos (by decide +kernel)]; kernel_rfl) | (rw [if_neg (by decide +kernel)]; exact ⟨rfl, rfl⟩))
    (fun os started H enc _ F => by rw [OpenClaim.pre_eq_preRow]; exact lifted_law os started H enc F)
theorem plain_law (f : FuncId) (fn : Func) (hf : Tryz.pinned.checked.prog.funcNamed "winch/winchlaw02.SyntaxChecks" = some f) (hfn : Tryz.pinned.checked.prog.funcs[f]? = some fn) :
    true = Tryz.pinned.checked.prog.looks [] ∧ ∀ (j : Nat) t, fn.params[j]? = some t → Tryz.pinned.checked.prog.wantsStandIn t = false := by
  obtain rfl : f = 6 := Option.some.inj ((show Tryz.prog.funcNamed "winch/winchlaw02.SyntaxChecks" = some 6 by kernel_rfl).symm.trans hf) |>.symm
  obtain rfl : fn = Tryz.f6 := (Option.some.inj (Tryz.func6.symm.trans hfn)).symm
  refine ⟨by kernel_rfl, fun j t ht => ?_⟩
  rw [Tryz.params6] at ht
  have ht' := Array.mem_of_getElem? ht
  simp only [List.mem_toArray, List.mem_cons, List.not_mem_nil, or_false] at ht'
  subst ht'
  exact (show Tryz.prog.wantsStandIn 22 = false by kernel_rfl)
/-- THE CARD -/
theorem card_checks : Rows.SyntaxChecksCardSaid :=
  Claim7.holds_tied_plain_at .later [] _ _ _ _ said_law (fun _ h => by cases h) (by kernel_rfl) (fun _ h => by cases h) syntaxChecks_row_tie rfl ⟨rfl, rfl⟩ (by kernel_rfl) rfl plain_law (by kernel_rfl)
end Go.Proofs.YtkodnhngllfemaaGreatDoor
