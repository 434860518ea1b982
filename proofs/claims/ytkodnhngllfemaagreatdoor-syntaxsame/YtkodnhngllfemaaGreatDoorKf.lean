/- For any statements, syntax.Same says whether they are equal in all fields, and SameExpr whether expressions are: winchlaw02.SyntaxSame returns true for all its arguments, which read afterwards as before.
   Conditions: the row's own (laid: the listed package-level variables start as the program's text lays them; the card ties them). -/
import Derived.Test.YtkodnhngllfemaaGreatDoorKe
import Derived.Test.YtkodnhngllfemaaGreatDoorJe
set_option linter.unusedVariables false
namespace Go.Proofs.YtkodnhngllfemaaGreatDoor
open Go Go.ChangeShapes Go.WideShapes Go.ChangeAt Go.RowKit

theorem said_law : Rows.SyntaxSameSaid :=
  OpenClaim.holds_of_cond 10 Tryz.f10 rfl rfl rfl rfl rfl rfl rfl ⟨rfl, rfl, rfl, rfl, rfl⟩ rfl rfl rfl rfl rfl (by kernel_rfl) Tryz.func10 jf
    (of_decide_eq_true (by kernel_rfl)) (by unfold Func.isWrapper; first | (rw [if_pos (by decide +kernel)]; kernel_rfl) | (rw [if_neg (by decide +kernel)]; exact ⟨rfl, rfl⟩))
    (fun os started H enc _ F => by rw [OpenClaim.pre_eq_preRow]; exact lifted_law os started H enc F)
theorem plain_law (f : FuncId) (fn : Func) (hf : Tryz.pinned.checked.prog.funcNamed "winch/winchlaw02.SyntaxSame" = some f) (hfn : Tryz.pinned.checked.prog.funcs[f]? = some fn) :
    true = Tryz.pinned.checked.prog.looks [] ∧ ∀ (j : Nat) t, fn.params[j]? = some t → Tryz.pinned.checked.prog.wantsStandIn t = false := by
  obtain rfl : f = 10 := Option.some.inj ((show Tryz.prog.funcNamed "winch/winchlaw02.SyntaxSame" = some 10 by kernel_rfl).symm.trans hf) |>.symm
  obtain rfl : fn = Tryz.f10 := (Option.some.inj (Tryz.func10.symm.trans hfn)).symm
  refine ⟨by kernel_rfl, fun j t ht => ?_⟩
  rw [Tryz.params10] at ht
  have ht' := Array.mem_of_getElem? ht
  simp only [List.mem_toArray, List.mem_cons, List.not_mem_nil, or_false] at ht'
  rcases ht' with rfl | rfl | rfl
  · exact (show Tryz.prog.wantsStandIn 22 = false by kernel_rfl)
  · exact (show Tryz.prog.wantsStandIn 22 = false by kernel_rfl)
  · exact (show Tryz.prog.wantsStandIn 60 = false by kernel_rfl)
/-- THE CARD -/
theorem card_same : Rows.SyntaxSameCardSaid :=
  Claim7.holds_tied_plain_at .later [] _ _ _ _ said_law (fun _ h => by cases h) (by kernel_rfl) (fun _ h => by cases h) syntaxSame_row_tie rfl ⟨rfl, rfl⟩ (by kernel_rfl) rfl plain_law (by kernel_rfl)
end Go.Proofs.YtkodnhngllfemaaGreatDoor
