import Derived.Test.YtkodnhngllfemaaGreatDoorM1
set_option linter.unusedVariables false
set_option linter.unusedSimpArgs false
namespace Go.Proofs.YtkodnhngllfemaaGreatDoor
open Go

/-! ### 61. SyntaxWell: the plain law -/
theorem law_well (x : Ex) (hf : x.fits) : ∃ k, F_law02_SyntaxWell k x = some true := by
  obtain ⟨r, K1, h1⟩ := count_list [x] (by simp) (fun a ha => by
    have : a = x := by simpa using ha
    subst this
    exact count_args a hf) 0
  obtain ⟨K2, h2⟩ := awake_ev
  have key : ∃ b, Ev (fun k => F_ast_IsExpr k x) b ∧ Ev (fun k => F_ref02_WellExpr k x) b := by
    rcases well_expr hf with ⟨a, b, _⟩ | ⟨a, b⟩
    · exact ⟨_, a, b⟩
    · exact ⟨_, a, b⟩
  obtain ⟨b, ⟨K3, h3⟩, ⟨K4, h4⟩⟩ := key
  refine ⟨max K1 (max K2 (max K3 K4)), ?_⟩
  have h1' := h1 (max K1 (max K2 (max K3 K4))) (by omega)
  have h2' := h2 (max K1 (max K2 (max K3 K4))) (by omega)
  have h3' := h3 (max K1 (max K2 (max K3 K4))) (by omega)
  have h4' := h4 (max K1 (max K2 (max K3 K4))) (by omega)
  generalize max K1 (max K2 (max K3 K4)) = k at h1' h2' h3' h4'
  simp only at h1' h2' h3' h4'
  unfold F_law02_SyntaxWell law02_SyntaxWell_j1 F_syntax_CheckExpr syntax_CheckExpr_j1
  simp only [Ex.eta, h1', h2', h3', h4', Option.bind_some]
  cases b <;> cases decide (2000 < r) <;> rfl
end Go.Proofs.YtkodnhngllfemaaGreatDoor
