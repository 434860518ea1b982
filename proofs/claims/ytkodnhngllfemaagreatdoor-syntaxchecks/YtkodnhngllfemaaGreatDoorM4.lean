import Derived.Test.YtkodnhngllfemaaGreatDoorM3
set_option linter.unusedVariables false
set_option linter.unusedSimpArgs false
namespace Go.Proofs.YtkodnhngllfemaaGreatDoor
open Go
theorem small_ev {l : List St} (hl : l.length < 9223372036854775808) (hf : fitsSL l) : ∃ b, Ev (fun k => Zet k l) b := by
  obtain ⟨r, K, h⟩ := small_list hl (fun s hs => ⟨Z4w hf s hs, ts_all s (Z4w hf s hs)⟩) 0
  refine ⟨decide (r ≤ 2000), K, fun k hk => ?_⟩
  show (Z57 k l 0).bind _ = _
  have h' : Z57 k l 0 = some r := h k hk
  rw [h']; rfl
theorem law_checks (l : List St) (hl : l.length < 9223372036854775808) (hf : fitsSL l) : ∃ k, Z7i k l = some true := by
  obtain ⟨b, K1, h1⟩ := small_ev hl hf
  obtain ⟨K2, h2⟩ := awake_ev
  rcases text_both hl hf with ⟨⟨K3, h3⟩, ⟨K4, h4⟩, hw, hN⟩ | ⟨x, y, x', y', ⟨K3, h3⟩, ⟨K4, h4⟩⟩
  all_goals
    refine ⟨max K1 (max K2 (max K3 K4)), ?_⟩
    have h1' := h1 (max K1 (max K2 (max K3 K4))) (by omega)
    have h2' := h2 (max K1 (max K2 (max K3 K4))) (by omega)
    have h3' := h3 (max K1 (max K2 (max K3 K4))) (by omega)
    have h4' := h4 (max K1 (max K2 (max K3 K4))) (by omega)
    generalize max K1 (max K2 (max K3 K4)) = k at h1' h2' h3' h4'
    simp only at h1' h2' h3' h4'
    unfold Z7i Z91 Z98 Zdf Zf9 Zar Zfe Zgg Z9d Zds
    simp only [h1', h2', h3', h4', Option.bind_some, Bool.not_true, Bool.not_false, cond_true, cond_false, beq_self_eq_true]
  · cases b <;> rfl
  · cases b <;> rfl
end Go.Proofs.YtkodnhngllfemaaGreatDoor
