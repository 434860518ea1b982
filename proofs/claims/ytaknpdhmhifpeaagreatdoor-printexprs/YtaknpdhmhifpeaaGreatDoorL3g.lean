import Derived.Test.YtaknpdhmhifpeaaGreatDoorL3f
set_option linter.unusedVariables false
set_option linter.unusedSimpArgs false
namespace Go.Proofs.YtaknpdhmhifpeaaGreatDoor
open Go

/-! ### 38. PrintExprs: the plain law -/
theorem count_loop (xs : List Ex) (depth : Int) (hlen : xs.length < 9223372036854775808) (hx : ∀ a ∈ xs, ∀ d, ∃ r, Ev (fun k => F_law03_exprs k a.args d) r) : ∀ (rest pre : List Ex), xs = pre ++ rest → ∀ n : Int,
    ∃ r, Ev (fun k => (tie_law03_exprs k).law03_exprs_l2 xs depth n (pre.length : Int)) r
  | [], pre, h, n => by
    refine ⟨n, Ev.succ (Ev.now fun k => ?_)⟩
    show m_law03_exprs_l2 k _ xs depth n _ = _
    unfold m_law03_exprs_l2 law03_exprs_j3
    rw [dec_f (by rw [h]; simp)]; rfl
  | x :: rest, pre, h, n => by
    have hl : xs.length = pre.length + 1 + rest.length := by rw [h]; simp; omega
    have hm : at? xs (pre.length : Int) = some x := by rw [h]; exact at_mid _ _ _
    by_cases hn : n ≤ 2000
    · obtain ⟨q, K1, hq⟩ := hx x (by rw [h]; simp) (IntKind.i64.wrap (depth + 1))
      obtain ⟨r, K2, hr⟩ := count_loop xs depth hlen hx rest (pre ++ [x]) (by rw [h]; simp) (IntKind.i64.wrap (n + q))
      refine ⟨r, Ev.succ ⟨max K1 K2, fun k hk => ?_⟩⟩
      have hq' : (tie_law03_exprs k).law03_exprs x.args (IntKind.i64.wrap (depth + 1)) = some q := hq k (by omega)
      have hr' : (tie_law03_exprs k).law03_exprs_l2 xs depth (IntKind.i64.wrap (n + q)) ((pre ++ [x]).length : Int) = some r := hr k (by omega)
      show m_law03_exprs_l2 k _ xs depth n _ = _
      unfold m_law03_exprs_l2 law03_exprs_j3 law03_exprs_j4
      rw [dec_t (by omega), dec_t hn, hm]
      simp only [cond_true, Option.bind_some, hq']
      have e2 : (pre ++ [x]).length = pre.length + 1 := by simp
      rw [wrap_succ (by omega), ← e2]
      exact hr'
    · refine ⟨n, Ev.succ (Ev.now fun k => ?_)⟩
      show m_law03_exprs_l2 k _ xs depth n _ = _
      unfold m_law03_exprs_l2 law03_exprs_j3
      rw [dec_t (by omega), dec_f hn]; rfl
theorem count_list (xs : List Ex) (hlen : xs.length < 9223372036854775808) (hx : ∀ a ∈ xs, ∀ d, ∃ r, Ev (fun k => F_law03_exprs k a.args d) r) (d : Int) : ∃ r, Ev (fun k => F_law03_exprs k xs d) r := by
  by_cases hd : 60 < d
  · refine ⟨3000, Ev.succ (Ev.now fun k => ?_)⟩
    show m_law03_exprs k (tie_law03_exprs k) xs d = _
    unfold m_law03_exprs
    rw [dec_t hd]; rfl
  · obtain ⟨r, K, hr⟩ := count_loop xs d hlen hx xs [] rfl (xs.length : Int)
    refine ⟨r, Ev.succ ⟨K, fun k hk => ?_⟩⟩
    show m_law03_exprs k (tie_law03_exprs k) xs d = _
    unfold m_law03_exprs law03_exprs_j1
    rw [dec_f hd]
    exact hr k hk
theorem count_args (x : Ex) : x.fits → ∀ d, ∃ r, Ev (fun k => F_law03_exprs k x.args d) r := by
  induction x using Ex.ind with
  | h op kind n s f args ih =>
    intro hf d
    rw [Ex.fits] at hf
    exact count_list args hf.2.2.2.1 (fun a ha => ih a ha (fitsL_mem hf.2.2.2.2 a ha)) d
theorem awake_ev : Ev (fun k => F_law03_awake k) true := ⟨20, fun k hk => by
  have := awake_ok (k - 20)
  rwa [show k - 20 + 20 = k by omega] at this⟩
theorem WF_nodes {x : Ex} (hw : WF x) (hN : x.nodes ≤ 500) : Good x := good x hw (by omega)
theorem law_exprs (x : Ex) (hf : x.fits) : ∃ k, F_law03_PrintExprs k x = some true := by
  obtain ⟨r, K1, h1⟩ := count_list [x] (by simp) (fun a ha => by
    have : a = x := by simpa using ha
    subst this
    exact count_args a hf) 0
  obtain ⟨K2, h2⟩ := awake_ev
  rcases well_expr hf with ⟨⟨K3, h3⟩, ⟨K4, h4⟩, hw, hN⟩ | ⟨⟨K3, h3⟩, ⟨K4, h4⟩⟩
  · obtain ⟨⟨⟨K5, h5⟩, ⟨K6, h6⟩⟩, -⟩ := WF_nodes hw hN
    refine ⟨max K1 (max K2 (max K3 (max K4 (max K5 K6)))), ?_⟩
    have h1' := h1 (max K1 (max K2 (max K3 (max K4 (max K5 K6))))) (by omega)
    have h2' := h2 (max K1 (max K2 (max K3 (max K4 (max K5 K6))))) (by omega)
    have h3' := h3 (max K1 (max K2 (max K3 (max K4 (max K5 K6))))) (by omega)
    have h4' := h4 (max K1 (max K2 (max K3 (max K4 (max K5 K6))))) (by omega)
    have h5' := h5 (max K1 (max K2 (max K3 (max K4 (max K5 K6))))) (by omega)
    have h6' := h6 (max K1 (max K2 (max K3 (max K4 (max K5 K6))))) (by omega)
    generalize max K1 (max K2 (max K3 (max K4 (max K5 K6)))) = k at h1' h2' h3' h4' h5' h6'
    simp only at h1' h2' h3' h4' h5' h6'
    unfold F_law03_PrintExprs law03_PrintExprs_j1 law03_PrintExprs_j2 F_print_Expr print_Expr_j1
    simp only [Ex.eta, h1', h2', h3', h4', h5', h6', Option.bind_some, Bool.not_true, cond_false]
    rw [bEq_self]
    cases decide (2000 < r) <;> rfl
  · refine ⟨max K1 (max K2 (max K3 K4)), ?_⟩
    have h1' := h1 (max K1 (max K2 (max K3 K4))) (by omega)
    have h2' := h2 (max K1 (max K2 (max K3 K4))) (by omega)
    have h3' := h3 (max K1 (max K2 (max K3 K4))) (by omega)
    have h4' := h4 (max K1 (max K2 (max K3 K4))) (by omega)
    generalize max K1 (max K2 (max K3 K4)) = k at h1' h2' h3' h4'
    simp only at h1' h2' h3' h4'
    unfold F_law03_PrintExprs law03_PrintExprs_j1 law03_PrintExprs_j2 F_print_Expr print_Expr_j1
    simp only [Ex.eta, h1', h2', h3', h4', Option.bind_some, Bool.not_false, cond_true]
    rw [bEq_self]
    cases decide (2000 < r) <;> rfl
end Go.Proofs.YtaknpdhmhifpeaaGreatDoor
