import Derived.Test.YtkodnhngllfemaaGreatDoorL2b
set_option linter.unusedVariables false
set_option linter.unusedSimpArgs false
namespace Go.Proofs.YtkodnhngllfemaaGreatDoor
open Go

/-! ### 60. Chapter 02: what all its statements ask -/
theorem awake_ok (m : Nat) : F_law02_awake (m + 40) = some true := by kernel_rfl
theorem awake_ev : Ev (fun k => F_law02_awake k) true := ⟨40, fun k hk => by
  have := awake_ok (k - 40)
  rwa [show k - 40 + 40 = k by omega] at this⟩
/-- IsExpr and WellExpr answer alike. -/
theorem well_expr {x : Ex} (hf : x.fits) : (Ev (fun k => F_ast_IsExpr k x) true ∧ Ev (fun k => F_ref02_WellExpr k x) true ∧ WF x ∧ x.nodes ≤ 500) ∨ (Ev (fun k => F_ast_IsExpr k x) false ∧ Ev (fun k => F_ref02_WellExpr k x) false) := by
  have e1 : ∀ {b : Bool} {m d : Int}, Ev (fun k => F_ast_Counter_Expr k 0 0 x 1) (b, m, d) → Ev (fun k => F_ast_IsExpr k x) b := by
    rintro b m d ⟨K, h⟩
    refine ⟨K, fun k hk => ?_⟩
    show (F_ast_Counter_Expr k 0 0 (Ex.mk x.op x.kind x.n x.s x.f x.args) 1).bind _ = _
    rw [Ex.eta]
    exact congrArg (fun o : Option (Bool × Int × Int) => o.bind fun r => some r.1) (h k hk)
  have e2 : ∀ {b : Bool} {m d : Int}, Ev (fun k => F_ref02_Size_Expr k 0 0 false x 1) (m, d, b) → Ev (fun k => F_ref02_WellExpr k x) (!b) := by
    rintro b m d ⟨K, h⟩
    refine ⟨K, fun k hk => ?_⟩
    show (F_ref02_Size_Expr k 0 0 false (Ex.mk x.op x.kind x.n x.s x.f x.args) 1).bind _ = _
    rw [Ex.eta]
    exact congrArg (fun o : Option (Int × Int × Bool) => o.bind fun r => some (!r.2.2)) (h k hk)
  rcases (agree_expr x hf 0 0 0 1 ⟨by omega, by omega⟩ ⟨by omega, by omega⟩).cases with ⟨w, q3, c1, c2, q1, q2⟩ | ⟨-, a, b, a', b', q1, q2⟩
  · exact .inl ⟨e1 q1, e2 q2, WD_WF x _ w, by omega⟩
  · exact .inr ⟨e1 q1, e2 q2⟩
/-! how much there is -/
theorem count_loop (xs : List Ex) (depth : Int) (hlen : xs.length < 9223372036854775808) (hx : ∀ a ∈ xs, ∀ d, ∃ r, Ev (fun k => F_law02_weighExprs k a.args d) r) : ∀ (rest pre : List Ex), xs = pre ++ rest → ∀ n : Int,
    ∃ r, Ev (fun k => (tie_law02_weighExprs k).law02_weighExprs_l2 xs depth n (pre.length : Int)) r
  | [], pre, h, n => by
    refine ⟨n, Ev.succ (Ev.now fun k => ?_)⟩
    show m_law02_weighExprs_l2 k _ xs depth n _ = _
    unfold m_law02_weighExprs_l2 law02_weighExprs_j3
    rw [dec_f (by rw [h]; simp)]; rfl
  | x :: rest, pre, h, n => by
    have hl : xs.length = pre.length + 1 + rest.length := by rw [h]; simp; omega
    have hm : at? xs (pre.length : Int) = some x := by rw [h]; exact at_mid _ _ _
    by_cases hn : n ≤ 2000
    · obtain ⟨q, K1, hq⟩ := hx x (by rw [h]; simp) (IntKind.i64.wrap (depth + 1))
      obtain ⟨r, K2, hr⟩ := count_loop xs depth hlen hx rest (pre ++ [x]) (by rw [h]; simp) (IntKind.i64.wrap (n + q))
      refine ⟨r, Ev.succ ⟨max K1 K2, fun k hk => ?_⟩⟩
      have hq' : (tie_law02_weighExprs k).law02_weighExprs x.args (IntKind.i64.wrap (depth + 1)) = some q := hq k (by omega)
      have hr' : (tie_law02_weighExprs k).law02_weighExprs_l2 xs depth (IntKind.i64.wrap (n + q)) ((pre ++ [x]).length : Int) = some r := hr k (by omega)
      show m_law02_weighExprs_l2 k _ xs depth n _ = _
      unfold m_law02_weighExprs_l2 law02_weighExprs_j3 law02_weighExprs_j4
      rw [dec_t (by omega), dec_t hn, hm]
      simp only [cond_true, Option.bind_some, hq']
      have e2 : (pre ++ [x]).length = pre.length + 1 := by simp
      rw [wrap_succ (by omega), ← e2]
      exact hr'
    · refine ⟨n, Ev.succ (Ev.now fun k => ?_)⟩
      show m_law02_weighExprs_l2 k _ xs depth n _ = _
      unfold m_law02_weighExprs_l2 law02_weighExprs_j3
      rw [dec_t (by omega), dec_f hn]; rfl
theorem count_list (xs : List Ex) (hlen : xs.length < 9223372036854775808) (hx : ∀ a ∈ xs, ∀ d, ∃ r, Ev (fun k => F_law02_weighExprs k a.args d) r) (d : Int) : ∃ r, Ev (fun k => F_law02_weighExprs k xs d) r := by
  by_cases hd : 60 < d
  · refine ⟨3000, Ev.succ (Ev.now fun k => ?_)⟩
    show m_law02_weighExprs k (tie_law02_weighExprs k) xs d = _
    unfold m_law02_weighExprs
    rw [dec_t hd]; rfl
  · obtain ⟨r, K, hr⟩ := count_loop xs d hlen hx xs [] rfl (xs.length : Int)
    refine ⟨r, Ev.succ ⟨K, fun k hk => ?_⟩⟩
    show m_law02_weighExprs k (tie_law02_weighExprs k) xs d = _
    unfold m_law02_weighExprs law02_weighExprs_j1
    rw [dec_f hd]
    exact hr k hk
theorem count_args (x : Ex) : x.fits → ∀ d, ∃ r, Ev (fun k => F_law02_weighExprs k x.args d) r := by
  induction x using Ex.ind with
  | h op kind n s f args ih =>
    intro hf d
    rw [Ex.fits] at hf
    exact count_list args hf.2.2.2.1 (fun a ha => ih a ha (fitsL_mem hf.2.2.2.2 a ha)) d
end Go.Proofs.YtkodnhngllfemaaGreatDoor
