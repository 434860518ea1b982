import Derived.Test.YtkodnhngllfemaaGreatDoorLA
set_option linter.unusedVariables false
set_option linter.unusedSimpArgs false
namespace Go.Proofs.YtkodnhngllfemaaGreatDoor
open Go
theorem awake_ok (m : Nat) : Z9j (m + 40) = some true := by kernel_rfl
theorem awake_ev : Ev (fun k => Z9j k) true := ⟨40, fun k hk => by
  have := awake_ok (k - 40)
  rwa [show k - 40 + 40 = k by omega] at this⟩
theorem count_loop (xs : List Ex) (depth : Int) (hlen : xs.length < 9223372036854775808) (hx : ∀ a ∈ xs, ∀ d, ∃ r, Ev (fun k => Z1i k a.args d) r) : ∀ (rest pre : List Ex), xs = pre ++ rest → ∀ n : Int,
    ∃ r, Ev (fun k => (Z10 k).law02_weighExprs_l2 xs depth n (pre.length : Int)) r
  | [], pre, h, n => by
    refine ⟨n, Ev.succ (Ev.now fun k => ?_)⟩
    show Z33 k _ xs depth n _ = _
    unfold Z33 Z4d
    rw [dec_f (by rw [h]; simp)]; rfl
  | x :: rest, pre, h, n => by
    have hl : xs.length = pre.length + 1 + rest.length := by rw [h]; simp; omega
    have hm : at? xs (pre.length : Int) = some x := by rw [h]; exact at_mid _ _ _
    by_cases hn : n ≤ 2000
    · obtain ⟨q, K1, hq⟩ := hx x (by rw [h]; simp) (IntKind.i64.wrap (depth + 1))
      obtain ⟨r, K2, hr⟩ := count_loop xs depth hlen hx rest (pre ++ [x]) (by rw [h]; simp) (IntKind.i64.wrap (n + q))
      refine ⟨r, Ev.succ ⟨max K1 K2, fun k hk => ?_⟩⟩
      have hq' : (Z10 k).law02_weighExprs x.args (IntKind.i64.wrap (depth + 1)) = some q := hq k (by omega)
      have hr' : (Z10 k).law02_weighExprs_l2 xs depth (IntKind.i64.wrap (n + q)) ((pre ++ [x]).length : Int) = some r := hr k (by omega)
      show Z33 k _ xs depth n _ = _
      unfold Z33 Z4d Za1
      rw [dec_t (by omega), dec_t hn, hm]
      simp only [cond_true, Option.bind_some, hq']
      have e2 : (pre ++ [x]).length = pre.length + 1 := by simp
      rw [wrap_succ (by omega), ← e2]
      exact hr'
    · refine ⟨n, Ev.succ (Ev.now fun k => ?_)⟩
      show Z33 k _ xs depth n _ = _
      unfold Z33 Z4d
      rw [dec_t (by omega), dec_f hn]; rfl
theorem count_list (xs : List Ex) (hlen : xs.length < 9223372036854775808) (hx : ∀ a ∈ xs, ∀ d, ∃ r, Ev (fun k => Z1i k a.args d) r) (d : Int) : ∃ r, Ev (fun k => Z1i k xs d) r := by
  by_cases hd : 60 < d
  · refine ⟨3000, Ev.succ (Ev.now fun k => ?_)⟩
    show Z54 k (Z10 k) xs d = _
    unfold Z54
    rw [dec_t hd]; rfl
  · obtain ⟨r, K, hr⟩ := count_loop xs d hlen hx xs [] rfl (xs.length : Int)
    refine ⟨r, Ev.succ ⟨K, fun k hk => ?_⟩⟩
    show Z54 k (Z10 k) xs d = _
    unfold Z54 Za0
    rw [dec_f hd]
    exact hr k hk
theorem count_args (x : Ex) : x.fits → ∀ d, ∃ r, Ev (fun k => Z1i k x.args d) r := by
  induction x using Ex.ind with
  | h op kind n s f args ih =>
    intro hf d
    rw [Ex.fits] at hf
    exact count_list args hf.2.2.2.1 (fun a ha => ih a ha (fitsL_mem hf.2.2.2.2 a ha)) d
end Go.Proofs.YtkodnhngllfemaaGreatDoor
