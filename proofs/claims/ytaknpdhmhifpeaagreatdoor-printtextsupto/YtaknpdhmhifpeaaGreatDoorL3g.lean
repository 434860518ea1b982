import Derived.Test.YtaknpdhmhifpeaaGreatDoorL3f
set_option linter.unusedVariables false
set_option linter.unusedSimpArgs false
namespace Go.Proofs.YtaknpdhmhifpeaaGreatDoor
open Go

/-! ### 38. PrintExprs: the plain law -/
theorem count_loop (xs : List Ex) (depth : Int) (hlen : xs.length < 9223372036854775808) (hx : ∀ a ∈ xs, ∀ d, ∃ r, Ev (fun k => Z3i k a.args d) r) : ∀ (rest pre : List Ex), xs = pre ++ rest → ∀ n : Int,
    ∃ r, Ev (fun k => (Z1b k).law03_exprs_l2 xs depth n (pre.length : Int)) r
  | [], pre, h, n => by
    refine ⟨n, Ev.succ (Ev.now fun k => ?_)⟩
    show Z4n k _ xs depth n _ = _
    unfold Z4n Z8m
    rw [Z90 (by rw [h]; simp)]; rfl
  | x :: rest, pre, h, n => by
    have hl : xs.length = pre.length + 1 + rest.length := by rw [h]; simp; omega
    have hm : at? xs (pre.length : Int) = some x := by rw [h]; exact Z8y _ _ _
    by_cases hn : n ≤ 2000
    · obtain ⟨q, K1, hq⟩ := hx x (by rw [h]; simp) (IntKind.i64.wrap (depth + 1))
      obtain ⟨r, K2, hr⟩ := count_loop xs depth hlen hx rest (pre ++ [x]) (by rw [h]; simp) (IntKind.i64.wrap (n + q))
      refine ⟨r, Ev.succ ⟨max K1 K2, fun k hk => ?_⟩⟩
      have hq' : (Z1b k).law03_exprs x.args (IntKind.i64.wrap (depth + 1)) = some q := hq k (by omega)
      have hr' : (Z1b k).law03_exprs_l2 xs depth (IntKind.i64.wrap (n + q)) ((pre ++ [x]).length : Int) = some r := hr k (by omega)
      show Z4n k _ xs depth n _ = _
      unfold Z4n Z8m Zes
      rw [Z6r (by omega), Z6r hn, hm]
      simp only [cond_true, Option.bind_some, hq']
      have e2 : (pre ++ [x]).length = pre.length + 1 := by simp
      rw [Z27 (by omega), ← e2]
      exact hr'
    · refine ⟨n, Ev.succ (Ev.now fun k => ?_)⟩
      show Z4n k _ xs depth n _ = _
      unfold Z4n Z8m
      rw [Z6r (by omega), Z90 hn]; rfl
theorem count_list (xs : List Ex) (hlen : xs.length < 9223372036854775808) (hx : ∀ a ∈ xs, ∀ d, ∃ r, Ev (fun k => Z3i k a.args d) r) (d : Int) : ∃ r, Ev (fun k => Z3i k xs d) r := by
  by_cases hd : 60 < d
  · refine ⟨3000, Ev.succ (Ev.now fun k => ?_)⟩
    show Z7z k (Z1b k) xs d = _
    unfold Z7z
    rw [Z6r hd]; rfl
  · obtain ⟨r, K, hr⟩ := count_loop xs d hlen hx xs [] rfl (xs.length : Int)
    refine ⟨r, Ev.succ ⟨K, fun k hk => ?_⟩⟩
    show Z7z k (Z1b k) xs d = _
    unfold Z7z Zel
    rw [Z90 hd]
    exact hr k hk
theorem count_args (x : Ex) : x.fits → ∀ d, ∃ r, Ev (fun k => Z3i k x.args d) r := by
  induction x using Ex.ind with
  | h op kind n s f args ih =>
    intro hf d
    rw [Ex.fits] at hf
    exact count_list args hf.2.2.2.1 (fun a ha => ih a ha (fitsL_mem hf.2.2.2.2 a ha)) d
theorem awake_ev : Ev (fun k => Z8b k) true := ⟨20, fun k hk => by
  have := awake_ok (k - 20)
  rwa [show k - 20 + 20 = k by omega] at this⟩
theorem WF_nodes {x : Ex} (hw : WF x) (hN : x.nodes ≤ 500) : Good x := good x hw (by omega)
end Go.Proofs.YtaknpdhmhifpeaaGreatDoor
