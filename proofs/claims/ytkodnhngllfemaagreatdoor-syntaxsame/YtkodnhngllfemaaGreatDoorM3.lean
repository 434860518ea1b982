import Derived.Test.YtkodnhngllfemaaGreatDoorM0
set_option linter.unusedVariables false
set_option linter.unusedSimpArgs false
namespace Go.Proofs.YtkodnhngllfemaaGreatDoor
open Go
def TS (s : St) : Prop := ∀ d : Int, (∃ r, Ev (fun k => Z50 k s.body d) r) ∧ (∃ r, Ev (fun k => Z50 k s.other d) r) ∧ ∀ a ∈ s.arms, ∃ r, Ev (fun k => Z50 k a.body d) r
theorem exprs_total {l : List Ex} (hl : l.length < 9223372036854775808) (hf : fitsL l) (d : Int) : ∃ r, Ev (fun k => Z1i k l d) r :=
  count_list l hl (fun a ha => count_args a (fitsL_mem hf a ha)) d
theorem small_arms {xs : List St} {s : St} {i : Nat} (depth : Int) (hi : at? xs (i : Int) = some s) (hlen : s.arms.length < 9223372036854775808) (ha : ∀ a ∈ s.arms, (∃ r, Ev (fun k => Z1i k a.cond depth) r) ∧ ∃ r, Ev (fun k => Z50 k a.body (IntKind.i64.wrap (depth + 1))) r)
    (hn : ∀ n : Int, ∃ r, Ev (fun k => (Z12 k).law02_weigh_l2 xs depth n (IntKind.i64.wrap ((i : Int) + 1))) r) : ∀ (rest pre : List Ar), s.arms = pre ++ rest → ∀ n : Int, ∃ r, Ev (fun k => (Z12 k).law02_weigh_l5 xs depth (i : Int) n (pre.length : Int)) r
  | [], pre, h, n => by
    obtain ⟨r, K, hr⟩ := hn n
    refine ⟨r, Ev.succ ⟨K, fun k hk => ?_⟩⟩
    show Z5g k _ xs depth _ n _ = _
    unfold Z5g Z8d
    rw [hi]
    simp only [Option.bind_some]
    rw [dec_f (p := (pre.length : Int) < (s.arms.length : Int)) (by rw [h]; simp)]
    exact hr k hk
  | a :: rest, pre, h, n => by
    have hl : s.arms.length = pre.length + 1 + rest.length := by rw [h]; simp; omega
    have hm : at? s.arms (pre.length : Int) = some a := by rw [h]; exact at_mid _ _ _
    by_cases h2 : n ≤ 2000
    · obtain ⟨⟨r1, K1, q1⟩, r2, K2, q2⟩ := ha a (by rw [h]; simp)
      obtain ⟨r, K3, q3⟩ := small_arms depth hi hlen ha hn rest (pre ++ [a]) (by rw [h]; simp) (IntKind.i64.wrap ((IntKind.i64.wrap ((IntKind.i64.wrap ((IntKind.i64.wrap (n + 1)) + (a.labels.length : Int))) + r1)) + r2))
      refine ⟨r, Ev.succ ⟨max K1 (max K2 K3), fun k hk => ?_⟩⟩
      have q1' : Z1i k a.cond depth = some r1 := q1 k (by omega)
      have q2' : (Z12 k).law02_weigh a.body (IntKind.i64.wrap (depth + 1)) = some r2 := q2 k (by omega)
      have q3' := q3 k (by omega)
      have e2 : (pre ++ [a]).length = pre.length + 1 := by simp
      show Z5g k _ xs depth _ n _ = _
      unfold Z5g Z8d Zgf
      rw [hi]
      simp only [Option.bind_some]
      rw [dec_t (p := (pre.length : Int) < (s.arms.length : Int)) (by omega), dec_t h2, hm]
      simp only [cond_true, Option.bind_some, q1', q2']
      rw [wrap_succ (by omega), ← e2]
      exact q3'
    · obtain ⟨r, K, hr⟩ := hn n
      refine ⟨r, Ev.succ ⟨K, fun k hk => ?_⟩⟩
      show Z5g k _ xs depth _ n _ = _
      unfold Z5g Z8d
      rw [hi]
      simp only [Option.bind_some]
      rw [dec_t (p := (pre.length : Int) < (s.arms.length : Int)) (by omega), dec_f h2]
      exact hr k hk
theorem small_loop (xs : List St) (depth : Int) (hlen : xs.length < 9223372036854775808) (hx : ∀ s ∈ xs, s.fits ∧ TS s) : ∀ (rest pre : List St), xs = pre ++ rest → ∀ n : Int, ∃ r, Ev (fun k => (Z12 k).law02_weigh_l2 xs depth n (pre.length : Int)) r
  | [], pre, h, n => by
    refine ⟨n, Ev.succ (Ev.now fun k => ?_)⟩
    show Z58 k _ xs depth n _ = _
    unfold Z58 Z8h
    rw [dec_f (by rw [h]; simp)]; rfl
  | s :: rest, pre, h, n => by
    have hl : xs.length = pre.length + 1 + rest.length := by rw [h]; simp; omega
    have hm : at? xs (pre.length : Int) = some s := by rw [h]; exact at_mid _ _ _
    have e2 : (pre ++ [s]).length = pre.length + 1 := by simp
    by_cases h2 : n ≤ 2000
    · obtain ⟨hf, ht⟩ := hx s (by rw [h]; simp)
      obtain ⟨⟨r3, K3, q3⟩, ⟨r4, K4, q4⟩, hA⟩ := ht (IntKind.i64.wrap (depth + 1))
      have hf' := hf
      cases hs : s with
      | mk op name index fields args n0 body arms other els =>
        rw [hs, St.fits] at hf'
        obtain ⟨-, f1, f2, f3, f4, f5, f6, f7⟩ := hf'
        obtain ⟨r1, K1, q1⟩ := exprs_total f2.1 f2.2 depth
        obtain ⟨r2, K2, q2⟩ := exprs_total f4.1 f4.2 depth
        obtain ⟨r, K5, q5⟩ := small_arms (xs := xs) (s := s) (i := pre.length) depth hm (by rw [hs]; exact f6.1) (fun a ha => ⟨by
            have := fitsAL_mem f6.2 a (by rw [hs] at ha; exact ha)
            obtain ⟨c, l, b⟩ := a
            rw [Ar.fits] at this
            exact exprs_total this.1.1 this.1.2 depth, hA a ha⟩)
          (fun n' => by
            obtain ⟨r', q'⟩ := small_loop xs depth hlen hx rest (pre ++ [s]) (by rw [h]; simp) n'
            rw [wrap_succ (by omega), ← e2]
            exact ⟨r', q'⟩) s.arms [] rfl (IntKind.i64.wrap ((IntKind.i64.wrap ((IntKind.i64.wrap ((IntKind.i64.wrap (n + r1)) + r2)) + r3)) + r4))
        refine ⟨r, Ev.succ ⟨max K1 (max K2 (max K3 (max K4 K5))), fun k hk => ?_⟩⟩
        have q1' : Z1i k s.index depth = some r1 := by rw [hs]; exact q1 k (by omega)
        have q2' : Z1i k s.args depth = some r2 := by rw [hs]; exact q2 k (by omega)
        have q3' : (Z12 k).law02_weigh s.body (IntKind.i64.wrap (depth + 1)) = some r3 := q3 k (by omega)
        have q4' : (Z12 k).law02_weigh s.other (IntKind.i64.wrap (depth + 1)) = some r4 := q4 k (by omega)
        have q5' := q5 k (by omega)
        show Z58 k _ xs depth n _ = _
        unfold Z58 Z8h Zgq
        rw [dec_t (by omega), dec_t h2, hm]
        simp only [cond_true, Option.bind_some, q1', q2', q3', q4']
        exact q5'
    · refine ⟨n, Ev.succ (Ev.now fun k => ?_)⟩
      show Z58 k _ xs depth n _ = _
      unfold Z58 Z8h
      rw [dec_t (by omega), dec_f h2]; rfl
theorem small_list {xs : List St} (hlen : xs.length < 9223372036854775808) (hx : ∀ s ∈ xs, s.fits ∧ TS s) (d : Int) : ∃ r, Ev (fun k => Z50 k xs d) r := by
  by_cases hd : 60 < d
  · refine ⟨3000, Ev.succ (Ev.now fun k => ?_)⟩
    show Z9o k (Z12 k) xs d = _
    unfold Z9o
    rw [dec_t hd]; rfl
  · obtain ⟨r, K, hr⟩ := small_loop xs d hlen hx xs [] rfl (xs.length : Int)
    refine ⟨r, Ev.succ ⟨K, fun k hk => ?_⟩⟩
    show Z9o k (Z12 k) xs d = _
    unfold Z9o Zgg
    rw [dec_f hd]
    exact hr k hk
theorem ts_all (s : St) : s.fits → TS s := by
  induction s using St.ind (Q := fun a => a.fits → ∀ d, ∃ r, Ev (fun k => Z50 k a.body d) r) with
  | hs op name index fields args n body arms other els i1 i2 i3 =>
    intro hf d
    rw [St.fits] at hf
    obtain ⟨-, f1, f2, f3, f4, f5, f6, f7⟩ := hf
    exact ⟨small_list f5.1 (fun s hs => ⟨Z3v f5.2 s hs, i1 s hs (Z3v f5.2 s hs)⟩) d, small_list f7.1 (fun s hs => ⟨Z3v f7.2 s hs, i3 s hs (Z3v f7.2 s hs)⟩) d, fun a ha => i2 a ha (fitsAL_mem f6.2 a ha) d⟩
  | ha cond labels body ih hf d =>
    rw [Ar.fits] at hf
    exact small_list hf.2.2.1 (fun s hs => ⟨Z3v hf.2.2.2 s hs, ih s hs (Z3v hf.2.2.2 s hs)⟩) d
end Go.Proofs.YtkodnhngllfemaaGreatDoor
