import Derived.Test.YtaknpdhmhifpeaaGreatDoorL14
set_option linter.unusedVariables false
set_option linter.unusedSimpArgs false
namespace Go.Proofs.YtaknpdhmhifpeaaGreatDoor
open Go

/-! ### 71. The law's own count, and the law -/
def TS (s : St) : Prop := ∀ d : Int, (∃ r, Ev (fun k => Z6s k s.body d) r) ∧ (∃ r, Ev (fun k => Z6s k s.other d) r) ∧ ∀ a ∈ s.arms, ∃ r, Ev (fun k => Z6s k a.body d) r
theorem exprs_total {l : List Ex} (hl : l.length < 9223372036854775808) (hf : fitsL l) (d : Int) : ∃ r, Ev (fun k => Z3i k l d) r :=
  count_list l hl (fun a ha => count_args a (fitsL_mem hf a ha)) d
theorem small_arms {xs : List St} {s : St} {i : Nat} (depth : Int) (hi : at? xs (i : Int) = some s) (hlen : s.arms.length < 9223372036854775808) (ha : ∀ a ∈ s.arms, (∃ r, Ev (fun k => Z3i k a.cond depth) r) ∧ ∃ r, Ev (fun k => Z6s k a.body (IntKind.i64.wrap (depth + 1))) r)
    (hn : ∀ n : Int, ∃ r, Ev (fun k => (Z0k k).law03_small_l2 xs depth n (IntKind.i64.wrap ((i : Int) + 1))) r) : ∀ (rest pre : List Ar), s.arms = pre ++ rest → ∀ n : Int, ∃ r, Ev (fun k => (Z0k k).law03_small_l5 xs depth (i : Int) n (pre.length : Int)) r
  | [], pre, h, n => by
    obtain ⟨r, K, hr⟩ := hn n
    refine ⟨r, Ev.succ ⟨K, fun k hk => ?_⟩⟩
    show Z4l k _ xs depth _ n _ = _
    unfold Z4l Z8n
    rw [hi]
    simp only [Option.bind_some]
    rw [Z90 (p := (pre.length : Int) < (s.arms.length : Int)) (by rw [h]; simp)]
    exact hr k hk
  | a :: rest, pre, h, n => by
    have hl : s.arms.length = pre.length + 1 + rest.length := by rw [h]; simp; omega
    have hm : at? s.arms (pre.length : Int) = some a := by rw [h]; exact Z8y _ _ _
    by_cases h2 : n ≤ 2000
    · obtain ⟨⟨r1, K1, q1⟩, r2, K2, q2⟩ := ha a (by rw [h]; simp)
      obtain ⟨r, K3, q3⟩ := small_arms depth hi hlen ha hn rest (pre ++ [a]) (by rw [h]; simp) (IntKind.i64.wrap ((IntKind.i64.wrap ((IntKind.i64.wrap ((IntKind.i64.wrap (n + 1)) + (a.labels.length : Int))) + r1)) + r2))
      refine ⟨r, Ev.succ ⟨max K1 (max K2 K3), fun k hk => ?_⟩⟩
      have q1' : Z3i k a.cond depth = some r1 := q1 k (by omega)
      have q2' : (Z0k k).law03_small a.body (IntKind.i64.wrap (depth + 1)) = some r2 := q2 k (by omega)
      have q3' := q3 k (by omega)
      have e2 : (pre ++ [a]).length = pre.length + 1 := by simp
      show Z4l k _ xs depth _ n _ = _
      unfold Z4l Z8n Zeg
      rw [hi]
      simp only [Option.bind_some]
      rw [Z6r (p := (pre.length : Int) < (s.arms.length : Int)) (by omega), Z6r h2, hm]
      simp only [cond_true, Option.bind_some, q1', q2']
      rw [Z27 (by omega), ← e2]
      exact q3'
    · obtain ⟨r, K, hr⟩ := hn n
      refine ⟨r, Ev.succ ⟨K, fun k hk => ?_⟩⟩
      show Z4l k _ xs depth _ n _ = _
      unfold Z4l Z8n
      rw [hi]
      simp only [Option.bind_some]
      rw [Z6r (p := (pre.length : Int) < (s.arms.length : Int)) (by omega), Z90 h2]
      exact hr k hk
theorem small_loop (xs : List St) (depth : Int) (hlen : xs.length < 9223372036854775808) (hx : ∀ s ∈ xs, s.fits ∧ TS s) : ∀ (rest pre : List St), xs = pre ++ rest → ∀ n : Int, ∃ r, Ev (fun k => (Z0k k).law03_small_l2 xs depth n (pre.length : Int)) r
  | [], pre, h, n => by
    refine ⟨n, Ev.succ (Ev.now fun k => ?_)⟩
    show Z4k k _ xs depth n _ = _
    unfold Z4k Z8j
    rw [Z90 (by rw [h]; simp)]; rfl
  | s :: rest, pre, h, n => by
    have hl : xs.length = pre.length + 1 + rest.length := by rw [h]; simp; omega
    have hm : at? xs (pre.length : Int) = some s := by rw [h]; exact Z8y _ _ _
    have e2 : (pre ++ [s]).length = pre.length + 1 := by simp
    by_cases h2 : n ≤ 2000
    · obtain ⟨hf, ht⟩ := hx s (by rw [h]; simp)
      obtain ⟨⟨r3, K3, q3⟩, ⟨r4, K4, q4⟩, hA⟩ := ht (IntKind.i64.wrap (depth + 1))
      have hf' := hf
      cases hs : s with
      | mk op name index fields args n0 body arms other els =>
        rw [hs, St.fits] at hf'
        obtain ⟨-, f1, f2, f3, f4, f5, f6, f7⟩ := hf'
        obtain ⟨r1, K1, q1⟩ := exprs_total f2.1 f2.2 depth
        obtain ⟨r2, K2, q2⟩ := exprs_total f4.1 f4.2 depth
        obtain ⟨r, K5, q5⟩ := small_arms (xs := xs) (s := s) (i := pre.length) depth hm (by rw [hs]; exact f6.1) (fun a ha => ⟨by
            have := fitsAL_mem f6.2 a (by rw [hs] at ha; exact ha)
            obtain ⟨c, l, b⟩ := a
            rw [Ar.fits] at this
            exact exprs_total this.1.1 this.1.2 depth, hA a ha⟩)
          (fun n' => by
            obtain ⟨r', q'⟩ := small_loop xs depth hlen hx rest (pre ++ [s]) (by rw [h]; simp) n'
            rw [Z27 (by omega), ← e2]
            exact ⟨r', q'⟩) s.arms [] rfl (IntKind.i64.wrap ((IntKind.i64.wrap ((IntKind.i64.wrap ((IntKind.i64.wrap (n + r1)) + r2)) + r3)) + r4))
        refine ⟨r, Ev.succ ⟨max K1 (max K2 (max K3 (max K4 K5))), fun k hk => ?_⟩⟩
        have q1' : Z3i k s.index depth = some r1 := by rw [hs]; exact q1 k (by omega)
        have q2' : Z3i k s.args depth = some r2 := by rw [hs]; exact q2 k (by omega)
        have q3' : (Z0k k).law03_small s.body (IntKind.i64.wrap (depth + 1)) = some r3 := q3 k (by omega)
        have q4' : (Z0k k).law03_small s.other (IntKind.i64.wrap (depth + 1)) = some r4 := q4 k (by omega)
        have q5' := q5 k (by omega)
        show Z4k k _ xs depth n _ = _
        unfold Z4k Z8j Zeu
        rw [Z6r (by omega), Z6r h2, hm]
        simp only [cond_true, Option.bind_some, q1', q2', q3', q4']
        exact q5'
    · refine ⟨n, Ev.succ (Ev.now fun k => ?_)⟩
      show Z4k k _ xs depth n _ = _
      unfold Z4k Z8j
      rw [Z6r (by omega), Z90 h2]; rfl
theorem small_list {xs : List St} (hlen : xs.length < 9223372036854775808) (hx : ∀ s ∈ xs, s.fits ∧ TS s) (d : Int) : ∃ r, Ev (fun k => Z6s k xs d) r := by
  by_cases hd : 60 < d
  · refine ⟨3000, Ev.succ (Ev.now fun k => ?_)⟩
    show Z83 k (Z0k k) xs d = _
    unfold Z83
    rw [Z6r hd]; rfl
  · obtain ⟨r, K, hr⟩ := small_loop xs d hlen hx xs [] rfl (xs.length : Int)
    refine ⟨r, Ev.succ ⟨K, fun k hk => ?_⟩⟩
    show Z83 k (Z0k k) xs d = _
    unfold Z83 Zef
    rw [Z90 hd]
    exact hr k hk
theorem ts_all (s : St) : s.fits → TS s := by
  induction s using St.ind (Q := fun a => a.fits → ∀ d, ∃ r, Ev (fun k => Z6s k a.body d) r) with
  | hs op name index fields args n body arms other els i1 i2 i3 =>
    intro hf d
    rw [St.fits] at hf
    obtain ⟨-, f1, f2, f3, f4, f5, f6, f7⟩ := hf
    exact ⟨small_list f5.1 (fun s hs => ⟨Z3j f5.2 s hs, i1 s hs (Z3j f5.2 s hs)⟩) d, small_list f7.1 (fun s hs => ⟨Z3j f7.2 s hs, i3 s hs (Z3j f7.2 s hs)⟩) d, fun a ha => i2 a ha (fitsAL_mem f6.2 a ha) d⟩
  | ha cond labels body ih hf d =>
    rw [Ar.fits] at hf
    exact small_list hf.2.2.1 (fun s hs => ⟨Z3j hf.2.2.2 s hs, ih s hs (Z3j hf.2.2.2 s hs)⟩) d
theorem ptext_loop (xs : List St) (hx : ∀ s ∈ xs, SG s ⟨#[]⟩) (hlen : xs.length < 1000000) : ∀ (rest pre : List St), xs = pre ++ rest → ∀ (u : Bool) (acc : List UInt8), acc.length + (slT rest []).length < 900000000 →
    Ev (fun k => (Z2a k).print_Text_l2 xs (pre.length : Int) u acc ⟨#[]⟩) (bB (acc ++ slT rest []), 0)
  | [], pre, h, u, acc, hacc => by
    refine Ev.succ (Ev.now fun k => ?_)
    show Z7c k _ xs _ _ _ _ = _
    unfold Z7c
    rw [Z90 (by rw [h]; simp), slT, List.append_nil]; rfl
  | s :: rest, pre, h, u, acc, hacc => by
    have hl : xs.length = pre.length + 1 + rest.length := by rw [h]; simp; omega
    have hm : at? xs (pre.length : Int) = some s := by rw [h]; exact Z8y _ _ _
    rw [slT, List.length_append] at hacc
    obtain ⟨u1, K1, h1⟩ := (hx s (by rw [h]; simp)).prog u acc (by show acc.length + (stT s []).length < _; omega)
    obtain ⟨K2, h2⟩ := ptext_loop xs hx hlen rest (pre ++ [s]) (by rw [h]; simp) u1 (acc ++ stT s []) (by rw [List.length_append]; omega)
    refine Ev.succ ⟨max K1 K2, fun k hk => ?_⟩
    have h1' : Z70 k u acc ⟨#[]⟩ s = some (u1, acc ++ stT s [], ⟨#[]⟩) := h1 k (by omega)
    have h2' := h2 k (by omega)
    show Z7c k _ xs _ _ _ _ = _
    unfold Z7c print_Text_j3
    rw [Z6r (by omega), hm]
    simp only [cond_true, Option.bind_some, St.eta, h1']
    have e2 : (pre ++ [s]).length = pre.length + 1 := by simp
    rw [Z27 (by omega), ← e2, slT, ← List.append_assoc]
    exact h2'
theorem law_texts (l : List St) (hl : l.length < 9223372036854775808) (hf : fitsSL l) (hlab : Zc6 l ≤ 1100000) : ∃ k, Z6i k l = some true := by
  obtain ⟨r, K1, h1⟩ := small_list hl (fun s hs => ⟨Z3j hf s hs, ts_all s (Z3j hf s hs)⟩) 0
  obtain ⟨K2, h2⟩ := awake_ev
  rcases well_text hl hf with ⟨⟨K3, h3⟩, ⟨K4, h4⟩, hw, hN⟩ | ⟨⟨K3, h3⟩, ⟨K4, h4⟩⟩
  · have hx : ∀ s ∈ l, SG s ⟨#[]⟩ := fun s hs => by
      have q1 := nodesSL_mem s hs
      have q2 := labsSL_mem s hs
      exact stmt_good s (Z3j hf s hs) 1 ⟨#[]⟩ (WDSL_mem hw s hs) (by decide) (by decide) (by omega) (by omega)
    have hll := Zdz l
    have hsl := sl_of hx (by omega) (by omega)
    have hsz : (slT l []).length ≤ 400 * Z3e l + 24 * Zc6 l := hsl.size
    have hT : Ev (fun k => Zcr k l) (bB (slT l []), 0) := by
      obtain ⟨K, h⟩ := ptext_loop l hx (by omega) l [] rfl false [] (by simp; omega)
      refine Ev.succ ⟨max K (K3 + 1), fun k hk => ?_⟩
      have h' := h k (by omega)
      have h3' : Z9c k l = some true := h3 k (by omega)
      show Z9j k (Z2a k) l = _
      unfold Z9j Zfg
      rw [h3']
      exact h'
    have hR : Ev (fun k => Z9i k l) (bB (slT l [])) := by
      obtain ⟨K, h⟩ := hsl.ref
      refine ⟨K, fun k hk => ?_⟩
      have h' : Zdd k l ⟨#[]⟩ = some (bB (slT l [])) := h k hk
      show Z9i k l = _
      unfold Z9i
      rw [h']; rfl
    have hform : slT l [] = [] ∨ ∃ c x, slT l [] = c :: x ∧ c ≠ 32 ∧ ∃ y, slT l [] = y ++ [10] := by
      by_cases hne : l = []
      · subst hne; exact .inl (by rw [slT])
      · exact .inr (slT_form hw hne)
    obtain ⟨K5, h5⟩ := hT
    obtain ⟨K6, h6⟩ := hR
    obtain ⟨K7, h7⟩ := short_text (t := slT l []) (by omega) hform
    obtain ⟨K8, h8⟩ := joined_ok (s := bB (slT l [])) (by rw [Z01]; omega)
    refine ⟨max K1 (max K2 (max K4 (max K5 (max K6 (max K7 K8))))), ?_⟩
    have h1' := h1 (max K1 (max K2 (max K4 (max K5 (max K6 (max K7 K8)))))) (by omega)
    have h2' := h2 (max K1 (max K2 (max K4 (max K5 (max K6 (max K7 K8)))))) (by omega)
    have h4' := h4 (max K1 (max K2 (max K4 (max K5 (max K6 (max K7 K8)))))) (by omega)
    have h5' := h5 (max K1 (max K2 (max K4 (max K5 (max K6 (max K7 K8)))))) (by omega)
    have h6' := h6 (max K1 (max K2 (max K4 (max K5 (max K6 (max K7 K8)))))) (by omega)
    have h7' := h7 (max K1 (max K2 (max K4 (max K5 (max K6 (max K7 K8)))))) (by omega)
    have h8' := h8 (max K1 (max K2 (max K4 (max K5 (max K6 (max K7 K8)))))) (by omega)
    generalize max K1 (max K2 (max K4 (max K5 (max K6 (max K7 K8))))) = k at h1' h2' h4' h5' h6' h7' h8'
    simp only [bB_data] at h1' h2' h4' h5' h6' h7' h8'
    have hz : ((0 : Int) != 0) = false := rfl
    unfold Z6i Z7o Za2 Z9l Ze5 Zdg
    simp only [h1', h2', h4', h5', h6', h7', h8', hz, Option.bind_some, Bool.not_true, cond_false, bEq_self, cond_true]
    cases decide (2000 < r) <;> rfl
  · refine ⟨max K1 (max K2 (max (K3 + 1) K4)) + 1, ?_⟩
    have h1' := h1 (max K1 (max K2 (max (K3 + 1) K4)) + 1) (by omega)
    have h2' := h2 (max K1 (max K2 (max (K3 + 1) K4)) + 1) (by omega)
    have h3' := h3 (max K1 (max K2 (max (K3 + 1) K4))) (by omega)
    have h4' := h4 (max K1 (max K2 (max (K3 + 1) K4)) + 1) (by omega)
    generalize max K1 (max K2 (max (K3 + 1) K4)) = k at h1' h2' h3' h4'
    simp only at h1' h2' h3' h4'
    have hT : Zcr (k + 1) l = some (⟨#[]⟩, 2) := by
      show Z9j k (Z2a k) l = _
      unfold Z9j
      rw [h3']; rfl
    have hz : ((2 : Int) != 0) = true := rfl
    unfold Z6i Z7o Z9l
    simp only [h1', h2', h4', hT, hz, Option.bind_some, Bool.not_false, cond_true, bEq_self]
    cases decide (2000 < r) <;> rfl
end Go.Proofs.YtaknpdhmhifpeaaGreatDoor
