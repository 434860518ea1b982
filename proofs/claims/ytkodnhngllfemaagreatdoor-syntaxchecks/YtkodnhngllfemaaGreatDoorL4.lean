import Derived.Test.YtkodnhngllfemaaGreatDoorL2b
set_option linter.unusedVariables false
set_option linter.unusedSimpArgs false
namespace Go.Proofs.YtkodnhngllfemaaGreatDoor
open Go
def labB (n : Int) : Bool := decide (-2147483647 ≤ n) && decide (n ≤ 2147483647)
theorem isLabel_ok (k : Nat) (n : Int) : Z85 k n = some (labB n) := by
  unfold Z85
  rw [within_ok]; rfl
theorem refLabel_ok (k : Nat) (n : Int) : Za0 k n = some (labB n) := by
  unfold Za0 labB
  cases decide (-2147483647 ≤ n) <;> rfl
theorem idxS_loop (xs : List ByteArray) (hs : ∀ s ∈ xs, s.size < 9223372036854775808) (hlen : xs.length < 9223372036854775808) : ∀ (rest pre : List ByteArray), xs = pre ++ rest →
    ∃ r, Ev (fun k => (Z0o k).slices_IndexFunc_string_string_l1 xs (pre.length : Int)) r ∧ decide ((0 : Int) ≤ r) = !rest.all Zev
  | [], pre, h => by
    refine ⟨-1, Ev.succ (Ev.now fun k => ?_), rfl⟩
    show Z14 k _ xs _ = _
    unfold Z14
    rw [dec_f (by rw [h]; simp)]; rfl
  | s :: rest, pre, h => by
    have hl : xs.length = pre.length + 1 + rest.length := by rw [h]; simp; omega
    have hm : at? xs (pre.length : Int) = some s := by rw [h]; exact at_mid _ _ _
    obtain ⟨K1, h1⟩ := lex_name (hs s (by rw [h]; simp))
    by_cases hn : Zev s = true
    · obtain ⟨r, ⟨K2, h2⟩, h3⟩ := idxS_loop xs hs hlen rest (pre ++ [s]) (by rw [h]; simp)
      refine ⟨r, Ev.succ ⟨max K1 K2, fun k hk => ?_⟩, by rw [h3, List.all_cons, hn]; rfl⟩
      have h1' : Z50 k s = some (Zev s) := h1 k (by omega)
      have h2' : (Z0o k).slices_IndexFunc_string_string_l1 xs ((pre ++ [s]).length : Int) = some r := h2 k (by omega)
      show Z14 k _ xs _ = _
      unfold Z14 Z2u Z88
      rw [Zew (by omega), hm]
      simp only [cond_true, cond_false, Option.bind_some, h1', hn, Bool.not_true]
      have e2 : (pre ++ [s]).length = pre.length + 1 := by simp
      rw [Z69 (by omega), ← e2]
      exact h2'
    · have hn' : Zev s = false := by simpa using hn
      refine ⟨(pre.length : Int), Ev.succ ⟨K1, fun k hk => ?_⟩, by rw [Zew (by omega), List.all_cons, hn']; rfl⟩
      have h1' : Z50 k s = some (Zev s) := h1 k (by omega)
      show Z14 k _ xs _ = _
      unfold Z14 Z2u Z88
      rw [Zew (by omega), hm]
      simp only [cond_true, Option.bind_some, h1', hn', Bool.not_false]
theorem areNames_ok {xs : List ByteArray} (hs : ∀ s ∈ xs, s.size < 9223372036854775808) (hlen : xs.length < 9223372036854775808) : ∃ K, ∀ k, K ≤ k → Z8t k xs = some (xs.all Zev) := by
  obtain ⟨r, h1, h3⟩ := idxS_loop xs hs hlen xs [] rfl
  have hF : Ev (fun k => Z2y k xs) r := Ev.succ h1
  obtain ⟨K, h⟩ := hF
  refine ⟨K, fun k hk => ?_⟩
  have h' : Z2y k xs = some r := h k hk
  unfold Z8t Z2m
  rw [h']
  simp only [Option.bind_some, h3, Bool.not_not]
theorem idxI_loop (xs : List Int) (hlen : xs.length < 9223372036854775808) : ∀ (rest pre : List Int), xs = pre ++ rest →
    ∃ r, Ev (fun k => (Z0z k).slices_IndexFunc_int_int_l1 xs (pre.length : Int)) r ∧ decide ((0 : Int) ≤ r) = !rest.all labB
  | [], pre, h => by
    refine ⟨-1, Ev.succ (Ev.now fun k => ?_), rfl⟩
    show Z1r k _ xs _ = _
    unfold Z1r
    rw [dec_f (by rw [h]; simp)]; rfl
  | s :: rest, pre, h => by
    have hl : xs.length = pre.length + 1 + rest.length := by rw [h]; simp; omega
    have hm : at? xs (pre.length : Int) = some s := by rw [h]; exact at_mid _ _ _
    by_cases hn : labB s = true
    · obtain ⟨r, ⟨K2, h2⟩, h3⟩ := idxI_loop xs hlen rest (pre ++ [s]) (by rw [h]; simp)
      refine ⟨r, Ev.succ ⟨K2, fun k hk => ?_⟩, by rw [h3, List.all_cons, hn]; rfl⟩
      have h2' : (Z0z k).slices_IndexFunc_int_int_l1 xs ((pre ++ [s]).length : Int) = some r := h2 k (by omega)
      show Z1r k _ xs _ = _
      unfold Z1r Z3x Z68
      rw [Zew (by omega), hm]
      simp only [cond_true, cond_false, Option.bind_some, isLabel_ok, hn, Bool.not_true]
      have e2 : (pre ++ [s]).length = pre.length + 1 := by simp
      rw [Z69 (by omega), ← e2]
      exact h2'
    · have hn' : labB s = false := by simpa using hn
      refine ⟨(pre.length : Int), Ev.succ (Ev.now fun k => ?_), by rw [Zew (by omega), List.all_cons, hn']; rfl⟩
      show Z1r k _ xs _ = _
      unfold Z1r Z3x Z68
      rw [Zew (by omega), hm]
      simp only [cond_true, Option.bind_some, isLabel_ok, hn', Bool.not_false]
theorem labels_ok {xs : List Int} (hlen : xs.length < 9223372036854775808) : ∃ K, ∀ k, K ≤ k → Z2q k xs = some (!xs.all labB) := by
  obtain ⟨r, h1, h3⟩ := idxI_loop xs hlen xs [] rfl
  have hF : Ev (fun k => Z48 k xs) r := Ev.succ h1
  obtain ⟨K, h⟩ := hF
  refine ⟨K, fun k hk => ?_⟩
  have h' : Z48 k xs = some r := h k hk
  unfold Z2q
  rw [h']
  simp only [Option.bind_some, h3]
theorem named_loop (a b : Int) (xs : List ByteArray) (hs : ∀ s ∈ xs, s.size < 9223372036854775808) (hlen : xs.length < 9223372036854775808) : ∀ (rest pre : List ByteArray), xs = pre ++ rest → ∀ w : Bool,
    Ev (fun k => (Z1f k).ref02_Size_Named_l1 a b xs (pre.length : Int) w) (w || !rest.all Zev)
  | [], pre, h, w => by
    refine Ev.succ (Ev.now fun k => ?_)
    show Z35 k _ a b xs _ w = _
    unfold Z35 Z4h
    rw [dec_f (by rw [h]; simp)]; simp
  | s :: rest, pre, h, w => by
    have hl : xs.length = pre.length + 1 + rest.length := by rw [h]; simp; omega
    have hm : at? xs (pre.length : Int) = some s := by rw [h]; exact at_mid _ _ _
    cases w with
    | true =>
      refine Ev.succ (Ev.now fun k => ?_)
      show Z35 k _ a b xs _ true = _
      unfold Z35 Z4h
      cases decide ((pre.length : Int) < (xs.length : Int)) <;> rfl
    | false =>
      obtain ⟨K1, h1⟩ := ref_name (hs s (by rw [h]; simp))
      obtain ⟨K2, h2⟩ := named_loop a b xs hs hlen rest (pre ++ [s]) (by rw [h]; simp) (false || !Zev s)
      refine Ev.succ ⟨max K1 K2, fun k hk => ?_⟩
      have h1' : Z52 k s = some (Zev s) := h1 k (by omega)
      have h2' : (Z1f k).ref02_Size_Named_l1 a b xs ((pre ++ [s]).length : Int) (false || !Zev s) = some ((false || !Zev s) || !rest.all Zev) := h2 k (by omega)
      show Z35 k _ a b xs _ false = _
      unfold Z35 Z4h Zaq
      rw [Zew (by omega), hm]
      simp only [cond_true, Option.bind_some, h1', Zgy, Bool.not_false]
      have e2 : (pre ++ [s]).length = pre.length + 1 := by simp
      rw [Z69 (by omega), ← e2, h2', List.all_cons]
      cases Zev s <;> rfl
theorem named_ok {xs : List ByteArray} (hs : ∀ s ∈ xs, s.size < 9223372036854775808) (hlen : xs.length < 9223372036854775808) (a b : Int) (w : Bool) (m : Nat) : ∃ K, ∀ k, K ≤ k → Zbr k a b w xs (m : Int) = some (w || !((xs.length : Int) == (m : Int) && xs.all Zev)) := by
  obtain ⟨K, h⟩ := named_loop a b xs hs hlen xs [] rfl (w || !((xs.length : Int) == (m : Int)))
  refine ⟨K + 1, fun k hk => ?_⟩
  obtain ⟨j, rfl⟩ : ∃ j, k = j + 1 := ⟨k - 1, by omega⟩
  have h' : (Z1f j).ref02_Size_Named_l1 a b xs 0 (w || !((xs.length : Int) == (m : Int))) = some ((w || !((xs.length : Int) == (m : Int))) || !xs.all Zev) := h j (by omega)
  show Z8l j (Z1f j) a b w xs (m : Int) = _
  unfold Z8l
  rw [Zgy]
  simp only [Option.bind_some, h']
  cases w <;> cases ((xs.length : Int) == (m : Int)) <;> cases xs.all Zev <;> rfl
end Go.Proofs.YtkodnhngllfemaaGreatDoor
