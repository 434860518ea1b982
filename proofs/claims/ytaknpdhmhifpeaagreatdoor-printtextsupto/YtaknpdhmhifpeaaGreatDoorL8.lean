import Derived.Test.YtaknpdhmhifpeaaGreatDoorL1
import Derived.Lib.Join
import Derived.Lib.SplitLaws
import Derived.Lib.CountLaws
import Derived.Lib.IndexBytes
set_option linter.unusedVariables false
set_option linter.unusedSimpArgs false
namespace Go.Proofs.YtaknpdhmhifpeaaGreatDoor
open Go

/-! ### 64. On one line -/
def bB (l : List UInt8) : ByteArray := ⟨l.toArray⟩
theorem bB_data (l : List UInt8) : (bB l).data.toList = l := rfl
theorem Z01 (l : List UInt8) : (bB l).size = l.length := rfl
theorem bB_of (b : ByteArray) : bB b.data.toList = b := Z9u rfl
theorem bB_app (l m : List UInt8) : bB l ++ bB m = bB (l ++ m) := Z9u (by rw [Z0l]; rfl)
def Z4r : List UInt8 → List (List UInt8)
  | [] => [[]]
  | c :: l => if c = 10 then [] :: Z4r l else (c :: (Z4r l).headD []) :: (Z4r l).tail
theorem linesOf_ne (l : List UInt8) : ∃ h r, Z4r l = h :: r := by
  cases l with
  | nil => exact ⟨_, _, rfl⟩
  | cons c l => rw [Z4r]; split <;> exact ⟨_, _, rfl⟩
theorem linesOf_no : ∀ {l : List UInt8}, 10 ∉ l → Z4r l = [l]
  | [], _ => rfl
  | c :: l, h => by
    have h1 : c ≠ 10 := fun e => h (by simp [e])
    rw [Z4r, if_neg h1, linesOf_no (l := l) (fun e => h (by simp [e]))]; rfl
theorem linesOf_at : ∀ {a r : List UInt8}, 10 ∉ a → Z4r (a ++ 10 :: r) = a :: Z4r r
  | [], r, _ => by rw [List.nil_append, Z4r, if_pos rfl]
  | c :: a, r, h => by
    have h1 : c ≠ 10 := fun e => h (by simp [e])
    rw [List.cons_append, Z4r, if_neg h1, linesOf_at (a := a) (fun e => h (by simp [e]))]; rfl
theorem idx_no : ∀ {l : List UInt8}, 10 ∉ l → Lib.indexByte l 10 = -1
  | [], _ => rfl
  | c :: l, h => by
    have h1 : (c == 10) = false := by
      rw [← Bool.not_eq_true, beq_iff_eq]; intro e; exact h (by simp [e])
    rw [Lib.indexByte, h1, idx_no (l := l) (fun e => h (by simp [e]))]; rfl
theorem idx_at : ∀ {a r : List UInt8}, 10 ∉ a → Lib.indexByte (a ++ 10 :: r) 10 = (a.length : Int)
  | [], r, _ => by simp [Lib.indexByte]
  | c :: a, r, h => by
    have h1 : (c == 10) = false := by
      rw [← Bool.not_eq_true, beq_iff_eq]; intro e; exact h (by simp [e])
    rw [List.cons_append, Lib.indexByte, h1, idx_at (a := a) (fun e => h (by simp [e]))]
    have h2 : ((a.length : Int) == -1) = false := Zbp (by omega)
    rw [h2]; simp
theorem split10 : ∀ (l : List UInt8), 10 ∉ l ∨ ∃ a r, l = a ++ 10 :: r ∧ 10 ∉ a
  | [] => .inl (by simp)
  | c :: l => by
    by_cases h : c = 10
    · subst h; exact .inr ⟨[], l, rfl, by simp⟩
    · rcases split10 l with h1 | ⟨a, r, rfl, h2⟩
      · exact .inl (by simp [h1]; exact fun e => h e.symm)
      · exact .inr ⟨c :: a, r, rfl, by simp [h2]; exact fun e => h e.symm⟩
theorem indexB10 (l : List UInt8) : Lib.indexB (bB l) (bB [10]) = Lib.indexByte l 10 := Lib.index_one l 10
theorem split_lines : ∀ (n : Nat) (l : List UInt8), l.length ≤ n → (Lib.splitB (bB [10]) 0 (Lib.countB (bB l) (bB [10])) (bB l)).map (·.data.toList) = Z4r l
  | n, l, hl => by
    rcases split10 l with h | ⟨a, r, rfl, ha⟩
    · have hm : Lib.indexB (bB l) (bB [10]) = -1 := by rw [indexB10, idx_no h]
      rw [Lib.splitB_miss _ _ _ _ hm, linesOf_no h]; rfl
    · have hm : Lib.indexB (bB (a ++ 10 :: r)) (bB [10]) = (a.length : Int) := by rw [indexB10, idx_at ha]
      have hx : (bB (a ++ 10 :: r)).extract (a.length + (bB [10]).size) (bB (a ++ 10 :: r)).size = bB r := by
        apply Z9u
        rw [Lib.extract_data]
        have e1 : (bB [10]).size = 1 := rfl
        rw [e1, bB_data, Z01]
        simp
        exact List.take_of_length_le (by omega)
      have hy : (bB (a ++ 10 :: r)).extract 0 (a.length + 0) = bB a := by
        apply Z9u
        rw [Lib.extract_data]
        simp [bB_data]
      rw [Lib.countB_hit _ _ a.length (by decide) hm, hx, Nat.add_comm 1, Lib.splitB_hit _ _ _ _ a.length hm, hx, hy, linesOf_at ha, List.map_cons]
      match n, hl with
      | 0, hl => simp at hl
      | n + 1, hl => rw [split_lines n r (by simp at hl; omega)]; rfl
def dw (l : List UInt8) : List UInt8 := l.dropWhile (· == 32)
def restF (r : List (List UInt8)) : List UInt8 := (r.map fun y => 32 :: dw y).flatten
/-- what the reference makes: 'true': behind a line feed -/
def jn : Bool → List UInt8 → List UInt8
  | _, [] => []
  | false, c :: r => if c = 10 then jn true r else c :: jn false r
  | true, c :: r => if c = 32 then jn true r else 32 :: (if c = 10 then jn true r else c :: jn false r)
theorem jn_true {c : UInt8} {r : List UInt8} (h : c ≠ 32) : jn true (c :: r) = 32 :: jn false (c :: r) := by
  show (if c = 32 then jn true r else 32 :: (if c = 10 then jn true r else c :: jn false r)) = 32 :: (if c = 10 then jn true r else c :: jn false r)
  rw [if_neg h]
theorem jn_lines : ∀ x : List UInt8, jn false (x ++ [10]) = (Z4r x).headD [] ++ restF (Z4r x).tail ∧ jn true (x ++ [10]) = 32 :: (dw ((Z4r x).headD []) ++ restF (Z4r x).tail)
  | [] => ⟨rfl, rfl⟩
  | c :: l => by
    obtain ⟨i1, i2⟩ := jn_lines l
    obtain ⟨h, r, e⟩ := linesOf_ne l
    rw [e] at i1 i2
    simp only [List.headD_cons, List.tail_cons] at i1 i2
    by_cases h10 : c = 10
    · subst h10
      have e1 : jn false (10 :: (l ++ [10])) = [] ++ restF (h :: r) := by
        rw [jn, if_pos rfl, i2]; simp [restF]
      refine ⟨?_, ?_⟩
      · rw [List.cons_append, e1, Z4r, if_pos rfl, e]; rfl
      · rw [List.cons_append, jn_true (by decide), e1, Z4r, if_pos rfl, e]; rfl
    · have e1 : jn false (c :: (l ++ [10])) = (c :: h) ++ restF r := by
        rw [jn, if_neg h10, i1]; rfl
      refine ⟨?_, ?_⟩
      · rw [List.cons_append, e1, Z4r, if_neg h10, e]; rfl
      · rw [Z4r, if_neg h10, e]
        simp only [List.headD_cons, List.tail_cons, List.cons_append]
        by_cases h32 : c = 32
        · subst h32
          rw [jn, if_pos rfl, i2]
          simp [dw]
        · rw [jn_true h32, e1]
          have : (c == 32) = false := by rw [← Bool.not_eq_true, beq_iff_eq]; exact h32
          simp [dw, this]
theorem joinTail_restF : ∀ r : List (List UInt8), Lib.joinTail [32] (r.map dw) = restF r
  | [] => rfl
  | y :: r => by
    have := joinTail_restF r
    simp only [Lib.joinTail, List.map_cons, List.flatten_cons, restF] at this ⊢
    rw [this]; rfl
/-! the program's line -/
theorem tl_ok (k : Nat) (s : ByteArray) : Zaa k s = some (bB (dw s.data.toList)) := by
  unfold Zaa Z8r trimL
  rfl
theorem jstr_loop (xs : List ByteArray) (hlen : xs.length < 100000000) (hj : (Lib.join (xs.map fun s => dw s.data.toList) [32]).length ≤ 100000000) : ∀ (rest pre : List ByteArray), xs = pre ++ rest →
    Ev (fun k => (Z0o k).print_Joined_string_l1 xs ⟨#[32]⟩ (pre.map fun s => bB (dw s.data.toList)) (pre.length : Int)) (bB (Lib.join (xs.map fun s => dw s.data.toList) [32]))
  | [], pre, h => by
    refine Ev.succ (Ev.now fun k => ?_)
    show Z30 k _ xs _ _ _ = _
    unfold Z30 Z4h
    have h' : xs = pre := by simpa using h
    subst h'
    rw [Z90 (by omega)]
    have e : (⟨#[32]⟩ : ByteArray).data.toList = [32] := rfl
    have e2 : (xs.map fun s => bB (dw s.data.toList)).map (·.data.toList) = xs.map fun s => dw s.data.toList := by rw [List.map_map]; rfl
    simp only [cond_false, e, e2]
    rw [if_pos ⟨by rw [List.length_map]; omega, by omega⟩]
    rfl
  | x :: rest, pre, h => by
    have hl : xs.length = pre.length + 1 + rest.length := by rw [h]; simp; omega
    have hm : at? xs (pre.length : Int) = some x := by rw [h]; exact Z8y _ _ _
    obtain ⟨K, hn⟩ := jstr_loop xs hlen hj rest (pre ++ [x]) (by rw [h]; simp)
    refine Ev.succ ⟨K, fun k hk => ?_⟩
    have hn' := hn k hk
    simp only [List.map_append, List.map_cons, List.map_nil] at hn'
    show Z30 k _ xs _ _ _ = _
    unfold Z30 Z80
    rw [Z6r (by omega), hm]
    simp only [cond_true, Option.bind_some, tl_ok]
    have e2 : (pre ++ [x]).length = pre.length + 1 := by simp
    rw [if_pos (by simp; omega), Z27 (by omega), ← e2]
    exact hn'
theorem line_ok {x : List UInt8} (hx : x.length < 90000000) : Ev (fun k => Z7x k (bB (x ++ [10]))) (bB (dw ((Z4r x).headD []) ++ restF (Z4r x).tail)) := by
  have e1 : ∀ k, Z5k k (bB (x ++ [10])) ⟨#[10]⟩ = some (bB x) := by
    intro k
    unfold Z5k
    rw [if_pos (by rw [Z01, List.length_append, List.length_singleton]; omega)]
    have : Lib.trimSuffix (bB (x ++ [10])).data.toList (⟨#[10]⟩ : ByteArray).data.toList = x := by
      rw [bB_data]
      show Lib.trimSuffix (x ++ [10]) [10] = x
      unfold Lib.trimSuffix Lib.hasSuffix
      rw [if_pos (by rw [List.isSuffixOf_iff_suffix]; exact List.suffix_append _ _)]
      simp
    rw [this]; rfl
  have e2 : ∀ k, Z93 k (bB x) ⟨#[10]⟩ = some (Lib.splitB (bB [10]) 0 (Lib.countB (bB x) (bB [10])) (bB x)) := by
    intro k
    unfold Z93
    rw [if_pos ⟨by rw [Z01]; omega, by decide⟩]; rfl
  have hs := split_lines x.length x (Nat.le_refl _)
  generalize Lib.splitB (bB [10]) 0 (Lib.countB (bB x) (bB [10])) (bB x) = ts at e2 hs
  have hm : (ts.map fun s => dw s.data.toList) = (Z4r x).map dw := by rw [← hs, List.map_map]; rfl
  obtain ⟨h, r, e⟩ := linesOf_ne x
  have hjoin : Lib.join (ts.map fun s => dw s.data.toList) [32] = dw ((Z4r x).headD []) ++ restF (Z4r x).tail := by
    rw [hm, e, List.map_cons, Lib.join_cons, joinTail_restF]; rfl
  have sz : ∀ l : List UInt8, (Z4r l).length ≤ l.length + 1 ∧ ((Z4r l).map fun y => y.length + 1).sum = l.length + 1 := by
    intro l
    induction l with
    | nil => exact ⟨Nat.le_refl _, rfl⟩
    | cons c l ih =>
      obtain ⟨h, r, e⟩ := linesOf_ne l
      rw [e] at ih
      rw [Z4r]
      split
      · rw [e]; simp at ih ⊢; omega
      · rw [e]; simp at ih ⊢; omega
  have hlen : ts.length < 100000000 := by
    have h1 : ts.length = (Z4r x).length := by rw [← hs, List.length_map]
    have := (sz x).1
    omega
  have hdw : ∀ l : List UInt8, (dw l).length ≤ l.length := fun l => (List.dropWhile_suffix _).length_le
  have hjl : (Lib.join (ts.map fun s => dw s.data.toList) [32]).length ≤ 100000000 := by
    have hF : ∀ r : List (List UInt8), (restF r).length ≤ (r.map fun y => y.length + 1).sum := by
      intro r
      induction r with
      | nil => exact Nat.le_refl _
      | cons y r ih => have := hdw y; simp [restF] at ih ⊢; omega
    rw [hjoin, List.length_append]
    have h1 := hF (Z4r x).tail
    have h2 := hdw ((Z4r x).headD [])
    have h3 := (sz x).2
    rw [e] at h1 h2 h3 ⊢
    simp at h1 h2 h3 ⊢
    omega
  obtain ⟨K, hK⟩ := jstr_loop ts hlen hjl ts [] rfl
  refine ⟨K + 1, fun k hk => ?_⟩
  obtain ⟨j, rfl⟩ : ∃ j, k = j + 1 := ⟨k - 1, by omega⟩
  have hK' := hK j (by omega)
  rw [hjoin] at hK'
  show Z7x (j + 1) _ = _
  unfold Z7x
  rw [e1]
  simp only [Option.bind_some, e2]
  have e4 : Z8x (j + 1) ts ⟨#[32]⟩ = (Z0o j).print_Joined_string_l1 ts ⟨#[32]⟩ [] 0 := rfl
  rw [e4]
  simp only [List.map_nil, List.length_nil] at hK'
  have hK2 : (Z0o j).print_Joined_string_l1 ts ⟨#[32]⟩ [] 0 = _ := hK'
  rw [hK2]; rfl
/-! the reference's line -/
theorem byte_of (c : UInt8) : byte? ((c.toNat : Nat) : Int) = some c := by
  rw [byte?_of (by omega) (by have := c.toNat_lt; omega)]
  simp
theorem joined_ref (s : ByteArray) (hs : s.size < 100000000) : ∀ (rest pre : List UInt8), s.data.toList = pre ++ rest →
    (∀ out : List UInt8, out.length + 2 * rest.length < 900000000 → Ev (fun k => (Z0s k).ref03_Joined_l1 s out (pre.length : Int)) (bB (out ++ jn false rest))) ∧
    (∀ out : List UInt8, pre ≠ [] → out.length + 2 * rest.length + 1 < 900000000 → Ev (fun k => (Z0s k).ref03_Joined_l4 s out ((pre.length : Int) - 1)) (bB (out ++ jn true rest)))
  | [], pre, h => by
    have hl : s.size = pre.length := by rw [Z20, h]; simp
    have g1 : ∀ out : List UInt8, Ev (fun k => (Z0s k).ref03_Joined_l1 s out (pre.length : Int)) (bB (out ++ jn false [])) := by
      intro out
      refine Ev.succ (Ev.now fun k => ?_)
      show Z3x k _ s out _ = _
      unfold Z3x
      rw [Z90 (by omega)]
      have : out ++ jn false [] = out := by simp [jn]
      rw [this]; rfl
    refine ⟨fun out _ => g1 out, fun out hpre _ => ?_⟩
    have hp0 : 0 < pre.length := List.length_pos_iff.2 hpre
    refine Ev.succ (Ev.of_eq (g1 out) fun k => ?_)
    show Z40 k _ s out _ = _
    unfold Z40 Z7g Z60
    have w1 : IntKind.i64.wrap ((pre.length : Int) - 1 + 1) = (pre.length : Int) := by rw [Z85 (by omega) (by omega)]; omega
    rw [w1, Z90 (by omega)]; rfl
  | c :: rest, pre, h => by
    have hl : s.size = pre.length + 1 + rest.length := by rw [Z20, h]; simp; omega
    have hc := atS_mid h
    have e2 : (pre ++ [c]).length = pre.length + 1 := by simp
    obtain ⟨i1, i2⟩ := joined_ref s hs rest (pre ++ [c]) (by rw [h]; simp)
    have ws : IntKind.i64.wrap ((pre.length : Int) + 1) = (((pre ++ [c]).length : Nat) : Int) := by rw [Z27 (by omega), e2]
    have g1 : ∀ out : List UInt8, out.length + 2 * (c :: rest).length < 900000000 → Ev (fun k => (Z0s k).ref03_Joined_l1 s out (pre.length : Int)) (bB (out ++ jn false (c :: rest))) := by
      intro out ho
      simp only [List.length_cons] at ho
      by_cases h10 : c = 10
      · subst h10
        have hn := i2 out (by simp) (by omega)
        rw [e2] at hn
        have e3 : (((pre.length + 1 : Nat) : Int) - 1) = (pre.length : Int) := by omega
        rw [e3] at hn
        rw [jn, if_pos rfl]
        refine Ev.succ (Ev.of_eq hn fun k => ?_)
        show Z3x k _ s out _ = _
        unfold Z3x Zbg Zdm
        rw [Z6r (by omega), hc]; rfl
      · have hn := i1 (out ++ [c]) (by simp; omega)
        rw [jn, if_neg h10]
        have e3 : out ++ [c] ++ jn false rest = out ++ c :: jn false rest := by simp
        rw [e3] at hn
        refine Ev.succ (Ev.of_eq hn fun k => ?_)
        show Z3x k _ s out _ = _
        unfold Z3x Zbg Z60
        have hne : ((c.toNat : Int) != 10) = true := by
          rw [bne, Bool.not_eq_true', ← Bool.not_eq_true, beq_iff_eq]
          intro e
          exact h10 (UInt8.toNat_inj.1 (by have : c.toNat = 10 := by omega
                                           rw [this]; rfl))
        rw [Z6r (by omega), hc]
        simp only [cond_true, Option.bind_some, hne, byte_of]
        rw [if_pos (by simp; omega), ws]
    refine ⟨g1, fun out hpre ho => ?_⟩
    have hp0 : 0 < pre.length := List.length_pos_iff.2 hpre
    simp only [List.length_cons] at ho
    have w1 : IntKind.i64.wrap ((pre.length : Int) - 1 + 1) = (pre.length : Int) := by rw [Z85 (by omega) (by omega)]; omega
    by_cases h32 : c = 32
    · subst h32
      have hn := i2 out (by simp) (by omega)
      rw [e2] at hn
      have e3 : (((pre.length + 1 : Nat) : Int) - 1) = (pre.length : Int) := by omega
      rw [e3] at hn
      rw [jn, if_pos rfl]
      refine Ev.succ (Ev.of_eq hn fun k => ?_)
      show Z40 k _ s out _ = _
      unfold Z40 Z7g Zdr
      rw [w1, Z6r (by omega), hc]; rfl
    · have hn := g1 (out ++ [32]) (by simp; omega)
      have e3 : out ++ [32] ++ jn false (c :: rest) = out ++ jn true (c :: rest) := by rw [jn_true h32]; simp
      rw [e3] at hn
      refine Ev.succ (Ev.of_eq hn fun k => ?_)
      show Z40 k _ s out _ = _
      unfold Z40 Z7g Z60
      have hne : ((c.toNat : Int) == 32) = false := by
        rw [← Bool.not_eq_true, beq_iff_eq]
        intro e
        exact h32 (UInt8.toNat_inj.1 (by have : c.toNat = 32 := by omega
                                         rw [this]; rfl))
      rw [w1, Z6r (by omega), hc]
      have b32 : byte? 32 = some 32 := rfl
      simp only [cond_true, cond_false, Option.bind_some, hne, b32]
      rw [if_pos (by simp; omega)]
theorem joined_ok {s : ByteArray} (hs : s.size < 100000000) : Ev (fun k => Zet k s) (bB (jn false s.data.toList)) := by
  have h := (joined_ref s hs s.data.toList [] rfl).1 [] (by have := Z20 s; simp at this ⊢; omega)
  exact Ev.succ h
end Go.Proofs.YtaknpdhmhifpeaaGreatDoor
