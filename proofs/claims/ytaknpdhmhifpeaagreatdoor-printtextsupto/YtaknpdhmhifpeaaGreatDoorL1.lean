import Derived.Test.YtaknpdhmhifpeaaGreatDoorL0
set_option linter.unusedVariables false
set_option linter.unusedSimpArgs false
namespace Go.Proofs.YtaknpdhmhifpeaaGreatDoor
open Go

/-! ### 32. From some fuel on -/
def Ev {α : Type} (f : Nat → Option α) (r : α) : Prop := ∃ K, ∀ k, K ≤ k → f k = some r
theorem Ev.now {α : Type} {f : Nat → Option α} {r : α} (h : ∀ k, f k = some r) : Ev f r := ⟨0, fun k _ => h k⟩
theorem Ev.bind {α β : Type} {f : Nat → Option α} {g : Nat → α → Option β} {a : α} {b : β} (h1 : Ev f a) (h2 : Ev (fun k => g k a) b) : Ev (fun k => (f k).bind (g k)) b := by
  obtain ⟨K1, h1⟩ := h1
  obtain ⟨K2, h2⟩ := h2
  refine ⟨max K1 K2, fun k hk => ?_⟩
  show (f k).bind (g k) = some b
  rw [h1 k (by omega)]
  exact h2 k (by omega)
theorem Ev.succ {α : Type} {f : Nat → Option α} {r : α} (h : Ev (fun k => f (k + 1)) r) : Ev f r := by
  obtain ⟨K, h⟩ := h
  refine ⟨K + 1, fun k hk => ?_⟩
  obtain ⟨j, rfl⟩ : ∃ j, k = j + 1 := ⟨k - 1, by omega⟩
  exact h j (by omega)
theorem Ev.of_eq {α : Type} {f g : Nat → Option α} {r : α} (h : Ev f r) (e : ∀ k, g k = f k) : Ev g r := by
  obtain ⟨K, h⟩ := h
  exact ⟨K, fun k hk => (e k).trans (h k hk)⟩
theorem Ev.val {α : Type} {f : Nat → Option α} {r r' : α} (h : Ev f r) (e : r = r') : Ev f r' := e ▸ h
theorem Ev.det {α : Type} {f : Nat → Option α} {r r' : α} (h : Ev f r) (h' : Ev f r') : r = r' := by
  obtain ⟨K, h⟩ := h
  obtain ⟨K', h'⟩ := h'
  exact Option.some.inj ((h (max K K') (by omega)).symm.trans (h' (max K K') (by omega)))
theorem Z8y {α : Type} (pre : List α) (x : α) (rest : List α) : at? (pre ++ x :: rest) (pre.length : Int) = some x := by
  unfold at?
  rw [if_pos (Int.natCast_nonneg _)]
  simp
theorem at_of {α : Type} {xs : List α} {i : Nat} {x : α} (h : xs[i]? = some x) : at? xs (i : Int) = some x := by
  unfold at?
  rw [if_pos (Int.natCast_nonneg _)]
  simpa using h
theorem atS_mid {s : ByteArray} {pre : List UInt8} {c : UInt8} {rest : List UInt8} (h : s.data.toList = pre ++ c :: rest) : atS? s (pre.length : Int) = some (c.toNat : Int) := by
  have hl : s.size = pre.length + 1 + rest.length := by rw [Z20, h]; simp; omega
  unfold atS?
  rw [dif_pos ⟨Int.natCast_nonneg _, by simp; omega⟩]
  have hg : s.data.toList[pre.length]? = some c := by rw [h]; simp
  have e : (s[(pre.length : Int).toNat]'(by simp; omega)) = c := by
    have h1 : s.data.toList[pre.length]'(by rw [← Z20]; omega) = c := (List.getElem_eq_iff _).2 hg
    have h2 : s.data[pre.length]'(by have h5 : s.data.size = s.size := rfl; omega) = c := by simpa using h1
    simp only [Int.toNat_natCast]
    exact h2
  rw [e]
theorem Z27 {n : Nat} (h : n + 1 < 9223372036854775808) : IntKind.i64.wrap ((n : Int) + 1) = ((n + 1 : Nat) : Int) := by
  rw [Z85 (by omega) (by omega)]; rfl
theorem bEq_comm (a b : ByteArray) : bEq a b = bEq b a := by
  rw [Bool.eq_iff_iff, bEq_iff, bEq_iff]; exact eq_comm
theorem bEq_f {a b : ByteArray} (h : a ≠ b) : bEq a b = false := by rw [← Bool.not_eq_true, bEq_iff]; exact h
theorem ne_nil_iff (s : ByteArray) : (!bEq s ⟨#[]⟩) = !s.data.toList.isEmpty := by
  congr 1
  rw [Bool.eq_iff_iff, bEq_iff]
  constructor
  · rintro rfl; rfl
  · intro h; exact Z9u (by simpa using h)
theorem eq_nil_iff (s : ByteArray) : bEq s ⟨#[]⟩ = s.data.toList.isEmpty := by
  have := ne_nil_iff s
  simpa using congrArg (!·) this

/-! ### 33. Names -/
def isL (c : UInt8) : Bool := decide (97 ≤ c.toNat) && decide (c.toNat ≤ 122)
def isD (c : UInt8) : Bool := decide (48 ≤ c.toNat) && decide (c.toNat ≤ 57)
def isP (c : UInt8) : Bool := isL c || isD c || (c.toNat == 95)
def runB : List UInt8 → Bool
  | [] => false
  | c :: l => isL c && l.all isP
def words : List ByteArray := (Zd7 0).getD []
def wordB (s : ByteArray) : Bool := words.any (fun w => bEq w s)
def Zan (s : ByteArray) : Bool := runB s.data.toList && decide (s.size ≤ 12) && !wordB s
theorem Za7 {s : ByteArray} (h : Zan s = true) : s.size ≤ 12 := by
  unfold Zan at h; simp at h; exact h.1.2
theorem lex_letter (k : Nat) (c : UInt8) : Z6g k (c.toNat : Int) = some (isL c) := by
  unfold Z6g isL
  by_cases h : 97 ≤ c.toNat
  · have h' : (97 : Int) ≤ (c.toNat : Int) := by omega
    rw [Z6r h', Z6r h]; simp only [cond_true, Bool.true_and]; congr 1
    exact decide_eq_decide.2 (by omega)
  · have h' : ¬ (97 : Int) ≤ (c.toNat : Int) := by omega
    rw [Z90 h', Z90 h]; rfl
theorem lex_digit (k : Nat) (c : UInt8) : Z96 k (c.toNat : Int) = some (isD c) := by
  unfold Z96 isD
  by_cases h : 48 ≤ c.toNat
  · have h' : (48 : Int) ≤ (c.toNat : Int) := by omega
    rw [Z6r h', Z6r h]; simp only [cond_true, Bool.true_and]; congr 1
    exact decide_eq_decide.2 (by omega)
  · have h' : ¬ (48 : Int) ≤ (c.toNat : Int) := by omega
    rw [Z90 h', Z90 h]; rfl
theorem nat_beq (a b : Nat) : ((a : Int) == (b : Int)) = (a == b) := by
  rw [Bool.eq_iff_iff]; simp only [beq_iff_eq]; omega
theorem lex_part (k : Nat) (c : UInt8) : Za6 k (c.toNat : Int) = some (isP c) := by
  unfold Za6 isP
  rw [lex_letter, lex_digit]
  have := nat_beq c.toNat 95
  cases isL c <;> cases isD c <;> simp <;> exact this
theorem ref_letter (k : Nat) (c : UInt8) : Zcg k (c.toNat : Int) = some (isL c) := lex_letter k c
theorem ref_digit (k : Nat) (c : UInt8) : Zd8 k (c.toNat : Int) = some (isD c) := lex_digit k c
theorem isP_of_isL {c : UInt8} (h : isL c = true) : isP c = true := by unfold isP; rw [h]; rfl
theorem isRun_loop (s : ByteArray) (hs : s.size < 9223372036854775808) : ∀ (rest pre : List UInt8), s.data.toList = pre ++ rest →
    Ev (fun k => (Z2j k).lexis_isRun_l1 s (pre.length : Int)) (rest.all isP && (match s.data.toList with | [] => false | c :: _ => isL c))
  | [], pre, h => by
    refine Ev.succ (Ev.now fun k => ?_)
    show Z6h k _ s _ = _
    unfold Z6h
    have hl : s.size = pre.length := by rw [Z20, h]; simp
    rw [Z90 (by omega), ne_nil_iff]
    cases hd : s.data.toList with
    | nil => rfl
    | cons c l =>
      have := atS_mid (s := s) (pre := []) hd
      simp only [List.length_nil, Int.ofNat_zero] at this
      simp [this, lex_letter]
  | c :: rest, pre, h => by
    have hl : s.size = pre.length + 1 + rest.length := by rw [Z20, h]; simp; omega
    have hc := atS_mid h
    have hn := isRun_loop s hs rest (pre ++ [c]) (by rw [h]; simp)
    refine Ev.succ (Ev.of_eq (f := fun k => bif isP c then (Z2j k).lexis_isRun_l1 s ((pre ++ [c]).length : Int) else some false) ?_ fun k => ?_)
    · cases hp : isP c with
      | true => simpa [hp] using hn
      | false => simpa [hp] using Ev.now fun _ => rfl
    · show Z6h k _ s _ = _
      unfold Z6h Zej
      rw [Z6r (by omega), hc]
      simp only [cond_true, Option.bind_some, lex_part]
      rw [Z27 (by omega), show (pre ++ [c]).length = pre.length + 1 by simp]
      cases isP c <;> rfl
theorem isRun_ok {s : ByteArray} (hs : s.size < 9223372036854775808) : Ev (fun k => F_lexis_isRun k s) (runB s.data.toList) := by
  refine Ev.val (Ev.succ (isRun_loop s hs s.data.toList [] rfl)) ?_
  cases s.data.toList with
  | nil => rfl
  | cons c l =>
    simp only [runB, List.all_cons]
    cases h : isL c with
    | true => rw [isP_of_isL h]; simp
    | false => simp
theorem isWord_chain {k : Nat} {b : Bool} {X : Option Bool} {r : Bool} (h : X = some r) : (bif b then Zd k b else X) = some (b || r) := by
  cases b
  · simpa using h
  · rfl
theorem isWord_last {k : Nat} {b : Bool} : Zd k b = some (b || false) := by cases b <;> rfl
set_option maxRecDepth 100000 in
theorem isWord_ok (k : Nat) (s : ByteArray) : Za8 k s = some (wordB s) := by
  have e : wordB s = words.any (fun w => bEq s w) := by
    unfold wordB; congr 1; funext w; exact bEq_comm _ _
  rw [e]
  unfold Za8
  repeat (first | exact isWord_last | refine isWord_chain ?_)
theorem lex_name {s : ByteArray} (hs : s.size < 9223372036854775808) : Ev (fun k => Z5t k s) (Zan s) := by
  refine Ev.bind (isRun_ok hs) (Ev.now fun k => ?_)
  unfold Zan
  rw [isWord_ok]
  cases runB s.data.toList with
  | false => rfl
  | true =>
    by_cases h : s.size ≤ 12
    · rw [Z6r h, Z6r (by omega)]; rfl
    · rw [Z90 h, Z90 (by omega)]; rfl
theorem has_loop (xs : List ByteArray) (s : ByteArray) (hs : xs.length < 9223372036854775808) : ∀ (rest pre : List ByteArray), xs = pre ++ rest →
    Ev (fun k => (Z37 k).ref01_has_l1 xs s (pre.length : Int)) (rest.any (fun w => bEq w s))
  | [], pre, h => by
    refine Ev.succ (Ev.now fun k => ?_)
    show Z8f k _ xs s _ = _
    unfold Z8f
    rw [Z90 (by rw [h]; simp)]; rfl
  | w :: rest, pre, h => by
    have hn := has_loop xs s hs rest (pre ++ [w]) (by rw [h]; simp)
    have hl : xs.length = pre.length + 1 + rest.length := by rw [h]; simp; omega
    refine Ev.succ (Ev.of_eq (f := fun k => bif bEq w s then some true else (Z37 k).ref01_has_l1 xs s ((pre ++ [w]).length : Int)) ?_ fun k => ?_)
    · cases hp : bEq w s with
      | true => simpa [hp] using Ev.now fun _ => rfl
      | false => simpa [hp] using hn
    · show Z8f k _ xs s _ = _
      unfold Z8f ref01_has_j2 ref01_has_j3
      have hm : at? xs (pre.length : Int) = some w := by rw [h]; exact Z8y _ _ _
      rw [Z6r (by omega), hm]
      simp only [cond_true, Option.bind_some]
      rw [Z27 (by omega), show (pre ++ [w]).length = pre.length + 1 by simp]
theorem ref_word (s : ByteArray) : Ev (fun k => Za0 k s) (wordB s) := by
  refine Ev.bind (a := words) (Ev.now fun k => rfl) (Ev.bind (a := wordB s) ?_ (Ev.now fun _ => rfl))
  exact Ev.succ (has_loop words s (by decide) words [] rfl)
theorem ref_name_loop (s : ByteArray) (hs : s.size < 9223372036854775808) : ∀ (rest pre : List UInt8), s.data.toList = pre ++ rest →
    Ev (fun k => (Z1k k).ref01_IsName_l1 s (pre.length : Int)) ((if pre = [] then runB rest else rest.all isP) && decide (s.size ≤ 12) && !wordB s)
  | [], pre, h => by
    obtain ⟨K, hw⟩ := ref_word s
    refine Ev.succ ⟨K, fun k hk => ?_⟩
    show Z5r k _ s _ = _
    unfold Z5r
    have hl : s.size = pre.length := by rw [Z20, h]; simp
    have hwk : Za0 k s = some (wordB s) := hw k hk
    rw [Z90 (by omega), hwk]
    by_cases hp : pre = []
    · subst hp
      have hl0 : s.size = 0 := hl
      rw [Z90 (by omega)]; rfl
    · have : 0 < pre.length := List.length_pos_iff.2 hp
      rw [if_neg hp, Z6r (by omega)]
      by_cases h2 : s.size ≤ 12
      · rw [Z6r h2, Z6r (by omega)]; rfl
      · rw [Z90 h2, Z90 (by omega)]; rfl
  | c :: rest, pre, h => by
    have hl : s.size = pre.length + 1 + rest.length := by rw [Z20, h]; simp; omega
    have hc := atS_mid h
    have hn := ref_name_loop s hs rest (pre ++ [c]) (by rw [h]; simp)
    rw [if_neg (by simp)] at hn
    have hz : ((pre.length : Int) == 0) = decide (pre = []) := by
      cases pre with
      | nil => rfl
      | cons a l => simp; omega
    have h95 := nat_beq c.toNat 95
    refine Ev.succ (Ev.of_eq (f := fun k => bif (bif decide (pre = []) then isL c else isP c) then (Z1k k).ref01_IsName_l1 s ((pre ++ [c]).length : Int) else some false) ?_ fun k => ?_)
    · by_cases hp : pre = []
      · rw [Z6r hp, if_pos hp]
        simp only [cond_true, runB]
        cases hq : isL c with
        | true => simpa [hq] using hn
        | false => simpa [hq] using Ev.now fun _ => rfl
      · rw [Z90 hp, if_neg hp]
        simp only [cond_false, List.all_cons]
        cases hq : isP c with
        | true => simpa [hq] using hn
        | false => simpa [hq] using Ev.now fun _ => rfl
    · show Z5r k _ s _ = _
      unfold Z5r Zds Z7h Zdt
      rw [Z6r (by omega), hc]
      simp only [cond_true, Option.bind_some, ref_letter, ref_digit, bne, hz]
      rw [Z27 (by omega), show (pre ++ [c]).length = pre.length + 1 by simp]
      have h95' : ((c.toNat : Int) == 95) = (c.toNat == 95) := h95
      rw [h95']
      unfold isP
      by_cases hp : pre = []
      · rw [Z6r hp]; cases isL c <;> rfl
      · rw [Z90 hp]; cases isL c <;> cases isD c <;> cases (c.toNat == 95) <;> rfl
theorem ref_name {s : ByteArray} (hs : s.size < 9223372036854775808) : Ev (fun k => Z57 k s) (Zan s) :=
  Ev.succ (ref_name_loop s hs s.data.toList [] rfl)
end Go.Proofs.YtaknpdhmhifpeaaGreatDoor
