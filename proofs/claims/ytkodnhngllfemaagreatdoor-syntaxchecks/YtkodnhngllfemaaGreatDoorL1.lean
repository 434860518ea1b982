import Derived.Test.YtkodnhngllfemaaGreatDoorL0
set_option linter.unusedVariables false
set_option linter.unusedSimpArgs false
namespace Go.Proofs.YtkodnhngllfemaaGreatDoor
open Go
def Ev {α : Type} (f : Nat → Option α) (r : α) : Prop := ∃ K, ∀ k, K ≤ k → f k = some r
theorem Ev.now {α : Type} {f : Nat → Option α} {r : α} (h : ∀ k, f k = some r) : Ev f r := ⟨0, fun k _ => h k⟩
theorem Ev.bind {α β : Type} {f : Nat → Option α} {g : Nat → α → Option β} {a : α} {b : β} (h1 : Ev f a) (h2 : Ev (fun k => g k a) b) : Ev (fun k => (f k).bind (g k)) b := by
  obtain ⟨K1, h1⟩ := h1
  obtain ⟨K2, h2⟩ := h2
  refine ⟨max K1 K2, fun k hk => ?_⟩
  show (f k).bind (g k) = some b
  rw [h1 k (by omega)]
  exact h2 k (by omega)
theorem Ev.succ {α : Type} {f : Nat → Option α} {r : α} (h : Ev (fun k => f (k + 1)) r) : Ev f r := by
  obtain ⟨K, h⟩ := h
  refine ⟨K + 1, fun k hk => ?_⟩
  obtain ⟨j, rfl⟩ : ∃ j, k = j + 1 := ⟨k - 1, by omega⟩
  exact h j (by omega)
theorem Ev.of_eq {α : Type} {f g : Nat → Option α} {r : α} (h : Ev f r) (e : ∀ k, g k = f k) : Ev g r := by
  obtain ⟨K, h⟩ := h
  exact ⟨K, fun k hk => (e k).trans (h k hk)⟩
theorem Ev.val {α : Type} {f : Nat → Option α} {r r' : α} (h : Ev f r) (e : r = r') : Ev f r' := e ▸ h
theorem at_mid {α : Type} (pre : List α) (x : α) (rest : List α) : at? (pre ++ x :: rest) (pre.length : Int) = some x := by
  unfold at?
  rw [if_pos (Int.natCast_nonneg _)]
  simp
theorem atS_mid {s : ByteArray} {pre : List UInt8} {c : UInt8} {rest : List UInt8} (h : s.data.toList = pre ++ c :: rest) : atS? s (pre.length : Int) = some (c.toNat : Int) := by
  have hl : s.size = pre.length + 1 + rest.length := by rw [ba_size, h]; simp; omega
  unfold atS?
  rw [dif_pos ⟨Int.natCast_nonneg _, by simp; omega⟩]
  have hg : s.data.toList[pre.length]? = some c := by rw [h]; simp
  have e : (s[(pre.length : Int).toNat]'(by simp; omega)) = c := by
    have h1 : s.data.toList[pre.length]'(by rw [← ba_size]; omega) = c := (List.getElem_eq_iff _).2 hg
    have h2 : s.data[pre.length]'(by have h5 : s.data.size = s.size := rfl; omega) = c := by simpa using h1
    simp only [Int.toNat_natCast]
    exact h2
  rw [e]
theorem Z69 {n : Nat} (h : n + 1 < 9223372036854775808) : IntKind.i64.wrap ((n : Int) + 1) = ((n + 1 : Nat) : Int) := by
  rw [Zaz (by omega) (by omega)]; rfl
theorem bEq_comm (a b : ByteArray) : bEq a b = bEq b a := by
  rw [Bool.eq_iff_iff, bEq_iff, bEq_iff]; exact eq_comm
theorem ne_nil_iff (s : ByteArray) : (!bEq s ⟨#[]⟩) = !s.data.toList.isEmpty := by
  congr 1
  rw [Bool.eq_iff_iff, bEq_iff]
  constructor
  · rintro rfl; rfl
  · intro h; exact ba_ext (by simpa using h)
def isL (c : UInt8) : Bool := decide (97 ≤ c.toNat) && decide (c.toNat ≤ 122)
def isD (c : UInt8) : Bool := decide (48 ≤ c.toNat) && decide (c.toNat ≤ 57)
def isP (c : UInt8) : Bool := isL c || isD c || (c.toNat == 95)
def runB : List UInt8 → Bool
  | [] => false
  | c :: l => isL c && l.all isP
def words : List ByteArray := (Zf4 0).getD []
def wordB (s : ByteArray) : Bool := words.any (fun w => bEq w s)
def Zev (s : ByteArray) : Bool := runB s.data.toList && decide (s.size ≤ 12) && !wordB s
theorem lex_letter (k : Nat) (c : UInt8) : Z4c k (c.toNat : Int) = some (isL c) := by
  unfold Z4c isL
  by_cases h : 97 ≤ c.toNat
  · have h' : (97 : Int) ≤ (c.toNat : Int) := by omega
    rw [Zew h', Zew h]; simp only [cond_true, Bool.true_and]; congr 1
    exact decide_eq_decide.2 (by omega)
  · have h' : ¬ (97 : Int) ≤ (c.toNat : Int) := by omega
    rw [dec_f h', dec_f h]; rfl
theorem lex_digit (k : Nat) (c : UInt8) : Z58 k (c.toNat : Int) = some (isD c) := by
  unfold Z58 isD
  by_cases h : 48 ≤ c.toNat
  · have h' : (48 : Int) ≤ (c.toNat : Int) := by omega
    rw [Zew h', Zew h]; simp only [cond_true, Bool.true_and]; congr 1
    exact decide_eq_decide.2 (by omega)
  · have h' : ¬ (48 : Int) ≤ (c.toNat : Int) := by omega
    rw [dec_f h', dec_f h]; rfl
theorem nat_beq (a b : Nat) : ((a : Int) == (b : Int)) = (a == b) := by
  rw [Bool.eq_iff_iff]; simp only [beq_iff_eq]; omega
theorem lex_part (k : Nat) (c : UInt8) : Z8r k (c.toNat : Int) = some (isP c) := by
  unfold Z8r isP
  rw [lex_letter, lex_digit]
  have := nat_beq c.toNat 95
  cases isL c <;> cases isD c <;> simp <;> exact this
theorem ref_letter (k : Nat) (c : UInt8) : Zda k (c.toNat : Int) = some (isL c) := lex_letter k c
theorem ref_digit (k : Nat) (c : UInt8) : Zeg k (c.toNat : Int) = some (isD c) := lex_digit k c
theorem isP_of_isL {c : UInt8} (h : isL c = true) : isP c = true := by unfold isP; rw [h]; rfl
theorem isRun_loop (s : ByteArray) (hs : s.size < 9223372036854775808) : ∀ (rest pre : List UInt8), s.data.toList = pre ++ rest →
    Ev (fun k => (Z3m k).lexis_isRun_l1 s (pre.length : Int)) (rest.all isP && (match s.data.toList with | [] => false | c :: _ => isL c))
  | [], pre, h => by
    refine Ev.succ (Ev.now fun k => ?_)
    show Z8a k _ s _ = _
    unfold Z8a
    have hl : s.size = pre.length := by rw [ba_size, h]; simp
    rw [dec_f (by omega), ne_nil_iff]
    cases hd : s.data.toList with
    | nil => rfl
    | cons c l =>
      have := atS_mid (s := s) (pre := []) hd
      simp only [List.length_nil, Int.ofNat_zero] at this
      simp [this, lex_letter]
  | c :: rest, pre, h => by
    have hl : s.size = pre.length + 1 + rest.length := by rw [ba_size, h]; simp; omega
    have hc := atS_mid h
    have hn := isRun_loop s hs rest (pre ++ [c]) (by rw [h]; simp)
    refine Ev.succ (Ev.of_eq (f := fun k => bif isP c then (Z3m k).lexis_isRun_l1 s ((pre ++ [c]).length : Int) else some false) ?_ fun k => ?_)
    · cases hp : isP c with
      | true => simpa [hp] using hn
      | false => simpa [hp] using Ev.now fun _ => rfl
    · show Z8a k _ s _ = _
      unfold Z8a Zgo
      rw [Zew (by omega), hc]
      simp only [cond_true, Option.bind_some, lex_part]
      rw [Z69 (by omega), show (pre ++ [c]).length = pre.length + 1 by simp]
      cases isP c <;> rfl
theorem isRun_ok {s : ByteArray} (hs : s.size < 9223372036854775808) : Ev (fun k => F_lexis_isRun k s) (runB s.data.toList) := by
  refine Ev.val (Ev.succ (isRun_loop s hs s.data.toList [] rfl)) ?_
  cases s.data.toList with
  | nil => rfl
  | cons c l =>
    simp only [runB, List.all_cons]
    cases h : isL c with
    | true => rw [isP_of_isL h]; simp
    | false => simp
theorem isWord_chain {k : Nat} {b : Bool} {X : Option Bool} {r : Bool} (h : X = some r) : (bif b then Zh k b else X) = some (b || r) := by
  cases b
  · simpa using h
  · rfl
theorem isWord_last {k : Nat} {b : Bool} : Zh k b = some (b || false) := by cases b <;> rfl
set_option maxRecDepth 100000 in
theorem isWord_ok (k : Nat) (s : ByteArray) : Z8p k s = some (wordB s) := by
  have e : wordB s = words.any (fun w => bEq s w) := by
    unfold wordB; congr 1; funext w; exact bEq_comm _ _
  rw [e]
  unfold Z8p
  repeat (first | exact isWord_last | refine isWord_chain ?_)
theorem lex_name {s : ByteArray} (hs : s.size < 9223372036854775808) : Ev (fun k => Z50 k s) (Zev s) := by
  refine Ev.bind (isRun_ok hs) (Ev.now fun k => ?_)
  unfold Zev
  rw [isWord_ok]
  cases runB s.data.toList with
  | false => rfl
  | true =>
    by_cases h : s.size ≤ 12
    · rw [Zew h, Zew (by omega)]; rfl
    · rw [dec_f h, dec_f (by omega)]; rfl
theorem has_loop (xs : List ByteArray) (s : ByteArray) (hs : xs.length < 9223372036854775808) : ∀ (rest pre : List ByteArray), xs = pre ++ rest →
    Ev (fun k => (Z4f k).ref01_has_l1 xs s (pre.length : Int)) (rest.any (fun w => bEq w s))
  | [], pre, h => by
    refine Ev.succ (Ev.now fun k => ?_)
    show Zaw k _ xs s _ = _
    unfold Zaw
    rw [dec_f (by rw [h]; simp)]; rfl
  | w :: rest, pre, h => by
    have hn := has_loop xs s hs rest (pre ++ [w]) (by rw [h]; simp)
    have hl : xs.length = pre.length + 1 + rest.length := by rw [h]; simp; omega
    refine Ev.succ (Ev.of_eq (f := fun k => bif bEq w s then some true else (Z4f k).ref01_has_l1 xs s ((pre ++ [w]).length : Int)) ?_ fun k => ?_)
    · cases hp : bEq w s with
      | true => simpa [hp] using Ev.now fun _ => rfl
      | false => simpa [hp] using hn
    · show Zaw k _ xs s _ = _
      unfold Zaw ref01_has_j2 ref01_has_j3
      have hm : at? xs (pre.length : Int) = some w := by rw [h]; exact at_mid _ _ _
      rw [Zew (by omega), hm]
      simp only [cond_true, Option.bind_some]
      rw [Z69 (by omega), show (pre ++ [w]).length = pre.length + 1 by simp]
theorem ref_word (s : ByteArray) : Ev (fun k => Zb0 k s) (wordB s) := by
  refine Ev.bind (a := words) (Ev.now fun k => rfl) (Ev.bind (a := wordB s) ?_ (Ev.now fun _ => rfl))
  exact Ev.succ (has_loop words s (by decide) words [] rfl)
theorem ref_name_loop (s : ByteArray) (hs : s.size < 9223372036854775808) : ∀ (rest pre : List UInt8), s.data.toList = pre ++ rest →
    Ev (fun k => (Z2l k).ref01_IsName_l1 s (pre.length : Int)) ((if pre = [] then runB rest else rest.all isP) && decide (s.size ≤ 12) && !wordB s)
  | [], pre, h => by
    obtain ⟨K, hw⟩ := ref_word s
    refine Ev.succ ⟨K, fun k hk => ?_⟩
    show Z7m k _ s _ = _
    unfold Z7m
    have hl : s.size = pre.length := by rw [ba_size, h]; simp
    have hwk : Zb0 k s = some (wordB s) := hw k hk
    rw [dec_f (by omega), hwk]
    by_cases hp : pre = []
    · subst hp
      have hl0 : s.size = 0 := hl
      rw [dec_f (by omega)]; rfl
    · have : 0 < pre.length := List.length_pos_iff.2 hp
      rw [if_neg hp, Zew (by omega)]
      by_cases h2 : s.size ≤ 12
      · rw [Zew h2, Zew (by omega)]; rfl
      · rw [dec_f h2, dec_f (by omega)]; rfl
  | c :: rest, pre, h => by
    have hl : s.size = pre.length + 1 + rest.length := by rw [ba_size, h]; simp; omega
    have hc := atS_mid h
    have hn := ref_name_loop s hs rest (pre ++ [c]) (by rw [h]; simp)
    rw [if_neg (by simp)] at hn
    have hz : ((pre.length : Int) == 0) = decide (pre = []) := by
      cases pre with
      | nil => rfl
      | cons a l => simp; omega
    have h95 := nat_beq c.toNat 95
    refine Ev.succ (Ev.of_eq (f := fun k => bif (bif decide (pre = []) then isL c else isP c) then (Z2l k).ref01_IsName_l1 s ((pre ++ [c]).length : Int) else some false) ?_ fun k => ?_)
    · by_cases hp : pre = []
      · rw [Zew hp, if_pos hp]
        simp only [cond_true, runB]
        cases hq : isL c with
        | true => simpa [hq] using hn
        | false => simpa [hq] using Ev.now fun _ => rfl
      · rw [dec_f hp, if_neg hp]
        simp only [cond_false, List.all_cons]
        cases hq : isP c with
        | true => simpa [hq] using hn
        | false => simpa [hq] using Ev.now fun _ => rfl
    · show Z7m k _ s _ = _
      unfold Z7m Zf8 Z7n Zfd
      rw [Zew (by omega), hc]
      simp only [cond_true, Option.bind_some, ref_letter, ref_digit, bne, hz]
      rw [Z69 (by omega), show (pre ++ [c]).length = pre.length + 1 by simp]
      have h95' : ((c.toNat : Int) == 95) = (c.toNat == 95) := h95
      rw [h95']
      unfold isP
      by_cases hp : pre = []
      · rw [Zew hp]; cases isL c <;> rfl
      · rw [dec_f hp]; cases isL c <;> cases isD c <;> cases (c.toNat == 95) <;> rfl
theorem ref_name {s : ByteArray} (hs : s.size < 9223372036854775808) : Ev (fun k => Z52 k s) (Zev s) :=
  Ev.succ (ref_name_loop s hs s.data.toList [] rfl)
end Go.Proofs.YtkodnhngllfemaaGreatDoor
