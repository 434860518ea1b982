import Derived.Test.YtaknpdhmhifpeaaGreatDoorL0
set_option linter.unusedVariables false
set_option linter.unusedSimpArgs false
namespace Go.Proofs.YtaknpdhmhifpeaaGreatDoor
open Go

/-! ### 31. Constants: the program's text is the reference's -/
/-- the digits of a number, none for 0 -/
def dg : Nat → Nat → List UInt8
  | 0, _ => []
  | f + 1, u => if u = 0 then [] else dg f (u / 10) ++ [UInt8.ofNat (48 + u % 10)]
theorem dg_digs : ∀ (f u : Nat), 0 < u → u < 10 ^ (f + 1) → dg (f + 1) u = digs f u
  | 0, u, h0, h => by
    have h' : u < 10 := by simpa using h
    unfold dg digs dg
    rw [if_neg (by omega), Nat.mod_eq_of_lt h']; rfl
  | f + 1, u, h0, h => by
    rw [dg, digs, if_neg (by omega)]
    by_cases hu : u < 10
    · have hb : Nat.blt u 10 = true := by rw [Nat.blt_eq]; exact hu
      have h3 : u / 10 = 0 := by omega
      rw [hb, h3, Nat.mod_eq_of_lt hu, dg, if_pos rfl]; rfl
    · have hb : Nat.blt u 10 = false := by rw [← Bool.not_eq_true, Nat.blt_eq]; exact hu
      rw [hb, dg_digs f (u / 10) (by omega) (by rw [Nat.div_lt_iff_lt_mul (by decide)]; rw [Nat.pow_succ] at h; exact h)]
      rfl
theorem dg_last (f u : Nat) : dg f (u / 10) ++ [UInt8.ofNat (48 + u % 10)] = if u = 0 then [UInt8.ofNat 48] else dg (f + 1) u := by
  by_cases h : u = 0
  · subst h
    rw [if_pos rfl]
    have : dg f 0 = [] := by cases f <;> simp [dg]
    simp [this]
  · rw [if_neg h, dg, if_neg h]
/-- The reference's loop. -/
theorem digits_loop (n : Int) : ∀ (f m x : Nat) (acc : List UInt8), x < 10 ^ f → f ≤ 20 → acc.length + f ≤ 100 →
    (Z1l (m + f + 1)).ref03_Digits_l2 n x ⟨acc.toArray⟩ = some ⟨((if n < 0 then [45] else []) ++ (dg f x ++ acc)).toArray⟩
  | 0, m, x, acc, hx, hf, hl => by
    have h0 : x = 0 := by simp at hx; exact hx
    subst h0
    rw [Z8z]
    dsimp only
    unfold Z97 Zbc
    rw [Z90 (by omega)]
    by_cases hn : n < 0
    · rw [Z6r hn, if_pos hn]
      simp only [cond_false, cond_true]
      rw [if_pos (by simp only [Z20, dg]; simp; omega)]
      congr 1
    · rw [Z90 hn, if_neg hn]
      rfl
  | f + 1, m, x, acc, hx, hf, hl => by
    rw [Z8z]
    dsimp only
    unfold Z97 Zdi Zbc
    by_cases h0 : x = 0
    · subst h0
      have hd : dg (f + 1) 0 = [] := by simp [dg]
      rw [hd, Z90 (by omega)]
      by_cases hn : n < 0
      · rw [Z6r hn, if_pos hn]
        simp only [cond_false, cond_true]
        rw [if_pos (by simp only [Z20]; simp; omega)]
        congr 1
      · rw [Z90 hn, if_neg hn]
        rfl
    · rw [Z6r (by omega)]
      simp only [cond_true]
      have hx20 : x < 10 ^ 20 := Nat.lt_of_lt_of_le hx (Nat.pow_le_pow_right (by decide) hf)
      have e1 : Int.tmod (x : Int) 10 = ((x % 10 : Nat) : Int) := rfl
      have e2 : Int.tdiv (x : Int) 10 = ((x / 10 : Nat) : Int) := rfl
      have hm : x % 10 < 10 := Nat.mod_lt _ (by decide)
      have hq : x / 10 < 18446744073709551616 := by
        have : x / 10 < 10 ^ 19 := by rw [Nat.div_lt_iff_lt_mul (by decide)]; exact hx20
        exact Nat.lt_of_lt_of_le this (by decide)
      rw [e1, e2, w_u64_id (by omega) (by omega), w_u8, w_u64_id (by omega) (by omega)]
      have e3 : ((48 : Int) + ((x % 10 : Nat) : Int)) % 256 = ((48 + x % 10 : Nat) : Int) := by omega
      rw [e3, byte?_of (by omega) (by omega)]
      simp only [Option.bind_some]
      rw [if_pos (by simp only [Z20]; simp; omega)]
      have e4 : (⟨[UInt8.ofNat ((48 + x % 10 : Nat) : Int).toNat].toArray⟩ : ByteArray) ++ ⟨acc.toArray⟩ = ⟨(UInt8.ofNat (48 + x % 10) :: acc).toArray⟩ := Z9u (by rw [Z0l]; rfl)
      rw [e4, show m + (f + 1) = m + f + 1 by omega, digits_loop n f m (x / 10) (UInt8.ofNat (48 + x % 10) :: acc) (by rw [Nat.div_lt_iff_lt_mul (by decide)]; rw [Nat.pow_succ] at hx; exact hx) (by omega) (by simp; omega)]
      rw [dg, if_neg h0]
      simp
theorem digits_ok (m : Nat) {n : Int} (h0 : -9223372036854775808 ≤ n) (h1 : n ≤ 9223372036854775807) : Z3n (m + 23) n = some (Zaq n) := by
  unfold Z3n
  rw [show m + 23 = m + 22 + 1 by omega, Z8z]
  dsimp only
  unfold Zc4 Zbd
  -- the number without its sign
  have key : ∀ u : Nat, u < 10 ^ 20 → (n < 0 → u = n.natAbs) → (¬ n < 0 → u = n.toNat) →
      ((byte? (IntKind.u8.wrap (IntKind.u64.wrap (48 + Int.tmod (u : Int) 10)))).bind fun c15 => (Z1l (m + 22)).ref03_Digits_l2 n (IntKind.u64.wrap (Int.tdiv (u : Int) 10)) ⟨[c15].toArray⟩) = some (Zaq n) := by
    intro u hu hneg hpos
    have e1 : Int.tmod (u : Int) 10 = ((u % 10 : Nat) : Int) := rfl
    have e2 : Int.tdiv (u : Int) 10 = ((u / 10 : Nat) : Int) := rfl
    have hm : u % 10 < 10 := Nat.mod_lt _ (by decide)
    have hq : u / 10 < 18446744073709551616 := by
      have : u / 10 < 10 ^ 19 := by rw [Nat.div_lt_iff_lt_mul (by decide)]; exact hu
      exact Nat.lt_of_lt_of_le this (by decide)
    rw [e1, e2, w_u64_id (by omega) (by omega), w_u8, w_u64_id (by omega) (by omega)]
    have e3 : ((48 : Int) + ((u % 10 : Nat) : Int)) % 256 = ((48 + u % 10 : Nat) : Int) := by omega
    rw [e3, byte?_of (by omega) (by omega)]
    simp only [Option.bind_some]
    have hl := digits_loop n 20 (m + 1) (u / 10) [UInt8.ofNat (48 + u % 10)] (Nat.lt_of_le_of_lt (Nat.div_le_self _ _) hu) (by decide) (by simp)
    have e5 : m + 22 = m + 1 + 20 + 1 := by omega
    rw [e5]
    refine hl.trans ?_
    congr 1
    have hds : dg 20 (u / 10) ++ [UInt8.ofNat (48 + u % 10)] = digs 20 u := by
      rw [dg_last]
      by_cases hz : u = 0
      · subst hz; rw [if_pos rfl]; rfl
      · rw [if_neg hz]
        exact dg_digs 20 u (by omega) (Nat.lt_of_lt_of_le hu (by decide))
    rw [hds]
    unfold Zaq
    by_cases hn : n < 0
    · rw [if_pos hn, Z6r hn, hneg hn]; rfl
    · rw [if_neg hn, Z90 hn, hpos hn]; rfl
  by_cases hn : n < 0
  · rw [Z6r hn]
    have e : IntKind.u64.wrap (0 - IntKind.u64.wrap n) = ((n.natAbs : Nat) : Int) := by rw [w_u64, w_u64]; omega
    simp only [cond_true]
    rw [e]
    exact key n.natAbs (by have : n.natAbs ≤ 9223372036854775808 := by omega
                           exact Nat.lt_of_le_of_lt this (by decide)) (fun _ => rfl) (fun h => absurd hn h)
  · rw [Z90 hn]
    have e : IntKind.u64.wrap n = ((n.toNat : Nat) : Int) := by rw [w_u64]; omega
    simp only [cond_false]
    rw [e]
    exact key n.toNat (by have : n.toNat ≤ 9223372036854775807 := by omega
                          exact Nat.lt_of_le_of_lt this (by decide)) (fun h => absurd h hn) (fun _ => rfl)
theorem digs_len : ∀ (f u : Nat), (digs f u).length ≤ f + 1
  | 0, u => by simp [digs]
  | f + 1, u => by
    unfold digs
    cases Nat.blt u 10 with
    | true => simp
    | false => simp only [cond_false, List.length_append, List.length_singleton]; have := digs_len f (u / 10); omega
theorem itoaB_size (n : Int) : (Zaq n).size ≤ 22 := by
  unfold Zaq
  rw [Z20]
  cases decide (n < 0) with
  | true => simp only [cond_true, List.toList_toArray, List.length_cons]; have := digs_len 20 n.natAbs; omega
  | false => simp only [cond_false, List.toList_toArray]; have := digs_len 20 n.toNat; omega
theorem awake_ok (m : Nat) : Z8b (m + 20) = some true := by kernel_rfl
theorem itoa_ok (k : Nat) {n : Int} (h0 : -9223372036854775808 ≤ n) (h1 : n ≤ 9223372036854775807) : Z5u k n = some (Zaq n) := by
  unfold Z5u; rw [if_pos ⟨h0, h1⟩]
/-- The text of a constant, or not. -/
def Zd5 (kind n : Int) : ByteArray := if kind = 1 then (if n = 1 then ⟨#[116, 114, 117, 101]⟩ else ⟨#[102, 97, 108, 115, 101]⟩) else if kind = 3 then ⟨#[116, 35]⟩ ++ Zaq n else Zaq n
def constOK (kind n : Int) : Bool := if kind = 1 then decide (0 ≤ n ∧ n ≤ 1) else if kind = 3 then decide (0 ≤ n ∧ n ≤ 2147483647) else decide (kind = 2 ∧ -2147483647 ≤ n ∧ n ≤ 2147483647)
theorem const_prog (k : Nat) {kind n : Int} (h0 : -9223372036854775808 ≤ n) (h1 : n ≤ 9223372036854775807) : Z82 k kind n = some (if constOK kind n = true then (Zd5 kind n, 0) else (⟨#[]⟩, 2)) := by
  unfold Z82 Z8d Z5y Zam Zch Z64 Za5 Zeh Zf3 Z6v constOK Zd5
  have hs := itoaB_size n
  have ht : (⟨#[116, 35]⟩ : ByteArray).size = 2 := rfl
  by_cases k1 : kind = 1
  · subst k1
    by_cases a : 0 ≤ n <;> by_cases b : n ≤ 1 <;> simp [a, b]
    all_goals by_cases c : n = 1 <;> simp [c, Go.Lib.formatBool] <;> rfl
  · by_cases k3 : kind = 3
    · subst k3
      by_cases a : 0 ≤ n <;> by_cases b : n ≤ 2147483647 <;> simp [a, b, itoa_ok k h0 h1, ht]
      all_goals omega
    · by_cases k2 : kind = 2
      · subst k2
        by_cases a : 0 ≤ n <;> by_cases b : n ≤ 2147483647 <;> by_cases c : -2147483647 ≤ n <;> simp [a, b, c, itoa_ok k h0 h1] <;> omega
      · have b1 := Zbp k1
        have b2 := Zbp k2
        have b3 := Zbp k3
        simp [k1, k2, k3, b1, b2, b3, bne]
theorem const_ref (m : Nat) {kind n : Int} (h0 : -9223372036854775808 ≤ n) (h1 : n ≤ 9223372036854775807) : ∃ t, Z7w (m + 23) kind n = some (t, constOK kind n) ∧ (constOK kind n = true → t = Zd5 kind n) := by
  unfold Z7w Zei Ze6 constOK Zd5
  have hs := itoaB_size n
  have ht : (⟨#[116, 35]⟩ : ByteArray).size = 2 := rfl
  rw [digits_ok m h0 h1]
  by_cases k1 : kind = 1
  · subst k1
    by_cases c : n = 1
    · subst c; exact ⟨_, rfl, fun _ => rfl⟩
    · refine ⟨⟨#[102, 97, 108, 115, 101]⟩, ?_, fun _ => by simp [c]⟩
      by_cases z : n = 0
      · subst z; rfl
      · have b0 := Zbp z
        have bc := Zbp c
        have hd : decide (0 ≤ n ∧ n ≤ 1) = false := Z90 (by omega)
        simp [b0, bc, hd]
  · by_cases k3 : kind = 3
    · subst k3
      refine ⟨⟨#[116, 35]⟩ ++ Zaq n, ?_, fun _ => rfl⟩
      have hg : (⟨#[116, 35]⟩ : ByteArray).size + (Zaq n).size < 1000000000000 := by omega
      by_cases a : 0 ≤ n <;> simp [a, hg]
    · refine ⟨Zaq n, ?_, fun _ => by simp [k1, k3]⟩
      by_cases k2 : kind = 2
      · subst k2
        by_cases c : -2147483647 ≤ n <;> simp [c]
      · have b1 := Zbp k1
        have b2 := Zbp k2
        have b3 := Zbp k3
        simp [k1, k2, k3, b1, b2, b3]
end Go.Proofs.YtaknpdhmhifpeaaGreatDoor
