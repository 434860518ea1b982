import Derived.Test.YtkodnhngllfemaaGreatDoorB21
import Derived.Test.YtkodnhngllfemaaGreatDoorSH
set_option linter.unusedVariables false
set_option linter.unusedSimpArgs false
namespace Go.Proofs.YtkodnhngllfemaaGreatDoor
open Go
def digs : Nat → Nat → List UInt8
  | 0, u => [UInt8.ofNat (48 + u)]
  | f + 1, u => bif Nat.blt u 10 then [UInt8.ofNat (48 + u)] else digs f (u / 10) ++ [UInt8.ofNat (48 + u % 10)]
theorem digs_eq : ∀ (f u : Nat), u < 10 ^ (f + 1) → digs f u = Go.Lib.decDigits u
  | 0, u, h => by
    have h' : u < 10 := by simpa using h
    unfold digs Go.Lib.decDigits
    rw [dif_pos h']
  | f + 1, u, h => by
    unfold digs Go.Lib.decDigits
    by_cases hu : u < 10
    · have hb : Nat.blt u 10 = true := by rw [Nat.blt_eq]; exact hu
      rw [dif_pos hu, hb]; rfl
    · have hb : Nat.blt u 10 = false := by rw [← Bool.not_eq_true, Nat.blt_eq]; exact hu
      rw [dif_neg hu, hb, digs_eq f (u / 10) (by rw [Nat.div_lt_iff_lt_mul (by decide)]; rw [Nat.pow_succ] at h; exact h)]
      rfl
def itoaB (n : Int) : ByteArray := ⟨(bif decide (n < 0) then 45 :: digs 20 n.natAbs else digs 20 n.toNat).toArray⟩
theorem itoaB_eq {n : Int} (h : -9223372036854775808 ≤ n ∧ n ≤ 9223372036854775807) : itoaB n = ⟨(Go.Lib.itoa n).toArray⟩ := by
  unfold itoaB Go.Lib.itoa
  by_cases hn : n < 0
  · rw [if_pos hn, digs_eq 20 n.natAbs (by have : n.natAbs ≤ 9223372036854775808 := by omega
                                           exact Nat.lt_of_le_of_lt this (by decide))]
    simp [hn]
  · rw [if_neg hn, digs_eq 20 n.toNat (by have : n.toNat ≤ 9223372036854775807 := by omega
                                          exact Nat.lt_of_le_of_lt this (by decide))]
    simp [hn]
section
variable {w : World} {h : Hp}
end
def toksM (f : YS → ByteArray → Int → Option (Int × YS)) (src : ByteArray) : Option (List Tok × Int × Int) :=
  bif decide ((8000 : Int) < (src.size : Int)) then some ([], 0, 5) else
  (f ([], none) src 0).bind fun r => match r.2.2 with
    | some at_ => some ([], at_, 4)
    | none => if r.2.1.length + 1 < 1000000000 then some (r.2.1 ++ [⟨7, ⟨#[]⟩, (src.size : Int)⟩], 0, 0) else none
def atoiR (s : ByteArray) : Int × Bool := match Go.Lib.atoiAll s.data.toList with
  | .ok v => (v, true)
  | .range => (Go.Lib.atoiSat s.data.toList, false)
  | _ => (0, false)
theorem atoiR_ok {s : ByteArray} {v : Int} (h : Go.Lib.atoiAll s.data.toList = .ok v) : atoiR s = (v, true) := by unfold atoiR; rw [h]
theorem atoiR_range {s : ByteArray} (h : Go.Lib.atoiAll s.data.toList = .range) : atoiR s = (Go.Lib.atoiSat s.data.toList, false) := by unfold atoiR; rw [h]
theorem atoiR_bad {s : ByteArray} (h : ∀ v, Go.Lib.atoiAll s.data.toList ≠ .ok v) (h2 : Go.Lib.atoiAll s.data.toList ≠ .range) : atoiR s = (0, false) := by
  unfold atoiR
  split
  · rename_i v hv; exact absurd hv (h v)
  · rename_i hv; exact absurd hv h2
  · rfl
theorem atoi_stp {w w1 : World} {h : Hp} {e : TypeId} (hs : Sub h w) (hw : w1 = w ∨ ∃ t, w1 = Go.Lib.bytesWorld w e t) : Stp [] w h w1 h := by
  rcases hw with rfl | ⟨t, rfl⟩
  · exact Stp.refl hs _
  · exact Stp.of_below hs (Go.Lib.bytesWorld_below w e t)
end Go.Proofs.YtkodnhngllfemaaGreatDoor
