import Derived.Test.YtaknpdhmhifpeaaGreatDoorB15
import Derived.Test.YtaknpdhmhifpeaaGreatDoorSH
set_option linter.unusedVariables false
set_option linter.unusedSimpArgs false
namespace Go.Proofs.YtaknpdhmhifpeaaGreatDoor
open Go

/-! ### 20. The library's contracts in the form of the walks -/
/-- decimal digits, by fuel -/
def digs : Nat → Nat → List UInt8
  | 0, u => [UInt8.ofNat (48 + u)]
  | f + 1, u => bif Nat.blt u 10 then [UInt8.ofNat (48 + u)] else digs f (u / 10) ++ [UInt8.ofNat (48 + u % 10)]
theorem digs_eq : ∀ (f u : Nat), u < 10 ^ (f + 1) → digs f u = Go.Lib.decDigits u
  | 0, u, h => by
    have h' : u < 10 := by simpa using h
    unfold digs Go.Lib.decDigits
    rw [dif_pos h']
  | f + 1, u, h => by
    unfold digs Go.Lib.decDigits
    by_cases hu : u < 10
    · have hb : Nat.blt u 10 = true := by rw [Nat.blt_eq]; exact hu
      rw [dif_pos hu, hb]; rfl
    · have hb : Nat.blt u 10 = false := by rw [← Bool.not_eq_true, Nat.blt_eq]; exact hu
      rw [dif_neg hu, hb, digs_eq f (u / 10) (by rw [Nat.div_lt_iff_lt_mul (by decide)]; rw [Nat.pow_succ] at h; exact h)]
      rfl
def Zaq (n : Int) : ByteArray := ⟨(bif decide (n < 0) then 45 :: digs 20 n.natAbs else digs 20 n.toNat).toArray⟩
theorem itoaB_eq {n : Int} (h : -9223372036854775808 ≤ n ∧ n ≤ 9223372036854775807) : Zaq n = ⟨(Go.Lib.itoa n).toArray⟩ := by
  unfold Zaq Go.Lib.itoa
  by_cases hn : n < 0
  · rw [if_pos hn, digs_eq 20 n.natAbs (by have : n.natAbs ≤ 9223372036854775808 := by omega
                                           exact Nat.lt_of_le_of_lt this (by decide))]
    simp [hn]
  · rw [if_neg hn, digs_eq 20 n.toNat (by have : n.toNat ≤ 9223372036854775807 := by omega
                                          exact Nat.lt_of_le_of_lt this (by decide))]
    simp [hn]
def trimL (s c : ByteArray) : Option ByteArray := match c.data.toList with
  | [b] => if b.toNat < 128 then some ⟨(Go.Lib.trimLeftB s.data.toList b).toArray⟩ else none
  | _ => none
theorem trimL_some {s c r : ByteArray} (h : trimL s c = some r) : ∃ b, b.toNat < 128 ∧ c = ⟨#[b]⟩ ∧ r = ⟨(Go.Lib.trimLeftB s.data.toList b).toArray⟩ := by
  unfold trimL at h
  split at h
  · rename_i b hb
    split at h
    · rename_i hc
      cases h
      refine ⟨b, hc, ?_, rfl⟩
      apply ByteArray.ext
      apply Array.ext'
      exact hb
    · cases h
  · cases h
theorem tryz240 : Go.Proofs.Lays.n240 Tryz.prog Tryz.lays156_ren := { Tryz.lays156 with }
section
variable {w : World} {h : Hp}
theorem strs_RS {b n : Nat} (xs : List ByteArray) (hn : xs.length = n) (hc : ∀ o, h b o = (xs.map Value.string)[o]?) : RS h (.slice (some ⟨b, 0, none⟩) n n) xs := by
  refine RS.lit xs (xs.map fun x => [Value.string x]) hn hc (by simp [hn]) ?_ (fun j x cs hx hcs => ?_)
  · clear hc hn
    induction xs with
    | nil => rfl
    | cons a l ih => simp [ih]
  · rw [List.getElem?_map, hx] at hcs
    cases hcs
    exact rfl
theorem OB.shape {b T : Nat} {cs : List Value} (ob : OB w h b T cs) : w.shape? b = some (T, cs.length) := by
  simp [World.shape?, ob.heap]
theorem OB.unfrozen {b T o : Nat} {cs : List Value} (ob : OB w h b T cs) : w.frozen? ⟨b, o, none⟩ = false := by
  simp [World.frozen?, ob.heap]
theorem setCell_ob {b T : Nat} {cs : List Value} (ob : OB w h b T cs) (u : Value) (hl : 0 < cs.length) : w.setCell ⟨b, 0, none⟩ u = w.setRow b (cs.set 0 u).toArray := by
  have hlt := ob.lt
  have hb := ob.heap
  unfold World.setCell World.setRow
  congr 1
  apply Array.ext'
  apply List.ext_getElem?
  intro i
  simp only [Array.getElem?_toList, Array.getElem?_modify]
  by_cases hi : b = i
  · subst hi
    rw [if_pos rfl, hb]
    simp
  · rw [if_neg hi]
    try rw [if_neg hi]
end
end Go.Proofs.YtaknpdhmhifpeaaGreatDoor
