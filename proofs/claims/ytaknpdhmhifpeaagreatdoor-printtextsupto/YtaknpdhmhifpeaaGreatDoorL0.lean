import Derived.Test.YtaknpdhmhifpeaaGreatDoorGM
set_option linter.unusedVariables false
set_option linter.unusedSimpArgs false
namespace Go.Proofs.YtaknpdhmhifpeaaGreatDoor
open Go

/-! ### 30. Small change: bytes, wraps -/
theorem Z9u {a b : ByteArray} (h : a.data.toList = b.data.toList) : a = b := by
  apply ByteArray.ext
  exact Array.ext' h
theorem Z0l (a b : ByteArray) : (a ++ b).data.toList = a.data.toList ++ b.data.toList := by
  rw [ByteArray.data_append, Array.toList_append]
theorem Z20 (a : ByteArray) : a.size = a.data.toList.length := by rw [Array.length_toList]; rfl
theorem Z9 (a b : ByteArray) : (a ++ b).size = a.size + b.size := by rw [Z20, Z0l, List.length_append, ← Z20, ← Z20]
theorem ba_assoc (a b c : ByteArray) : (a ++ b) ++ c = a ++ (b ++ c) := Z9u (by simp only [Z0l, List.append_assoc])
theorem ba_nil_app (a : ByteArray) : (⟨#[]⟩ : ByteArray) ++ a = a := Z9u (by rw [Z0l]; rfl)
theorem Zdv (a : ByteArray) : a ++ (⟨#[]⟩ : ByteArray) = a := Z9u (by rw [Z0l]; simp)
theorem bEq_self (a : ByteArray) : bEq a a = true := bEq_iff.2 rfl
theorem bEq_of {a b : ByteArray} (h : a = b) : bEq a b = true := bEq_iff.2 h
theorem w_i64 (n : Int) : IntKind.i64.wrap n = (n + 9223372036854775808) % 18446744073709551616 - 9223372036854775808 := by
  simp [IntKind.wrap, IntKind.bits, IntKind.signed]; omega
theorem w_u64 (n : Int) : IntKind.u64.wrap n = n % 18446744073709551616 := by simp [IntKind.wrap, IntKind.bits, IntKind.signed]
theorem w_u8 (n : Int) : IntKind.u8.wrap n = n % 256 := by simp [IntKind.wrap, IntKind.bits, IntKind.signed]
theorem Z85 {n : Int} (h0 : -9223372036854775808 ≤ n) (h1 : n ≤ 9223372036854775807) : IntKind.i64.wrap n = n := by rw [w_i64]; omega
theorem w_u64_id {n : Int} (h0 : 0 ≤ n) (h1 : n < 18446744073709551616) : IntKind.u64.wrap n = n := by rw [w_u64]; omega
theorem byte?_of {t : Int} (h0 : 0 ≤ t) (h1 : t < 256) : byte? t = some (UInt8.ofNat t.toNat) := by
  unfold byte?; rw [if_pos ⟨h0, h1⟩]
theorem Z6r {p : Prop} [Decidable p] (h : p) : decide p = true := decide_eq_true h
theorem Z90 {p : Prop} [Decidable p] (h : ¬ p) : decide p = false := decide_eq_false h
theorem Zfe {a b : Int} (h : a = b) : (a == b) = true := by rw [h]; exact beq_self_eq_true _
theorem Zbp {a b : Int} (h : a ≠ b) : (a == b) = false := by rw [← Bool.not_eq_true]; simpa using h
end Go.Proofs.YtaknpdhmhifpeaaGreatDoor
