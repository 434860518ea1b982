import Derived.Test.YtaknpdhmhifpeaaGreatDoorE0
import Derived.Test.YtaknpdhmhifpeaaGreatDoorGP0
set_option linter.unusedVariables false
set_option linter.unusedSimpArgs false
set_option maxRecDepth 20000
set_option maxHeartbeats 4000000
namespace Go.Proofs.YtaknpdhmhifpeaaGreatDoor
open Go
def Z1m (φ : Bool → (List UInt8) → ByteArray → Int → ByteArray → (List Ex) → (List ByteArray) → (List Ex) → Int → (List St) → (List Ar) → (List St) → Bool → Option (Bool × List UInt8 × ByteArray)) : Prop := ∀ ⦃x2 : Bool⦄ ⦃xs3 : List UInt8⦄ ⦃x9 : ByteArray⦄ ⦃x13 : Int⦄ ⦃x14 : ByteArray⦄ ⦃xs15 : List Ex⦄ ⦃xs18 : List ByteArray⦄ ⦃xs21 : List Ex⦄ ⦃x24 : Int⦄ ⦃xs25 : List St⦄ ⦃xs28 : List Ar⦄ ⦃xs31 : List St⦄ ⦃x34 : Bool⦄ ⦃r : Bool × List UInt8 × ByteArray⦄, φ x2 xs3 x9 x13 x14 xs15 xs18 xs21 x24 xs25 xs28 xs31 x34 = some r → ∀ ⦃w0 : World⦄ ⦃h0 : Hp⦄ ⦃b1 : Nat⦄ ⦃A4 : Option Addr⦄ ⦃c5 : Nat⦄ ⦃b11 : Nat⦄ ⦃T12 : Nat⦄ ⦃v16 : Value⦄ ⦃v19 : Value⦄ ⦃v22 : Value⦄ ⦃v26 : Value⦄ ⦃v29 : Value⦄ ⦃v32 : Value⦄ ⦃b36 : Nat⦄ ⦃T37 : Nat⦄, Sub h0 w0 → RS h0 (.slice A4 xs3.length c5) xs3 → Own w0 h0 h0.base 5 1 (.slice A4 xs3.length c5) xs3.length → RS h0 v16 xs15 → RS h0 v19 xs18 → RS h0 v22 xs21 → RS h0 v26 xs25 → RS h0 v29 xs28 → RS h0 v32 xs31 → OB w0 h0 b1 55 [.pointer (bif x2 then some ⟨b1, 0, none⟩ else none), .slice A4 xs3.length c5, .string x9] → OB w0 h0 b11 T12 [.int .i64 x13, .string x14, v16, v19, v22, .int .i64 x24, v26, v29, v32, .bool x34] → OB w0 h0 b36 T37 [.pointer (some ⟨b1, 0, none⟩)] → b1 ≠ b11 → b1 ≠ b36 → b11 ≠ b36 → (5 : Nat) ≠ 55 → (5 : Nat) ≠ T12 → (5 : Nat) ≠ T37 →
  Calls Tryz.prog 43 #[.pointer (some ⟨b1, 0, none⟩), .func (.func 44) #[] #[.pointer (some ⟨b11, 0, none⟩), .pointer (some ⟨b36, 0, none⟩)]] w0 fun e w1 => ∃ v, e = .returned v ∧ ∃ h1, Stp (b1 :: ((Value.slice A4 xs3.length c5).ownBlock.toList ++ [])) w0 h0 w1 h1 ∧ v = .tuple #[] ∧ (∃ y0 : Value, RS h1 y0 r.2.1 ∧ Own w1 h1 h0.base 5 1 y0 r.2.1.length ∧ (∀ i ∈ y0.ownBlock.toList, i ∈ (Value.slice A4 xs3.length c5).ownBlock.toList ∨ w0.heap.size ≤ i) ∧ OB w1 h1 b1 55 [.pointer (bif r.1 then some ⟨b1, 0, none⟩ else none), y0, .string r.2.2])
def Z1i (φ : Bool → (List UInt8) → ByteArray → St → Option (Bool × List UInt8 × ByteArray)) : Prop := ∀ ⦃x2 : Bool⦄ ⦃xs3 : List UInt8⦄ ⦃x9 : ByteArray⦄ ⦃x11 : St⦄ ⦃r : Bool × List UInt8 × ByteArray⦄, φ x2 xs3 x9 x11 = some r → ∀ ⦃w0 : World⦄ ⦃h0 : Hp⦄ ⦃b1 : Nat⦄ ⦃A4 : Option Addr⦄ ⦃c5 : Nat⦄ ⦃cs12 : List Value⦄, Sub h0 w0 → RS h0 (.slice A4 xs3.length c5) xs3 → Own w0 h0 h0.base 5 1 (.slice A4 xs3.length c5) xs3.length → Rp.R h0 x11 cs12 → OB w0 h0 b1 55 [.pointer (bif x2 then some ⟨b1, 0, none⟩ else none), .slice A4 xs3.length c5, .string x9] → (5 : Nat) ≠ 55 →
  Calls Tryz.prog 46 #[.pointer (some ⟨b1, 0, none⟩), .agg cs12.toArray] w0 fun e w1 => ∃ v, e = .returned v ∧ ∃ h1, Stp (b1 :: ((Value.slice A4 xs3.length c5).ownBlock.toList ++ [])) w0 h0 w1 h1 ∧ v = .tuple #[] ∧ (∃ y0 : Value, RS h1 y0 r.2.1 ∧ Own w1 h1 h0.base 5 1 y0 r.2.1.length ∧ (∀ i ∈ y0.ownBlock.toList, i ∈ (Value.slice A4 xs3.length c5).ownBlock.toList ∨ w0.heap.size ≤ i) ∧ OB w1 h1 b1 55 [.pointer (bif r.1 then some ⟨b1, 0, none⟩ else none), y0, .string r.2.2])
def Z1n (φ : Bool → (List UInt8) → ByteArray → St → Option (Bool × List UInt8 × ByteArray)) : Prop := ∀ ⦃x2 : Bool⦄ ⦃xs3 : List UInt8⦄ ⦃x9 : ByteArray⦄ ⦃x11 : St⦄ ⦃r : Bool × List UInt8 × ByteArray⦄, φ x2 xs3 x9 x11 = some r → ∀ ⦃w0 : World⦄ ⦃h0 : Hp⦄ ⦃b1 : Nat⦄ ⦃A4 : Option Addr⦄ ⦃c5 : Nat⦄ ⦃cs12 : List Value⦄, Sub h0 w0 → RS h0 (.slice A4 xs3.length c5) xs3 → Own w0 h0 h0.base 5 1 (.slice A4 xs3.length c5) xs3.length → Rp.R h0 x11 cs12 → OB w0 h0 b1 55 [.pointer (bif x2 then some ⟨b1, 0, none⟩ else none), .slice A4 xs3.length c5, .string x9] → (5 : Nat) ≠ 55 →
  Calls Tryz.prog 20 #[.pointer (some ⟨b1, 0, none⟩), .agg cs12.toArray] w0 fun e w1 => ∃ v, e = .returned v ∧ ∃ h1, Stp (b1 :: ((Value.slice A4 xs3.length c5).ownBlock.toList ++ [])) w0 h0 w1 h1 ∧ v = .tuple #[] ∧ (∃ y0 : Value, RS h1 y0 r.2.1 ∧ Own w1 h1 h0.base 5 1 y0 r.2.1.length ∧ (∀ i ∈ y0.ownBlock.toList, i ∈ (Value.slice A4 xs3.length c5).ownBlock.toList ∨ w0.heap.size ≤ i) ∧ OB w1 h1 b1 55 [.pointer (bif r.1 then some ⟨b1, 0, none⟩ else none), y0, .string r.2.2])
def Z1p (φ : Bool → (List UInt8) → ByteArray → (List St) → Option (Bool × List UInt8 × ByteArray)) : Prop := ∀ ⦃x2 : Bool⦄ ⦃xs3 : List UInt8⦄ ⦃x9 : ByteArray⦄ ⦃xs11 : List St⦄ ⦃r : Bool × List UInt8 × ByteArray⦄, φ x2 xs3 x9 xs11 = some r → ∀ ⦃w0 : World⦄ ⦃h0 : Hp⦄ ⦃b1 : Nat⦄ ⦃A4 : Option Addr⦄ ⦃c5 : Nat⦄ ⦃v12 : Value⦄, Sub h0 w0 → RS h0 (.slice A4 xs3.length c5) xs3 → Own w0 h0 h0.base 5 1 (.slice A4 xs3.length c5) xs3.length → RS h0 v12 xs11 → OB w0 h0 b1 55 [.pointer (bif x2 then some ⟨b1, 0, none⟩ else none), .slice A4 xs3.length c5, .string x9] → (5 : Nat) ≠ 55 →
  Calls Tryz.prog 41 #[.pointer (some ⟨b1, 0, none⟩), v12] w0 fun e w1 => ∃ v, e = .returned v ∧ ∃ h1, Stp (b1 :: ((Value.slice A4 xs3.length c5).ownBlock.toList ++ [])) w0 h0 w1 h1 ∧ v = .tuple #[] ∧ (∃ y0 : Value, RS h1 y0 r.2.1 ∧ Own w1 h1 h0.base 5 1 y0 r.2.1.length ∧ (∀ i ∈ y0.ownBlock.toList, i ∈ (Value.slice A4 xs3.length c5).ownBlock.toList ∨ w0.heap.size ≤ i) ∧ OB w1 h1 b1 55 [.pointer (bif r.1 then some ⟨b1, 0, none⟩ else none), y0, .string r.2.2])
def Z1d (φ : Bool → (List UInt8) → ByteArray → St → Option (Bool × List UInt8 × ByteArray)) : Prop := ∀ ⦃x2 : Bool⦄ ⦃xs3 : List UInt8⦄ ⦃x9 : ByteArray⦄ ⦃x11 : St⦄ ⦃r : Bool × List UInt8 × ByteArray⦄, φ x2 xs3 x9 x11 = some r → ∀ ⦃w0 : World⦄ ⦃h0 : Hp⦄ ⦃b1 : Nat⦄ ⦃A4 : Option Addr⦄ ⦃c5 : Nat⦄ ⦃cs12 : List Value⦄, Sub h0 w0 → RS h0 (.slice A4 xs3.length c5) xs3 → Own w0 h0 h0.base 5 1 (.slice A4 xs3.length c5) xs3.length → Rp.R h0 x11 cs12 → OB w0 h0 b1 55 [.pointer (bif x2 then some ⟨b1, 0, none⟩ else none), .slice A4 xs3.length c5, .string x9] → (5 : Nat) ≠ 55 →
  Calls Tryz.prog 42 #[.pointer (some ⟨b1, 0, none⟩), .agg cs12.toArray] w0 fun e w1 => ∃ v, e = .returned v ∧ ∃ h1, Stp (b1 :: ((Value.slice A4 xs3.length c5).ownBlock.toList ++ [])) w0 h0 w1 h1 ∧ v = .tuple #[] ∧ (∃ y0 : Value, RS h1 y0 r.2.1 ∧ Own w1 h1 h0.base 5 1 y0 r.2.1.length ∧ (∀ i ∈ y0.ownBlock.toList, i ∈ (Value.slice A4 xs3.length c5).ownBlock.toList ∨ w0.heap.size ≤ i) ∧ OB w1 h1 b1 55 [.pointer (bif r.1 then some ⟨b1, 0, none⟩ else none), y0, .string r.2.2])
def Z19 (φ : Int → ByteArray → (List Ex) → (List ByteArray) → (List Ex) → Int → (List St) → (List Ar) → (List St) → Bool → Bool → (List UInt8) → ByteArray → Option (Bool × List UInt8 × ByteArray)) : Prop := ∀ ⦃x3 : Int⦄ ⦃x4 : ByteArray⦄ ⦃xs5 : List Ex⦄ ⦃xs8 : List ByteArray⦄ ⦃xs11 : List Ex⦄ ⦃x14 : Int⦄ ⦃xs15 : List St⦄ ⦃xs18 : List Ar⦄ ⦃xs21 : List St⦄ ⦃x24 : Bool⦄ ⦃x29 : Bool⦄ ⦃xs30 : List UInt8⦄ ⦃x36 : ByteArray⦄ ⦃r : Bool × List UInt8 × ByteArray⦄, φ x3 x4 xs5 xs8 xs11 x14 xs15 xs18 xs21 x24 x29 xs30 x36 = some r → ∀ ⦃w0 : World⦄ ⦃h0 : Hp⦄ ⦃b1 : Nat⦄ ⦃T2 : Nat⦄ ⦃v6 : Value⦄ ⦃v9 : Value⦄ ⦃v12 : Value⦄ ⦃v16 : Value⦄ ⦃v19 : Value⦄ ⦃v22 : Value⦄ ⦃b26 : Nat⦄ ⦃T27 : Nat⦄ ⦃b28 : Nat⦄ ⦃A31 : Option Addr⦄ ⦃c32 : Nat⦄, Sub h0 w0 → RS h0 v6 xs5 → RS h0 v9 xs8 → RS h0 v12 xs11 → RS h0 v16 xs15 → RS h0 v19 xs18 → RS h0 v22 xs21 → RS h0 (.slice A31 xs30.length c32) xs30 → Own w0 h0 h0.base 5 1 (.slice A31 xs30.length c32) xs30.length → OB w0 h0 b1 T2 [.int .i64 x3, .string x4, v6, v9, v12, .int .i64 x14, v16, v19, v22, .bool x24] → OB w0 h0 b26 T27 [.pointer (some ⟨b28, 0, none⟩)] → OB w0 h0 b28 55 [.pointer (bif x29 then some ⟨b28, 0, none⟩ else none), .slice A31 xs30.length c32, .string x36] → b1 ≠ b26 → b1 ≠ b28 → b26 ≠ b28 → (5 : Nat) ≠ T2 → (5 : Nat) ≠ T27 → (5 : Nat) ≠ 55 →
  Calls Tryz.prog 44 #[.pointer (some ⟨b1, 0, none⟩), .pointer (some ⟨b26, 0, none⟩)] w0 fun e w1 => ∃ v, e = .returned v ∧ ∃ h1, Stp (b28 :: ((Value.slice A31 xs30.length c32).ownBlock.toList ++ [])) w0 h0 w1 h1 ∧ v = .tuple #[] ∧ (∃ y0 : Value, RS h1 y0 r.2.1 ∧ Own w1 h1 h0.base 5 1 y0 r.2.1.length ∧ (∀ i ∈ y0.ownBlock.toList, i ∈ (Value.slice A31 xs30.length c32).ownBlock.toList ∨ w0.heap.size ≤ i) ∧ OB w1 h1 b28 55 [.pointer (bif r.1 then some ⟨b28, 0, none⟩ else none), y0, .string r.2.2])
def Z18 (φ : (List St) → Bool → (List UInt8) → ByteArray → Option (Bool × List UInt8 × ByteArray)) : Prop := ∀ ⦃xs3 : List St⦄ ⦃x10 : Bool⦄ ⦃xs11 : List UInt8⦄ ⦃x17 : ByteArray⦄ ⦃r : Bool × List UInt8 × ByteArray⦄, φ xs3 x10 xs11 x17 = some r → ∀ ⦃w0 : World⦄ ⦃h0 : Hp⦄ ⦃b1 : Nat⦄ ⦃T2 : Nat⦄ ⦃v4 : Value⦄ ⦃b7 : Nat⦄ ⦃T8 : Nat⦄ ⦃b9 : Nat⦄ ⦃A12 : Option Addr⦄ ⦃c13 : Nat⦄, Sub h0 w0 → RS h0 v4 xs3 → RS h0 (.slice A12 xs11.length c13) xs11 → Own w0 h0 h0.base 5 1 (.slice A12 xs11.length c13) xs11.length → OB w0 h0 b1 T2 [v4] → OB w0 h0 b7 T8 [.pointer (some ⟨b9, 0, none⟩)] → OB w0 h0 b9 55 [.pointer (bif x10 then some ⟨b9, 0, none⟩ else none), .slice A12 xs11.length c13, .string x17] → b1 ≠ b7 → b1 ≠ b9 → b7 ≠ b9 → (5 : Nat) ≠ T2 → (5 : Nat) ≠ T8 → (5 : Nat) ≠ 55 →
  Calls Tryz.prog 68 #[.pointer (some ⟨b1, 0, none⟩), .pointer (some ⟨b7, 0, none⟩)] w0 fun e w1 => ∃ v, e = .returned v ∧ ∃ h1, Stp (b9 :: ((Value.slice A12 xs11.length c13).ownBlock.toList ++ [])) w0 h0 w1 h1 ∧ v = .tuple #[] ∧ (∃ y0 : Value, RS h1 y0 r.2.1 ∧ Own w1 h1 h0.base 5 1 y0 r.2.1.length ∧ (∀ i ∈ y0.ownBlock.toList, i ∈ (Value.slice A12 xs11.length c13).ownBlock.toList ∨ w0.heap.size ≤ i) ∧ OB w1 h1 b9 55 [.pointer (bif r.1 then some ⟨b9, 0, none⟩ else none), y0, .string r.2.2])
def Z13 (φ : Bool → (List UInt8) → ByteArray → (List St) → Option (Bool × List UInt8 × ByteArray)) : Prop := ∀ ⦃x2 : Bool⦄ ⦃xs3 : List UInt8⦄ ⦃x9 : ByteArray⦄ ⦃xs13 : List St⦄ ⦃r : Bool × List UInt8 × ByteArray⦄, φ x2 xs3 x9 xs13 = some r → ∀ ⦃w0 : World⦄ ⦃h0 : Hp⦄ ⦃b1 : Nat⦄ ⦃A4 : Option Addr⦄ ⦃c5 : Nat⦄ ⦃b11 : Nat⦄ ⦃T12 : Nat⦄ ⦃v14 : Value⦄ ⦃b17 : Nat⦄ ⦃T18 : Nat⦄, Sub h0 w0 → RS h0 (.slice A4 xs3.length c5) xs3 → Own w0 h0 h0.base 5 1 (.slice A4 xs3.length c5) xs3.length → RS h0 v14 xs13 → OB w0 h0 b1 55 [.pointer (bif x2 then some ⟨b1, 0, none⟩ else none), .slice A4 xs3.length c5, .string x9] → OB w0 h0 b11 T12 [v14] → OB w0 h0 b17 T18 [.pointer (some ⟨b1, 0, none⟩)] → b1 ≠ b11 → b1 ≠ b17 → b11 ≠ b17 → (5 : Nat) ≠ 55 → (5 : Nat) ≠ T12 → (5 : Nat) ≠ T18 →
  Calls Tryz.prog 43 #[.pointer (some ⟨b1, 0, none⟩), .func (.func 68) #[] #[.pointer (some ⟨b11, 0, none⟩), .pointer (some ⟨b17, 0, none⟩)]] w0 fun e w1 => ∃ v, e = .returned v ∧ ∃ h1, Stp (b1 :: ((Value.slice A4 xs3.length c5).ownBlock.toList ++ [])) w0 h0 w1 h1 ∧ v = .tuple #[] ∧ (∃ y0 : Value, RS h1 y0 r.2.1 ∧ Own w1 h1 h0.base 5 1 y0 r.2.1.length ∧ (∀ i ∈ y0.ownBlock.toList, i ∈ (Value.slice A4 xs3.length c5).ownBlock.toList ∨ w0.heap.size ≤ i) ∧ OB w1 h1 b1 55 [.pointer (bif r.1 then some ⟨b1, 0, none⟩ else none), y0, .string r.2.2])
theorem s_print_lines_inside (k : Nat) (IH : ∀ j, j ≤ k → Z1m (Z3 j).print_lines_inside ∧ Z1i (Z3 j).print_printer_loop ∧ Z1n (Z3 j).print_printer_stmt ∧ Z1p (Z3 j).print_printer_text ∧ Z1d (Z3 j).print_printer_other ∧ Z19 (Z3 j).print_printer_stmt_1 ∧ Z18 (Z3 j).print_printer_text_1 ∧ Z13 (Z3 j).print_lines_inside_v1) : Z1m (Z5g k (Z3 k)) := by
 intro x2 xs3 x9 x13 x14 xs15 xs18 xs21 x24 xs25 xs28 xs31 x34 r HF w0 h0 b1 A4 c5 b11 T12 v16 v19 v22 v26 v29 v32 b36 T37 hs0 rs6 ow7 rs17 rs20 rs23 rs27 rs30 rs33 ob10 ob35 ob38 ne39 ne40 ne41 tn42 tn43 tn44
 have S0 : Stp (b1 :: ((Value.slice A4 xs3.length c5).ownBlock.toList ++ [])) w0 h0 w0 h0 := Stp.refl hs0 _
 have om8 : ∀ i ∈ (Value.slice A4 xs3.length c5).ownBlock.toList, i ∈ (Value.slice A4 xs3.length c5).ownBlock.toList ∨ w0.heap.size ≤ i := fun i hi => .inl hi
 have lt45 : b1 < w0.heap.size := OB.lt ob10
 have lt46 : b11 < w0.heap.size := OB.lt ob35
 have lt47 : b36 < w0.heap.size := OB.lt ob38
 refine Z66 (n := 20) Tryz.func43 rfl Tryz.ntmps43 rfl [(0, pt b1 0), (1, .func (.func 44) #[] #[pt b11 0, pt b36 0])] rfl <| Za <| Z0 <| Wm rfl rfl <| Wv rfl (Z02 rfl) <| Wv rfl (Z2 rfl Z9h) <| Wv rfl (Z8 rfl Z3l (OB.cell ob10 (j := 2) rfl)) <| Wa rfl rfl <| Z7 <| Z5 <| Za <| Z0 <| Wm rfl rfl <| Wm rfl rfl ?_
 obtain ⟨hl48, HF⟩ := Zj HF
 refine Wv rfl (Zs rfl rfl hl48) <| Wv rfl (Z02 rfl) <| Wv rfl (Z2 rfl Z9h) <| Z5i (vs := [.string (x9 ++ b'95)]) rfl rfl rfl rfl Z6k (Z0d rfl Z76) ob10 S0.sub (by simp) (ds := [.pointer (bif x2 then some ⟨b1, 0, none⟩ else none), .slice A4 xs3.length c5, .string (x9 ++ b'95)]) rfl (fun w49 s50 ob51 => ?_)
 have S52 := S0.trans1 s50 (.inl (by simp))
 refine Z7 <| Z5 <| Za <| Z0 <| Wm rfl rfl ?_
 have ob53 := (ob35.step1 s50 (Ne.symm ne39))
 have ob54 := (ob38.step1 s50 (Ne.symm ne40))
 obtain ⟨r55, hr56, HF⟩ := Z6 HF
 refine Wc rfl (oc_val (vs := []) (caps := [pt b11 0, pt b36 0]) rfl rfl t_ent_44) ((IH _ (Nat.le_refl _)).2.2.2.2.2.1 hr56 S52.sub (rs17.mono (s50.le)) (rs20.mono (s50.le)) (rs23.mono (s50.le)) (rs27.mono (s50.le)) (rs30.mono (s50.le)) (rs33.mono (s50.le)) (rs6.mono (s50.le)) (by rw [S52.eqb]; exact (ow7.step s50 (Z8c (ow7.ne_ob ob10 tn42) Zct))) ob53 ob54 ob51 ne41 (Ne.symm ne39) (Ne.symm ne40) tn43 tn44 tn42) ?_
 rintro v57 w58 ⟨h59, s60, rfl, ⟨v61, rs62, ow63, om64, ob67⟩⟩
 have ow65 := Own.rb ow63 S52.eqb
 have om66 : ∀ i ∈ v61.ownBlock.toList, i ∈ (Value.slice A4 xs3.length c5).ownBlock.toList ∨ w0.heap.size ≤ i := fun i hi => (om64 i hi).elim (fun q => om8 i q) (fun q => .inr (Nat.le_trans S52.size q))
 have S68 := S52.trans s60 (Zy (.inl (by simp)) (Z7v (fun i hi => (om8 i hi).elim (fun q => .inl (by simp only [List.mem_cons, List.mem_append]; simp [q])) .inr) Z0q))
 refine Z7 <| Z5 <| Z0 <| Wm rfl rfl <| Wm rfl rfl <| Wv rfl (Z02 rfl) <| Wv rfl (Z2 rfl Z9h) <| Z5i (vs := [.string x9]) rfl rfl rfl rfl Z6k (Z0d rfl Z76) ob67 S68.sub (by simp) (ds := [.pointer (bif r55.1 then some ⟨b1, 0, none⟩ else none), v61, .string x9]) rfl (fun w69 s70 ob71 => ?_)
 have S72 := S68.trans1 s70 (.inl (by simp))
 refine Z7 <| Z5v rfl ?_
 obtain rfl := Option.some.inj HF
 exact ⟨_, rfl, h59, S72, rfl, ⟨_, (rs62.mono (s70.le)), (ow65.step s70 (Z8c (ow65.ne_ob ob67 tn42) Zct)), om66, ob71⟩⟩
theorem s_print_printer_loop (k : Nat) (IH : ∀ j, j ≤ k → Z1m (Z3 j).print_lines_inside ∧ Z1i (Z3 j).print_printer_loop ∧ Z1n (Z3 j).print_printer_stmt ∧ Z1p (Z3 j).print_printer_text ∧ Z1d (Z3 j).print_printer_other ∧ Z19 (Z3 j).print_printer_stmt_1 ∧ Z18 (Z3 j).print_printer_text_1 ∧ Z13 (Z3 j).print_lines_inside_v1) : Z1i (Z1o k (Z3 k)) := by
 intro x2 xs3 x9 x11 r HF w0 h0 b1 A4 c5 cs12 hs0 rs6 ow7 r13 ob10 tn14
 have S0 : Stp (b1 :: ((Value.slice A4 xs3.length c5).ownBlock.toList ++ [])) w0 h0 w0 h0 := Stp.refl hs0 _
 have om8 : ∀ i ∈ (Value.slice A4 xs3.length c5).ownBlock.toList, i ∈ (Value.slice A4 xs3.length c5).ownBlock.toList ∨ w0.heap.size ≤ i := fun i hi => .inl hi
 have lt15 : b1 < w0.heap.size := OB.lt ob10
 refine Z66 (n := 93) Tryz.func46 rfl Tryz.ntmps46 rfl [(0, pt b1 0), (1, .agg cs12.toArray)] rfl <| Za <| Z0 ?_
 obtain ⟨v16, v18, v20, v22, v24, v26, rfl, rs17, rs19, rs21, rs23, rs25, rs27⟩ := rp_St.1 r13
 refine Zd2 (cs := [vi x11.op, .string x11.name, v16, v18, v20, vi x11.n, v22, v24, v26, .bool x11.els]) rfl rfl rfl rfl S0.sub (fun w28 b29 hb30 s31 ob32 => ?_)
 have ne33 : b1 ≠ b29 := ob10.ne_new hb30
 have g34 : w0.heap.size ≤ b29 := by rw [hb30]; exact S0.size
 have S35 := S0.trans0 s31
 refine Z7 <| Z5 <| Za <| Z0 <| Wv rfl (Z2 rfl Z1g) <| Wv rfl (Z8 rfl Z0t (OB.cell ob32 (j := 0) rfl)) <| Z7 <| Z5 <| Z0c <| Za <| Z0 <| Wv rfl (Z0y rfl rfl) <| Wa rfl rfl <| Z7 <| Z5 <| Z12 HF rfl (fun HF => ?_) (fun HF => ?_)
 ·refine Za <| Z0 <| Wa rfl rfl <| Z7 <| Z5 <| Z04 (fun E w48 => ∃ (h47 : Hp) (x51 : ByteArray) (xs52 : List UInt8) (v53 : Value), Z53 k (Z3 k) x2 x9 x11 x51 xs52 = some r ∧ E = [(0, pt b1 0), (3, pt b29 0), (4, .string x51)] ∧ Stp (b1 :: ((Value.slice A4 xs3.length c5).ownBlock.toList ++ [])) w0 h0 w48 h47 ∧ Hle h0 h47 ∧ RS h47 v53 xs52 ∧ Own w48 h47 h0.base 5 1 v53 xs52.length ∧ (∀ i ∈ v53.ownBlock.toList, i ∈ (Value.slice A4 xs3.length c5).ownBlock.toList ∨ w0.heap.size ≤ i) ∧ OB w48 h47 b1 55 [.pointer (bif x2 then some ⟨b1, 0, none⟩ else none), v53, .string x9] ∧ OB w48 h47 b29 44 [vi x11.op, .string x11.name, v16, v18, v20, vi x11.n, v22, v24, v26, .bool x11.els]) ?_ ?_
  ·rintro E w48 ⟨h47, x51, xs52, v53, HF, rfl, S50, le49, rs54, ow55, om56, ob57, ob58⟩
   refine Za ?_
   obtain ⟨hl59, HF⟩ := Zj HF
   obtain ⟨hl60, HF⟩ := Zj HF
   obtain ⟨A61, c62, rfl, rs63⟩ := RS.form (rs21.mono ((s31.le).trans le49))
   obtain ⟨e64, he65, HF⟩ := Z6 HF
   obtain ⟨b66, o67, rfl, h69, h70, ra68⟩ := RS.atO rs63 he65
   obtain ⟨cs71, r72, hc73⟩ := ra68
   obtain ⟨r74, hr75, HF⟩ := Z6 HF
   obtain ⟨hl76, HF⟩ := Zj HF
   obtain ⟨hl77, HF⟩ := Zj HF
   obtain ⟨e78, he79, HF⟩ := Z6 HF
   obtain ⟨b80, o81, hA, h83, h84, ra82⟩ := RS.atO rs63 he79
   obtain ⟨rfl, rfl⟩ := Z5m hA
   obtain ⟨cs85, r86, hc87⟩ := ra82
   obtain ⟨r88, hr89, HF⟩ := Z6 HF
   obtain ⟨hl90, HF⟩ := Zj HF
   obtain ⟨hl91, HF⟩ := Zj HF
   obtain ⟨hl92, HF⟩ := Zj HF
   refine Z2z (m := 23) [(0, pt b1 0), (3, pt b29 0), (4, .string x51)] [0, 3, 4] rfl (fun i v w h => match i with | 0 => v = pt b1 0 | 1 => v = pt b1 0 | 2 => v = pt b1 0 | 3 => v = pt b29 1 | 4 => v = .string x11.name | 5 => v = .string (b'16 ++ x11.name) | 6 => v = .string ((b'16 ++ x11.name) ++ b'96) | 7 => v = pt b29 4 | 8 => v = sl b66 o67 (x11.args).length c62 | 9 => v = pt b66 (o67 + Int.toNat 0 * 6) | 10 => v = .agg cs71.toArray | 11 => v = .string r74 | 12 => v = .string (((b'16 ++ x11.name) ++ b'96) ++ r74) | 13 => v = .string ((((b'16 ++ x11.name) ++ b'96) ++ r74) ++ b'93) | 14 => v = pt b29 4 | 15 => v = sl b66 o67 (x11.args).length c62 | 16 => v = pt b66 (o67 + Int.toNat 1 * 6) | 17 => v = .agg cs85.toArray | 18 => v = .string r88 | 19 => v = .string (((((b'16 ++ x11.name) ++ b'96) ++ r74) ++ b'93) ++ r88) | 20 => v = .string x51 | 21 => v = .string ((((((b'16 ++ x11.name) ++ b'96) ++ r74) ++ b'93) ++ r88) ++ x51) | 22 => v = .string (((((((b'16 ++ x11.name) ++ b'96) ++ r74) ++ b'93) ++ r88) ++ x51) ++ b'88) | _ => True) Z4c S50.sub rfl rfl rfl rfl rfl ?_ ?_ ?_
   ·intro i v w h w2 h2 hΦ hst
    match i, hΦ with
    | 0, hΦ | 1, hΦ | 2, hΦ | 3, hΦ | 4, hΦ | 5, hΦ | 6, hΦ | 7, hΦ | 8, hΦ | 9, hΦ | 10, hΦ | 11, hΦ | 12, hΦ | 13, hΦ | 14, hΦ | 15, hΦ | 16, hΦ | 17, hΦ | 18, hΦ | 19, hΦ | 20, hΦ | 21, hΦ | 22, hΦ => exact hΦ
    | i + 23, _ => exact trivial
   ·refine ⟨?_, ?_, ?_, ?_, ?_, ?_, ?_, ?_, ?_, ?_, ?_, ?_, ?_, ?_, ?_, ?_, ?_, ?_, ?_, ?_, ?_, ?_, ?_, trivial⟩
    ·intro a w93 h94 s95 hat hF
     exact Z4 hat rfl (Z0j rfl) s95.sub (by exact rfl)
    ·intro a w93 h94 s95 hat hF
     exact Z4 (Z1 hat (hF 0 16 rfl rfl)) rfl (Z02 rfl) s95.sub (by exact rfl)
    ·intro a w93 h94 s95 hat hF
     exact Z4 (Z1 hat (hF 1 17 rfl rfl)) rfl (Z2 rfl Z1z) s95.sub (by exact rfl)
    ·intro a w93 h94 s95 hat hF
     exact Z4 hat rfl (Z2 rfl Z62) s95.sub (by exact rfl)
    ·intro a w93 h94 s95 hat hF
     have ob96 := (ob58.step0 s95)
     exact Z4 (Z1 hat (hF 3 19 rfl rfl)) rfl (Z8 rfl Z3l (OB.cell ob96 (j := 1) rfl)) s95.sub (by exact rfl)
    ·intro a w93 h94 s95 hat hF
     exact Z4 (Z1 hat (hF 4 20 rfl rfl)) rfl (Zs rfl rfl hl59) s95.sub (by exact rfl)
    ·intro a w93 h94 s95 hat hF
     exact Z4 (Z1 hat (hF 5 21 rfl rfl)) rfl (Zs rfl rfl hl60) s95.sub (by exact rfl)
    ·intro a w93 h94 s95 hat hF
     exact Z4 hat rfl (Z2 rfl Z1f) s95.sub (by exact rfl)
    ·intro a w93 h94 s95 hat hF
     have ob97 := (ob58.step0 s95)
     exact Z4 (Z1 hat (hF 7 23 rfl rfl)) rfl (Z8 rfl Z0h (OB.cell ob97 (j := 4) rfl)) s95.sub (by exact rfl)
    ·intro a w93 h94 s95 hat hF
     exact Z4 (Z1 hat (hF 8 24 rfl rfl)) rfl (Zk rfl rfl Zx Zu h69 h70) s95.sub (by exact rfl)
    ·intro a w93 h94 s95 hat hF
     exact Z4 (Z1 hat (hF 9 25 rfl rfl)) rfl (Z0w (cs := cs71) rfl Z1u (by rw [Rp.len (Rp.mono (s95.le) r72)]; exact Zu) (fun j v hv => s95.sub.at_ _ _ _ ((fun i v hv => (s95.le).1 _ _ _ (hc73 i v hv)) j v hv))) s95.sub (by exact rfl)
    ·intro a w93 h94 s95 hat hF
     refine Z0n (Z1 hat (hF 10 26 rfl rfl)) rfl (Zi (vs := [.agg cs71.toArray]) rfl Z9f) (Z6o _ hr75 s95.sub (Rp.mono (s95.le) r72)) ?_
     rintro _ w98 ⟨h99, s100, rfl⟩
     exact ⟨_, h99, rfl, s100, (by exact rfl)⟩
    ·intro a w93 h94 s95 hat hF
     exact Z4 (Z1 (Z1 hat (hF 6 22 rfl rfl)) (hF 11 27 rfl rfl)) rfl (Zs rfl rfl hl76) s95.sub (by exact rfl)
    ·intro a w93 h94 s95 hat hF
     exact Z4 (Z1 hat (hF 12 28 rfl rfl)) rfl (Zs rfl rfl hl77) s95.sub (by exact rfl)
    ·intro a w93 h94 s95 hat hF
     exact Z4 hat rfl (Z2 rfl Z1f) s95.sub (by exact rfl)
    ·intro a w93 h94 s95 hat hF
     have ob101 := (ob58.step0 s95)
     exact Z4 (Z1 hat (hF 14 30 rfl rfl)) rfl (Z8 rfl Z0h (OB.cell ob101 (j := 4) rfl)) s95.sub (by exact rfl)
    ·intro a w93 h94 s95 hat hF
     exact Z4 (Z1 hat (hF 15 31 rfl rfl)) rfl (Zk rfl rfl Zx Zu h83 h84) s95.sub (by exact rfl)
    ·intro a w93 h94 s95 hat hF
     exact Z4 (Z1 hat (hF 16 32 rfl rfl)) rfl (Z0w (cs := cs85) rfl Z1u (by rw [Rp.len (Rp.mono (s95.le) r86)]; exact Zu) (fun j v hv => s95.sub.at_ _ _ _ ((fun i v hv => (s95.le).1 _ _ _ (hc87 i v hv)) j v hv))) s95.sub (by exact rfl)
    ·intro a w93 h94 s95 hat hF
     refine Z0n (Z1 hat (hF 17 33 rfl rfl)) rfl (Zi (vs := [.agg cs85.toArray]) rfl Z9f) (Z6o _ hr89 s95.sub (Rp.mono (s95.le) r86)) ?_
     rintro _ w102 ⟨h103, s104, rfl⟩
     exact ⟨_, h103, rfl, s104, (by exact rfl)⟩
    ·intro a w93 h94 s95 hat hF
     exact Z4 (Z1 (Z1 hat (hF 13 29 rfl rfl)) (hF 18 34 rfl rfl)) rfl (Zs rfl rfl hl90) s95.sub (by exact rfl)
    ·intro a w93 h94 s95 hat hF
     exact Z4 hat rfl (Z0j rfl) s95.sub (by exact rfl)
    ·intro a w93 h94 s95 hat hF
     exact Z4 (Z1 (Z1 hat (hF 19 35 rfl rfl)) (hF 20 36 rfl rfl)) rfl (Zs rfl rfl hl91) s95.sub (by exact rfl)
    intro a w93 h94 s95 hat hF
    exact Z4 (Z1 hat (hF 21 37 rfl rfl)) rfl (Zs rfl rfl hl92) s95.sub (by exact rfl)
   intro a w93 h94 s95 hat hF
   obtain hv0 := hF 0 16 (by decide) rfl
   obtain hv1 := hF 1 17 (by decide) rfl
   obtain hv2 := hF 2 18 (by decide) rfl
   obtain hv3 := hF 3 19 (by decide) rfl
   obtain hv4 := hF 4 20 (by decide) rfl
   obtain hv5 := hF 5 21 (by decide) rfl
   obtain hv6 := hF 6 22 (by decide) rfl
   obtain hv7 := hF 7 23 (by decide) rfl
   obtain hv8 := hF 8 24 (by decide) rfl
   obtain hv9 := hF 9 25 (by decide) rfl
   obtain hv10 := hF 10 26 (by decide) rfl
   obtain hv11 := hF 11 27 (by decide) rfl
   obtain hv12 := hF 12 28 (by decide) rfl
   obtain hv13 := hF 13 29 (by decide) rfl
   obtain hv14 := hF 14 30 (by decide) rfl
   obtain hv15 := hF 15 31 (by decide) rfl
   obtain hv16 := hF 16 32 (by decide) rfl
   obtain hv17 := hF 17 33 (by decide) rfl
   obtain hv18 := hF 18 34 (by decide) rfl
   obtain hv19 := hF 19 35 (by decide) rfl
   obtain hv20 := hF 20 36 (by decide) rfl
   obtain hv21 := hF 21 37 (by decide) rfl
   obtain hv22 := hF 22 38 (by decide) rfl
   refine Z7u [(38, .string (((((((b'16 ++ x11.name) ++ b'96) ++ r74) ++ b'93) ++ r88) ++ x51) ++ b'88)), (37, .string ((((((b'16 ++ x11.name) ++ b'96) ++ r74) ++ b'93) ++ r88) ++ x51)), (36, .string x51), (35, .string (((((b'16 ++ x11.name) ++ b'96) ++ r74) ++ b'93) ++ r88)), (34, .string r88), (33, .agg cs85.toArray), (32, pt b66 (o67 + Int.toNat 1 * 6)), (31, sl b66 o67 (x11.args).length c62), (30, pt b29 4), (29, .string ((((b'16 ++ x11.name) ++ b'96) ++ r74) ++ b'93)), (28, .string (((b'16 ++ x11.name) ++ b'96) ++ r74)), (27, .string r74), (26, .agg cs71.toArray), (25, pt b66 (o67 + Int.toNat 0 * 6)), (24, sl b66 o67 (x11.args).length c62), (23, pt b29 4), (22, .string ((b'16 ++ x11.name) ++ b'96)), (21, .string (b'16 ++ x11.name)), (20, .string x11.name), (19, pt b29 1), (18, pt b1 0), (17, pt b1 0), (16, pt b1 0), (0, pt b1 0), (3, pt b29 0), (4, .string x51)] (Z1 (Z1 (Z1 (Z1 (Z1 (Z1 (Z1 (Z1 (Z1 (Z1 (Z1 (Z1 (Z1 (Z1 (Z1 (Z1 (Z1 (Z1 (Z1 (Z1 (Z1 (Z1 (Z1 hat hv0) hv1) hv2) hv3) hv4) hv5) hv6) hv7) hv8) hv9) hv10) hv11) hv12) hv13) hv14) hv15) hv16) hv17) hv18) hv19) hv20) hv21) hv22) ?_
   have S105 := S50.trans0 s95
   obtain ⟨A106, c107, rfl, rs108⟩ := RS.form (rs54.mono (s95.le))
   have ob109 := (ob57.step0 s95)
   obtain ⟨r110, hr111, HF⟩ := Z6 HF
   refine Wc rfl (Zi (vs := [pt b1 0, .string (((((((b'16 ++ x11.name) ++ b'96) ++ r74) ++ b'93) ++ r88) ++ x51) ++ b'88)]) rfl Z7m) (Z0p _ hr111 S105.sub rs108 (by rw [S105.eqb]; exact (ow55.step0 s95)) ob109 tn14) ?_
   have ob116 := (ob58.step0 s95)
   rintro v112 w113 ⟨h114, s115, rfl, ⟨v117, rs118, ow119, om120, ob123⟩⟩
   have ow121 := Own.rb ow119 S105.eqb
   have om122 : ∀ i ∈ v117.ownBlock.toList, i ∈ (Value.slice A4 xs3.length c5).ownBlock.toList ∨ w0.heap.size ≤ i := fun i hi => (om120 i hi).elim (fun q => om56 i q) (fun q => .inr (Nat.le_trans S105.size q))
   have S124 := S105.trans s115 (Zy (.inl (by simp)) (Z7v (fun i hi => (om56 i hi).elim (fun q => .inl (by simp only [List.mem_cons, List.mem_append]; simp [q])) .inr) Z0q))
   refine Z7 <| Z5 <| Za <| Z0 <| Wm rfl rfl <| Wv rfl (Z2 rfl Z48) ?_
   have ob125 := (ob116.step s115 (Z51 (Ne.symm ne33) (Z8w (fun hm => (ow55.step0 s95).ne ob116 (by decide) _ hm rfl) Z8u)))
   refine Wv rfl (Z8 rfl Z2r (OB.cell ob125 (j := 6) rfl)) ?_
   obtain ⟨A126, c127, rfl, rs128⟩ := RS.form rs118
   obtain ⟨r129, hr130, HF⟩ := Z6 HF
   refine Wc rfl (Zi (vs := [pt b1 0, v22]) rfl t_ent_41) ((IH _ (Nat.le_refl _)).2.2.2.1 hr130 S124.sub rs128 (by rw [S124.eqb]; exact ow121) (rs23.mono ((s31.le).trans ((le49).trans ((s95.le).trans s115.le)))) ob123 tn14) ?_
   rintro v131 w132 ⟨h133, s134, rfl, ⟨v135, rs136, ow137, om138, ob141⟩⟩
   have ow139 := Own.rb ow137 S124.eqb
   have om140 : ∀ i ∈ v135.ownBlock.toList, i ∈ (Value.slice A4 xs3.length c5).ownBlock.toList ∨ w0.heap.size ≤ i := fun i hi => (om138 i hi).elim (fun q => om122 i q) (fun q => .inr (Nat.le_trans S124.size q))
   have S142 := S124.trans s134 (Zy (.inl (by simp)) (Z7v (fun i hi => (om122 i hi).elim (fun q => .inl (by simp only [List.mem_cons, List.mem_append]; simp [q])) .inr) Z0q))
   refine Z7 <| Z5 <| Z0 <| Wm rfl rfl <| Wv rfl (Z02 rfl) <| Wv rfl (Z2 rfl Z1z) ?_
   obtain ⟨A143, c144, rfl, rs145⟩ := RS.form rs136
   obtain ⟨r146, hr147, HF⟩ := Z6 HF
   refine Wc rfl (Zi (vs := [pt b1 0, .string (⟨#[101, 110, 100, 95, 102, 111, 114, 59]⟩ : ByteArray)]) rfl Z7m) (Z0p _ hr147 S142.sub rs145 (by rw [S142.eqb]; exact ow139) ob141 tn14) ?_
   have ob152 := (ob125.step s134 (Z51 (Ne.symm ne33) (Z8w (fun hm => ow121.ne ob125 (by decide) _ hm rfl) Z8u)))
   rintro v148 w149 ⟨h150, s151, rfl, ⟨v153, rs154, ow155, om156, ob159⟩⟩
   have ow157 := Own.rb ow155 S142.eqb
   have om158 : ∀ i ∈ v153.ownBlock.toList, i ∈ (Value.slice A4 xs3.length c5).ownBlock.toList ∨ w0.heap.size ≤ i := fun i hi => (om156 i hi).elim (fun q => om140 i q) (fun q => .inr (Nat.le_trans S142.size q))
   have S160 := S142.trans s151 (Zy (.inl (by simp)) (Z7v (fun i hi => (om140 i hi).elim (fun q => .inl (by simp only [List.mem_cons, List.mem_append]; simp [q])) .inr) Z0q))
   refine Z7 <| Zv <| Z5v rfl ?_
   obtain rfl := Option.some.inj HF
   exact ⟨_, rfl, h150, S160, rfl, ⟨_, rs154, ow157, om158, ob159⟩⟩
  intro J161
  refine Za <| Z0 <| Wv rfl (Z2 rfl Z3s) <| Wv rfl (Z8 rfl Z0t (OB.cell ob32 (j := 5) rfl)) <| Wv rfl (ov_neq rfl rfl) <| Z7 <| Z5 <| Z12 HF rfl (fun HF => ?_) (fun HF => ?_)
  ·refine Z0 <| Wv rfl (Z2 rfl Z3s) <| Wv rfl (Z8 rfl Z0t (OB.cell ob32 (j := 5) rfl)) ?_
   obtain ⟨r38, hr39, HF⟩ := Z6 HF
   refine Wc rfl (Zi (vs := [vi x11.n]) rfl t_ent_36) (Zbh _ hr39 S35.sub) ?_
   have ob44 := (ob10.step0 s31)
   rintro _ w41 ⟨h42, s43, rfl⟩
   have S45 := S35.trans0 s43
   obtain ⟨hl46, HF⟩ := Zj HF
   refine Wv rfl (Zs rfl rfl hl46) <| Wa rfl rfl <| Z7 ?_
   have ob162 := (ob44.step0 s43)
   have ob163 := (ob32.step0 s43)
   refine Z06 [0, 3, 4] _ rfl ?_
   exact J161 ⟨h42, b'97 ++ r38, xs3, .slice A4 xs3.length c5, HF, rfl, S45, s43.le, (rs6.mono ((s31.le).trans s43.le)), ((ow7.step0 s31).step0 s43), om8, ob162, ob163⟩
  refine Zm ?_
  have ob164 := (ob10.step0 s31)
  refine Z06 [0, 3, 4] _ rfl ?_
  exact J161 ⟨h0, Z2c, xs3, .slice A4 xs3.length c5, HF, rfl, S35, Hle.refl _, (rs6.mono (s31.le)), (ow7.step0 s31), om8, ob164, ob32⟩
 refine Za <| Z0 <| Wv rfl (Z0y rfl rfl) <| Wa rfl rfl <| Z7 <| Z5 <| Z12 HF rfl (fun HF => ?_) (fun HF => ?_)
 ·refine Za ?_
  obtain ⟨A166, c167, rfl, rs168⟩ := RS.form (rs21.mono (s31.le))
  obtain ⟨e169, he170, HF⟩ := Z6 HF
  obtain ⟨b171, o172, rfl, h174, h175, ra173⟩ := RS.atO rs168 he170
  obtain ⟨cs176, r177, hc178⟩ := ra173
  obtain ⟨r179, hr180, HF⟩ := Z6 HF
  obtain ⟨hl181, HF⟩ := Zj HF
  obtain ⟨hl182, HF⟩ := Zj HF
  refine Z2z (m := 10) [(0, pt b1 0), (3, pt b29 0)] [0, 3] rfl (fun i v w h => match i with | 0 => v = pt b1 0 | 1 => v = pt b1 0 | 2 => v = pt b1 0 | 3 => v = pt b29 4 | 4 => v = sl b171 o172 (x11.args).length c167 | 5 => v = pt b171 (o172 + Int.toNat 0 * 6) | 6 => v = .agg cs176.toArray | 7 => v = .string r179 | 8 => v = .string (b'82 ++ r179) | 9 => v = .string ((b'82 ++ r179) ++ b'88) | _ => True) Z4c S35.sub rfl rfl rfl rfl rfl ?_ ?_ ?_
  ·intro i v w h w2 h2 hΦ hst
   match i, hΦ with
   | 0, hΦ | 1, hΦ | 2, hΦ | 3, hΦ | 4, hΦ | 5, hΦ | 6, hΦ | 7, hΦ | 8, hΦ | 9, hΦ => exact hΦ
   | i + 10, _ => exact trivial
  ·refine ⟨?_, ?_, ?_, ?_, ?_, ?_, ?_, ?_, ?_, ?_, trivial⟩
   ·intro a w183 h184 s185 hat hF
    exact Z4 hat rfl (Z0j rfl) s185.sub (by exact rfl)
   ·intro a w183 h184 s185 hat hF
    exact Z4 (Z1 hat (hF 0 50 rfl rfl)) rfl (Z02 rfl) s185.sub (by exact rfl)
   ·intro a w183 h184 s185 hat hF
    exact Z4 (Z1 hat (hF 1 51 rfl rfl)) rfl (Z2 rfl Z1z) s185.sub (by exact rfl)
   ·intro a w183 h184 s185 hat hF
    exact Z4 hat rfl (Z2 rfl Z1f) s185.sub (by exact rfl)
   ·intro a w183 h184 s185 hat hF
    have ob186 := (ob32.step0 s185)
    exact Z4 (Z1 hat (hF 3 53 rfl rfl)) rfl (Z8 rfl Z0h (OB.cell ob186 (j := 4) rfl)) s185.sub (by exact rfl)
   ·intro a w183 h184 s185 hat hF
    exact Z4 (Z1 hat (hF 4 54 rfl rfl)) rfl (Zk rfl rfl Zx Zu h174 h175) s185.sub (by exact rfl)
   ·intro a w183 h184 s185 hat hF
    exact Z4 (Z1 hat (hF 5 55 rfl rfl)) rfl (Z0w (cs := cs176) rfl Z1u (by rw [Rp.len (Rp.mono (s185.le) r177)]; exact Zu) (fun j v hv => s185.sub.at_ _ _ _ ((fun i v hv => (s185.le).1 _ _ _ (hc178 i v hv)) j v hv))) s185.sub (by exact rfl)
   ·intro a w183 h184 s185 hat hF
    refine Z0n (Z1 hat (hF 6 56 rfl rfl)) rfl (Zi (vs := [.agg cs176.toArray]) rfl Z9f) (Z6o _ hr180 s185.sub (Rp.mono (s185.le) r177)) ?_
    rintro _ w187 ⟨h188, s189, rfl⟩
    exact ⟨_, h188, rfl, s189, (by exact rfl)⟩
   ·intro a w183 h184 s185 hat hF
    exact Z4 (Z1 hat (hF 7 57 rfl rfl)) rfl (Zs rfl rfl hl181) s185.sub (by exact rfl)
   intro a w183 h184 s185 hat hF
   exact Z4 (Z1 hat (hF 8 58 rfl rfl)) rfl (Zs rfl rfl hl182) s185.sub (by exact rfl)
  intro a w183 h184 s185 hat hF
  obtain hv0 := hF 0 50 (by decide) rfl
  obtain hv1 := hF 1 51 (by decide) rfl
  obtain hv2 := hF 2 52 (by decide) rfl
  obtain hv3 := hF 3 53 (by decide) rfl
  obtain hv4 := hF 4 54 (by decide) rfl
  obtain hv5 := hF 5 55 (by decide) rfl
  obtain hv6 := hF 6 56 (by decide) rfl
  obtain hv7 := hF 7 57 (by decide) rfl
  obtain hv8 := hF 8 58 (by decide) rfl
  obtain hv9 := hF 9 59 (by decide) rfl
  refine Z7u [(59, .string ((b'82 ++ r179) ++ b'88)), (58, .string (b'82 ++ r179)), (57, .string r179), (56, .agg cs176.toArray), (55, pt b171 (o172 + Int.toNat 0 * 6)), (54, sl b171 o172 (x11.args).length c167), (53, pt b29 4), (52, pt b1 0), (51, pt b1 0), (50, pt b1 0), (0, pt b1 0), (3, pt b29 0)] (Z1 (Z1 (Z1 (Z1 (Z1 (Z1 (Z1 (Z1 (Z1 (Z1 hat hv0) hv1) hv2) hv3) hv4) hv5) hv6) hv7) hv8) hv9) ?_
  have S190 := S35.trans0 s185
  have ob191 := ((ob10.step0 s31).step0 s185)
  obtain ⟨r192, hr193, HF⟩ := Z6 HF
  refine Wc rfl (Zi (vs := [pt b1 0, .string ((b'82 ++ r179) ++ b'88)]) rfl Z7m) (Z0p _ hr193 S190.sub (rs6.mono ((s31.le).trans s185.le)) (by rw [S190.eqb]; exact ((ow7.step0 s31).step0 s185)) ob191 tn14) ?_
  have ob198 := (ob32.step0 s185)
  rintro v194 w195 ⟨h196, s197, rfl, ⟨v199, rs200, ow201, om202, ob205⟩⟩
  have ow203 := Own.rb ow201 S190.eqb
  have om204 : ∀ i ∈ v199.ownBlock.toList, i ∈ (Value.slice A4 xs3.length c5).ownBlock.toList ∨ w0.heap.size ≤ i := fun i hi => (om202 i hi).elim (fun q => om8 i q) (fun q => .inr (Nat.le_trans S190.size q))
  have S206 := S190.trans s197 (Zy (.inl (by simp)) (Z7v (fun i hi => (om8 i hi).elim (fun q => .inl (by simp only [List.mem_cons, List.mem_append]; simp [q])) .inr) Z0q))
  refine Z7 <| Z5 <| Za <| Z0 <| Wm rfl rfl <| Wv rfl (Z2 rfl Z48) ?_
  have ob207 := (ob198.step s197 (Z51 (Ne.symm ne33) (Z8w (fun hm => ((ow7.step0 s31).step0 s185).ne ob198 (by decide) _ hm rfl) Z8u)))
  refine Wv rfl (Z8 rfl Z2r (OB.cell ob207 (j := 6) rfl)) ?_
  obtain ⟨A208, c209, rfl, rs210⟩ := RS.form rs200
  obtain ⟨r211, hr212, HF⟩ := Z6 HF
  refine Wc rfl (Zi (vs := [pt b1 0, v22]) rfl t_ent_41) ((IH _ (Nat.le_refl _)).2.2.2.1 hr212 S206.sub rs210 (by rw [S206.eqb]; exact ow203) (rs23.mono ((s31.le).trans ((s185.le).trans s197.le))) ob205 tn14) ?_
  rintro v213 w214 ⟨h215, s216, rfl, ⟨v217, rs218, ow219, om220, ob223⟩⟩
  have ow221 := Own.rb ow219 S206.eqb
  have om222 : ∀ i ∈ v217.ownBlock.toList, i ∈ (Value.slice A4 xs3.length c5).ownBlock.toList ∨ w0.heap.size ≤ i := fun i hi => (om220 i hi).elim (fun q => om204 i q) (fun q => .inr (Nat.le_trans S206.size q))
  have S224 := S206.trans s216 (Zy (.inl (by simp)) (Z7v (fun i hi => (om204 i hi).elim (fun q => .inl (by simp only [List.mem_cons, List.mem_append]; simp [q])) .inr) Z0q))
  refine Z7 <| Z5 <| Z0 <| Wm rfl rfl <| Wv rfl (Z02 rfl) <| Wv rfl (Z2 rfl Z1z) ?_
  obtain ⟨A225, c226, rfl, rs227⟩ := RS.form rs218
  obtain ⟨r228, hr229, HF⟩ := Z6 HF
  refine Wc rfl (Zi (vs := [pt b1 0, .string (⟨#[101, 110, 100, 95, 119, 104, 105, 108, 101, 59]⟩ : ByteArray)]) rfl Z7m) (Z0p _ hr229 S224.sub rs227 (by rw [S224.eqb]; exact ow221) ob223 tn14) ?_
  have ob234 := (ob207.step s216 (Z51 (Ne.symm ne33) (Z8w (fun hm => ow203.ne ob207 (by decide) _ hm rfl) Z8u)))
  rintro v230 w231 ⟨h232, s233, rfl, ⟨v235, rs236, ow237, om238, ob241⟩⟩
  have ow239 := Own.rb ow237 S224.eqb
  have om240 : ∀ i ∈ v235.ownBlock.toList, i ∈ (Value.slice A4 xs3.length c5).ownBlock.toList ∨ w0.heap.size ≤ i := fun i hi => (om238 i hi).elim (fun q => om222 i q) (fun q => .inr (Nat.le_trans S224.size q))
  have S242 := S224.trans s233 (Zy (.inl (by simp)) (Z7v (fun i hi => (om222 i hi).elim (fun q => .inl (by simp only [List.mem_cons, List.mem_append]; simp [q])) .inr) Z0q))
  refine Z7 <| Zv <| Z5v rfl ?_
  obtain rfl := Option.some.inj HF
  exact ⟨_, rfl, h232, S242, rfl, ⟨_, rs236, ow239, om240, ob241⟩⟩
 refine Za <| Z0 <| Wv rfl (Z0y rfl rfl) <| Wa rfl rfl <| Z7 <| Z5 <| Z12 HF rfl (fun HF => ?_) (fun HF => ?_)
 ·refine Za <| Z0 <| Wm rfl rfl <| Wv rfl (Z02 rfl) <| Wv rfl (Z2 rfl Z1z) ?_
  have ob244 := (ob10.step0 s31)
  obtain ⟨r245, hr246, HF⟩ := Z6 HF
  refine Wc rfl (Zi (vs := [pt b1 0, .string b'57]) rfl Z7m) (Z0p _ hr246 S35.sub (rs6.mono (s31.le)) (by rw [S35.eqb]; exact (ow7.step0 s31)) ob244 tn14) ?_
  rintro v247 w248 ⟨h249, s250, rfl, ⟨v251, rs252, ow253, om254, ob257⟩⟩
  have ow255 := Own.rb ow253 S35.eqb
  have om256 : ∀ i ∈ v251.ownBlock.toList, i ∈ (Value.slice A4 xs3.length c5).ownBlock.toList ∨ w0.heap.size ≤ i := fun i hi => (om254 i hi).elim (fun q => om8 i q) (fun q => .inr (Nat.le_trans S35.size q))
  have S258 := S35.trans s250 (Zy (.inl (by simp)) (Z7v (fun i hi => (om8 i hi).elim (fun q => .inl (by simp only [List.mem_cons, List.mem_append]; simp [q])) .inr) Z0q))
  refine Z7 <| Z5 <| Za <| Z0 <| Wm rfl rfl <| Wv rfl (Z2 rfl Z48) ?_
  have ob259 := (ob32.step s250 (Z51 (Ne.symm ne33) (Z8w (fun hm => (ow7.step0 s31).ne ob32 (by decide) _ hm rfl) Z8u)))
  refine Wv rfl (Z8 rfl Z2r (OB.cell ob259 (j := 6) rfl)) ?_
  obtain ⟨A260, c261, rfl, rs262⟩ := RS.form rs252
  obtain ⟨r263, hr264, HF⟩ := Z6 HF
  refine Wc rfl (Zi (vs := [pt b1 0, v22]) rfl t_ent_41) ((IH _ (Nat.le_refl _)).2.2.2.1 hr264 S258.sub rs262 (by rw [S258.eqb]; exact ow255) (rs23.mono ((s31.le).trans s250.le)) ob257 tn14) ?_
  rintro v265 w266 ⟨h267, s268, rfl, ⟨v269, rs270, ow271, om272, ob275⟩⟩
  have ow273 := Own.rb ow271 S258.eqb
  have om274 : ∀ i ∈ v269.ownBlock.toList, i ∈ (Value.slice A4 xs3.length c5).ownBlock.toList ∨ w0.heap.size ≤ i := fun i hi => (om272 i hi).elim (fun q => om256 i q) (fun q => .inr (Nat.le_trans S258.size q))
  have S276 := S258.trans s268 (Zy (.inl (by simp)) (Z7v (fun i hi => (om256 i hi).elim (fun q => .inl (by simp only [List.mem_cons, List.mem_append]; simp [q])) .inr) Z0q))
  refine Z7 <| Z5 <| Za ?_
  obtain ⟨A277, c278, rfl, rs279⟩ := RS.form (rs21.mono ((s31.le).trans ((s250.le).trans s268.le)))
  obtain ⟨e280, he281, HF⟩ := Z6 HF
  obtain ⟨b282, o283, rfl, h285, h286, ra284⟩ := RS.atO rs279 he281
  obtain ⟨cs287, r288, hc289⟩ := ra284
  obtain ⟨r290, hr291, HF⟩ := Z6 HF
  obtain ⟨hl292, HF⟩ := Zj HF
  refine Z2z (m := 9) [(0, pt b1 0), (3, pt b29 0)] [0, 3] rfl (fun i v w h => match i with | 0 => v = pt b1 0 | 1 => v = pt b1 0 | 2 => v = pt b1 0 | 3 => v = pt b29 4 | 4 => v = sl b282 o283 (x11.args).length c278 | 5 => v = pt b282 (o283 + Int.toNat 0 * 6) | 6 => v = .agg cs287.toArray | 7 => v = .string r290 | 8 => v = .string (b'79 ++ r290) | _ => True) Z4c S276.sub rfl rfl rfl rfl rfl ?_ ?_ ?_
  ·intro i v w h w2 h2 hΦ hst
   match i, hΦ with
   | 0, hΦ | 1, hΦ | 2, hΦ | 3, hΦ | 4, hΦ | 5, hΦ | 6, hΦ | 7, hΦ | 8, hΦ => exact hΦ
   | i + 9, _ => exact trivial
  ·refine ⟨?_, ?_, ?_, ?_, ?_, ?_, ?_, ?_, ?_, trivial⟩
   ·intro a w293 h294 s295 hat hF
    exact Z4 hat rfl (Z0j rfl) s295.sub (by exact rfl)
   ·intro a w293 h294 s295 hat hF
    exact Z4 (Z1 hat (hF 0 79 rfl rfl)) rfl (Z02 rfl) s295.sub (by exact rfl)
   ·intro a w293 h294 s295 hat hF
    exact Z4 (Z1 hat (hF 1 80 rfl rfl)) rfl (Z2 rfl Z1z) s295.sub (by exact rfl)
   ·intro a w293 h294 s295 hat hF
    exact Z4 hat rfl (Z2 rfl Z1f) s295.sub (by exact rfl)
   ·intro a w293 h294 s295 hat hF
    have ob296 := ((ob259.step s268 (Z51 (Ne.symm ne33) (Z8w (fun hm => ow255.ne ob259 (by decide) _ hm rfl) Z8u))).step0 s295)
    exact Z4 (Z1 hat (hF 3 82 rfl rfl)) rfl (Z8 rfl Z0h (OB.cell ob296 (j := 4) rfl)) s295.sub (by exact rfl)
   ·intro a w293 h294 s295 hat hF
    exact Z4 (Z1 hat (hF 4 83 rfl rfl)) rfl (Zk rfl rfl Zx Zu h285 h286) s295.sub (by exact rfl)
   ·intro a w293 h294 s295 hat hF
    exact Z4 (Z1 hat (hF 5 84 rfl rfl)) rfl (Z0w (cs := cs287) rfl Z1u (by rw [Rp.len (Rp.mono (s295.le) r288)]; exact Zu) (fun j v hv => s295.sub.at_ _ _ _ ((fun i v hv => (s295.le).1 _ _ _ (hc289 i v hv)) j v hv))) s295.sub (by exact rfl)
   ·intro a w293 h294 s295 hat hF
    refine Z0n (Z1 hat (hF 6 85 rfl rfl)) rfl (Zi (vs := [.agg cs287.toArray]) rfl Z9f) (Z6o _ hr291 s295.sub (Rp.mono (s295.le) r288)) ?_
    rintro _ w297 ⟨h298, s299, rfl⟩
    exact ⟨_, h298, rfl, s299, (by exact rfl)⟩
   intro a w293 h294 s295 hat hF
   exact Z4 (Z1 hat (hF 7 86 rfl rfl)) rfl (Zs rfl rfl hl292) s295.sub (by exact rfl)
  intro a w293 h294 s295 hat hF
  obtain hv0 := hF 0 79 (by decide) rfl
  obtain hv1 := hF 1 80 (by decide) rfl
  obtain hv2 := hF 2 81 (by decide) rfl
  obtain hv3 := hF 3 82 (by decide) rfl
  obtain hv4 := hF 4 83 (by decide) rfl
  obtain hv5 := hF 5 84 (by decide) rfl
  obtain hv6 := hF 6 85 (by decide) rfl
  obtain hv7 := hF 7 86 (by decide) rfl
  obtain hv8 := hF 8 87 (by decide) rfl
  refine Z7u [(87, .string (b'79 ++ r290)), (86, .string r290), (85, .agg cs287.toArray), (84, pt b282 (o283 + Int.toNat 0 * 6)), (83, sl b282 o283 (x11.args).length c278), (82, pt b29 4), (81, pt b1 0), (80, pt b1 0), (79, pt b1 0), (0, pt b1 0), (3, pt b29 0)] (Z1 (Z1 (Z1 (Z1 (Z1 (Z1 (Z1 (Z1 (Z1 hat hv0) hv1) hv2) hv3) hv4) hv5) hv6) hv7) hv8) ?_
  have S300 := S276.trans0 s295
  obtain ⟨A301, c302, rfl, rs303⟩ := RS.form (rs270.mono (s295.le))
  have ob304 := (ob275.step0 s295)
  obtain ⟨r305, hr306, HF⟩ := Z6 HF
  refine Wc rfl (Zi (vs := [pt b1 0, .string (b'79 ++ r290)]) rfl Z7m) (Z0p _ hr306 S300.sub rs303 (by rw [S300.eqb]; exact (ow273.step0 s295)) ob304 tn14) ?_
  have ob311 := ((ob259.step s268 (Z51 (Ne.symm ne33) (Z8w (fun hm => ow255.ne ob259 (by decide) _ hm rfl) Z8u))).step0 s295)
  rintro v307 w308 ⟨h309, s310, rfl, ⟨v312, rs313, ow314, om315, ob318⟩⟩
  have ow316 := Own.rb ow314 S300.eqb
  have om317 : ∀ i ∈ v312.ownBlock.toList, i ∈ (Value.slice A4 xs3.length c5).ownBlock.toList ∨ w0.heap.size ≤ i := fun i hi => (om315 i hi).elim (fun q => om274 i q) (fun q => .inr (Nat.le_trans S300.size q))
  have S319 := S300.trans s310 (Zy (.inl (by simp)) (Z7v (fun i hi => (om274 i hi).elim (fun q => .inl (by simp only [List.mem_cons, List.mem_append]; simp [q])) .inr) Z0q))
  refine Z7 <| Z5 <| Z0 <| Wm rfl rfl <| Wv rfl (Z02 rfl) <| Wv rfl (Z2 rfl Z1z) ?_
  obtain ⟨A320, c321, rfl, rs322⟩ := RS.form rs313
  obtain ⟨r323, hr324, HF⟩ := Z6 HF
  refine Wc rfl (Zi (vs := [pt b1 0, .string (⟨#[101, 110, 100, 95, 114, 101, 112, 101, 97, 116, 59]⟩ : ByteArray)]) rfl Z7m) (Z0p _ hr324 S319.sub rs322 (by rw [S319.eqb]; exact ow316) ob318 tn14) ?_
  have ob329 := (ob311.step s310 (Z51 (Ne.symm ne33) (Z8w (fun hm => (ow273.step0 s295).ne ob311 (by decide) _ hm rfl) Z8u)))
  rintro v325 w326 ⟨h327, s328, rfl, ⟨v330, rs331, ow332, om333, ob336⟩⟩
  have ow334 := Own.rb ow332 S319.eqb
  have om335 : ∀ i ∈ v330.ownBlock.toList, i ∈ (Value.slice A4 xs3.length c5).ownBlock.toList ∨ w0.heap.size ≤ i := fun i hi => (om333 i hi).elim (fun q => om317 i q) (fun q => .inr (Nat.le_trans S319.size q))
  have S337 := S319.trans s328 (Zy (.inl (by simp)) (Z7v (fun i hi => (om317 i hi).elim (fun q => .inl (by simp only [List.mem_cons, List.mem_append]; simp [q])) .inr) Z0q))
  refine Z7 <| Zv <| Z5v rfl ?_
  obtain rfl := Option.some.inj HF
  exact ⟨_, rfl, h327, S337, rfl, ⟨_, rs331, ow334, om335, ob336⟩⟩
 refine Zm <| Zv ?_
 have ob338 := (ob10.step0 s31)
 refine Z5v rfl ?_
 obtain rfl := Option.some.inj HF
 exact ⟨_, rfl, h0, S35, rfl, ⟨_, (rs6.mono (s31.le)), (ow7.step0 s31), om8, ob338⟩⟩
theorem s_print_printer_stmt (k : Nat) (IH : ∀ j, j ≤ k → Z1m (Z3 j).print_lines_inside ∧ Z1i (Z3 j).print_printer_loop ∧ Z1n (Z3 j).print_printer_stmt ∧ Z1p (Z3 j).print_printer_text ∧ Z1d (Z3 j).print_printer_other ∧ Z19 (Z3 j).print_printer_stmt_1 ∧ Z18 (Z3 j).print_printer_text_1 ∧ Z13 (Z3 j).print_lines_inside_v1) : Z1n (Z00 k (Z3 k)) := by
 intro x2 xs3 x9 x11 r HF w0 h0 b1 A4 c5 cs12 hs0 rs6 ow7 r13 ob10 tn14
 have S0 : Stp (b1 :: ((Value.slice A4 xs3.length c5).ownBlock.toList ++ [])) w0 h0 w0 h0 := Stp.refl hs0 _
 have om8 : ∀ i ∈ (Value.slice A4 xs3.length c5).ownBlock.toList, i ∈ (Value.slice A4 xs3.length c5).ownBlock.toList ∨ w0.heap.size ≤ i := fun i hi => .inl hi
 have lt15 : b1 < w0.heap.size := OB.lt ob10
 refine Z66 (n := 142) Tryz.func20 rfl Tryz.ntmps20 rfl [(0, pt b1 0), (1, .agg cs12.toArray)] rfl <| Za <| Z0 <| Zd2 (cs := [pt b1 0]) rfl rfl rfl rfl S0.sub (fun w16 b17 hb18 s19 ob20 => ?_)
 have ne21 : b1 ≠ b17 := ob10.ne_new hb18
 have g22 : w0.heap.size ≤ b17 := by rw [hb18]; exact S0.size
 have S23 := S0.trans0 s19
 have ob24 := (ob10.step0 s19)
 obtain ⟨v25, v27, v29, v31, v33, v35, rfl, rs26, rs28, rs30, rs32, rs34, rs36⟩ := rp_St.1 (Rp.mono (s19.le) r13)
 refine Zd2 (cs := [vi x11.op, .string x11.name, v25, v27, v29, vi x11.n, v31, v33, v35, .bool x11.els]) rfl rfl rfl rfl S23.sub (fun w37 b38 hb39 s40 ob41 => ?_)
 have ne42 : b1 ≠ b38 := ob24.ne_new hb39
 have ne43 : b17 ≠ b38 := ob20.ne_new hb39
 have g44 : w0.heap.size ≤ b38 := by rw [hb39]; exact S23.size
 have S45 := S23.trans0 s40
 refine Z7 <| Z5 <| Za <| Z0 <| Wv rfl (Z2 rfl Z1g) <| Wv rfl (Z8 rfl Z0t (OB.cell ob41 (j := 0) rfl)) <| Z7 <| Z5 <| Z0c <| Za <| Z0 <| Wv rfl (Z0y rfl rfl) <| Wa rfl rfl <| Z7 <| Z5 <| Z12 HF rfl (fun HF => ?_) (fun HF => ?_)
 ·refine Za <| Z0 <| Wv rfl (Z2 rfl Z62) <| Wv rfl (Z8 rfl Z3l (OB.cell ob41 (j := 1) rfl)) <| Wa rfl rfl <| Z7 <| Z5 <| Z04 (fun E w74 => ∃ (h73 : Hp) (x77 : ByteArray) (xs78 : List UInt8) (v79 : Value), Z52 k (Z3 k) x2 x9 x11 x77 xs78 = some r ∧ E = [(2, pt b17 0), (3, pt b38 0), (4, .string x77)] ∧ Stp (b1 :: ((Value.slice A4 xs3.length c5).ownBlock.toList ++ [])) w0 h0 w74 h73 ∧ Hle h0 h73 ∧ RS h73 v79 xs78 ∧ Own w74 h73 h0.base 5 1 v79 xs78.length ∧ (∀ i ∈ v79.ownBlock.toList, i ∈ (Value.slice A4 xs3.length c5).ownBlock.toList ∨ w0.heap.size ≤ i) ∧ OB w74 h73 b1 55 [.pointer (bif x2 then some ⟨b1, 0, none⟩ else none), v79, .string x9] ∧ OB w74 h73 b17 77 [pt b1 0] ∧ OB w74 h73 b38 44 [vi x11.op, .string x11.name, v25, v27, v29, vi x11.n, v31, v33, v35, .bool x11.els]) ?_ ?_
  ·rintro E w74 ⟨h73, x77, xs78, v79, HF, rfl, S76, le75, rs80, ow81, om82, ob83, ob84, ob85⟩
   obtain ⟨hl86, HF⟩ := Zj HF
   obtain ⟨A87, c88, rfl, rs89⟩ := RS.form (rs30.mono ((s40.le).trans le75))
   obtain ⟨e90, he91, HF⟩ := Z6 HF
   obtain ⟨b92, o93, rfl, h95, h96, ra94⟩ := RS.atO rs89 he91
   obtain ⟨cs97, r98, hc99⟩ := ra94
   obtain ⟨r100, hr101, HF⟩ := Z6 HF
   obtain ⟨hl102, HF⟩ := Zj HF
   obtain ⟨hl103, HF⟩ := Zj HF
   refine Z2z (m := 12) [(2, pt b17 0), (3, pt b38 0), (4, .string x77)] [2, 3, 4] rfl (fun i v w h => match i with | 0 => v = pt b1 0 | 1 => v = pt b1 0 | 2 => v = pt b1 0 | 3 => v = .string x77 | 4 => v = .string (x77 ++ b'96) | 5 => v = pt b38 4 | 6 => v = sl b92 o93 (x11.args).length c88 | 7 => v = pt b92 (o93 + Int.toNat 0 * 6) | 8 => v = .agg cs97.toArray | 9 => v = .string r100 | 10 => v = .string ((x77 ++ b'96) ++ r100) | 11 => v = .string (((x77 ++ b'96) ++ r100) ++ b'108) | _ => True) Z4c S76.sub rfl rfl rfl rfl rfl ?_ ?_ ?_
   ·intro i v w h w2 h2 hΦ hst
    match i, hΦ with
    | 0, hΦ | 1, hΦ | 2, hΦ | 3, hΦ | 4, hΦ | 5, hΦ | 6, hΦ | 7, hΦ | 8, hΦ | 9, hΦ | 10, hΦ | 11, hΦ => exact hΦ
    | i + 12, _ => exact trivial
   ·refine ⟨?_, ?_, ?_, ?_, ?_, ?_, ?_, ?_, ?_, ?_, ?_, ?_, trivial⟩
    ·intro a w104 h105 s106 hat hF
     have ob107 := (ob84.step0 s106)
     exact Z4 hat rfl (Z8 rfl Z73 (OB.cell ob107 (j := 0) rfl)) s106.sub (by exact rfl)
    ·intro a w104 h105 s106 hat hF
     exact Z4 (Z1 hat (hF 0 29 rfl rfl)) rfl (Z02 rfl) s106.sub (by exact rfl)
    ·intro a w104 h105 s106 hat hF
     exact Z4 (Z1 hat (hF 1 30 rfl rfl)) rfl (Z2 rfl Z1z) s106.sub (by exact rfl)
    ·intro a w104 h105 s106 hat hF
     exact Z4 hat rfl (Z0j rfl) s106.sub (by exact rfl)
    ·intro a w104 h105 s106 hat hF
     exact Z4 (Z1 hat (hF 3 32 rfl rfl)) rfl (Zs rfl rfl hl86) s106.sub (by exact rfl)
    ·intro a w104 h105 s106 hat hF
     exact Z4 hat rfl (Z2 rfl Z1f) s106.sub (by exact rfl)
    ·intro a w104 h105 s106 hat hF
     have ob108 := (ob85.step0 s106)
     exact Z4 (Z1 hat (hF 5 34 rfl rfl)) rfl (Z8 rfl Z0h (OB.cell ob108 (j := 4) rfl)) s106.sub (by exact rfl)
    ·intro a w104 h105 s106 hat hF
     exact Z4 (Z1 hat (hF 6 35 rfl rfl)) rfl (Zk rfl rfl Zx Zu h95 h96) s106.sub (by exact rfl)
    ·intro a w104 h105 s106 hat hF
     exact Z4 (Z1 hat (hF 7 36 rfl rfl)) rfl (Z0w (cs := cs97) rfl Z1u (by rw [Rp.len (Rp.mono (s106.le) r98)]; exact Zu) (fun j v hv => s106.sub.at_ _ _ _ ((fun i v hv => (s106.le).1 _ _ _ (hc99 i v hv)) j v hv))) s106.sub (by exact rfl)
    ·intro a w104 h105 s106 hat hF
     refine Z0n (Z1 hat (hF 8 37 rfl rfl)) rfl (Zi (vs := [.agg cs97.toArray]) rfl Z9f) (Z6o _ hr101 s106.sub (Rp.mono (s106.le) r98)) ?_
     rintro _ w109 ⟨h110, s111, rfl⟩
     exact ⟨_, h110, rfl, s111, (by exact rfl)⟩
    ·intro a w104 h105 s106 hat hF
     exact Z4 (Z1 (Z1 hat (hF 4 33 rfl rfl)) (hF 9 38 rfl rfl)) rfl (Zs rfl rfl hl102) s106.sub (by exact rfl)
    intro a w104 h105 s106 hat hF
    exact Z4 (Z1 hat (hF 10 39 rfl rfl)) rfl (Zs rfl rfl hl103) s106.sub (by exact rfl)
   intro a w104 h105 s106 hat hF
   obtain hv0 := hF 0 29 (by decide) rfl
   obtain hv1 := hF 1 30 (by decide) rfl
   obtain hv2 := hF 2 31 (by decide) rfl
   obtain hv3 := hF 3 32 (by decide) rfl
   obtain hv4 := hF 4 33 (by decide) rfl
   obtain hv5 := hF 5 34 (by decide) rfl
   obtain hv6 := hF 6 35 (by decide) rfl
   obtain hv7 := hF 7 36 (by decide) rfl
   obtain hv8 := hF 8 37 (by decide) rfl
   obtain hv9 := hF 9 38 (by decide) rfl
   obtain hv10 := hF 10 39 (by decide) rfl
   obtain hv11 := hF 11 40 (by decide) rfl
   refine Z7u [(40, .string (((x77 ++ b'96) ++ r100) ++ b'108)), (39, .string ((x77 ++ b'96) ++ r100)), (38, .string r100), (37, .agg cs97.toArray), (36, pt b92 (o93 + Int.toNat 0 * 6)), (35, sl b92 o93 (x11.args).length c88), (34, pt b38 4), (33, .string (x77 ++ b'96)), (32, .string x77), (31, pt b1 0), (30, pt b1 0), (29, pt b1 0), (2, pt b17 0), (3, pt b38 0), (4, .string x77)] (Z1 (Z1 (Z1 (Z1 (Z1 (Z1 (Z1 (Z1 (Z1 (Z1 (Z1 (Z1 hat hv0) hv1) hv2) hv3) hv4) hv5) hv6) hv7) hv8) hv9) hv10) hv11) ?_
   have S112 := S76.trans0 s106
   obtain ⟨A113, c114, rfl, rs115⟩ := RS.form (rs80.mono (s106.le))
   have ob116 := (ob83.step0 s106)
   obtain ⟨r117, hr118, HF⟩ := Z6 HF
   refine Wc rfl (Zi (vs := [pt b1 0, .string (((x77 ++ b'96) ++ r100) ++ b'108)]) rfl Z7m) (Z0p _ hr118 S112.sub rs115 (by rw [S112.eqb]; exact (ow81.step0 s106)) ob116 tn14) ?_
   have ob123 := (ob84.step0 s106)
   have ob124 := (ob85.step0 s106)
   rintro v119 w120 ⟨h121, s122, rfl, ⟨v125, rs126, ow127, om128, ob131⟩⟩
   have ow129 := Own.rb ow127 S112.eqb
   have om130 : ∀ i ∈ v125.ownBlock.toList, i ∈ (Value.slice A4 xs3.length c5).ownBlock.toList ∨ w0.heap.size ≤ i := fun i hi => (om128 i hi).elim (fun q => om82 i q) (fun q => .inr (Nat.le_trans S112.size q))
   have S132 := S112.trans s122 (Zy (.inl (by simp)) (Z7v (fun i hi => (om82 i hi).elim (fun q => .inl (by simp only [List.mem_cons, List.mem_append]; simp [q])) .inr) Z0q))
   refine Z7 <| Zv <| Z5v rfl ?_
   obtain rfl := Option.some.inj HF
   exact ⟨_, rfl, h121, S132, rfl, ⟨_, rs126, ow129, om130, ob131⟩⟩
  intro J133
  refine Za <| Z0 <| Wv rfl (Z2 rfl Z5h) <| Wv rfl (Z8 rfl Z0h (OB.cell ob41 (j := 2) rfl)) ?_
  obtain ⟨A47, c48, rfl, rs49⟩ := RS.form (rs26.mono (s40.le))
  refine Wv rfl (Z0v rfl Zx) <| Wv rfl (Zao rfl rfl) <| Z7 <| Z5 <| Z12 HF rfl (fun HF => ?_) (fun HF => ?_)
  ·refine Z0 <| Wm rfl rfl <| Wv rfl (Z2 rfl Z5h) <| Wv rfl (Z8 rfl Z0h (OB.cell ob41 (j := 2) rfl)) ?_
   obtain ⟨e51, he52, HF⟩ := Z6 HF
   obtain ⟨b53, o54, rfl, h56, h57, ra55⟩ := RS.atO rs49 he52
   obtain ⟨cs58, r59, hc60⟩ := ra55
   refine Wv rfl (Zk rfl rfl Zx Zu h56 h57) <| Wv rfl (Z0w (cs := cs58) rfl Z1u (by rw [Rp.len r59]; exact Zu) (fun j v hv => S45.sub.at_ _ _ _ (hc60 j v hv))) ?_
   obtain ⟨r61, hr62, HF⟩ := Z6 HF
   refine Wc rfl (Zi (vs := [.agg cs58.toArray]) rfl Z9f) (Z6o _ hr62 S45.sub r59) ?_
   have ob67 := (ob24.step0 s40)
   have ob68 := (ob20.step0 s40)
   rintro _ w64 ⟨h65, s66, rfl⟩
   have S69 := S45.trans0 s66
   obtain ⟨hl70, HF⟩ := Zj HF
   refine Wv rfl (Zs rfl rfl hl70) ?_
   obtain ⟨hl71, HF⟩ := Zj HF
   refine Wv rfl (Zs rfl rfl hl71) ?_
   obtain ⟨hl72, HF⟩ := Zj HF
   refine Wv rfl (Zs rfl rfl hl72) <| Wa rfl rfl <| Z7 ?_
   have ob134 := (ob67.step0 s66)
   have ob135 := (ob68.step0 s66)
   have ob136 := (ob41.step0 s66)
   refine Z06 [2, 3, 4] _ rfl ?_
   exact J133 ⟨h65, x11.name ++ ((b'115 ++ r61) ++ b'116), xs3, .slice A4 xs3.length c5, HF, rfl, S69, s66.le, (rs6.mono ((s19.le).trans ((s40.le).trans s66.le))), (((ow7.step0 s19).step0 s40).step0 s66), om8, ob134, ob135, ob136⟩
  refine Zm ?_
  have ob137 := (ob24.step0 s40)
  have ob138 := (ob20.step0 s40)
  refine Z06 [2, 3, 4] _ rfl ?_
  exact J133 ⟨h0, x11.name, xs3, .slice A4 xs3.length c5, HF, rfl, S45, Hle.refl _, (rs6.mono ((s19.le).trans s40.le)), ((ow7.step0 s19).step0 s40), om8, ob137, ob138, ob41⟩
 refine Za <| Z0 <| Wv rfl (Z0y rfl rfl) <| Wa rfl rfl <| Z7 <| Z5 <| Z12 HF rfl (fun HF => ?_) (fun HF => ?_)
 ·obtain ⟨hl140, HF⟩ := Zj HF
  obtain ⟨r141, hr142, HF⟩ := Z6 HF
  obtain ⟨hl143, HF⟩ := Zj HF
  obtain ⟨hl144, HF⟩ := Zj HF
  refine Z2z (m := 13) [(2, pt b17 0), (3, pt b38 0)] [2, 3] rfl (fun i v w h => match i with | 0 => v = pt b1 0 | 1 => v = pt b1 0 | 2 => v = pt b1 0 | 3 => v = pt b38 1 | 4 => v = .string x11.name | 5 => v = .string (x11.name ++ b'99) | 6 => v = pt b38 3 | 7 => v = v27 | 8 => v = pt b38 4 | 9 => v = v29 | 10 => v = .string r141 | 11 => v = .string ((x11.name ++ b'99) ++ r141) | 12 => v = .string (((x11.name ++ b'99) ++ r141) ++ b'100) | _ => True) Z4c S45.sub rfl rfl rfl rfl rfl ?_ ?_ ?_
  ·intro i v w h w2 h2 hΦ hst
   match i, hΦ with
   | 0, hΦ | 1, hΦ | 2, hΦ | 3, hΦ | 4, hΦ | 5, hΦ | 6, hΦ | 7, hΦ | 8, hΦ | 9, hΦ | 10, hΦ | 11, hΦ | 12, hΦ => exact hΦ
   | i + 13, _ => exact trivial
  ·refine ⟨?_, ?_, ?_, ?_, ?_, ?_, ?_, ?_, ?_, ?_, ?_, ?_, ?_, trivial⟩
   ·intro a w145 h146 s147 hat hF
    have ob148 := ((ob20.step0 s40).step0 s147)
    exact Z4 hat rfl (Z8 rfl Z73 (OB.cell ob148 (j := 0) rfl)) s147.sub (by exact rfl)
   ·intro a w145 h146 s147 hat hF
    exact Z4 (Z1 hat (hF 0 44 rfl rfl)) rfl (Z02 rfl) s147.sub (by exact rfl)
   ·intro a w145 h146 s147 hat hF
    exact Z4 (Z1 hat (hF 1 45 rfl rfl)) rfl (Z2 rfl Z1z) s147.sub (by exact rfl)
   ·intro a w145 h146 s147 hat hF
    exact Z4 hat rfl (Z2 rfl Z62) s147.sub (by exact rfl)
   ·intro a w145 h146 s147 hat hF
    have ob149 := (ob41.step0 s147)
    exact Z4 (Z1 hat (hF 3 47 rfl rfl)) rfl (Z8 rfl Z3l (OB.cell ob149 (j := 1) rfl)) s147.sub (by exact rfl)
   ·intro a w145 h146 s147 hat hF
    exact Z4 (Z1 hat (hF 4 48 rfl rfl)) rfl (Zs rfl rfl hl140) s147.sub (by exact rfl)
   ·intro a w145 h146 s147 hat hF
    exact Z4 hat rfl (Z2 rfl Z72) s147.sub (by exact rfl)
   ·intro a w145 h146 s147 hat hF
    have ob150 := (ob41.step0 s147)
    exact Z4 (Z1 hat (hF 6 50 rfl rfl)) rfl (Z8 rfl Zdl (OB.cell ob150 (j := 3) rfl)) s147.sub (by exact rfl)
   ·intro a w145 h146 s147 hat hF
    exact Z4 hat rfl (Z2 rfl Z1f) s147.sub (by exact rfl)
   ·intro a w145 h146 s147 hat hF
    have ob151 := (ob41.step0 s147)
    exact Z4 (Z1 hat (hF 8 52 rfl rfl)) rfl (Z8 rfl Z0h (OB.cell ob151 (j := 4) rfl)) s147.sub (by exact rfl)
   ·intro a w145 h146 s147 hat hF
    refine Z0n (Z1 (Z1 hat (hF 7 51 rfl rfl)) (hF 9 53 rfl rfl)) rfl (Zi (vs := [v27, v29]) rfl t_ent_40) (ok_print_Inputs _ hr142 s147.sub (rs28.mono ((s40.le).trans s147.le)) (rs30.mono ((s40.le).trans s147.le))) ?_
    rintro _ w152 ⟨h153, s154, rfl⟩
    exact ⟨_, h153, rfl, s154, (by exact rfl)⟩
   ·intro a w145 h146 s147 hat hF
    exact Z4 (Z1 (Z1 hat (hF 5 49 rfl rfl)) (hF 10 54 rfl rfl)) rfl (Zs rfl rfl hl143) s147.sub (by exact rfl)
   intro a w145 h146 s147 hat hF
   exact Z4 (Z1 hat (hF 11 55 rfl rfl)) rfl (Zs rfl rfl hl144) s147.sub (by exact rfl)
  intro a w145 h146 s147 hat hF
  obtain hv0 := hF 0 44 (by decide) rfl
  obtain hv1 := hF 1 45 (by decide) rfl
  obtain hv2 := hF 2 46 (by decide) rfl
  obtain hv3 := hF 3 47 (by decide) rfl
  obtain hv4 := hF 4 48 (by decide) rfl
  obtain hv5 := hF 5 49 (by decide) rfl
  obtain hv6 := hF 6 50 (by decide) rfl
  obtain hv7 := hF 7 51 (by decide) rfl
  obtain hv8 := hF 8 52 (by decide) rfl
  obtain hv9 := hF 9 53 (by decide) rfl
  obtain hv10 := hF 10 54 (by decide) rfl
  obtain hv11 := hF 11 55 (by decide) rfl
  obtain hv12 := hF 12 56 (by decide) rfl
  refine Z7u [(56, .string (((x11.name ++ b'99) ++ r141) ++ b'100)), (55, .string ((x11.name ++ b'99) ++ r141)), (54, .string r141), (53, v29), (52, pt b38 4), (51, v27), (50, pt b38 3), (49, .string (x11.name ++ b'99)), (48, .string x11.name), (47, pt b38 1), (46, pt b1 0), (45, pt b1 0), (44, pt b1 0), (2, pt b17 0), (3, pt b38 0)] (Z1 (Z1 (Z1 (Z1 (Z1 (Z1 (Z1 (Z1 (Z1 (Z1 (Z1 (Z1 (Z1 hat hv0) hv1) hv2) hv3) hv4) hv5) hv6) hv7) hv8) hv9) hv10) hv11) hv12) ?_
  have S155 := S45.trans0 s147
  have ob156 := ((ob24.step0 s40).step0 s147)
  obtain ⟨r157, hr158, HF⟩ := Z6 HF
  refine Wc rfl (Zi (vs := [pt b1 0, .string (((x11.name ++ b'99) ++ r141) ++ b'100)]) rfl Z7m) (Z0p _ hr158 S155.sub (rs6.mono ((s19.le).trans ((s40.le).trans s147.le))) (by rw [S155.eqb]; exact (((ow7.step0 s19).step0 s40).step0 s147)) ob156 tn14) ?_
  have ob163 := ((ob20.step0 s40).step0 s147)
  have ob164 := (ob41.step0 s147)
  rintro v159 w160 ⟨h161, s162, rfl, ⟨v165, rs166, ow167, om168, ob171⟩⟩
  have ow169 := Own.rb ow167 S155.eqb
  have om170 : ∀ i ∈ v165.ownBlock.toList, i ∈ (Value.slice A4 xs3.length c5).ownBlock.toList ∨ w0.heap.size ≤ i := fun i hi => (om168 i hi).elim (fun q => om8 i q) (fun q => .inr (Nat.le_trans S155.size q))
  have S172 := S155.trans s162 (Zy (.inl (by simp)) (Z7v (fun i hi => (om8 i hi).elim (fun q => .inl (by simp only [List.mem_cons, List.mem_append]; simp [q])) .inr) Z0q))
  refine Z7 <| Zv <| Z5v rfl ?_
  obtain rfl := Option.some.inj HF
  exact ⟨_, rfl, h161, S172, rfl, ⟨_, rs166, ow169, om170, ob171⟩⟩
 refine Za <| Z0 <| Wv rfl (Z0y rfl rfl) <| Wa rfl rfl <| Z7 <| Z5 <| Z12 HF rfl (fun HF => ?_) (fun HF => ?_)
 ·refine Z0 ?_
  have ob174 := (ob20.step0 s40)
  refine Wv rfl (Z8 rfl Z73 (OB.cell ob174 (j := 0) rfl)) <| Wv rfl (Z02 rfl) <| Wv rfl (Z2 rfl Z1z) ?_
  have ob175 := (ob24.step0 s40)
  obtain ⟨r176, hr177, HF⟩ := Z6 HF
  refine Wc rfl (Zi (vs := [pt b1 0, .string (⟨#[101, 120, 105, 116, 59]⟩ : ByteArray)]) rfl Z7m) (Z0p _ hr177 S45.sub (rs6.mono ((s19.le).trans s40.le)) (by rw [S45.eqb]; exact ((ow7.step0 s19).step0 s40)) ob175 tn14) ?_
  rintro v178 w179 ⟨h180, s181, rfl, ⟨v182, rs183, ow184, om185, ob188⟩⟩
  have ow186 := Own.rb ow184 S45.eqb
  have om187 : ∀ i ∈ v182.ownBlock.toList, i ∈ (Value.slice A4 xs3.length c5).ownBlock.toList ∨ w0.heap.size ≤ i := fun i hi => (om185 i hi).elim (fun q => om8 i q) (fun q => .inr (Nat.le_trans S45.size q))
  have S189 := S45.trans s181 (Zy (.inl (by simp)) (Z7v (fun i hi => (om8 i hi).elim (fun q => .inl (by simp only [List.mem_cons, List.mem_append]; simp [q])) .inr) Z0q))
  refine Z7 <| Zv <| Z5v rfl ?_
  obtain rfl := Option.some.inj HF
  exact ⟨_, rfl, h180, S189, rfl, ⟨_, rs183, ow186, om187, ob188⟩⟩
 refine Za <| Z0 <| Wv rfl (Z0y rfl rfl) <| Wa rfl rfl <| Z7 <| Z5 <| Z12 HF rfl (fun HF => ?_) (fun HF => ?_)
 ·refine Z0 ?_
  have ob191 := (ob20.step0 s40)
  refine Wv rfl (Z8 rfl Z73 (OB.cell ob191 (j := 0) rfl)) <| Wv rfl (Z02 rfl) <| Wv rfl (Z2 rfl Z1z) ?_
  have ob192 := (ob24.step0 s40)
  obtain ⟨r193, hr194, HF⟩ := Z6 HF
  refine Wc rfl (Zi (vs := [pt b1 0, .string (⟨#[114, 101, 116, 117, 114, 110, 59]⟩ : ByteArray)]) rfl Z7m) (Z0p _ hr194 S45.sub (rs6.mono ((s19.le).trans s40.le)) (by rw [S45.eqb]; exact ((ow7.step0 s19).step0 s40)) ob192 tn14) ?_
  rintro v195 w196 ⟨h197, s198, rfl, ⟨v199, rs200, ow201, om202, ob205⟩⟩
  have ow203 := Own.rb ow201 S45.eqb
  have om204 : ∀ i ∈ v199.ownBlock.toList, i ∈ (Value.slice A4 xs3.length c5).ownBlock.toList ∨ w0.heap.size ≤ i := fun i hi => (om202 i hi).elim (fun q => om8 i q) (fun q => .inr (Nat.le_trans S45.size q))
  have S206 := S45.trans s198 (Zy (.inl (by simp)) (Z7v (fun i hi => (om8 i hi).elim (fun q => .inl (by simp only [List.mem_cons, List.mem_append]; simp [q])) .inr) Z0q))
  refine Z7 <| Zv <| Z5v rfl ?_
  obtain rfl := Option.some.inj HF
  exact ⟨_, rfl, h197, S206, rfl, ⟨_, rs200, ow203, om204, ob205⟩⟩
 refine Za <| Z0 <| Wv rfl (Z0y rfl rfl) <| Wa rfl rfl <| Z7 <| Z5 <| Z12 HF rfl (fun HF => ?_) (fun HF => ?_)
 ·refine Za ?_
  obtain ⟨A208, c209, rfl, rs210⟩ := RS.form (rs30.mono (s40.le))
  obtain ⟨e211, he212, HF⟩ := Z6 HF
  obtain ⟨b213, o214, rfl, h216, h217, ra215⟩ := RS.atO rs210 he212
  obtain ⟨cs218, r219, hc220⟩ := ra215
  obtain ⟨r221, hr222, HF⟩ := Z6 HF
  obtain ⟨hl223, HF⟩ := Zj HF
  obtain ⟨hl224, HF⟩ := Zj HF
  refine Z2z (m := 10) [(2, pt b17 0), (3, pt b38 0)] [2, 3] rfl (fun i v w h => match i with | 0 => v = pt b1 0 | 1 => v = pt b1 0 | 2 => v = pt b1 0 | 3 => v = pt b38 4 | 4 => v = sl b213 o214 (x11.args).length c209 | 5 => v = pt b213 (o214 + Int.toNat 0 * 6) | 6 => v = .agg cs218.toArray | 7 => v = .string r221 | 8 => v = .string (b'25 ++ r221) | 9 => v = .string ((b'25 ++ r221) ++ b'92) | _ => True) Z4c S45.sub rfl rfl rfl rfl rfl ?_ ?_ ?_
  ·intro i v w h w2 h2 hΦ hst
   match i, hΦ with
   | 0, hΦ | 1, hΦ | 2, hΦ | 3, hΦ | 4, hΦ | 5, hΦ | 6, hΦ | 7, hΦ | 8, hΦ | 9, hΦ => exact hΦ
   | i + 10, _ => exact trivial
  ·refine ⟨?_, ?_, ?_, ?_, ?_, ?_, ?_, ?_, ?_, ?_, trivial⟩
   ·intro a w225 h226 s227 hat hF
    have ob228 := ((ob20.step0 s40).step0 s227)
    exact Z4 hat rfl (Z8 rfl Z73 (OB.cell ob228 (j := 0) rfl)) s227.sub (by exact rfl)
   ·intro a w225 h226 s227 hat hF
    exact Z4 (Z1 hat (hF 0 72 rfl rfl)) rfl (Z02 rfl) s227.sub (by exact rfl)
   ·intro a w225 h226 s227 hat hF
    exact Z4 (Z1 hat (hF 1 73 rfl rfl)) rfl (Z2 rfl Z1z) s227.sub (by exact rfl)
   ·intro a w225 h226 s227 hat hF
    exact Z4 hat rfl (Z2 rfl Z1f) s227.sub (by exact rfl)
   ·intro a w225 h226 s227 hat hF
    have ob229 := (ob41.step0 s227)
    exact Z4 (Z1 hat (hF 3 75 rfl rfl)) rfl (Z8 rfl Z0h (OB.cell ob229 (j := 4) rfl)) s227.sub (by exact rfl)
   ·intro a w225 h226 s227 hat hF
    exact Z4 (Z1 hat (hF 4 76 rfl rfl)) rfl (Zk rfl rfl Zx Zu h216 h217) s227.sub (by exact rfl)
   ·intro a w225 h226 s227 hat hF
    exact Z4 (Z1 hat (hF 5 77 rfl rfl)) rfl (Z0w (cs := cs218) rfl Z1u (by rw [Rp.len (Rp.mono (s227.le) r219)]; exact Zu) (fun j v hv => s227.sub.at_ _ _ _ ((fun i v hv => (s227.le).1 _ _ _ (hc220 i v hv)) j v hv))) s227.sub (by exact rfl)
   ·intro a w225 h226 s227 hat hF
    refine Z0n (Z1 hat (hF 6 78 rfl rfl)) rfl (Zi (vs := [.agg cs218.toArray]) rfl Z9f) (Z6o _ hr222 s227.sub (Rp.mono (s227.le) r219)) ?_
    rintro _ w230 ⟨h231, s232, rfl⟩
    exact ⟨_, h231, rfl, s232, (by exact rfl)⟩
   ·intro a w225 h226 s227 hat hF
    exact Z4 (Z1 hat (hF 7 79 rfl rfl)) rfl (Zs rfl rfl hl223) s227.sub (by exact rfl)
   intro a w225 h226 s227 hat hF
   exact Z4 (Z1 hat (hF 8 80 rfl rfl)) rfl (Zs rfl rfl hl224) s227.sub (by exact rfl)
  intro a w225 h226 s227 hat hF
  obtain hv0 := hF 0 72 (by decide) rfl
  obtain hv1 := hF 1 73 (by decide) rfl
  obtain hv2 := hF 2 74 (by decide) rfl
  obtain hv3 := hF 3 75 (by decide) rfl
  obtain hv4 := hF 4 76 (by decide) rfl
  obtain hv5 := hF 5 77 (by decide) rfl
  obtain hv6 := hF 6 78 (by decide) rfl
  obtain hv7 := hF 7 79 (by decide) rfl
  obtain hv8 := hF 8 80 (by decide) rfl
  obtain hv9 := hF 9 81 (by decide) rfl
  refine Z7u [(81, .string ((b'25 ++ r221) ++ b'92)), (80, .string (b'25 ++ r221)), (79, .string r221), (78, .agg cs218.toArray), (77, pt b213 (o214 + Int.toNat 0 * 6)), (76, sl b213 o214 (x11.args).length c209), (75, pt b38 4), (74, pt b1 0), (73, pt b1 0), (72, pt b1 0), (2, pt b17 0), (3, pt b38 0)] (Z1 (Z1 (Z1 (Z1 (Z1 (Z1 (Z1 (Z1 (Z1 (Z1 hat hv0) hv1) hv2) hv3) hv4) hv5) hv6) hv7) hv8) hv9) ?_
  have S233 := S45.trans0 s227
  have ob234 := ((ob24.step0 s40).step0 s227)
  obtain ⟨r235, hr236, HF⟩ := Z6 HF
  refine Wc rfl (Zi (vs := [pt b1 0, .string ((b'25 ++ r221) ++ b'92)]) rfl Z7m) (Z0p _ hr236 S233.sub (rs6.mono ((s19.le).trans ((s40.le).trans s227.le))) (by rw [S233.eqb]; exact (((ow7.step0 s19).step0 s40).step0 s227)) ob234 tn14) ?_
  have ob241 := ((ob20.step0 s40).step0 s227)
  have ob242 := (ob41.step0 s227)
  rintro v237 w238 ⟨h239, s240, rfl, ⟨v243, rs244, ow245, om246, ob249⟩⟩
  have ow247 := Own.rb ow245 S233.eqb
  have om248 : ∀ i ∈ v243.ownBlock.toList, i ∈ (Value.slice A4 xs3.length c5).ownBlock.toList ∨ w0.heap.size ≤ i := fun i hi => (om246 i hi).elim (fun q => om8 i q) (fun q => .inr (Nat.le_trans S233.size q))
  have S250 := S233.trans s240 (Zy (.inl (by simp)) (Z7v (fun i hi => (om8 i hi).elim (fun q => .inl (by simp only [List.mem_cons, List.mem_append]; simp [q])) .inr) Z0q))
  refine Z7 <| Z5 <| Za <| Z0 ?_
  have ob251 := (ob241.step s240 (Z51 (Ne.symm ne21) (Z8w (fun hm => (((ow7.step0 s19).step0 s40).step0 s227).ne ob241 (by decide) _ hm rfl) Z8u)))
  refine Wv rfl (Z8 rfl Z73 (OB.cell ob251 (j := 0) rfl)) <| Wv rfl (Z2 rfl Z48) ?_
  have ob252 := (ob242.step s240 (Z51 (Ne.symm ne42) (Z8w (fun hm => (((ow7.step0 s19).step0 s40).step0 s227).ne ob242 (by decide) _ hm rfl) Z8u)))
  refine Wv rfl (Z8 rfl Z2r (OB.cell ob252 (j := 6) rfl)) ?_
  obtain ⟨A253, c254, rfl, rs255⟩ := RS.form rs244
  obtain ⟨r256, hr257, HF⟩ := Z6 HF
  refine Wc rfl (Zi (vs := [pt b1 0, v31]) rfl t_ent_41) ((IH _ (Nat.le_refl _)).2.2.2.1 hr257 S250.sub rs255 (by rw [S250.eqb]; exact ow247) (rs32.mono ((s40.le).trans ((s227.le).trans s240.le))) ob249 tn14) ?_
  rintro v258 w259 ⟨h260, s261, rfl, ⟨v262, rs263, ow264, om265, ob268⟩⟩
  have ow266 := Own.rb ow264 S250.eqb
  have om267 : ∀ i ∈ v262.ownBlock.toList, i ∈ (Value.slice A4 xs3.length c5).ownBlock.toList ∨ w0.heap.size ≤ i := fun i hi => (om265 i hi).elim (fun q => om248 i q) (fun q => .inr (Nat.le_trans S250.size q))
  have S269 := S250.trans s261 (Zy (.inl (by simp)) (Z7v (fun i hi => (om248 i hi).elim (fun q => .inl (by simp only [List.mem_cons, List.mem_append]; simp [q])) .inr) Z0q))
  refine Z7 <| Z5 <| Za <| Za <| Z0 <| Wv rfl (Z2 rfl Z2e) ?_
  have ob270 := (ob252.step s261 (Z51 (Ne.symm ne42) (Z8w (fun hm => ow247.ne ob252 (by decide) _ hm rfl) Z8u)))
  refine Wv rfl (Z8 rfl Z6z (OB.cell ob270 (j := 7) rfl)) ?_
  obtain ⟨A271, c272, rfl, rs273⟩ := RS.form (rs34.mono ((s40.le).trans ((s227.le).trans ((s240.le).trans s261.le))))
  refine Wv rfl (Z0v rfl Z32) <| Wm rfl rfl <| Z7 <| Z5 <| Z0c <| Z4j <| Z8e [2, 3, 88, 89, 90] [(2, pt b17 0), (3, pt b38 0), (88, .slice A271 (x11.arms).length c272), (89, vi (x11.arms.length : Int)), (90, vi 0)] rfl <| Z4m (K := k) (fun j E w275 => ∃ (h274 : Hp) (x278 : Int) (x279 : Bool) (xs280 : List UInt8) (v281 : Value) (x285 : ByteArray) (xs288 : List Ar) (v289 : Value), (Z3 j).print_printer_stmt_l2 x11 x278 x279 xs280 x285 xs288 = some r ∧ E = [(2, pt b17 0), (3, pt b38 0), (88, .slice A271 (x11.arms).length c272), (89, vi (x11.arms.length : Int)), (90, vi x278)] ∧ Stp (b1 :: ((Value.slice A4 xs3.length c5).ownBlock.toList ++ [])) w0 h0 w275 h274 ∧ Hle h260 h274 ∧ RS h274 v281 xs280 ∧ Own w275 h274 h0.base 5 1 v281 xs280.length ∧ (∀ i ∈ v281.ownBlock.toList, i ∈ (Value.slice A4 xs3.length c5).ownBlock.toList ∨ w0.heap.size ≤ i) ∧ RS h274 v289 xs288 ∧ OB w275 h274 b1 55 [.pointer (bif x279 then some ⟨b1, 0, none⟩ else none), v281, .string x285] ∧ OB w275 h274 b17 77 [pt b1 0] ∧ OB w275 h274 b38 44 [vi x11.op, .string x11.name, v25, v27, sl b213 o214 (x11.args).length c209, vi x11.n, v31, v289, v35, .bool x11.els]) ?_ ?_ (j := k) (Nat.le_refl _) ?_
  ·rintro E w275 ⟨_, _, _, _, _, _, _, _, HF, _⟩; cases HF
  ·rintro j292 hj294 IHL293 E w275 ⟨h274, x278, x279, xs280, v281, x285, xs288, v289, HF, rfl, S277, le276, rs282, ow283, om284, rs290, ob286, ob287, ob291⟩
   refine Za <| Z0 <| Wv rfl (Z6q rfl rfl) <| Z7 <| Z5 <| Z04 (fun E w333 => ∃ (h332 : Hp) (xs336 : List UInt8) (v337 : Value), Z8t j292 (Z3 j292) x11 x278 x279 x285 xs288 xs336 = some r ∧ E = [(2, pt b17 0), (3, pt b38 0), (88, .slice A271 (x11.arms).length c272), (89, vi (x11.arms.length : Int)), (90, vi x278)] ∧ Stp (b1 :: ((Value.slice A4 xs3.length c5).ownBlock.toList ++ [])) w0 h0 w333 h332 ∧ Hle h274 h332 ∧ RS h332 v337 xs336 ∧ Own w333 h332 h0.base 5 1 v337 xs336.length ∧ (∀ i ∈ v337.ownBlock.toList, i ∈ (Value.slice A4 xs3.length c5).ownBlock.toList ∨ w0.heap.size ≤ i) ∧ OB w333 h332 b1 55 [.pointer (bif x279 then some ⟨b1, 0, none⟩ else none), v337, .string x285] ∧ OB w333 h332 b17 77 [pt b1 0] ∧ OB w333 h332 b38 44 [vi x11.op, .string x11.name, v25, v27, sl b213 o214 (x11.args).length c209, vi x11.n, v31, v289, v35, .bool x11.els]) ?_ ?_
   ·rintro E w333 ⟨h332, xs336, v337, HF, rfl, S335, le334, rs338, ow339, om340, ob341, ob342, ob343⟩
    refine Za <| Z0c <| Za <| Z0 ?_
    obtain ⟨e344, he345, HF⟩ := Z6 HF
    obtain ⟨b346, o347, rfl, h349, h350, ra348⟩ := RS.atO (rs273.mono ((le276).trans le334)) he345
    obtain ⟨cs351, r352, hc353⟩ := ra348
    refine Wv rfl (Zk rfl rfl Z32 Z56 h349 h350) <| Wv rfl (Z0w (cs := cs351) rfl t_agg_47 (by rw [Rp.len r352]; exact Z56) (fun j v hv => S335.sub.at_ _ _ _ (hc353 j v hv))) <| Za3 (zs := [.slice none 0 0, .slice none 0 0, .slice none 0 0]) rfl rfl t_zero_47 rfl S335.sub (fun w354 b355 hb356 s357 ob358 => ?_)
    have ne359 : b1 ≠ b355 := ob341.ne_new hb356
    have ne360 : b17 ≠ b355 := ob342.ne_new hb356
    have ne361 : b38 ≠ b355 := ob343.ne_new hb356
    have g362 : w0.heap.size ≤ b355 := by rw [hb356]; exact S335.size
    have S363 := S335.trans0 s357
    obtain ⟨v364, v366, v368, rfl, rs365, rs367, rs369⟩ := rp_Ar.1 (Rp.mono (s357.le) r352)
    refine Z5i (vs := [v364, v366, v368]) rfl rfl rfl rfl Z56 (Z0d (RS.one rs365) (Z0d (RS.one rs367) (Z0d (RS.one rs369) Z76))) ob358 S363.sub (by simp) (ds := [v364, v366, v368]) rfl (fun w370 s371 ob372 => ?_)
    have S373 := S363.trans1 s371 (.inr g362)
    refine Z7 <| Z5 <| Za ?_
    obtain ⟨A374, c375, rfl, rs376⟩ := RS.form (rs365.mono (s371.le))
    obtain ⟨e377, he378, HF⟩ := Z6 HF
    obtain ⟨b379, o380, rfl, h382, h383, ra381⟩ := RS.atO rs376 he378
    obtain ⟨cs384, r385, hc386⟩ := ra381
    obtain ⟨r387, hr388, HF⟩ := Z6 HF
    obtain ⟨hl389, HF⟩ := Zj HF
    obtain ⟨hl390, HF⟩ := Zj HF
    refine Z2z (m := 10) [(2, pt b17 0), (3, pt b38 0), (6, pt b355 0), (88, sl b346 o347 (x11.arms).length c272), (89, vi (x11.arms.length : Int)), (90, vi x278)] [2, 3, 6, 88, 89, 90] rfl (fun i v w h => match i with | 0 => v = pt b1 0 | 1 => v = pt b1 0 | 2 => v = pt b1 0 | 3 => v = pt b355 0 | 4 => v = sl b379 o380 (e344.cond).length c375 | 5 => v = pt b379 (o380 + Int.toNat 0 * 6) | 6 => v = .agg cs384.toArray | 7 => v = .string r387 | 8 => v = .string (b'4 ++ r387) | 9 => v = .string ((b'4 ++ r387) ++ b'92) | _ => True) Z4c S373.sub rfl rfl rfl rfl rfl ?_ ?_ ?_
    ·intro i v w h w2 h2 hΦ hst
     match i, hΦ with
     | 0, hΦ | 1, hΦ | 2, hΦ | 3, hΦ | 4, hΦ | 5, hΦ | 6, hΦ | 7, hΦ | 8, hΦ | 9, hΦ => exact hΦ
     | i + 10, _ => exact trivial
    ·refine ⟨?_, ?_, ?_, ?_, ?_, ?_, ?_, ?_, ?_, ?_, trivial⟩
     ·intro a w391 h392 s393 hat hF
      have ob394 := (((ob342.step0 s357).step1 s371 ne360).step0 s393)
      exact Z4 hat rfl (Z8 rfl Z73 (OB.cell ob394 (j := 0) rfl)) s393.sub (by exact rfl)
     ·intro a w391 h392 s393 hat hF
      exact Z4 (Z1 hat (hF 0 94 rfl rfl)) rfl (Z02 rfl) s393.sub (by exact rfl)
     ·intro a w391 h392 s393 hat hF
      exact Z4 (Z1 hat (hF 1 95 rfl rfl)) rfl (Z2 rfl Z1z) s393.sub (by exact rfl)
     ·intro a w391 h392 s393 hat hF
      exact Z4 hat rfl (Z2 rfl Z50) s393.sub (by exact rfl)
     ·intro a w391 h392 s393 hat hF
      have ob395 := (ob372.step0 s393)
      exact Z4 (Z1 hat (hF 3 97 rfl rfl)) rfl (Z8 rfl Z0h (OB.cell ob395 (j := 0) rfl)) s393.sub (by exact rfl)
     ·intro a w391 h392 s393 hat hF
      exact Z4 (Z1 hat (hF 4 98 rfl rfl)) rfl (Zk rfl rfl Zx Zu h382 h383) s393.sub (by exact rfl)
     ·intro a w391 h392 s393 hat hF
      exact Z4 (Z1 hat (hF 5 99 rfl rfl)) rfl (Z0w (cs := cs384) rfl Z1u (by rw [Rp.len (Rp.mono (s393.le) r385)]; exact Zu) (fun j v hv => s393.sub.at_ _ _ _ ((fun i v hv => (s393.le).1 _ _ _ (hc386 i v hv)) j v hv))) s393.sub (by exact rfl)
     ·intro a w391 h392 s393 hat hF
      refine Z0n (Z1 hat (hF 6 100 rfl rfl)) rfl (Zi (vs := [.agg cs384.toArray]) rfl Z9f) (Z6o _ hr388 s393.sub (Rp.mono (s393.le) r385)) ?_
      rintro _ w396 ⟨h397, s398, rfl⟩
      exact ⟨_, h397, rfl, s398, (by exact rfl)⟩
     ·intro a w391 h392 s393 hat hF
      exact Z4 (Z1 hat (hF 7 101 rfl rfl)) rfl (Zs rfl rfl hl389) s393.sub (by exact rfl)
     intro a w391 h392 s393 hat hF
     exact Z4 (Z1 hat (hF 8 102 rfl rfl)) rfl (Zs rfl rfl hl390) s393.sub (by exact rfl)
    intro a w391 h392 s393 hat hF
    obtain hv0 := hF 0 94 (by decide) rfl
    obtain hv1 := hF 1 95 (by decide) rfl
    obtain hv2 := hF 2 96 (by decide) rfl
    obtain hv3 := hF 3 97 (by decide) rfl
    obtain hv4 := hF 4 98 (by decide) rfl
    obtain hv5 := hF 5 99 (by decide) rfl
    obtain hv6 := hF 6 100 (by decide) rfl
    obtain hv7 := hF 7 101 (by decide) rfl
    obtain hv8 := hF 8 102 (by decide) rfl
    obtain hv9 := hF 9 103 (by decide) rfl
    refine Z7u [(103, .string ((b'4 ++ r387) ++ b'92)), (102, .string (b'4 ++ r387)), (101, .string r387), (100, .agg cs384.toArray), (99, pt b379 (o380 + Int.toNat 0 * 6)), (98, sl b379 o380 (e344.cond).length c375), (97, pt b355 0), (96, pt b1 0), (95, pt b1 0), (94, pt b1 0), (2, pt b17 0), (3, pt b38 0), (6, pt b355 0), (88, sl b346 o347 (x11.arms).length c272), (89, vi (x11.arms.length : Int)), (90, vi x278)] (Z1 (Z1 (Z1 (Z1 (Z1 (Z1 (Z1 (Z1 (Z1 (Z1 hat hv0) hv1) hv2) hv3) hv4) hv5) hv6) hv7) hv8) hv9) ?_
    have S399 := S373.trans0 s393
    obtain ⟨A400, c401, rfl, rs402⟩ := RS.form (rs338.mono ((s357.le).trans ((s371.le).trans s393.le)))
    have ob403 := (((ob341.step0 s357).step1 s371 ne359).step0 s393)
    obtain ⟨r404, hr405, HF⟩ := Z6 HF
    refine Wc rfl (Zi (vs := [pt b1 0, .string ((b'4 ++ r387) ++ b'92)]) rfl Z7m) (Z0p _ hr405 S399.sub rs402 (by rw [S399.eqb]; exact (((ow339.step0 s357).step s371 (Z8c ((ow339.step0 s357).ne_ob ob358 (by decide)) Zct)).step0 s393)) ob403 tn14) ?_
    have ob410 := (((ob342.step0 s357).step1 s371 ne360).step0 s393)
    have ob411 := (((ob343.step0 s357).step1 s371 ne361).step0 s393)
    have ob412 := (ob372.step0 s393)
    rintro v406 w407 ⟨h408, s409, rfl, ⟨v413, rs414, ow415, om416, ob419⟩⟩
    have ow417 := Own.rb ow415 S399.eqb
    have om418 : ∀ i ∈ v413.ownBlock.toList, i ∈ (Value.slice A4 xs3.length c5).ownBlock.toList ∨ w0.heap.size ≤ i := fun i hi => (om416 i hi).elim (fun q => om340 i q) (fun q => .inr (Nat.le_trans S399.size q))
    have S420 := S399.trans s409 (Zy (.inl (by simp)) (Z7v (fun i hi => (om340 i hi).elim (fun q => .inl (by simp only [List.mem_cons, List.mem_append]; simp [q])) .inr) Z0q))
    refine Z7 <| Z5 <| Z0 ?_
    have ob421 := (ob410.step s409 (Z51 (Ne.symm ne21) (Z8w (fun hm => (((ow339.step0 s357).step s371 (Z8c ((ow339.step0 s357).ne_ob ob358 (by decide)) Zct)).step0 s393).ne ob410 (by decide) _ hm rfl) Z8u)))
    refine Wv rfl (Z8 rfl Z73 (OB.cell ob421 (j := 0) rfl)) <| Wv rfl (Z2 rfl Z99) ?_
    have ob422 := (ob412.step s409 (Z51 (Ne.symm ne359) (Z8w (fun hm => (((ow339.step0 s357).step s371 (Z8c ((ow339.step0 s357).ne_ob ob358 (by decide)) Zct)).step0 s393).ne ob412 (by decide) _ hm rfl) Z8u)))
    refine Wv rfl (Z8 rfl Z2r (OB.cell ob422 (j := 2) rfl)) ?_
    obtain ⟨A423, c424, rfl, rs425⟩ := RS.form rs414
    obtain ⟨r426, hr427, HF⟩ := Z6 HF
    refine Wc rfl (Zi (vs := [pt b1 0, v368]) rfl t_ent_41) ((IH _ (Nat.le_trans (Nat.le_of_succ_le hj294) (Nat.le_refl _))).2.2.2.1 hr427 S420.sub rs425 (by rw [S420.eqb]; exact ow417) (rs369.mono ((s371.le).trans ((s393.le).trans s409.le))) ob419 tn14) ?_
    have ob432 := (ob411.step s409 (Z51 (Ne.symm ne42) (Z8w (fun hm => (((ow339.step0 s357).step s371 (Z8c ((ow339.step0 s357).ne_ob ob358 (by decide)) Zct)).step0 s393).ne ob411 (by decide) _ hm rfl) Z8u)))
    rintro v428 w429 ⟨h430, s431, rfl, ⟨v433, rs434, ow435, om436, ob439⟩⟩
    have ow437 := Own.rb ow435 S420.eqb
    have om438 : ∀ i ∈ v433.ownBlock.toList, i ∈ (Value.slice A4 xs3.length c5).ownBlock.toList ∨ w0.heap.size ≤ i := fun i hi => (om436 i hi).elim (fun q => om418 i q) (fun q => .inr (Nat.le_trans S420.size q))
    have S440 := S420.trans s431 (Zy (.inl (by simp)) (Z7v (fun i hi => (om418 i hi).elim (fun q => .inl (by simp only [List.mem_cons, List.mem_append]; simp [q])) .inr) Z0q))
    refine Z7 <| Zv <| Z5 <| Z0 <| Wv rfl (Z2v rfl rfl) <| Wm rfl rfl <| Z7 ?_
    have ob442 := (ob421.step s431 (Z51 (Ne.symm ne21) (Z8w (fun hm => ow417.ne ob421 (by decide) _ hm rfl) Z8u)))
    have ob443 := (ob432.step s431 (Z51 (Ne.symm ne42) (Z8w (fun hm => ow417.ne ob432 (by decide) _ hm rfl) Z8u)))
    refine Z2x <| Z8e [2, 3, 88, 89, 90] [(2, pt b17 0), (3, pt b38 0), (88, sl b346 o347 (x11.arms).length c272), (89, vi (x11.arms.length : Int)), (90, vi (IntKind.i64.wrap (x278 + 1)))] rfl ?_
    exact IHL293 j292 (Nat.le_refl _) _ _ ⟨h430, IntKind.i64.wrap (x278 + 1), r426.1, r426.2.1, v433, r426.2.2, xs288, v289, HF, rfl, S440, (le276).trans ((le334).trans ((s357.le).trans ((s371.le).trans ((s393.le).trans ((s409.le).trans s431.le))))), rs434, ow437, om438, (rs290.mono ((le334).trans ((s357.le).trans ((s371.le).trans ((s393.le).trans ((s409.le).trans s431.le)))))), ob439, ob442, ob443⟩
   intro J441
   refine Z12 HF rfl (fun HF => ?_) (fun HF => ?_)
   ·refine Zm <| Z06 [2, 3, 88, 89, 90] _ rfl ?_
    exact J441 ⟨h274, xs280, v281, HF, rfl, S277, Hle.refl _, rs282, ow283, om284, ob286, ob287, ob291⟩
   refine Z4b <| Zr <| Zr <| Z0x <| Z5 <| Za <| Z0 <| Wv rfl (Z8 rfl Z73 (OB.cell ob287 (j := 0) rfl)) <| Wv rfl (Z0w (cs := [vi x11.op, .string x11.name, v25, v27, sl b213 o214 (x11.args).length c209, vi x11.n, v31, v289, v35, .bool x11.els]) rfl Zb8 Z2g (OB.cells ob291 0 rfl)) ?_
   obtain ⟨A296, c297, rfl, rs298⟩ := RS.form rs282
   obtain ⟨r299, hr300, HF⟩ := Z6 HF
   refine Wc rfl (Zi (vs := [pt b1 0, .agg #[vi x11.op, .string x11.name, v25, v27, sl b213 o214 (x11.args).length c209, vi x11.n, v31, v289, v35, .bool x11.els]]) rfl t_ent_42) ((IH _ (Nat.le_trans (Nat.le_of_succ_le hj294) (Nat.le_refl _))).2.2.2.2.1 hr300 S277.sub rs298 (by rw [S277.eqb]; exact ow283) (rp_St.2 ⟨_, _, _, _, _, _, rfl, (rs26.mono ((s40.le).trans ((s227.le).trans ((s240.le).trans ((s261.le).trans le276))))), (rs28.mono ((s40.le).trans ((s227.le).trans ((s240.le).trans ((s261.le).trans le276))))), (rs210.mono ((s227.le).trans ((s240.le).trans ((s261.le).trans le276)))), (rs32.mono ((s40.le).trans ((s227.le).trans ((s240.le).trans ((s261.le).trans le276))))), rs290, (rs36.mono ((s40.le).trans ((s227.le).trans ((s240.le).trans ((s261.le).trans le276)))))⟩) ob286 tn14) ?_
   rintro v301 w302 ⟨h303, s304, rfl, ⟨v305, rs306, ow307, om308, ob311⟩⟩
   have ow309 := Own.rb ow307 S277.eqb
   have om310 : ∀ i ∈ v305.ownBlock.toList, i ∈ (Value.slice A4 xs3.length c5).ownBlock.toList ∨ w0.heap.size ≤ i := fun i hi => (om308 i hi).elim (fun q => om284 i q) (fun q => .inr (Nat.le_trans S277.size q))
   have S312 := S277.trans s304 (Zy (.inl (by simp)) (Z7v (fun i hi => (om284 i hi).elim (fun q => .inl (by simp only [List.mem_cons, List.mem_append]; simp [q])) .inr) Z0q))
   refine Z7 <| Z5 <| Z0 ?_
   have ob313 := (ob287.step s304 (Z51 (Ne.symm ne21) (Z8w (fun hm => ow283.ne ob287 (by decide) _ hm rfl) Z8u)))
   refine Wv rfl (Z8 rfl Z73 (OB.cell ob313 (j := 0) rfl)) <| Wv rfl (Z02 rfl) <| Wv rfl (Z2 rfl Z1z) ?_
   obtain ⟨A314, c315, rfl, rs316⟩ := RS.form rs306
   obtain ⟨r317, hr318, HF⟩ := Z6 HF
   refine Wc rfl (Zi (vs := [pt b1 0, .string (⟨#[101, 110, 100, 95, 105, 102, 59]⟩ : ByteArray)]) rfl Z7m) (Z0p _ hr318 S312.sub rs316 (by rw [S312.eqb]; exact ow309) ob311 tn14) ?_
   have ob323 := (ob291.step s304 (Z51 (Ne.symm ne42) (Z8w (fun hm => ow283.ne ob291 (by decide) _ hm rfl) Z8u)))
   rintro v319 w320 ⟨h321, s322, rfl, ⟨v324, rs325, ow326, om327, ob330⟩⟩
   have ow328 := Own.rb ow326 S312.eqb
   have om329 : ∀ i ∈ v324.ownBlock.toList, i ∈ (Value.slice A4 xs3.length c5).ownBlock.toList ∨ w0.heap.size ≤ i := fun i hi => (om327 i hi).elim (fun q => om310 i q) (fun q => .inr (Nat.le_trans S312.size q))
   have S331 := S312.trans s322 (Zy (.inl (by simp)) (Z7v (fun i hi => (om310 i hi).elim (fun q => .inl (by simp only [List.mem_cons, List.mem_append]; simp [q])) .inr) Z0q))
   refine Z7 <| Zv <| Z5v rfl ?_
   obtain rfl := Option.some.inj HF
   exact ⟨_, rfl, h321, S331, rfl, ⟨_, rs325, ow328, om329, ob330⟩⟩
  have ob444 := (ob251.step s261 (Z51 (Ne.symm ne21) (Z8w (fun hm => ow247.ne ob251 (by decide) _ hm rfl) Z8u)))
  exact ⟨h260, 0, r256.1, r256.2.1, v262, r256.2.2, x11.arms, .slice A271 (x11.arms).length c272, HF, rfl, S269, Hle.refl _, rs263, ow266, om267, rs273, ob268, ob444, ob270⟩
 refine Za <| Z0 <| Wv rfl (Z0y rfl rfl) <| Wa rfl rfl <| Z7 <| Z5 <| Z12 HF rfl (fun HF => ?_) (fun HF => ?_)
 ·refine Za ?_
  obtain ⟨A446, c447, rfl, rs448⟩ := RS.form (rs30.mono (s40.le))
  obtain ⟨e449, he450, HF⟩ := Z6 HF
  obtain ⟨b451, o452, rfl, h454, h455, ra453⟩ := RS.atO rs448 he450
  obtain ⟨cs456, r457, hc458⟩ := ra453
  obtain ⟨r459, hr460, HF⟩ := Z6 HF
  obtain ⟨hl461, HF⟩ := Zj HF
  obtain ⟨hl462, HF⟩ := Zj HF
  refine Z2z (m := 10) [(2, pt b17 0), (3, pt b38 0)] [2, 3] rfl (fun i v w h => match i with | 0 => v = pt b1 0 | 1 => v = pt b1 0 | 2 => v = pt b1 0 | 3 => v = pt b38 4 | 4 => v = sl b451 o452 (x11.args).length c447 | 5 => v = pt b451 (o452 + Int.toNat 0 * 6) | 6 => v = .agg cs456.toArray | 7 => v = .string r459 | 8 => v = .string (b'128 ++ r459) | 9 => v = .string ((b'128 ++ r459) ++ b'90) | _ => True) Z4c S45.sub rfl rfl rfl rfl rfl ?_ ?_ ?_
  ·intro i v w h w2 h2 hΦ hst
   match i, hΦ with
   | 0, hΦ | 1, hΦ | 2, hΦ | 3, hΦ | 4, hΦ | 5, hΦ | 6, hΦ | 7, hΦ | 8, hΦ | 9, hΦ => exact hΦ
   | i + 10, _ => exact trivial
  ·refine ⟨?_, ?_, ?_, ?_, ?_, ?_, ?_, ?_, ?_, ?_, trivial⟩
   ·intro a w463 h464 s465 hat hF
    have ob466 := ((ob20.step0 s40).step0 s465)
    exact Z4 hat rfl (Z8 rfl Z73 (OB.cell ob466 (j := 0) rfl)) s465.sub (by exact rfl)
   ·intro a w463 h464 s465 hat hF
    exact Z4 (Z1 hat (hF 0 119 rfl rfl)) rfl (Z02 rfl) s465.sub (by exact rfl)
   ·intro a w463 h464 s465 hat hF
    exact Z4 (Z1 hat (hF 1 120 rfl rfl)) rfl (Z2 rfl Z1z) s465.sub (by exact rfl)
   ·intro a w463 h464 s465 hat hF
    exact Z4 hat rfl (Z2 rfl Z1f) s465.sub (by exact rfl)
   ·intro a w463 h464 s465 hat hF
    have ob467 := (ob41.step0 s465)
    exact Z4 (Z1 hat (hF 3 122 rfl rfl)) rfl (Z8 rfl Z0h (OB.cell ob467 (j := 4) rfl)) s465.sub (by exact rfl)
   ·intro a w463 h464 s465 hat hF
    exact Z4 (Z1 hat (hF 4 123 rfl rfl)) rfl (Zk rfl rfl Zx Zu h454 h455) s465.sub (by exact rfl)
   ·intro a w463 h464 s465 hat hF
    exact Z4 (Z1 hat (hF 5 124 rfl rfl)) rfl (Z0w (cs := cs456) rfl Z1u (by rw [Rp.len (Rp.mono (s465.le) r457)]; exact Zu) (fun j v hv => s465.sub.at_ _ _ _ ((fun i v hv => (s465.le).1 _ _ _ (hc458 i v hv)) j v hv))) s465.sub (by exact rfl)
   ·intro a w463 h464 s465 hat hF
    refine Z0n (Z1 hat (hF 6 125 rfl rfl)) rfl (Zi (vs := [.agg cs456.toArray]) rfl Z9f) (Z6o _ hr460 s465.sub (Rp.mono (s465.le) r457)) ?_
    rintro _ w468 ⟨h469, s470, rfl⟩
    exact ⟨_, h469, rfl, s470, (by exact rfl)⟩
   ·intro a w463 h464 s465 hat hF
    exact Z4 (Z1 hat (hF 7 126 rfl rfl)) rfl (Zs rfl rfl hl461) s465.sub (by exact rfl)
   intro a w463 h464 s465 hat hF
   exact Z4 (Z1 hat (hF 8 127 rfl rfl)) rfl (Zs rfl rfl hl462) s465.sub (by exact rfl)
  intro a w463 h464 s465 hat hF
  obtain hv0 := hF 0 119 (by decide) rfl
  obtain hv1 := hF 1 120 (by decide) rfl
  obtain hv2 := hF 2 121 (by decide) rfl
  obtain hv3 := hF 3 122 (by decide) rfl
  obtain hv4 := hF 4 123 (by decide) rfl
  obtain hv5 := hF 5 124 (by decide) rfl
  obtain hv6 := hF 6 125 (by decide) rfl
  obtain hv7 := hF 7 126 (by decide) rfl
  obtain hv8 := hF 8 127 (by decide) rfl
  obtain hv9 := hF 9 128 (by decide) rfl
  refine Z7u [(128, .string ((b'128 ++ r459) ++ b'90)), (127, .string (b'128 ++ r459)), (126, .string r459), (125, .agg cs456.toArray), (124, pt b451 (o452 + Int.toNat 0 * 6)), (123, sl b451 o452 (x11.args).length c447), (122, pt b38 4), (121, pt b1 0), (120, pt b1 0), (119, pt b1 0), (2, pt b17 0), (3, pt b38 0)] (Z1 (Z1 (Z1 (Z1 (Z1 (Z1 (Z1 (Z1 (Z1 (Z1 hat hv0) hv1) hv2) hv3) hv4) hv5) hv6) hv7) hv8) hv9) ?_
  have S471 := S45.trans0 s465
  have ob472 := ((ob24.step0 s40).step0 s465)
  obtain ⟨r473, hr474, HF⟩ := Z6 HF
  refine Wc rfl (Zi (vs := [pt b1 0, .string ((b'128 ++ r459) ++ b'90)]) rfl Z7m) (Z0p _ hr474 S471.sub (rs6.mono ((s19.le).trans ((s40.le).trans s465.le))) (by rw [S471.eqb]; exact (((ow7.step0 s19).step0 s40).step0 s465)) ob472 tn14) ?_
  have ob479 := ((ob20.step0 s40).step0 s465)
  have ob480 := (ob41.step0 s465)
  rintro v475 w476 ⟨h477, s478, rfl, ⟨v481, rs482, ow483, om484, ob487⟩⟩
  have ow485 := Own.rb ow483 S471.eqb
  have om486 : ∀ i ∈ v481.ownBlock.toList, i ∈ (Value.slice A4 xs3.length c5).ownBlock.toList ∨ w0.heap.size ≤ i := fun i hi => (om484 i hi).elim (fun q => om8 i q) (fun q => .inr (Nat.le_trans S471.size q))
  have S488 := S471.trans s478 (Zy (.inl (by simp)) (Z7v (fun i hi => (om8 i hi).elim (fun q => .inl (by simp only [List.mem_cons, List.mem_append]; simp [q])) .inr) Z0q))
  refine Z7 <| Z5 <| Za <| Z0 ?_
  have ob489 := (ob479.step s478 (Z51 (Ne.symm ne21) (Z8w (fun hm => (((ow7.step0 s19).step0 s40).step0 s465).ne ob479 (by decide) _ hm rfl) Z8u)))
  refine Wv rfl (Z8 rfl Z73 (OB.cell ob489 (j := 0) rfl)) <| Wv rfl (Z02 rfl) <| Wv rfl (Z2 rfl Z1z) <| Wv rfl (ov_makeFunc (vs := [pt b38 0, pt b17 0]) rfl) ?_
  obtain ⟨A490, c491, rfl, rs492⟩ := RS.form rs482
  have ob493 := (ob480.step s478 (Z51 (Ne.symm ne42) (Z8w (fun hm => (((ow7.step0 s19).step0 s40).step0 s465).ne ob480 (by decide) _ hm rfl) Z8u)))
  obtain ⟨r494, hr495, HF⟩ := Z6 HF
  refine Wc rfl (Zi (vs := [pt b1 0, .func (.func 44) #[] #[pt b38 0, pt b17 0]]) rfl t_ent_43) ((IH _ (Nat.le_refl _)).1 hr495 S488.sub rs492 (by rw [S488.eqb]; exact ow485) (rs26.mono ((s40.le).trans ((s465.le).trans s478.le))) (rs28.mono ((s40.le).trans ((s465.le).trans s478.le))) (rs448.mono ((s465.le).trans s478.le)) (rs32.mono ((s40.le).trans ((s465.le).trans s478.le))) (rs34.mono ((s40.le).trans ((s465.le).trans s478.le))) (rs36.mono ((s40.le).trans ((s465.le).trans s478.le))) ob487 ob493 ob489 ne42 ne21 (Ne.symm ne43) tn14 (by decide) (by decide)) ?_
  rintro v496 w497 ⟨h498, s499, rfl, ⟨v500, rs501, ow502, om503, ob506⟩⟩
  have ow504 := Own.rb ow502 S488.eqb
  have om505 : ∀ i ∈ v500.ownBlock.toList, i ∈ (Value.slice A4 xs3.length c5).ownBlock.toList ∨ w0.heap.size ≤ i := fun i hi => (om503 i hi).elim (fun q => om486 i q) (fun q => .inr (Nat.le_trans S488.size q))
  have S507 := S488.trans s499 (Zy (.inl (by simp)) (Z7v (fun i hi => (om486 i hi).elim (fun q => .inl (by simp only [List.mem_cons, List.mem_append]; simp [q])) .inr) Z0q))
  refine Z7 <| Z5 <| Za <| Z0 ?_
  have ob508 := (ob489.step s499 (Z51 (Ne.symm ne21) (Z8w (fun hm => ow485.ne ob489 (by decide) _ hm rfl) Z8u)))
  refine Wv rfl (Z8 rfl Z73 (OB.cell ob508 (j := 0) rfl)) ?_
  have ob509 := (ob493.step s499 (Z51 (Ne.symm ne42) (Z8w (fun hm => ow485.ne ob493 (by decide) _ hm rfl) Z8u)))
  refine Wv rfl (Z0w (cs := [vi x11.op, .string x11.name, v25, v27, sl b451 o452 (x11.args).length c447, vi x11.n, v31, v33, v35, .bool x11.els]) rfl Zb8 Z2g (OB.cells ob509 0 rfl)) ?_
  obtain ⟨A510, c511, rfl, rs512⟩ := RS.form rs501
  obtain ⟨r513, hr514, HF⟩ := Z6 HF
  refine Wc rfl (Zi (vs := [pt b1 0, .agg #[vi x11.op, .string x11.name, v25, v27, sl b451 o452 (x11.args).length c447, vi x11.n, v31, v33, v35, .bool x11.els]]) rfl t_ent_42) ((IH _ (Nat.le_refl _)).2.2.2.2.1 hr514 S507.sub rs512 (by rw [S507.eqb]; exact ow504) (rp_St.2 ⟨_, _, _, _, _, _, rfl, (rs26.mono ((s40.le).trans ((s465.le).trans ((s478.le).trans s499.le)))), (rs28.mono ((s40.le).trans ((s465.le).trans ((s478.le).trans s499.le)))), (rs448.mono ((s465.le).trans ((s478.le).trans s499.le))), (rs32.mono ((s40.le).trans ((s465.le).trans ((s478.le).trans s499.le)))), (rs34.mono ((s40.le).trans ((s465.le).trans ((s478.le).trans s499.le)))), (rs36.mono ((s40.le).trans ((s465.le).trans ((s478.le).trans s499.le))))⟩) ob506 tn14) ?_
  rintro v515 w516 ⟨h517, s518, rfl, ⟨v519, rs520, ow521, om522, ob525⟩⟩
  have ow523 := Own.rb ow521 S507.eqb
  have om524 : ∀ i ∈ v519.ownBlock.toList, i ∈ (Value.slice A4 xs3.length c5).ownBlock.toList ∨ w0.heap.size ≤ i := fun i hi => (om522 i hi).elim (fun q => om505 i q) (fun q => .inr (Nat.le_trans S507.size q))
  have S526 := S507.trans s518 (Zy (.inl (by simp)) (Z7v (fun i hi => (om505 i hi).elim (fun q => .inl (by simp only [List.mem_cons, List.mem_append]; simp [q])) .inr) Z0q))
  refine Z7 <| Z5 <| Z0 ?_
  have ob527 := (ob508.step s518 (Z51 (Ne.symm ne21) (Z8w (fun hm => ow504.ne ob508 (by decide) _ hm rfl) Z8u)))
  refine Wv rfl (Z8 rfl Z73 (OB.cell ob527 (j := 0) rfl)) <| Wv rfl (Z02 rfl) <| Wv rfl (Z2 rfl Z1z) ?_
  obtain ⟨A528, c529, rfl, rs530⟩ := RS.form rs520
  obtain ⟨r531, hr532, HF⟩ := Z6 HF
  refine Wc rfl (Zi (vs := [pt b1 0, .string (⟨#[101, 110, 100, 95, 99, 97, 115, 101, 59]⟩ : ByteArray)]) rfl Z7m) (Z0p _ hr532 S526.sub rs530 (by rw [S526.eqb]; exact ow523) ob525 tn14) ?_
  have ob537 := (ob509.step s518 (Z51 (Ne.symm ne42) (Z8w (fun hm => ow504.ne ob509 (by decide) _ hm rfl) Z8u)))
  rintro v533 w534 ⟨h535, s536, rfl, ⟨v538, rs539, ow540, om541, ob544⟩⟩
  have ow542 := Own.rb ow540 S526.eqb
  have om543 : ∀ i ∈ v538.ownBlock.toList, i ∈ (Value.slice A4 xs3.length c5).ownBlock.toList ∨ w0.heap.size ≤ i := fun i hi => (om541 i hi).elim (fun q => om524 i q) (fun q => .inr (Nat.le_trans S526.size q))
  have S545 := S526.trans s536 (Zy (.inl (by simp)) (Z7v (fun i hi => (om524 i hi).elim (fun q => .inl (by simp only [List.mem_cons, List.mem_append]; simp [q])) .inr) Z0q))
  refine Z7 <| Zv <| Z5v rfl ?_
  obtain rfl := Option.some.inj HF
  exact ⟨_, rfl, h535, S545, rfl, ⟨_, rs539, ow542, om543, ob544⟩⟩
 refine Z0 ?_
 have ob546 := (ob20.step0 s40)
 refine Wv rfl (Z8 rfl Z73 (OB.cell ob546 (j := 0) rfl)) <| Wv rfl (Z0w (cs := [vi x11.op, .string x11.name, v25, v27, v29, vi x11.n, v31, v33, v35, .bool x11.els]) rfl Zb8 Z2g (OB.cells ob41 0 rfl)) ?_
 have ob547 := (ob24.step0 s40)
 obtain ⟨r548, hr549, HF⟩ := Z6 HF
 refine Wc rfl (Zi (vs := [pt b1 0, .agg #[vi x11.op, .string x11.name, v25, v27, v29, vi x11.n, v31, v33, v35, .bool x11.els]]) rfl t_ent_46) ((IH _ (Nat.le_refl _)).2.1 hr549 S45.sub (rs6.mono ((s19.le).trans s40.le)) (by rw [S45.eqb]; exact ((ow7.step0 s19).step0 s40)) (rp_St.2 ⟨_, _, _, _, _, _, rfl, (rs26.mono (s40.le)), (rs28.mono (s40.le)), (rs30.mono (s40.le)), (rs32.mono (s40.le)), (rs34.mono (s40.le)), (rs36.mono (s40.le))⟩) ob547 tn14) ?_
 rintro v550 w551 ⟨h552, s553, rfl, ⟨v554, rs555, ow556, om557, ob560⟩⟩
 have ow558 := Own.rb ow556 S45.eqb
 have om559 : ∀ i ∈ v554.ownBlock.toList, i ∈ (Value.slice A4 xs3.length c5).ownBlock.toList ∨ w0.heap.size ≤ i := fun i hi => (om557 i hi).elim (fun q => om8 i q) (fun q => .inr (Nat.le_trans S45.size q))
 have S561 := S45.trans s553 (Zy (.inl (by simp)) (Z7v (fun i hi => (om8 i hi).elim (fun q => .inl (by simp only [List.mem_cons, List.mem_append]; simp [q])) .inr) Z0q))
 refine Z7 <| Zv <| Z5v rfl ?_
 obtain rfl := Option.some.inj HF
 exact ⟨_, rfl, h552, S561, rfl, ⟨_, rs555, ow558, om559, ob560⟩⟩
theorem s_print_printer_text (k : Nat) (IH : ∀ j, j ≤ k → Z1m (Z3 j).print_lines_inside ∧ Z1i (Z3 j).print_printer_loop ∧ Z1n (Z3 j).print_printer_stmt ∧ Z1p (Z3 j).print_printer_text ∧ Z1d (Z3 j).print_printer_other ∧ Z19 (Z3 j).print_printer_stmt_1 ∧ Z18 (Z3 j).print_printer_text_1 ∧ Z13 (Z3 j).print_lines_inside_v1) : Z1p (Z5e k (Z3 k)) := by
 intro x2 xs3 x9 xs11 r HF w0 h0 b1 A4 c5 v12 hs0 rs6 ow7 rs13 ob10 tn14
 have S0 : Stp (b1 :: ((Value.slice A4 xs3.length c5).ownBlock.toList ++ [])) w0 h0 w0 h0 := Stp.refl hs0 _
 have om8 : ∀ i ∈ (Value.slice A4 xs3.length c5).ownBlock.toList, i ∈ (Value.slice A4 xs3.length c5).ownBlock.toList ∨ w0.heap.size ≤ i := fun i hi => .inl hi
 have lt15 : b1 < w0.heap.size := OB.lt ob10
 refine Z66 (n := 9) Tryz.func41 rfl Tryz.ntmps41 rfl [(0, pt b1 0), (1, v12)] rfl <| Za <| Z0 <| Zd2 (cs := [pt b1 0]) rfl rfl rfl rfl S0.sub (fun w16 b17 hb18 s19 ob20 => ?_)
 have ne21 : b1 ≠ b17 := ob10.ne_new hb18
 have g22 : w0.heap.size ≤ b17 := by rw [hb18]; exact S0.size
 have S23 := S0.trans0 s19
 have ob24 := (ob10.step0 s19)
 refine Zd2 (cs := [v12]) rfl rfl rfl (RS.cellsL (rs13.mono (s19.le))) S23.sub (fun w25 b26 hb27 s28 ob29 => ?_)
 have ne30 : b1 ≠ b26 := ob24.ne_new hb27
 have ne31 : b17 ≠ b26 := ob20.ne_new hb27
 have g32 : w0.heap.size ≤ b26 := by rw [hb27]; exact S23.size
 have S33 := S23.trans0 s28
 refine Z7 <| Z5 <| Z0 ?_
 have ob34 := (ob20.step0 s28)
 refine Wv rfl (Z8 rfl Z73 (OB.cell ob34 (j := 0) rfl)) <| Wv rfl (Z02 rfl) <| Wv rfl (Z2 rfl Z1z) <| Wv rfl (ov_makeFunc (vs := [pt b26 0, pt b17 0]) rfl) ?_
 have ob35 := (ob24.step0 s28)
 obtain ⟨r36, hr37, HF⟩ := Z6 HF
 refine Wc rfl (Zi (vs := [pt b1 0, .func (.func 68) #[] #[pt b26 0, pt b17 0]]) rfl t_ent_43) ((IH _ (Nat.le_refl _)).2.2.2.2.2.2.2 hr37 S33.sub (rs6.mono ((s19.le).trans s28.le)) (by rw [S33.eqb]; exact ((ow7.step0 s19).step0 s28)) (rs13.mono ((s19.le).trans s28.le)) ob35 ob29 ob34 ne30 ne21 (Ne.symm ne31) tn14 (by decide) (by decide)) ?_
 rintro v38 w39 ⟨h40, s41, rfl, ⟨v42, rs43, ow44, om45, ob48⟩⟩
 have ow46 := Own.rb ow44 S33.eqb
 have om47 : ∀ i ∈ v42.ownBlock.toList, i ∈ (Value.slice A4 xs3.length c5).ownBlock.toList ∨ w0.heap.size ≤ i := fun i hi => (om45 i hi).elim (fun q => om8 i q) (fun q => .inr (Nat.le_trans S33.size q))
 have S49 := S33.trans s41 (Zy (.inl (by simp)) (Z7v (fun i hi => (om8 i hi).elim (fun q => .inl (by simp only [List.mem_cons, List.mem_append]; simp [q])) .inr) Z0q))
 refine Z7 <| Z5v rfl ?_
 obtain rfl := Option.some.inj HF
 exact ⟨_, rfl, h40, S49, rfl, ⟨_, rs43, ow46, om47, ob48⟩⟩
theorem s_print_printer_other (k : Nat) (IH : ∀ j, j ≤ k → Z1m (Z3 j).print_lines_inside ∧ Z1i (Z3 j).print_printer_loop ∧ Z1n (Z3 j).print_printer_stmt ∧ Z1p (Z3 j).print_printer_text ∧ Z1d (Z3 j).print_printer_other ∧ Z19 (Z3 j).print_printer_stmt_1 ∧ Z18 (Z3 j).print_printer_text_1 ∧ Z13 (Z3 j).print_lines_inside_v1) : Z1d (Z34 k (Z3 k)) := by
 intro x2 xs3 x9 x11 r HF w0 h0 b1 A4 c5 cs12 hs0 rs6 ow7 r13 ob10 tn14
 have S0 : Stp (b1 :: ((Value.slice A4 xs3.length c5).ownBlock.toList ++ [])) w0 h0 w0 h0 := Stp.refl hs0 _
 have om8 : ∀ i ∈ (Value.slice A4 xs3.length c5).ownBlock.toList, i ∈ (Value.slice A4 xs3.length c5).ownBlock.toList ∨ w0.heap.size ≤ i := fun i hi => .inl hi
 have lt15 : b1 < w0.heap.size := OB.lt ob10
 refine Z66 (n := 14) Tryz.func42 rfl Tryz.ntmps42 rfl [(0, pt b1 0), (1, .agg cs12.toArray)] rfl <| Za <| Z0 ?_
 obtain ⟨v16, v18, v20, v22, v24, v26, rfl, rs17, rs19, rs21, rs23, rs25, rs27⟩ := rp_St.1 r13
 refine Zd2 (cs := [vi x11.op, .string x11.name, v16, v18, v20, vi x11.n, v22, v24, v26, .bool x11.els]) rfl rfl rfl rfl S0.sub (fun w28 b29 hb30 s31 ob32 => ?_)
 have ne33 : b1 ≠ b29 := ob10.ne_new hb30
 have g34 : w0.heap.size ≤ b29 := by rw [hb30]; exact S0.size
 have S35 := S0.trans0 s31
 refine Z7 <| Z5 <| Za <| Z0 <| Wv rfl (Z2 rfl Z33) <| Wv rfl (Z8 rfl Z65 (OB.cell ob32 (j := 9) rfl)) <| Z7 <| Z5 <| Z12 HF rfl (fun HF => ?_) (fun HF => ?_)
 ·refine Za <| Z0 <| Wm rfl rfl <| Wv rfl (Z02 rfl) <| Wv rfl (Z2 rfl Z1z) ?_
  have ob37 := (ob10.step0 s31)
  obtain ⟨r38, hr39, HF⟩ := Z6 HF
  refine Wc rfl (Zi (vs := [pt b1 0, .string b'3]) rfl Z7m) (Z0p _ hr39 S35.sub (rs6.mono (s31.le)) (by rw [S35.eqb]; exact (ow7.step0 s31)) ob37 tn14) ?_
  rintro v40 w41 ⟨h42, s43, rfl, ⟨v44, rs45, ow46, om47, ob50⟩⟩
  have ow48 := Own.rb ow46 S35.eqb
  have om49 : ∀ i ∈ v44.ownBlock.toList, i ∈ (Value.slice A4 xs3.length c5).ownBlock.toList ∨ w0.heap.size ≤ i := fun i hi => (om47 i hi).elim (fun q => om8 i q) (fun q => .inr (Nat.le_trans S35.size q))
  have S51 := S35.trans s43 (Zy (.inl (by simp)) (Z7v (fun i hi => (om8 i hi).elim (fun q => .inl (by simp only [List.mem_cons, List.mem_append]; simp [q])) .inr) Z0q))
  refine Z7 <| Z5 <| Z0 <| Wm rfl rfl <| Wv rfl (Z2 rfl Z3f) ?_
  have ob52 := (ob32.step s43 (Z51 (Ne.symm ne33) (Z8w (fun hm => (ow7.step0 s31).ne ob32 (by decide) _ hm rfl) Z8u)))
  refine Wv rfl (Z8 rfl Z2r (OB.cell ob52 (j := 8) rfl)) ?_
  obtain ⟨A53, c54, rfl, rs55⟩ := RS.form rs45
  obtain ⟨r56, hr57, HF⟩ := Z6 HF
  refine Wc rfl (Zi (vs := [pt b1 0, v26]) rfl t_ent_41) ((IH _ (Nat.le_refl _)).2.2.2.1 hr57 S51.sub rs55 (by rw [S51.eqb]; exact ow48) (rs27.mono ((s31.le).trans s43.le)) ob50 tn14) ?_
  rintro v58 w59 ⟨h60, s61, rfl, ⟨v62, rs63, ow64, om65, ob68⟩⟩
  have ow66 := Own.rb ow64 S51.eqb
  have om67 : ∀ i ∈ v62.ownBlock.toList, i ∈ (Value.slice A4 xs3.length c5).ownBlock.toList ∨ w0.heap.size ≤ i := fun i hi => (om65 i hi).elim (fun q => om49 i q) (fun q => .inr (Nat.le_trans S51.size q))
  have S69 := S51.trans s61 (Zy (.inl (by simp)) (Z7v (fun i hi => (om49 i hi).elim (fun q => .inl (by simp only [List.mem_cons, List.mem_append]; simp [q])) .inr) Z0q))
  refine Z7 <| Z5v rfl ?_
  obtain rfl := Option.some.inj HF
  exact ⟨_, rfl, h60, S69, rfl, ⟨_, rs63, ow66, om67, ob68⟩⟩
 refine Zm ?_
 have ob70 := (ob10.step0 s31)
 refine Z5v rfl ?_
 obtain rfl := Option.some.inj HF
 exact ⟨_, rfl, h0, S35, rfl, ⟨_, (rs6.mono (s31.le)), (ow7.step0 s31), om8, ob70⟩⟩
theorem s_print_printer_stmt_1 (k : Nat) (IH : ∀ j, j ≤ k → Z1m (Z3 j).print_lines_inside ∧ Z1i (Z3 j).print_printer_loop ∧ Z1n (Z3 j).print_printer_stmt ∧ Z1p (Z3 j).print_printer_text ∧ Z1d (Z3 j).print_printer_other ∧ Z19 (Z3 j).print_printer_stmt_1 ∧ Z18 (Z3 j).print_printer_text_1 ∧ Z13 (Z3 j).print_lines_inside_v1) : Z19 (Z81 k (Z3 k)) := by
 intro x3 x4 xs5 xs8 xs11 x14 xs15 xs18 xs21 x24 x29 xs30 x36 r HF w0 h0 b1 T2 v6 v9 v12 v16 v19 v22 b26 T27 b28 A31 c32 hs0 rs7 rs10 rs13 rs17 rs20 rs23 rs33 ow34 ob25 ob38 ob37 ne39 ne40 ne41 tn42 tn43 tn44
 have S0 : Stp (b28 :: ((Value.slice A31 xs30.length c32).ownBlock.toList ++ [])) w0 h0 w0 h0 := Stp.refl hs0 _
 have om35 : ∀ i ∈ (Value.slice A31 xs30.length c32).ownBlock.toList, i ∈ (Value.slice A31 xs30.length c32).ownBlock.toList ∨ w0.heap.size ≤ i := fun i hi => .inl hi
 have lt45 : b1 < w0.heap.size := OB.lt ob25
 have lt46 : b26 < w0.heap.size := OB.lt ob38
 have lt47 : b28 < w0.heap.size := OB.lt ob37
 refine Z66 (n := 24) Tryz.func44 rfl Tryz.ntmps44 rfl [(0, pt b1 0), (1, pt b26 0)] rfl <| Za <| Z0 <| Wv rfl (Z2 rfl Z2e) <| Wv rfl (Z8 rfl Z6z (OB.cell ob25 (j := 7) rfl)) ?_
 obtain ⟨A48, c49, rfl, rs50⟩ := RS.form rs20
 refine Wv rfl (Z0v rfl Z32) <| Wm rfl rfl <| Z7 <| Z5 <| Z0c <| Z4j <| Z8e [1, 5, 6, 7] [(1, pt b26 0), (5, .slice A48 (xs18).length c49), (6, vi (xs18.length : Int)), (7, vi 0)] rfl <| Z4m (K := k) (fun j E w52 => ∃ (h51 : Hp) (x55 : Int) (xs56 : List Ar) (v57 : Value) (x61 : Bool) (xs62 : List UInt8) (v63 : Value) (x67 : ByteArray), (Z3 j).print_printer_stmt_1_l1 xs18 x55 xs56 x61 xs62 x67 = some r ∧ E = [(1, pt b26 0), (5, .slice A48 (xs18).length c49), (6, vi (xs18.length : Int)), (7, vi x55)] ∧ Stp (b28 :: ((Value.slice A31 xs30.length c32).ownBlock.toList ++ [])) w0 h0 w52 h51 ∧ Hle h0 h51 ∧ RS h51 v57 xs56 ∧ RS h51 v63 xs62 ∧ Own w52 h51 h0.base 5 1 v63 xs62.length ∧ (∀ i ∈ v63.ownBlock.toList, i ∈ (Value.slice A31 xs30.length c32).ownBlock.toList ∨ w0.heap.size ≤ i) ∧ OB w52 h51 b1 T2 [vi x3, .string x4, v6, v9, v12, vi x14, v16, v57, v22, .bool x24] ∧ OB w52 h51 b26 T27 [pt b28 0] ∧ OB w52 h51 b28 55 [.pointer (bif x61 then some ⟨b28, 0, none⟩ else none), v63, .string x67]) ?_ ?_ (j := k) (Nat.le_refl _) ?_
 ·rintro E w52 ⟨_, _, _, _, _, _, _, _, HF, _⟩; cases HF
 ·rintro j69 hj71 IHL70 E w52 ⟨h51, x55, xs56, v57, x61, xs62, v63, x67, HF, rfl, S54, le53, rs58, rs64, ow65, om66, ob59, ob60, ob68⟩
  refine Za <| Z0 <| Wv rfl (Z6q rfl rfl) <| Z7 <| Z5 <| Z04 (fun E w74 => ∃ (h73 : Hp) (xs79 : List UInt8) (v80 : Value), Z7k j69 (Z3 j69) xs18 x55 xs56 x61 x67 xs79 = some r ∧ E = [(1, pt b26 0), (5, .slice A48 (xs18).length c49), (6, vi (xs18.length : Int)), (7, vi x55)] ∧ Stp (b28 :: ((Value.slice A31 xs30.length c32).ownBlock.toList ++ [])) w0 h0 w74 h73 ∧ Hle h51 h73 ∧ RS h73 v80 xs79 ∧ Own w74 h73 h0.base 5 1 v80 xs79.length ∧ (∀ i ∈ v80.ownBlock.toList, i ∈ (Value.slice A31 xs30.length c32).ownBlock.toList ∨ w0.heap.size ≤ i) ∧ OB w74 h73 b1 T2 [vi x3, .string x4, v6, v9, v12, vi x14, v16, v57, v22, .bool x24] ∧ OB w74 h73 b26 T27 [pt b28 0] ∧ OB w74 h73 b28 55 [.pointer (bif x61 then some ⟨b28, 0, none⟩ else none), v80, .string x67]) ?_ ?_
  ·rintro E w74 ⟨h73, xs79, v80, HF, rfl, S76, le75, rs81, ow82, om83, ob77, ob78, ob84⟩
   refine Za <| Z0c <| Za <| Z0 ?_
   obtain ⟨e85, he86, HF⟩ := Z6 HF
   obtain ⟨b87, o88, rfl, h90, h91, ra89⟩ := RS.atO (rs50.mono ((le53).trans le75)) he86
   obtain ⟨cs92, r93, hc94⟩ := ra89
   refine Wv rfl (Zk rfl rfl Z32 Z56 h90 h91) <| Wv rfl (Z0w (cs := cs92) rfl t_agg_47 (by rw [Rp.len r93]; exact Z56) (fun j v hv => S76.sub.at_ _ _ _ (hc94 j v hv))) <| Za3 (zs := [.slice none 0 0, .slice none 0 0, .slice none 0 0]) rfl rfl t_zero_47 rfl S76.sub (fun w95 b96 hb97 s98 ob99 => ?_)
   have ne100 : b1 ≠ b96 := ob77.ne_new hb97
   have ne101 : b26 ≠ b96 := ob78.ne_new hb97
   have ne102 : b28 ≠ b96 := ob84.ne_new hb97
   have g103 : w0.heap.size ≤ b96 := by rw [hb97]; exact S76.size
   have S104 := S76.trans0 s98
   obtain ⟨v105, v107, v109, rfl, rs106, rs108, rs110⟩ := rp_Ar.1 (Rp.mono (s98.le) r93)
   refine Z5i (vs := [v105, v107, v109]) rfl rfl rfl rfl Z56 (Z0d (RS.one rs106) (Z0d (RS.one rs108) (Z0d (RS.one rs110) Z76))) ob99 S104.sub (by simp) (ds := [v105, v107, v109]) rfl (fun w111 s112 ob113 => ?_)
   have S114 := S104.trans1 s112 (.inr g103)
   refine Z7 <| Z5 <| Za ?_
   obtain ⟨r115, hr116, HF⟩ := Z6 HF
   obtain ⟨hl117, HF⟩ := Zj HF
   refine Z2z (m := 7) [(1, pt b26 0), (3, pt b96 0), (5, sl b87 o88 (xs18).length c49), (6, vi (xs18.length : Int)), (7, vi x55)] [1, 3, 5, 6, 7] rfl (fun i v w h => match i with | 0 => v = pt b28 0 | 1 => v = pt b28 0 | 2 => v = pt b28 0 | 3 => v = pt b96 1 | 4 => v = v107 | 5 => v = .string r115 | 6 => v = .string (r115 ++ b'107) | _ => True) Z4c S114.sub rfl rfl rfl rfl rfl ?_ ?_ ?_
   ·intro i v w h w2 h2 hΦ hst
    match i, hΦ with
    | 0, hΦ | 1, hΦ | 2, hΦ | 3, hΦ | 4, hΦ | 5, hΦ | 6, hΦ => exact hΦ
    | i + 7, _ => exact trivial
   ·refine ⟨?_, ?_, ?_, ?_, ?_, ?_, ?_, trivial⟩
    ·intro a w118 h119 s120 hat hF
     have ob121 := (((ob78.step0 s98).step1 s112 ne101).step0 s120)
     exact Z4 hat rfl (Z8 rfl Z73 (OB.cell ob121 (j := 0) rfl)) s120.sub (by exact rfl)
    ·intro a w118 h119 s120 hat hF
     exact Z4 (Z1 hat (hF 0 11 rfl rfl)) rfl (Z02 rfl) s120.sub (by exact rfl)
    ·intro a w118 h119 s120 hat hF
     exact Z4 (Z1 hat (hF 1 12 rfl rfl)) rfl (Z2 rfl Z1z) s120.sub (by exact rfl)
    ·intro a w118 h119 s120 hat hF
     exact Z4 hat rfl (Z2 rfl Z49) s120.sub (by exact rfl)
    ·intro a w118 h119 s120 hat hF
     have ob122 := (ob113.step0 s120)
     exact Z4 (Z1 hat (hF 3 14 rfl rfl)) rfl (Z8 rfl Z9g (OB.cell ob122 (j := 1) rfl)) s120.sub (by exact rfl)
    ·intro a w118 h119 s120 hat hF
     refine Z0n (Z1 hat (hF 4 15 rfl rfl)) rfl (Zi (vs := [v107, .string b'103, .func (.func 36) #[] #[]]) rfl t_ent_45) (ok_print_Joined_int _ hr116 s120.sub (rs108.mono ((s112.le).trans s120.le))) ?_
     rintro _ w123 ⟨h124, s125, rfl⟩
     exact ⟨_, h124, rfl, s125, (by exact rfl)⟩
    intro a w118 h119 s120 hat hF
    exact Z4 (Z1 hat (hF 5 16 rfl rfl)) rfl (Zs rfl rfl hl117) s120.sub (by exact rfl)
   intro a w118 h119 s120 hat hF
   obtain hv0 := hF 0 11 (by decide) rfl
   obtain hv1 := hF 1 12 (by decide) rfl
   obtain hv2 := hF 2 13 (by decide) rfl
   obtain hv3 := hF 3 14 (by decide) rfl
   obtain hv4 := hF 4 15 (by decide) rfl
   obtain hv5 := hF 5 16 (by decide) rfl
   obtain hv6 := hF 6 17 (by decide) rfl
   refine Z7u [(17, .string (r115 ++ b'107)), (16, .string r115), (15, v107), (14, pt b96 1), (13, pt b28 0), (12, pt b28 0), (11, pt b28 0), (1, pt b26 0), (3, pt b96 0), (5, sl b87 o88 (xs18).length c49), (6, vi (xs18.length : Int)), (7, vi x55)] (Z1 (Z1 (Z1 (Z1 (Z1 (Z1 (Z1 hat hv0) hv1) hv2) hv3) hv4) hv5) hv6) ?_
   have S126 := S114.trans0 s120
   obtain ⟨A127, c128, rfl, rs129⟩ := RS.form (rs81.mono ((s98.le).trans ((s112.le).trans s120.le)))
   have ob130 := (((ob84.step0 s98).step1 s112 ne102).step0 s120)
   obtain ⟨r131, hr132, HF⟩ := Z6 HF
   refine Wc rfl (Zi (vs := [pt b28 0, .string (r115 ++ b'107)]) rfl Z7m) (Z0p _ hr132 S126.sub rs129 (by rw [S126.eqb]; exact (((ow82.step0 s98).step s112 (Z8c ((ow82.step0 s98).ne_ob ob99 (by decide)) Zct)).step0 s120)) ob130 tn44) ?_
   have ob137 := (((ob77.step0 s98).step1 s112 ne100).step0 s120)
   have ob138 := (((ob78.step0 s98).step1 s112 ne101).step0 s120)
   have ob139 := (ob113.step0 s120)
   rintro v133 w134 ⟨h135, s136, rfl, ⟨v140, rs141, ow142, om143, ob146⟩⟩
   have ow144 := Own.rb ow142 S126.eqb
   have om145 : ∀ i ∈ v140.ownBlock.toList, i ∈ (Value.slice A31 xs30.length c32).ownBlock.toList ∨ w0.heap.size ≤ i := fun i hi => (om143 i hi).elim (fun q => om83 i q) (fun q => .inr (Nat.le_trans S126.size q))
   have S147 := S126.trans s136 (Zy (.inl (by simp)) (Z7v (fun i hi => (om83 i hi).elim (fun q => .inl (by simp only [List.mem_cons, List.mem_append]; simp [q])) .inr) Z0q))
   refine Z7 <| Z5 <| Z0 ?_
   have ob148 := (ob138.step s136 (Z51 ne41 (Z8w (fun hm => (((ow82.step0 s98).step s112 (Z8c ((ow82.step0 s98).ne_ob ob99 (by decide)) Zct)).step0 s120).ne ob138 tn43 _ hm rfl) Z8u)))
   refine Wv rfl (Z8 rfl Z73 (OB.cell ob148 (j := 0) rfl)) <| Wv rfl (Z2 rfl Z99) ?_
   have ob149 := (ob139.step s136 (Z51 (Ne.symm ne102) (Z8w (fun hm => (((ow82.step0 s98).step s112 (Z8c ((ow82.step0 s98).ne_ob ob99 (by decide)) Zct)).step0 s120).ne ob139 (by decide) _ hm rfl) Z8u)))
   refine Wv rfl (Z8 rfl Z2r (OB.cell ob149 (j := 2) rfl)) ?_
   obtain ⟨A150, c151, rfl, rs152⟩ := RS.form rs141
   obtain ⟨r153, hr154, HF⟩ := Z6 HF
   refine Wc rfl (Zi (vs := [pt b28 0, v109]) rfl t_ent_41) ((IH _ (Nat.le_trans (Nat.le_of_succ_le hj71) (Nat.le_refl _))).2.2.2.1 hr154 S147.sub rs152 (by rw [S147.eqb]; exact ow144) (rs110.mono ((s112.le).trans ((s120.le).trans s136.le))) ob146 tn44) ?_
   have ob159 := (ob137.step s136 (Z51 ne40 (Z8w (fun hm => (((ow82.step0 s98).step s112 (Z8c ((ow82.step0 s98).ne_ob ob99 (by decide)) Zct)).step0 s120).ne ob137 tn42 _ hm rfl) Z8u)))
   rintro v155 w156 ⟨h157, s158, rfl, ⟨v160, rs161, ow162, om163, ob166⟩⟩
   have ow164 := Own.rb ow162 S147.eqb
   have om165 : ∀ i ∈ v160.ownBlock.toList, i ∈ (Value.slice A31 xs30.length c32).ownBlock.toList ∨ w0.heap.size ≤ i := fun i hi => (om163 i hi).elim (fun q => om145 i q) (fun q => .inr (Nat.le_trans S147.size q))
   have S167 := S147.trans s158 (Zy (.inl (by simp)) (Z7v (fun i hi => (om145 i hi).elim (fun q => .inl (by simp only [List.mem_cons, List.mem_append]; simp [q])) .inr) Z0q))
   refine Z7 <| Zv <| Z5 <| Z0 <| Wv rfl (Z2v rfl rfl) <| Wm rfl rfl <| Z7 ?_
   have ob169 := (ob159.step s158 (Z51 ne40 (Z8w (fun hm => ow144.ne ob159 tn42 _ hm rfl) Z8u)))
   have ob170 := (ob148.step s158 (Z51 ne41 (Z8w (fun hm => ow144.ne ob148 tn43 _ hm rfl) Z8u)))
   refine Z2x <| Z8e [1, 5, 6, 7] [(1, pt b26 0), (5, sl b87 o88 (xs18).length c49), (6, vi (xs18.length : Int)), (7, vi (IntKind.i64.wrap (x55 + 1)))] rfl ?_
   exact IHL70 j69 (Nat.le_refl _) _ _ ⟨h157, IntKind.i64.wrap (x55 + 1), xs56, v57, r153.1, r153.2.1, v160, r153.2.2, HF, rfl, S167, (le53).trans ((le75).trans ((s98.le).trans ((s112.le).trans ((s120.le).trans ((s136.le).trans s158.le))))), (rs58.mono ((le75).trans ((s98.le).trans ((s112.le).trans ((s120.le).trans ((s136.le).trans s158.le)))))), rs161, ow164, om165, ob169, ob170, ob166⟩
  intro J168
  refine Z12 HF rfl (fun HF => ?_) (fun HF => ?_)
  ·refine Zm <| Z06 [1, 5, 6, 7] _ rfl ?_
   exact J168 ⟨h51, xs62, v63, HF, rfl, S54, Hle.refl _, rs64, ow65, om66, ob59, ob60, ob68⟩
  refine Z4b <| Zr <| Zr <| Z0x <| Z5v rfl ?_
  obtain rfl := Option.some.inj HF
  exact ⟨_, rfl, h51, S54, rfl, ⟨_, rs64, ow65, om66, ob68⟩⟩
 exact ⟨h0, 0, xs18, .slice A48 (xs18).length c49, x29, xs30, .slice A31 xs30.length c32, x36, HF, rfl, S0, Hle.refl _, rs50, rs33, ow34, om35, ob25, ob38, ob37⟩
theorem s_print_printer_text_1 (k : Nat) (IH : ∀ j, j ≤ k → Z1m (Z3 j).print_lines_inside ∧ Z1i (Z3 j).print_printer_loop ∧ Z1n (Z3 j).print_printer_stmt ∧ Z1p (Z3 j).print_printer_text ∧ Z1d (Z3 j).print_printer_other ∧ Z19 (Z3 j).print_printer_stmt_1 ∧ Z18 (Z3 j).print_printer_text_1 ∧ Z13 (Z3 j).print_lines_inside_v1) : Z18 (Z8a k (Z3 k)) := by
 intro xs3 x10 xs11 x17 r HF w0 h0 b1 T2 v4 b7 T8 b9 A12 c13 hs0 rs5 rs14 ow15 ob6 ob19 ob18 ne20 ne21 ne22 tn23 tn24 tn25
 have S0 : Stp (b9 :: ((Value.slice A12 xs11.length c13).ownBlock.toList ++ [])) w0 h0 w0 h0 := Stp.refl hs0 _
 have om16 : ∀ i ∈ (Value.slice A12 xs11.length c13).ownBlock.toList, i ∈ (Value.slice A12 xs11.length c13).ownBlock.toList ∨ w0.heap.size ≤ i := fun i hi => .inl hi
 have lt26 : b1 < w0.heap.size := OB.lt ob6
 have lt27 : b7 < w0.heap.size := OB.lt ob19
 have lt28 : b9 < w0.heap.size := OB.lt ob18
 refine Z66 (n := 14) Tryz.func68 rfl Tryz.ntmps68 rfl [(0, pt b1 0), (1, pt b7 0)] rfl <| Za <| Z0 <| Wv rfl (Z8 rfl Z2r (OB.cell ob6 (j := 0) rfl)) ?_
 obtain ⟨A29, c30, rfl, rs31⟩ := RS.form rs5
 refine Wv rfl (Z0v rfl Z1e) <| Wm rfl rfl <| Z7 <| Z5 <| Z0c <| Z4j <| Z8e [1, 4, 5, 6] [(1, pt b7 0), (4, .slice A29 (xs3).length c30), (5, vi (xs3.length : Int)), (6, vi 0)] rfl <| Z4m (K := k) (fun j E w33 => ∃ (h32 : Hp) (x36 : Int) (xs37 : List St) (v38 : Value) (x42 : Bool) (xs43 : List UInt8) (v44 : Value) (x48 : ByteArray), (Z3 j).print_printer_text_1_l1 xs3 x36 xs37 x42 xs43 x48 = some r ∧ E = [(1, pt b7 0), (4, .slice A29 (xs3).length c30), (5, vi (xs3.length : Int)), (6, vi x36)] ∧ Stp (b9 :: ((Value.slice A12 xs11.length c13).ownBlock.toList ++ [])) w0 h0 w33 h32 ∧ Hle h0 h32 ∧ RS h32 v38 xs37 ∧ RS h32 v44 xs43 ∧ Own w33 h32 h0.base 5 1 v44 xs43.length ∧ (∀ i ∈ v44.ownBlock.toList, i ∈ (Value.slice A12 xs11.length c13).ownBlock.toList ∨ w0.heap.size ≤ i) ∧ OB w33 h32 b1 T2 [v38] ∧ OB w33 h32 b7 T8 [pt b9 0] ∧ OB w33 h32 b9 55 [.pointer (bif x42 then some ⟨b9, 0, none⟩ else none), v44, .string x48]) ?_ ?_ (j := k) (Nat.le_refl _) ?_
 ·rintro E w33 ⟨_, _, _, _, _, _, _, _, HF, _⟩; cases HF
 ·rintro j50 hj52 IHL51 E w33 ⟨h32, x36, xs37, v38, x42, xs43, v44, x48, HF, rfl, S35, le34, rs39, rs45, ow46, om47, ob40, ob41, ob49⟩
  refine Za <| Z0 <| Wv rfl (Z6q rfl rfl) <| Z7 <| Z5 <| Z04 (fun E w55 => ∃ (h54 : Hp) (xs60 : List UInt8) (v61 : Value), Z7i j50 (Z3 j50) xs3 x36 xs37 x42 x48 xs60 = some r ∧ E = [(1, pt b7 0), (4, .slice A29 (xs3).length c30), (5, vi (xs3.length : Int)), (6, vi x36)] ∧ Stp (b9 :: ((Value.slice A12 xs11.length c13).ownBlock.toList ++ [])) w0 h0 w55 h54 ∧ Hle h32 h54 ∧ RS h54 v61 xs60 ∧ Own w55 h54 h0.base 5 1 v61 xs60.length ∧ (∀ i ∈ v61.ownBlock.toList, i ∈ (Value.slice A12 xs11.length c13).ownBlock.toList ∨ w0.heap.size ≤ i) ∧ OB w55 h54 b1 T2 [v38] ∧ OB w55 h54 b7 T8 [pt b9 0] ∧ OB w55 h54 b9 55 [.pointer (bif x42 then some ⟨b9, 0, none⟩ else none), v61, .string x48]) ?_ ?_
  ·rintro E w55 ⟨h54, xs60, v61, HF, rfl, S57, le56, rs62, ow63, om64, ob58, ob59, ob65⟩
   refine Za <| Z0c <| Za <| Z0 ?_
   obtain ⟨e66, he67, HF⟩ := Z6 HF
   obtain ⟨b68, o69, rfl, h71, h72, ra70⟩ := RS.atO (rs31.mono ((le34).trans le56)) he67
   obtain ⟨cs73, r74, hc75⟩ := ra70
   refine Wv rfl (Zk rfl rfl Z1e Z2g h71 h72) <| Wv rfl (Z0w (cs := cs73) rfl Zb8 (by rw [Rp.len r74]; exact Z2g) (fun j v hv => S57.sub.at_ _ _ _ (hc75 j v hv))) <| Za3 (zs := [vi 0, .string Z2c, .slice none 0 0, .slice none 0 0, .slice none 0 0, vi 0, .slice none 0 0, .slice none 0 0, .slice none 0 0, .bool false]) rfl rfl t_zero_44 rfl S57.sub (fun w76 b77 hb78 s79 ob80 => ?_)
   have ne81 : b1 ≠ b77 := ob58.ne_new hb78
   have ne82 : b7 ≠ b77 := ob59.ne_new hb78
   have ne83 : b9 ≠ b77 := ob65.ne_new hb78
   have g84 : w0.heap.size ≤ b77 := by rw [hb78]; exact S57.size
   have S85 := S57.trans0 s79
   obtain ⟨v86, v88, v90, v92, v94, v96, rfl, rs87, rs89, rs91, rs93, rs95, rs97⟩ := rp_St.1 (Rp.mono (s79.le) r74)
   refine Z5i (vs := [vi e66.op, .string e66.name, v86, v88, v90, vi e66.n, v92, v94, v96, .bool e66.els]) rfl rfl rfl rfl Z2g (Z0d rfl (Z0d rfl (Z0d (RS.one rs87) (Z0d (RS.one rs89) (Z0d (RS.one rs91) (Z0d rfl (Z0d (RS.one rs93) (Z0d (RS.one rs95) (Z0d (RS.one rs97) (Z0d rfl Z76)))))))))) ob80 S85.sub (by simp) (ds := [vi e66.op, .string e66.name, v86, v88, v90, vi e66.n, v92, v94, v96, .bool e66.els]) rfl (fun w98 s99 ob100 => ?_)
   have S101 := S85.trans1 s99 (.inr g84)
   refine Z7 <| Z5 <| Z0 ?_
   have ob102 := ((ob59.step0 s79).step1 s99 ne82)
   refine Wv rfl (Z8 rfl Z73 (OB.cell ob102 (j := 0) rfl)) <| Wv rfl (Z0w (cs := [vi e66.op, .string e66.name, v86, v88, v90, vi e66.n, v92, v94, v96, .bool e66.els]) rfl Zb8 Z2g (OB.cells ob100 0 rfl)) ?_
   obtain ⟨A103, c104, rfl, rs105⟩ := RS.form (rs62.mono ((s79.le).trans s99.le))
   have ob106 := ((ob65.step0 s79).step1 s99 ne83)
   obtain ⟨r107, hr108, HF⟩ := Z6 HF
   refine Wc rfl (Zi (vs := [pt b9 0, .agg #[vi e66.op, .string e66.name, v86, v88, v90, vi e66.n, v92, v94, v96, .bool e66.els]]) rfl t_ent_20) ((IH _ (Nat.le_trans (Nat.le_of_succ_le hj52) (Nat.le_refl _))).2.2.1 hr108 S101.sub rs105 (by rw [S101.eqb]; exact ((ow63.step0 s79).step s99 (Z8c ((ow63.step0 s79).ne_ob ob80 (by decide)) Zct))) (rp_St.2 ⟨_, _, _, _, _, _, rfl, (rs87.mono (s99.le)), (rs89.mono (s99.le)), (rs91.mono (s99.le)), (rs93.mono (s99.le)), (rs95.mono (s99.le)), (rs97.mono (s99.le))⟩) ob106 tn25) ?_
   have ob113 := ((ob58.step0 s79).step1 s99 ne81)
   rintro v109 w110 ⟨h111, s112, rfl, ⟨v114, rs115, ow116, om117, ob120⟩⟩
   have ow118 := Own.rb ow116 S101.eqb
   have om119 : ∀ i ∈ v114.ownBlock.toList, i ∈ (Value.slice A12 xs11.length c13).ownBlock.toList ∨ w0.heap.size ≤ i := fun i hi => (om117 i hi).elim (fun q => om64 i q) (fun q => .inr (Nat.le_trans S101.size q))
   have S121 := S101.trans s112 (Zy (.inl (by simp)) (Z7v (fun i hi => (om64 i hi).elim (fun q => .inl (by simp only [List.mem_cons, List.mem_append]; simp [q])) .inr) Z0q))
   refine Z7 <| Zv <| Z5 <| Z0 <| Wv rfl (Z2v rfl rfl) <| Wm rfl rfl <| Z7 ?_
   have ob123 := (ob113.step s112 (Z51 ne21 (Z8w (fun hm => ((ow63.step0 s79).step s99 (Z8c ((ow63.step0 s79).ne_ob ob80 (by decide)) Zct)).ne ob113 tn23 _ hm rfl) Z8u)))
   have ob124 := (ob102.step s112 (Z51 ne22 (Z8w (fun hm => ((ow63.step0 s79).step s99 (Z8c ((ow63.step0 s79).ne_ob ob80 (by decide)) Zct)).ne ob102 tn24 _ hm rfl) Z8u)))
   refine Z2x <| Z8e [1, 4, 5, 6] [(1, pt b7 0), (4, sl b68 o69 (xs3).length c30), (5, vi (xs3.length : Int)), (6, vi (IntKind.i64.wrap (x36 + 1)))] rfl ?_
   exact IHL51 j50 (Nat.le_refl _) _ _ ⟨h111, IntKind.i64.wrap (x36 + 1), xs37, v38, r107.1, r107.2.1, v114, r107.2.2, HF, rfl, S121, (le34).trans ((le56).trans ((s79.le).trans ((s99.le).trans s112.le))), (rs39.mono ((le56).trans ((s79.le).trans ((s99.le).trans s112.le)))), rs115, ow118, om119, ob123, ob124, ob120⟩
  intro J122
  refine Z12 HF rfl (fun HF => ?_) (fun HF => ?_)
  ·refine Zm <| Z06 [1, 4, 5, 6] _ rfl ?_
   exact J122 ⟨h32, xs43, v44, HF, rfl, S35, Hle.refl _, rs45, ow46, om47, ob40, ob41, ob49⟩
  refine Z4b <| Zr <| Zr <| Z0x <| Z5v rfl ?_
  obtain rfl := Option.some.inj HF
  exact ⟨_, rfl, h32, S35, rfl, ⟨_, rs45, ow46, om47, ob49⟩⟩
 exact ⟨h0, 0, xs3, .slice A29 (xs3).length c30, x10, xs11, .slice A12 xs11.length c13, x17, HF, rfl, S0, Hle.refl _, rs31, rs14, ow15, om16, ob6, ob19, ob18⟩
theorem Zfb (k : Nat) (IH : ∀ j, j ≤ k → Z1m (Z3 j).print_lines_inside ∧ Z1i (Z3 j).print_printer_loop ∧ Z1n (Z3 j).print_printer_stmt ∧ Z1p (Z3 j).print_printer_text ∧ Z1d (Z3 j).print_printer_other ∧ Z19 (Z3 j).print_printer_stmt_1 ∧ Z18 (Z3 j).print_printer_text_1 ∧ Z13 (Z3 j).print_lines_inside_v1) : Z13 (Z44 k (Z3 k)) := by
 intro x2 xs3 x9 xs13 r HF w0 h0 b1 A4 c5 b11 T12 v14 b17 T18 hs0 rs6 ow7 rs15 ob10 ob16 ob19 ne20 ne21 ne22 tn23 tn24 tn25
 have S0 : Stp (b1 :: ((Value.slice A4 xs3.length c5).ownBlock.toList ++ [])) w0 h0 w0 h0 := Stp.refl hs0 _
 have om8 : ∀ i ∈ (Value.slice A4 xs3.length c5).ownBlock.toList, i ∈ (Value.slice A4 xs3.length c5).ownBlock.toList ∨ w0.heap.size ≤ i := fun i hi => .inl hi
 have lt26 : b1 < w0.heap.size := OB.lt ob10
 have lt27 : b11 < w0.heap.size := OB.lt ob16
 have lt28 : b17 < w0.heap.size := OB.lt ob19
 refine Z66 (n := 20) Tryz.func43 rfl Tryz.ntmps43 rfl [(0, pt b1 0), (1, .func (.func 68) #[] #[pt b11 0, pt b17 0])] rfl <| Za <| Z0 <| Wm rfl rfl <| Wv rfl (Z02 rfl) <| Wv rfl (Z2 rfl Z9h) <| Wv rfl (Z8 rfl Z3l (OB.cell ob10 (j := 2) rfl)) <| Wa rfl rfl <| Z7 <| Z5 <| Za <| Z0 <| Wm rfl rfl <| Wm rfl rfl ?_
 obtain ⟨hl29, HF⟩ := Zj HF
 refine Wv rfl (Zs rfl rfl hl29) <| Wv rfl (Z02 rfl) <| Wv rfl (Z2 rfl Z9h) <| Z5i (vs := [.string (x9 ++ b'95)]) rfl rfl rfl rfl Z6k (Z0d rfl Z76) ob10 S0.sub (by simp) (ds := [.pointer (bif x2 then some ⟨b1, 0, none⟩ else none), .slice A4 xs3.length c5, .string (x9 ++ b'95)]) rfl (fun w30 s31 ob32 => ?_)
 have S33 := S0.trans1 s31 (.inl (by simp))
 refine Z7 <| Z5 <| Za <| Z0 <| Wm rfl rfl ?_
 have ob34 := (ob16.step1 s31 (Ne.symm ne20))
 have ob35 := (ob19.step1 s31 (Ne.symm ne21))
 obtain ⟨r36, hr37, HF⟩ := Z6 HF
 refine Wc rfl (oc_val (vs := []) (caps := [pt b11 0, pt b17 0]) rfl rfl t_ent_68) ((IH _ (Nat.le_refl _)).2.2.2.2.2.2.1 hr37 S33.sub (rs15.mono (s31.le)) (rs6.mono (s31.le)) (by rw [S33.eqb]; exact (ow7.step s31 (Z8c (ow7.ne_ob ob10 tn23) Zct))) ob34 ob35 ob32 ne22 (Ne.symm ne20) (Ne.symm ne21) tn24 tn25 tn23) ?_
 rintro v38 w39 ⟨h40, s41, rfl, ⟨v42, rs43, ow44, om45, ob48⟩⟩
 have ow46 := Own.rb ow44 S33.eqb
 have om47 : ∀ i ∈ v42.ownBlock.toList, i ∈ (Value.slice A4 xs3.length c5).ownBlock.toList ∨ w0.heap.size ≤ i := fun i hi => (om45 i hi).elim (fun q => om8 i q) (fun q => .inr (Nat.le_trans S33.size q))
 have S49 := S33.trans s41 (Zy (.inl (by simp)) (Z7v (fun i hi => (om8 i hi).elim (fun q => .inl (by simp only [List.mem_cons, List.mem_append]; simp [q])) .inr) Z0q))
 refine Z7 <| Z5 <| Z0 <| Wm rfl rfl <| Wm rfl rfl <| Wv rfl (Z02 rfl) <| Wv rfl (Z2 rfl Z9h) <| Z5i (vs := [.string x9]) rfl rfl rfl rfl Z6k (Z0d rfl Z76) ob48 S49.sub (by simp) (ds := [.pointer (bif r36.1 then some ⟨b1, 0, none⟩ else none), v42, .string x9]) rfl (fun w50 s51 ob52 => ?_)
 have S53 := S49.trans1 s51 (.inl (by simp))
 refine Z7 <| Z5v rfl ?_
 obtain rfl := Option.some.inj HF
 exact ⟨_, rfl, h40, S53, rfl, ⟨_, (rs43.mono (s51.le)), (ow46.step s51 (Z8c (ow46.ne_ob ob48 tn23) Zct)), om47, ob52⟩⟩
theorem Z29 : ∀ k j, j ≤ k → Z1m (Z3 j).print_lines_inside ∧ Z1i (Z3 j).print_printer_loop ∧ Z1n (Z3 j).print_printer_stmt ∧ Z1p (Z3 j).print_printer_text ∧ Z1d (Z3 j).print_printer_other ∧ Z19 (Z3 j).print_printer_stmt_1 ∧ Z18 (Z3 j).print_printer_text_1 ∧ Z13 (Z3 j).print_lines_inside_v1 := by
  intro k
  induction k with
  | zero =>
    intro j hj
    obtain rfl : j = 0 := by omega
    exact ⟨(fun _ _ _ _ _ _ _ _ _ _ _ _ _ _ => by intro h; cases h), (fun _ _ _ _ _ => by intro h; cases h), (fun _ _ _ _ _ => by intro h; cases h), (fun _ _ _ _ _ => by intro h; cases h), (fun _ _ _ _ _ => by intro h; cases h), (fun _ _ _ _ _ _ _ _ _ _ _ _ _ _ => by intro h; cases h), (fun _ _ _ _ _ => by intro h; cases h), (fun _ _ _ _ _ => by intro h; cases h)⟩
  | succ k ih =>
    intro j hj
    by_cases h : j ≤ k
    · exact ih j h
    · obtain rfl : j = k + 1 := by omega
      exact ⟨s_print_lines_inside k ih, s_print_printer_loop k ih, s_print_printer_stmt k ih, s_print_printer_text k ih, s_print_printer_other k ih, s_print_printer_stmt_1 k ih, s_print_printer_text_1 k ih, Zfb k ih⟩
theorem ok_print_lines_inside (k : Nat) : Z1m (Zcl k) := (Z29 k k (Nat.le_refl _)).1
theorem ok_print_printer_loop (k : Nat) : Z1i (Z71 k) := (Z29 k k (Nat.le_refl _)).2.1
theorem ok_print_printer_stmt (k : Nat) : Z1n (Z70 k) := (Z29 k k (Nat.le_refl _)).2.2.1
theorem ok_print_printer_text (k : Nat) : Z1p (Zcw k) := (Z29 k k (Nat.le_refl _)).2.2.2.1
theorem ok_print_printer_other (k : Nat) : Z1d (Zc2 k) := (Z29 k k (Nat.le_refl _)).2.2.2.2.1
theorem ok_print_printer_stmt_1 (k : Nat) : Z19 (F_print_printer_stmt_1 k) := (Z29 k k (Nat.le_refl _)).2.2.2.2.2.1
theorem ok_print_printer_text_1 (k : Nat) : Z18 (Zbo k) := (Z29 k k (Nat.le_refl _)).2.2.2.2.2.2.1
theorem ok_print_lines_inside_v1 (k : Nat) : Z13 (Zar k) := (Z29 k k (Nat.le_refl _)).2.2.2.2.2.2.2

def Zal (φ : Bool → (List UInt8) → ByteArray → Option ByteArray) : Prop := ∀ ⦃x2 : Bool⦄ ⦃xs3 : List UInt8⦄ ⦃x9 : ByteArray⦄ ⦃r : ByteArray⦄, φ x2 xs3 x9 = some r → ∀ ⦃w0 : World⦄ ⦃h0 : Hp⦄ ⦃b1 : Nat⦄ ⦃A4 : Option Addr⦄ ⦃c5 : Nat⦄, Sub h0 w0 → RS h0 (.slice A4 xs3.length c5) xs3 → Own w0 h0 h0.base 5 1 (.slice A4 xs3.length c5) xs3.length → OB w0 h0 b1 55 [.pointer (bif x2 then some ⟨b1, 0, none⟩ else none), .slice A4 xs3.length c5, .string x9] → (5 : Nat) ≠ 55 →
  Calls Tryz.prog 21 #[.pointer (some ⟨b1, 0, none⟩)] w0 fun e w1 => ∃ v, e = .returned v ∧ ∃ h1, Stp ((Value.slice A4 xs3.length c5).ownBlock.toList ++ []) w0 h0 w1 h1 ∧ v = .string r
theorem Zex (k : Nat) : Zal (Z6u k) := by
 intro x2 xs3 x9 r HF w0 h0 b1 A4 c5 hs0 rs6 ow7 ob10 tn11
 have S0 : Stp ((Value.slice A4 xs3.length c5).ownBlock.toList ++ []) w0 h0 w0 h0 := Stp.refl hs0 _
 have om8 : ∀ i ∈ (Value.slice A4 xs3.length c5).ownBlock.toList, i ∈ (Value.slice A4 xs3.length c5).ownBlock.toList ∨ w0.heap.size ≤ i := fun i hi => .inl hi
 have lt12 : b1 < w0.heap.size := OB.lt ob10
 refine Z66 (n := 14) Tryz.func21 rfl Tryz.ntmps21 rfl [(0, pt b1 0)] rfl <| Za <| Z0 <| Wa rfl rfl <| Z7 <| Z5 <| Za <| Z2z (m := 10) [(0, pt b1 0), (2, .string Z2c)] [0, 2] rfl (fun i v w h => match i with | 0 => v = pt b1 0 | 1 => v = pt b1 0 | 2 => v = pt b1 1 | 3 => v = .slice A4 xs3.length c5 | 4 => v = .pointer A4 | 5 => v = pt b1 0 | 6 => v = pt b1 0 | 7 => v = pt b1 1 | 8 => v = .slice A4 xs3.length c5 | 9 => v = vi (xs3.length : Int) | _ => True) Z4c S0.sub rfl rfl rfl rfl rfl ?_ ?_ ?_
 ·intro i v w h w2 h2 hΦ hst
  match i, hΦ with
  | 0, hΦ | 1, hΦ | 2, hΦ | 3, hΦ | 4, hΦ | 5, hΦ | 6, hΦ | 7, hΦ | 8, hΦ | 9, hΦ => exact hΦ
  | i + 10, _ => exact trivial
 ·refine ⟨?_, ?_, ?_, ?_, ?_, ?_, ?_, ?_, ?_, ?_, trivial⟩
  ·intro a w13 h14 s15 hat hF
   exact Z4 hat rfl (Z0j rfl) s15.sub (by exact rfl)
  ·intro a w13 h14 s15 hat hF
   exact Z4 (Z1 hat (hF 0 3 rfl rfl)) rfl (Z02 rfl) s15.sub (by exact rfl)
  ·intro a w13 h14 s15 hat hF
   exact Z4 (Z1 hat (hF 1 4 rfl rfl)) rfl (Z2 rfl Zed) s15.sub (by exact rfl)
  ·intro a w13 h14 s15 hat hF
   have ob16 := (ob10.step0 s15)
   exact Z4 (Z1 hat (hF 2 5 rfl rfl)) rfl (Z8 rfl t_agg_49 (OB.cell ob16 (j := 1) rfl)) s15.sub (by exact rfl)
  ·intro a w13 h14 s15 hat hF
   exact Z4 (Z1 hat (hF 3 6 rfl rfl)) rfl (ov_sliceData rfl (ow7.step0 s15)) s15.sub (by exact rfl)
  ·intro a w13 h14 s15 hat hF
   exact Z4 hat rfl (Z0j rfl) s15.sub (by exact rfl)
  ·intro a w13 h14 s15 hat hF
   exact Z4 (Z1 hat (hF 5 8 rfl rfl)) rfl (Z02 rfl) s15.sub (by exact rfl)
  ·intro a w13 h14 s15 hat hF
   exact Z4 (Z1 hat (hF 6 9 rfl rfl)) rfl (Z2 rfl Zed) s15.sub (by exact rfl)
  ·intro a w13 h14 s15 hat hF
   have ob17 := (ob10.step0 s15)
   exact Z4 (Z1 hat (hF 7 10 rfl rfl)) rfl (Z8 rfl t_agg_49 (OB.cell ob17 (j := 1) rfl)) s15.sub (by exact rfl)
  intro a w13 h14 s15 hat hF
  exact Z4 (Z1 hat (hF 8 11 rfl rfl)) rfl (Z0v rfl Z84) s15.sub (by exact rfl)
 intro a w13 h14 s15 hat hF
 obtain hv0 := hF 0 3 (by decide) rfl
 obtain hv1 := hF 1 4 (by decide) rfl
 obtain hv2 := hF 2 5 (by decide) rfl
 obtain hv3 := hF 3 6 (by decide) rfl
 obtain hv4 := hF 4 7 (by decide) rfl
 obtain hv5 := hF 5 8 (by decide) rfl
 obtain hv6 := hF 6 9 (by decide) rfl
 obtain hv7 := hF 7 10 (by decide) rfl
 obtain hv8 := hF 8 11 (by decide) rfl
 obtain hv9 := hF 9 12 (by decide) rfl
 refine Z7u [(12, vi (xs3.length : Int)), (11, .slice A4 xs3.length c5), (10, pt b1 1), (9, pt b1 0), (8, pt b1 0), (7, .pointer A4), (6, .slice A4 xs3.length c5), (5, pt b1 1), (4, pt b1 0), (3, pt b1 0), (0, pt b1 0), (2, .string Z2c)] (Z1 (Z1 (Z1 (Z1 (Z1 (Z1 (Z1 (Z1 (Z1 (Z1 hat hv0) hv1) hv2) hv3) hv4) hv5) hv6) hv7) hv8) hv9) ?_
 have S18 := S0.trans0 s15
 have ob21 := (ob10.step0 s15)
 refine WL.unsafeString (xs := xs3) rfl rfl rfl rfl t_ptr_83 t_cellsof_5 (ow7.step0 s15) (rs6.mono (s15.le)) S18.sub (by rw [S18.eqb]; exact Nat.le_refl _) (fun w19 s20 => ?_)
 have S22 := S18.trans s20 (fun i hi => (om8 i hi).elim (fun q => .inl (by simp only [List.mem_cons, List.mem_append]; simp [q])) .inr)
 refine Wa rfl rfl <| Z7 <| Z5 <| Z09 <| Zt rfl rfl ?_
 obtain rfl := Option.some.inj HF
 exact ⟨_, rfl, h14, S22, rfl⟩
theorem Ze1 (k : Nat) : Zal (Z6u k) := Zex k

def Zee (φ : (List St) → Option (ByteArray × Int)) : Prop := ∀ ⦃xs1 : List St⦄ ⦃r : ByteArray × Int⦄, φ xs1 = some r → ∀ ⦃w0 : World⦄ ⦃h0 : Hp⦄ ⦃v2 : Value⦄, Sub h0 w0 → RS h0 v2 xs1 →
  Calls Tryz.prog 8 #[v2] w0 fun e w1 => ∃ v, e = .returned v ∧ ∃ h1, Stp [] w0 h0 w1 h1 ∧ (∃ u0 u1 : Value, v = .tuple #[u0, u1] ∧ (u0 = .string r.1) ∧ (u1 = .int .i64 r.2))
theorem s_print_Text (k : Nat) (IH : ∀ j, j ≤ k → Zee (Z2a j).print_Text) : Zee (Z9j k (Z2a k)) := by
 intro xs1 r HF w0 h0 v2 hs0 rs3
 have S0 : Stp [] w0 h0 w0 h0 := Stp.refl hs0 _
 refine Z66 (n := 22) Tryz.func8 rfl Tryz.ntmps8 rfl [(0, v2)] rfl <| Za <| Z0 <| Wa rfl rfl <| Wa rfl rfl <| Z7 <| Z5 <| Z04 (fun E w13 => ∃ (h12 : Hp), Zfg k (Z2a k) xs1 = some r ∧ E = [(0, v2)] ∧ Stp [] w0 h0 w13 h12 ∧ Hle h0 h12) ?_ ?_
 ·rintro E w13 ⟨h12, HF, rfl, S15, le14⟩
  refine Za <| Z0 <| Za3 (zs := [.pointer none, .slice none 0 0, .string Z2c]) rfl rfl t_zero_55 rfl S15.sub (fun w16 b17 hb18 s19 ob20 => ?_)
  have g21 : w0.heap.size ≤ b17 := by rw [hb18]; exact S15.size
  have S22 := S15.trans0 s19
  refine Z7 <| Z5 <| Za <| Za <| Z0 <| Wm rfl rfl ?_
  obtain ⟨A23, c24, rfl, rs25⟩ := RS.form (rs3.mono ((le14).trans s19.le))
  refine Wv rfl (Z0v rfl Z1e) <| Wm rfl rfl <| Z7 <| Z5 <| Z0c <| Z4j <| Z8e [4, 10, 11, 12] [(4, pt b17 0), (10, .slice A23 (xs1).length c24), (11, vi (xs1.length : Int)), (12, vi 0)] rfl <| Z4m (K := k) (fun j E w27 => ∃ (h26 : Hp) (x30 : Int) (x31 : Bool) (xs32 : List UInt8) (v33 : Value) (x36 : ByteArray), (Z2a j).print_Text_l2 xs1 x30 x31 xs32 x36 = some r ∧ E = [(4, pt b17 0), (10, .slice A23 (xs1).length c24), (11, vi (xs1.length : Int)), (12, vi x30)] ∧ Stp [] w0 h0 w27 h26 ∧ Hle h12 h26 ∧ RS h26 v33 xs32 ∧ Own w27 h26 w0.heap.size 5 1 v33 xs32.length ∧ OB w27 h26 b17 55 [.pointer (bif x31 then some ⟨b17, 0, none⟩ else none), v33, .string x36]) ?_ ?_ (j := k) (Nat.le_refl _) ?_
  ·rintro E w27 ⟨_, _, _, _, _, _, HF, _⟩; cases HF
  ·rintro j38 hj40 IHL39 E w27 ⟨h26, x30, x31, xs32, v33, x36, HF, rfl, S29, le28, rs34, ow35, ob37⟩
   refine Za <| Z0 <| Wv rfl (Z6q rfl rfl) <| Z7 <| Z5 <| Z04 (fun E w53 => ∃ (h52 : Hp) (xs56 : List UInt8) (v57 : Value), print_Text_j3 j38 (Z2a j38) xs1 x30 x31 x36 xs56 = some r ∧ E = [(4, pt b17 0), (10, .slice A23 (xs1).length c24), (11, vi (xs1.length : Int)), (12, vi x30)] ∧ Stp [] w0 h0 w53 h52 ∧ Hle h26 h52 ∧ RS h52 v57 xs56 ∧ Own w53 h52 w0.heap.size 5 1 v57 xs56.length ∧ OB w53 h52 b17 55 [.pointer (bif x31 then some ⟨b17, 0, none⟩ else none), v57, .string x36]) ?_ ?_
   ·rintro E w53 ⟨h52, xs56, v57, HF, rfl, S55, le54, rs58, ow59, ob60⟩
    refine Za <| Z0c <| Za <| Z0 ?_
    obtain ⟨e61, he62, HF⟩ := Z6 HF
    obtain ⟨b63, o64, rfl, h66, h67, ra65⟩ := RS.atO (rs25.mono ((le28).trans le54)) he62
    obtain ⟨cs68, r69, hc70⟩ := ra65
    refine Wv rfl (Zk rfl rfl Z1e Z2g h66 h67) <| Wv rfl (Z0w (cs := cs68) rfl Zb8 (by rw [Rp.len r69]; exact Z2g) (fun j v hv => S55.sub.at_ _ _ _ (hc70 j v hv))) <| Za3 (zs := [vi 0, .string Z2c, .slice none 0 0, .slice none 0 0, .slice none 0 0, vi 0, .slice none 0 0, .slice none 0 0, .slice none 0 0, .bool false]) rfl rfl t_zero_44 rfl S55.sub (fun w71 b72 hb73 s74 ob75 => ?_)
    have ne76 : b17 ≠ b72 := ob60.ne_new hb73
    have g77 : w0.heap.size ≤ b72 := by rw [hb73]; exact S55.size
    have S78 := S55.trans0 s74
    obtain ⟨v79, v81, v83, v85, v87, v89, rfl, rs80, rs82, rs84, rs86, rs88, rs90⟩ := rp_St.1 (Rp.mono (s74.le) r69)
    refine Z5i (vs := [vi e61.op, .string e61.name, v79, v81, v83, vi e61.n, v85, v87, v89, .bool e61.els]) rfl rfl rfl rfl Z2g (Z0d rfl (Z0d rfl (Z0d (RS.one rs80) (Z0d (RS.one rs82) (Z0d (RS.one rs84) (Z0d rfl (Z0d (RS.one rs86) (Z0d (RS.one rs88) (Z0d (RS.one rs90) (Z0d rfl Z76)))))))))) ob75 S78.sub (by simp) (ds := [vi e61.op, .string e61.name, v79, v81, v83, vi e61.n, v85, v87, v89, .bool e61.els]) rfl (fun w91 s92 ob93 => ?_)
    have S94 := S78.trans1 s92 (.inr g77)
    refine Z7 <| Z5 <| Z0 <| Wv rfl (Z0w (cs := [vi e61.op, .string e61.name, v79, v81, v83, vi e61.n, v85, v87, v89, .bool e61.els]) rfl Zb8 Z2g (OB.cells ob93 0 rfl)) ?_
    obtain ⟨A95, c96, rfl, rs97⟩ := RS.form (rs58.mono ((s74.le).trans s92.le))
    have ob98 := ((ob60.step0 s74).step1 s92 ne76)
    obtain ⟨r99, hr100, HF⟩ := Z6 HF
    refine Wc rfl (Zi (vs := [pt b17 0, .agg #[vi e61.op, .string e61.name, v79, v81, v83, vi e61.n, v85, v87, v89, .bool e61.els]]) rfl t_ent_20) (ok_print_printer_stmt _ hr100 S94.sub rs97 (((ow59.step0 s74).step s92 (Z8c ((ow59.step0 s74).ne_ob ob75 (by decide)) Zct)).weak (by rw [S94.eqb]; exact hs0.big)) (rp_St.2 ⟨_, _, _, _, _, _, rfl, (rs80.mono (s92.le)), (rs82.mono (s92.le)), (rs84.mono (s92.le)), (rs86.mono (s92.le)), (rs88.mono (s92.le)), (rs90.mono (s92.le))⟩) ob98 (by decide)) ?_
    rintro v101 w102 ⟨h103, s104, rfl, ⟨v105, rs106, ow107, om108, ob110⟩⟩
    have ow109 := Own.rebase (B := w0.heap.size) ow107 (fun i hi => (om108 i hi).elim (fun q => ((fun i hi => (Or.inr (((ow59.step0 s74).step s92 (Z8c ((ow59.step0 s74).ne_ob ob75 (by decide)) Zct)).base_le i hi) : i ∈ ([] : List Nat) ∨ w0.heap.size ≤ i)) i q).elim (fun q2 => absurd q2 (by simp)) id) (fun q => Nat.le_trans S94.size q))
    have S111 := S94.trans s104 (Zy (.inr g21) (Z7v (fun i hi => .inr (((ow59.step0 s74).step s92 (Z8c ((ow59.step0 s74).ne_ob ob75 (by decide)) Zct)).base_le i hi)) Z0q))
    refine Z7 <| Zv <| Z5 <| Z0 <| Wv rfl (Z2v rfl rfl) <| Wm rfl rfl <| Z7 <| Z2x <| Z8e [4, 10, 11, 12] [(4, pt b17 0), (10, sl b63 o64 (xs1).length c24), (11, vi (xs1.length : Int)), (12, vi (IntKind.i64.wrap (x30 + 1)))] rfl ?_
    exact IHL39 j38 (Nat.le_refl _) _ _ ⟨h103, IntKind.i64.wrap (x30 + 1), r99.1, r99.2.1, v105, r99.2.2, HF, rfl, S111, (le28).trans ((le54).trans ((s74.le).trans ((s92.le).trans s104.le))), rs106, ow109, ob110⟩
   intro J112
   refine Z12 HF rfl (fun HF => ?_) (fun HF => ?_)
   ·refine Zm <| Z06 [4, 10, 11, 12] _ rfl ?_
    exact J112 ⟨h26, xs32, v33, HF, rfl, S29, Hle.refl _, rs34, ow35, ob37⟩
   refine Z4b <| Zr <| Zr <| Z0x <| Z5 <| Za <| Z0 <| Wv rfl (Z2 rfl Z1z) <| Wv rfl (Z2 rfl t_field_53_0) ?_
   obtain ⟨A42, c43, rfl, rs44⟩ := RS.form rs34
   obtain ⟨r45, hr46, HF⟩ := Z6 HF
   refine Wc rfl (Zi (vs := [pt b17 0]) rfl t_ent_21) (Ze1 _ hr46 S29.sub rs44 (ow35.weak (by rw [S29.eqb]; exact hs0.big)) ob37 (by decide)) ?_
   rintro _ w48 ⟨h49, s50, rfl⟩
   have S51 := S29.trans s50 (Z7v (fun i hi => .inr (ow35.base_le i hi)) Z0q)
   refine Wa rfl rfl <| Wa rfl rfl <| Z7 <| Z5 <| Z09 <| Z94 rfl rfl rfl ?_
   obtain rfl := Option.some.inj HF
   exact ⟨_, rfl, h49, S51, _, _, rfl, rfl, rfl⟩
  exact ⟨h12, 0, false, ([] : List UInt8), .slice none 0 0, Z2c, HF, rfl, S22, Hle.refl _, (RS.nil _), (Own.nil _ _ _ _ _), ob20⟩
 intro J113
 refine Za <| Z0 <| Wm rfl rfl ?_
 obtain ⟨r4, hr5, HF⟩ := Z6 HF
 refine Wc rfl (Zi (vs := [v2]) rfl t_ent_19) (ok_ast_IsText _ hr5 S0.sub rs3) ?_
 rintro _ w7 ⟨h8, s9, rfl⟩
 have S10 := S0.trans0 s9
 refine Wv rfl (Z4o rfl) <| Z7 <| Z5 <| Z12 HF rfl (fun HF => ?_) (fun HF => ?_)
 ·refine Za <| Z0 <| Wa rfl rfl <| Wa rfl rfl <| Z7 <| Z5 <| Z09 <| Zp <| Z94 rfl rfl rfl ?_
  obtain rfl := Option.some.inj HF
  exact ⟨_, rfl, h8, S10, _, _, rfl, rfl, rfl⟩
 refine Zm <| Z06 [0] _ rfl ?_
 exact J113 ⟨h8, HF, rfl, S10, s9.le⟩
theorem all_print_Text : ∀ k j, j ≤ k → Zee (Z2a j).print_Text := by
  intro k
  induction k with
  | zero =>
    intro j hj
    obtain rfl : j = 0 := by omega
    exact (fun _ _ => by intro h; cases h)
  | succ k ih =>
    intro j hj
    by_cases h : j ≤ k
    · exact ih j h
    · obtain rfl : j = k + 1 := by omega
      exact s_print_Text k ih
theorem ok_print_Text (k : Nat) : Zee (Zcr k) := (all_print_Text k k (Nat.le_refl _))

def C_print_Short (φ : (List St) → Option (ByteArray × Int)) : Prop := ∀ ⦃xs1 : List St⦄ ⦃r : ByteArray × Int⦄, φ xs1 = some r → ∀ ⦃w0 : World⦄ ⦃h0 : Hp⦄ ⦃v2 : Value⦄, Sub h0 w0 → RS h0 v2 xs1 →
  Calls Tryz.prog 9 #[v2] w0 fun e w1 => ∃ v, e = .returned v ∧ ∃ h1, Stp [] w0 h0 w1 h1 ∧ (∃ u0 u1 : Value, v = .tuple #[u0, u1] ∧ (u0 = .string r.1) ∧ (u1 = .int .i64 r.2))
theorem s_print_Short (k : Nat) : C_print_Short (Z9l k) := by
 intro xs1 r HF w0 h0 v2 hs0 rs3
 have S0 : Stp [] w0 h0 w0 h0 := Stp.refl hs0 _
 refine Z66 (n := 16) Tryz.func9 rfl Tryz.ntmps9 rfl [(0, v2)] rfl <| Za <| Z0 <| Wa rfl rfl <| Wa rfl rfl <| Z7 <| Z5 <| Za <| Z0 <| Wm rfl rfl ?_
 obtain ⟨r4, hr5, HF⟩ := Z6 HF
 refine Wc rfl (Zi (vs := [v2]) rfl t_ent_8) (ok_print_Text _ hr5 S0.sub rs3) ?_
 rintro _ w7 ⟨h8, s9, _, _, rfl, rfl, rfl⟩
 have S10 := S0.trans0 s9
 refine Wm rfl rfl <| Wv rfl (Z1a rfl rfl) <| Wv rfl (Z1a rfl rfl) <| Wa rfl rfl <| Wa rfl rfl <| Z7 <| Z5 <| Z04 (fun E w13 => ∃ (h12 : Hp), Ze5 k r4 = some r ∧ E = [(4, .string r4.1)] ∧ Stp [] w0 h0 w13 h12 ∧ Hle h8 h12) ?_ ?_
 ·rintro E w13 ⟨h12, HF, rfl, S15, le14⟩
  refine Za <| Z0 <| Wm rfl rfl ?_
  obtain ⟨r16, hr17, HF⟩ := Z6 HF
  refine Wc rfl (Zi (vs := [.string r4.1]) rfl t_ent_22) (ok_print_Line _ hr17 S15.sub) ?_
  rintro _ w19 ⟨h20, s21, rfl⟩
  have S22 := S15.trans0 s21
  refine Wa rfl rfl <| Wa rfl rfl <| Z7 <| Z5 <| Z09 <| Z94 rfl rfl rfl ?_
  obtain rfl := Option.some.inj HF
  exact ⟨_, rfl, h20, S22, _, _, rfl, rfl, rfl⟩
 intro J23
 refine Za <| Z0 <| Wm rfl rfl <| Wv rfl (ov_neq rfl rfl) <| Z7 <| Z5 <| Z12 HF rfl (fun HF => ?_) (fun HF => ?_)
 ·refine Za <| Z0 <| Wm rfl rfl <| Wa rfl rfl <| Wa rfl rfl <| Z7 <| Z5 <| Z09 <| Zp <| Z94 rfl rfl rfl ?_
  obtain rfl := Option.some.inj HF
  exact ⟨_, rfl, h8, S10, _, _, rfl, rfl, rfl⟩
 refine Zm <| Z06 [4] _ rfl ?_
 exact J23 ⟨h8, HF, rfl, S10, Hle.refl _⟩
theorem ok_print_Short (k : Nat) : C_print_Short (Z9l k) := s_print_Short k

def Zc9 (φ : ByteArray → Option ByteArray) : Prop := ∀ ⦃x1 : ByteArray⦄ ⦃r : ByteArray⦄, φ x1 = some r → ∀ ⦃w0 : World⦄ ⦃h0 : Hp⦄, Sub h0 w0 →
  Calls Tryz.prog 25 #[.string x1] w0 fun e w1 => ∃ v, e = .returned v ∧ ∃ h1, Stp [] w0 h0 w1 h1 ∧ v = .string r
theorem s_ref03_Joined (k : Nat) (IH : ∀ j, j ≤ k → Zc9 (Z0s j).ref03_Joined) : Zc9 (Zf1 k (Z0s k)) := by
 intro x1 r HF w0 h0  hs0 
 have S0 : Stp [] w0 h0 w0 h0 := Stp.refl hs0 _
 refine Z66 (n := 45) Tryz.func25 rfl Tryz.ntmps25 rfl [(0, .string x1)] rfl <| Za <| Z0 <| Wa rfl rfl <| Z7 <| Z5 <| Za <| Z0 <| Wa rfl rfl <| Z7 <| Z5 <| Za <| Za <| Z0 <| Wa rfl rfl <| Z7 <| Z5 <| Z0c <| Z4j <| Z8e [0, 3, 4] [(0, .string x1), (3, .slice none 0 0), (4, vi 0)] rfl <| Z4m (K := k) (fun j E w3 => ∃ (h2 : Hp) (xs6 : List UInt8) (v7 : Value) (x10 : Int), (Z0s j).ref03_Joined_l1 x1 xs6 x10 = some r ∧ E = [(0, .string x1), (3, v7), (4, vi x10)] ∧ Stp [] w0 h0 w3 h2 ∧ Hle h0 h2 ∧ RS h2 v7 xs6 ∧ Own w3 h2 w0.heap.size 5 1 v7 xs6.length) ?_ ?_ (j := k) (Nat.le_refl _) ?_
 ·rintro E w3 ⟨_, _, _, _, HF, _⟩; cases HF
 ·rintro j11 hj13 IHL12 E w3 ⟨h2, xs6, v7, x10, HF, rfl, S5, le4, rs8, ow9⟩
  refine Z04 (fun E w16 => ∃ (h15 : Hp) (xs19 : List UInt8) (v20 : Value), Zbg j11 (Z0s j11) x1 x10 xs19 = some r ∧ E = [(0, .string x1), (3, v20), (4, vi x10)] ∧ Stp [] w0 h0 w16 h15 ∧ Hle h2 h15 ∧ RS h15 v20 xs19 ∧ Own w16 h15 w0.heap.size 5 1 v20 xs19.length) ?_ ?_
  ·rintro E w16 ⟨h15, xs19, v20, HF, rfl, S18, le17, rs21, ow22⟩
   refine Z04 (fun E w116 => ∃ (q124 : Nat) (h115 : Hp) (xs119 : List UInt8) (v120 : Value) (x123 : Int), q124 ≤ j11 ∧ Z60 q124 (Z0s q124) x1 xs119 x123 = some r ∧ E = [(0, .string x1), (3, v120), (4, vi x123)] ∧ Stp [] w0 h0 w116 h115 ∧ Hle h15 h115 ∧ RS h115 v120 xs119 ∧ Own w116 h115 w0.heap.size 5 1 v120 xs119.length) ?_ ?_
   ·rintro E w116 ⟨q124, h115, xs119, v120, x123, hq125, HF, rfl, S118, le117, rs121, ow122⟩
    refine Z0 <| Wm rfl rfl <| Wv rfl (Z2v rfl rfl) <| Wa rfl rfl <| Z7 <| Z2x <| Z8e [0, 3, 4] [(0, .string x1), (3, v120), (4, vi (IntKind.i64.wrap (x123 + 1)))] rfl ?_
    exact IHL12 q124 (Nat.le_trans hq125 (Nat.le_refl _)) _ _ ⟨h115, xs119, v120, IntKind.i64.wrap (x123 + 1), HF, rfl, S118, (le4).trans ((le17).trans le117), rs121, ow122⟩
   intro J126
   refine Z0c <| Z04 (fun E w50 => ∃ (h49 : Hp) (xs53 : List UInt8) (v54 : Value), Zdm j11 (Z0s j11) x1 x10 xs53 = some r ∧ E = [(0, .string x1), (3, v54), (4, vi x10)] ∧ Stp [] w0 h0 w50 h49 ∧ Hle h15 h49 ∧ RS h49 v54 xs53 ∧ Own w50 h49 w0.heap.size 5 1 v54 xs53.length) ?_ ?_
   ·rintro E w50 ⟨h49, xs53, v54, HF, rfl, S52, le51, rs55, ow56⟩
    refine Za <| Z0c <| Z4j <| Z8e [0, 3, 4] [(0, .string x1), (3, v54), (4, vi x10)] rfl <| Z4m (K := j11) (fun j E w58 => ∃ (h57 : Hp) (xs61 : List UInt8) (v62 : Value) (x65 : Int), (Z0s j).ref03_Joined_l4 x1 xs61 x65 = some r ∧ E = [(0, .string x1), (3, v62), (4, vi x65)] ∧ Stp [] w0 h0 w58 h57 ∧ Hle h49 h57 ∧ RS h57 v62 xs61 ∧ Own w58 h57 w0.heap.size 5 1 v62 xs61.length) ?_ ?_ (j := j11) (Nat.le_refl _) ?_
    ·rintro E w58 ⟨_, _, _, _, HF, _⟩; cases HF
    ·rintro j66 hj68 IHL67 E w58 ⟨h57, xs61, v62, x65, HF, rfl, S60, le59, rs63, ow64⟩
     refine Z04 (fun E w106 => ∃ (h105 : Hp) (xs109 : List UInt8) (v110 : Value), Zdr j66 (Z0s j66) x1 x65 xs109 = some r ∧ E = [(0, .string x1), (3, v110), (4, vi x65)] ∧ Stp [] w0 h0 w106 h105 ∧ Hle h57 h105 ∧ RS h105 v110 xs109 ∧ Own w106 h105 w0.heap.size 5 1 v110 xs109.length) ?_ ?_
     ·rintro E w106 ⟨h105, xs109, v110, HF, rfl, S108, le107, rs111, ow112⟩
      refine Z0c <| Z0 <| Wm rfl rfl <| Wv rfl (Z2v rfl rfl) <| Wa rfl rfl <| Z7 <| Zv <| Z2x <| Z8e [0, 3, 4] [(0, .string x1), (3, v110), (4, vi (IntKind.i64.wrap (x65 + 1)))] rfl ?_
      exact IHL67 j66 (Nat.le_refl _) _ _ ⟨h105, xs109, v110, IntKind.i64.wrap (x65 + 1), HF, rfl, S108, (le59).trans le107, rs111, ow112⟩
     intro J113
     refine Z04 (fun E w73 => ∃ (h72 : Hp) (xs76 : List UInt8) (v77 : Value) (x80 : Bool), Z7g j66 (Z0s j66) x1 x65 xs76 x80 = some r ∧ E = [(0, .string x1), (3, v77), (4, vi x65), (32, .bool x80)] ∧ Stp [] w0 h0 w73 h72 ∧ Hle h57 h72 ∧ RS h72 v77 xs76 ∧ Own w73 h72 w0.heap.size 5 1 v77 xs76.length) ?_ ?_
     ·rintro E w73 ⟨h72, xs76, v77, x80, HF, rfl, S75, le74, rs78, ow79⟩
      refine Z12 HF rfl (fun HF => ?_) (fun HF => ?_)
      ·refine Zm <| Z06 [0, 3, 4] _ rfl ?_
       exact J113 ⟨h72, xs76, v77, HF, rfl, S75, le74, rs78, ow79⟩
      refine Z4b <| Zr <| Zr <| Z0x <| Z5 <| Za <| Z0 <| Wm rfl rfl <| Wv rfl (Z2v rfl rfl) <| Wm rfl rfl <| Wv rfl (ov_lenS rfl Z3b) <| Wv rfl (Z6q rfl rfl) <| Z7 <| Z5 <| Z12 HF rfl (fun HF => ?_) (fun HF => ?_)
      ·refine Z0 <| Wm rfl rfl ?_
       obtain ⟨c90, hc91, HF⟩ := Z6 HF
       refine Z3d (us := [.int .u8 32]) (cs := [.int .u8 32]) rfl rfl rfl Z84 t_size_5 t_zero_5 rfl (Z0i rfl cl_nil) rfl rfl rfl S75.sub (fun w83 h84 b85 hb86 s87 hk88 hc89 => ?_)
       have S92 := S75.trans0 s87
       have rs93 : RS h84 (sl b85 0 1 1) ([c90] : List UInt8) := RS.litL _ [[.int .u8 32]] rfl rfl hc89 ⟨(byte_R hc91), trivial⟩
       have ow94 := Own.lit (base := w0.heap.size) (sz := 1) (m := 1) hk88 hc89 (by rw [hb86]; exact S75.size) rfl (by decide)
       obtain ⟨hl95, HF⟩ := Zj HF
       refine WL.append (xs := (xs76 : List UInt8)) (ys := [c90]) rfl rfl rfl rfl Z84 t_size_5 t_zero_5 rfl t_bytes_5 rfl (ow79.step0 s87) (rs78.mono (s87.le)) rs93 hl95 S92.sub S92.size (by rw [S92.eqb]; exact hs0.big) (fun v96 w97 h98 rs99 ow100 s101 at102 => ?_)
       have S103 := S92.trans s101 (fun i hi => .inr ((ow79.step0 s87).base_le i hi))
       refine Wa rfl rfl <| Z7 <| Zv <| Z06 [0, 3, 4] _ rfl ?_
       exact J126 ⟨j66, h98, xs76 ++ [c90], v96, x65, (Nat.le_trans (Nat.le_of_succ_le hj68) (Nat.le_refl _)), HF, rfl, S103, (le51).trans ((le59).trans ((le74).trans ((s87.le).trans s101.le))), rs99, ow100⟩
      refine Zm <| Zv <| Z06 [0, 3, 4] _ rfl ?_
      exact J126 ⟨j66, h72, xs76, v77, x65, (Nat.le_trans (Nat.le_of_succ_le hj68) (Nat.le_refl _)), HF, rfl, S75, (le51).trans ((le59).trans le74), rs78, ow79⟩
     intro J104
     refine Z0 <| Wm rfl rfl <| Wv rfl (Z2v rfl rfl) <| Wm rfl rfl <| Wv rfl (ov_lenS rfl Z3b) <| Wv rfl (Z6q rfl rfl) <| Wm rfl rfl <| Z2m 26 HF rfl (fun HF => ?_) (fun HF => ?_)
     ·refine Wm rfl rfl <| Wm rfl rfl <| Wv rfl (Z2v rfl rfl) ?_
      obtain ⟨c70, hc71, HF⟩ := Z6 HF
      refine Wv rfl (Zbs rfl rfl Z3b hc71) <| Wv rfl (Z0y rfl rfl) <| Wv rfl (Zh rfl rfl) <| Z7 <| Z06 [0, 3, 4, 32] _ rfl ?_
      exact J104 ⟨h57, xs61, v62, (c70 : Int) == 32, HF, rfl, S60, Hle.refl _, rs63, ow64⟩
     refine Wp rfl <| Wp rfl <| Wp rfl <| Wp rfl <| Wp rfl <| Wv rfl (Zf rfl rfl) <| Z7 <| Z06 [0, 3, 4, 32] _ rfl ?_
     exact J104 ⟨h57, xs61, v62, false, HF, rfl, S60, Hle.refl _, rs63, ow64⟩
    exact ⟨h49, xs53, v54, x10, HF, rfl, S52, Hle.refl _, rs55, ow56⟩
   intro J114
   refine Za <| Z0 <| Wm rfl rfl <| Wm rfl rfl ?_
   obtain ⟨c23, hc24, HF⟩ := Z6 HF
   refine Wv rfl (Zbs rfl rfl Z3b hc24) <| Wv rfl (ov_neq rfl rfl) <| Z7 <| Z5 <| Z12 HF rfl (fun HF => ?_) (fun HF => ?_)
   ·refine Za <| Z0 <| Wm rfl rfl <| Wm rfl rfl <| Wm rfl rfl ?_
    obtain ⟨c26, hc27, HF⟩ := Z6 HF
    refine Wv rfl (Zbs rfl rfl Z3b hc27) ?_
    obtain ⟨c35, hc36, HF⟩ := Z6 HF
    refine Z3d (us := [.int .u8 c26]) (cs := [.int .u8 c26]) rfl rfl rfl Z84 t_size_5 t_zero_5 rfl (Z0i rfl cl_nil) rfl rfl rfl S18.sub (fun w28 h29 b30 hb31 s32 hk33 hc34 => ?_)
    have S37 := S18.trans0 s32
    have rs38 : RS h29 (sl b30 0 1 1) ([c35] : List UInt8) := RS.litL _ [[.int .u8 c26]] rfl rfl hc34 ⟨(byte_R hc36), trivial⟩
    have ow39 := Own.lit (base := w0.heap.size) (sz := 1) (m := 1) hk33 hc34 (by rw [hb31]; exact S18.size) rfl (by decide)
    obtain ⟨hl40, HF⟩ := Zj HF
    refine WL.append (xs := (xs19 : List UInt8)) (ys := [c35]) rfl rfl rfl rfl Z84 t_size_5 t_zero_5 rfl t_bytes_5 rfl (ow22.step0 s32) (rs21.mono (s32.le)) rs38 hl40 S37.sub S37.size (by rw [S37.eqb]; exact hs0.big) (fun v41 w42 h43 rs44 ow45 s46 at47 => ?_)
    have S48 := S37.trans s46 (fun i hi => .inr ((ow22.step0 s32).base_le i hi))
    refine Wa rfl rfl <| Z7 <| Z5 <| Z4b <| Zr <| Z0x <| Z06 [0, 3, 4] _ rfl ?_
    exact J126 ⟨j11, h43, xs19 ++ [c35], v41, x10, (Nat.le_refl _), HF, rfl, S48, (s32.le).trans s46.le, rs44, ow45⟩
   refine Zm <| Z06 [0, 3, 4] _ rfl ?_
   exact J114 ⟨h15, xs19, v20, HF, rfl, S18, Hle.refl _, rs21, ow22⟩
  intro J127
  refine Za <| Z0 <| Wm rfl rfl <| Wm rfl rfl <| Wv rfl (ov_lenS rfl Z3b) <| Wv rfl (Z6q rfl rfl) <| Z7 <| Z5 <| Z12 HF rfl (fun HF => ?_) (fun HF => ?_)
  ·refine Zm <| Z06 [0, 3, 4] _ rfl ?_
   exact J127 ⟨h2, xs6, v7, HF, rfl, S5, Hle.refl _, rs8, ow9⟩
  refine Z4b <| Zr <| Zr <| Z0x <| Z5 <| Za <| Z0 <| Wm rfl rfl <| Wv rfl (ov_bytesStr rfl Z84 t_int_5 Z3b rs8 S5.sub) <| Wa rfl rfl <| Z7 <| Z5 <| Z09 <| Zt rfl rfl ?_
  obtain rfl := Option.some.inj HF
  exact ⟨_, rfl, h2, S5, rfl⟩
 exact ⟨h0, ([] : List UInt8), .slice none 0 0, 0, HF, rfl, S0, Hle.refl _, (RS.nil _), (Own.nil _ _ _ _ _)⟩
theorem all_ref03_Joined : ∀ k j, j ≤ k → Zc9 (Z0s j).ref03_Joined := by
  intro k
  induction k with
  | zero =>
    intro j hj
    obtain rfl : j = 0 := by omega
    exact (fun _ _ => by intro h; cases h)
  | succ k ih =>
    intro j hj
    by_cases h : j ≤ k
    · exact ih j h
    · obtain rfl : j = k + 1 := by omega
      exact s_ref03_Joined k ih
theorem ok_ref03_Joined (k : Nat) : Zc9 (Zet k) := (all_ref03_Joined k k (Nat.le_refl _))

def Zc3 (φ : Int → Option ByteArray) : Prop := ∀ ⦃x1 : Int⦄ ⦃r : ByteArray⦄, φ x1 = some r → ∀ ⦃w0 : World⦄ ⦃h0 : Hp⦄, Sub h0 w0 →
  Calls Tryz.prog 37 #[.int .i64 x1] w0 fun e w1 => ∃ v, e = .returned v ∧ ∃ h1, Stp [] w0 h0 w1 h1 ∧ v = .string r
theorem s_ref03_Digits (k : Nat) (IH : ∀ j, j ≤ k → Zc3 (Z1l j).ref03_Digits) : Zc3 (Zc4 k (Z1l k)) := by
 intro x1 r HF w0 h0  hs0 
 have S0 : Stp [] w0 h0 w0 h0 := Stp.refl hs0 _
 refine Z66 (n := 36) Tryz.func37 rfl Tryz.ntmps37 rfl [(0, vi x1)] rfl <| Za <| Z0 <| Wa rfl rfl <| Z7 <| Z5 <| Za <| Z0 <| Wm rfl rfl <| Wv rfl (ov_convI rfl Z9o t_int_104) <| Wa rfl rfl <| Z7 <| Z5 <| Z04 (fun E w4 => ∃ (h3 : Hp) (x7 : Int), Zbd k (Z1l k) x1 x7 = some r ∧ E = [(0, vi x1), (3, .int .u64 x7)] ∧ Stp [] w0 h0 w4 h3 ∧ Hle h0 h3) ?_ ?_
 ·rintro E w4 ⟨h3, x7, HF, rfl, S6, le5⟩
  refine Za <| Z0 <| Wm rfl rfl <| Wv rfl (ov_rem rfl rfl (by decide)) <| Wv rfl (Z2v rfl rfl) <| Wv rfl (ov_convI rfl t_int_104 t_int_5) ?_
  obtain ⟨c15, hc16, HF⟩ := Z6 HF
  refine Z3d (us := [.int .u8 (IntKind.u8.wrap (IntKind.u64.wrap (48 + (Int.tmod x7 10))))]) (cs := [.int .u8 (IntKind.u8.wrap (IntKind.u64.wrap (48 + (Int.tmod x7 10))))]) rfl rfl rfl Z84 t_size_5 t_zero_5 rfl (Z0i rfl cl_nil) rfl rfl rfl S6.sub (fun w8 h9 b10 hb11 s12 hk13 hc14 => ?_)
  have S17 := S6.trans0 s12
  have rs18 : RS h9 (sl b10 0 1 1) ([c15] : List UInt8) := RS.litL _ [[.int .u8 (IntKind.u8.wrap (IntKind.u64.wrap (48 + (Int.tmod x7 10))))]] rfl rfl hc14 ⟨(byte_R hc16), trivial⟩
  have ow19 := Own.lit (base := w0.heap.size) (sz := 1) (m := 1) hk13 hc14 (by rw [hb11]; exact S6.size) rfl (by decide)
  refine Wv rfl (ov_bytesStr rfl Z84 t_int_5 Z3b rs18 S17.sub) <| Wa rfl rfl <| Z7 <| Z5 <| Za <| Za <| Z0 <| Wm rfl rfl <| Wv rfl (ov_quo rfl rfl (by decide)) <| Wa rfl rfl <| Z7 <| Z5 <| Z0c <| Z4j <| Z8e [0, 3, 4] [(0, vi x1), (3, .int .u64 (IntKind.u64.wrap (Int.tdiv x7 10))), (4, .string (⟨[c15].toArray⟩ : ByteArray))] rfl <| Z4m (K := k) (fun j E w21 => ∃ (h20 : Hp) (x24 : Int) (x25 : ByteArray), (Z1l j).ref03_Digits_l2 x1 x24 x25 = some r ∧ E = [(0, vi x1), (3, .int .u64 x24), (4, .string x25)] ∧ Stp [] w0 h0 w21 h20 ∧ Hle h9 h20) ?_ ?_ (j := k) (Nat.le_refl _) ?_
  ·rintro E w21 ⟨_, _, _, HF, _⟩; cases HF
  ·rintro j26 hj28 IHL27 E w21 ⟨h20, x24, x25, HF, rfl, S23, le22⟩
   refine Z04 (fun E w38 => ∃ (h37 : Hp) (x41 : Int), Zdi j26 (Z1l j26) x1 x25 x41 = some r ∧ E = [(0, vi x1), (3, .int .u64 x41), (4, .string x25)] ∧ Stp [] w0 h0 w38 h37 ∧ Hle h20 h37) ?_ ?_
   ·rintro E w38 ⟨h37, x41, HF, rfl, S40, le39⟩
    refine Za <| Z0c <| Z0 <| Wm rfl rfl <| Wv rfl (ov_rem rfl rfl (by decide)) <| Wv rfl (Z2v rfl rfl) <| Wv rfl (ov_convI rfl t_int_104 t_int_5) ?_
    obtain ⟨c49, hc50, HF⟩ := Z6 HF
    refine Z3d (us := [.int .u8 (IntKind.u8.wrap (IntKind.u64.wrap (48 + (Int.tmod x41 10))))]) (cs := [.int .u8 (IntKind.u8.wrap (IntKind.u64.wrap (48 + (Int.tmod x41 10))))]) rfl rfl rfl Z84 t_size_5 t_zero_5 rfl (Z0i rfl cl_nil) rfl rfl rfl S40.sub (fun w42 h43 b44 hb45 s46 hk47 hc48 => ?_)
    have S51 := S40.trans0 s46
    have rs52 : RS h43 (sl b44 0 1 1) ([c49] : List UInt8) := RS.litL _ [[.int .u8 (IntKind.u8.wrap (IntKind.u64.wrap (48 + (Int.tmod x41 10))))]] rfl rfl hc48 ⟨(byte_R hc50), trivial⟩
    have ow53 := Own.lit (base := w0.heap.size) (sz := 1) (m := 1) hk47 hc48 (by rw [hb45]; exact S40.size) rfl (by decide)
    refine Wv rfl (ov_bytesStr rfl Z84 t_int_5 Z3b rs52 S51.sub) <| Wm rfl rfl ?_
    obtain ⟨hl54, HF⟩ := Zj HF
    refine Wv rfl (Zs rfl rfl hl54) <| Wa rfl rfl <| Z7 <| Zv <| Z5 <| Z0 <| Wm rfl rfl <| Wv rfl (ov_quo rfl rfl (by decide)) <| Wa rfl rfl <| Z7 <| Z2x <| Z8e [0, 3, 4] [(0, vi x1), (3, .int .u64 (IntKind.u64.wrap (Int.tdiv x41 10))), (4, .string ((⟨[c49].toArray⟩ : ByteArray) ++ x25))] rfl ?_
    exact IHL27 j26 (Nat.le_refl _) _ _ ⟨h43, IntKind.u64.wrap (Int.tdiv x41 10), (⟨[c49].toArray⟩ : ByteArray) ++ x25, HF, rfl, S51, (le22).trans ((le39).trans s46.le)⟩
   intro J55
   refine Za <| Z0 <| Wm rfl rfl <| Wv rfl (Zao rfl rfl) <| Z7 <| Z5 <| Z12 HF rfl (fun HF => ?_) (fun HF => ?_)
   ·refine Zm <| Z06 [0, 3, 4] _ rfl ?_
    exact J55 ⟨h20, x24, HF, rfl, S23, Hle.refl _⟩
   refine Z4b <| Zr <| Zr <| Z0x <| Z5 <| Z04 (fun E w33 => ∃ (h32 : Hp), Zbc j26 (Z1l j26) x25 = some r ∧ E = [(4, .string x25)] ∧ Stp [] w0 h0 w33 h32 ∧ Hle h20 h32) ?_ ?_
   ·rintro E w33 ⟨h32, HF, rfl, S35, le34⟩
    refine Za <| Z0 <| Wm rfl rfl <| Wa rfl rfl <| Z7 <| Z5 <| Z09 <| Zt rfl rfl ?_
    obtain rfl := Option.some.inj HF
    exact ⟨_, rfl, h32, S35, rfl⟩
   intro J36
   refine Za <| Z0 <| Wm rfl rfl <| Wv rfl (Z6q rfl rfl) <| Z7 <| Z5 <| Z12 HF rfl (fun HF => ?_) (fun HF => ?_)
   ·refine Za <| Z0 <| Wm rfl rfl ?_
    obtain ⟨hl31, HF⟩ := Zj HF
    refine Wv rfl (Zs rfl rfl hl31) <| Wa rfl rfl <| Z7 <| Z5 <| Z09 <| Zp <| Zt rfl rfl ?_
    obtain rfl := Option.some.inj HF
    exact ⟨_, rfl, h20, S23, rfl⟩
   refine Zm <| Z06 [4] _ rfl ?_
   exact J36 ⟨h20, HF, rfl, S23, Hle.refl _⟩
  exact ⟨h9, IntKind.u64.wrap (Int.tdiv x7 10), (⟨[c15].toArray⟩ : ByteArray), HF, rfl, S17, Hle.refl _⟩
 intro J56
 refine Za <| Z0 <| Wm rfl rfl <| Wv rfl (Z6q rfl rfl) <| Z7 <| Z5 <| Z12 HF rfl (fun HF => ?_) (fun HF => ?_)
 ·refine Z0 <| Wm rfl rfl <| Wv rfl (ov_sub rfl rfl) <| Wa rfl rfl <| Z7 <| Z06 [0, 3] _ rfl ?_
  exact J56 ⟨h0, IntKind.u64.wrap (0 - (IntKind.u64.wrap x1)), HF, rfl, S0, Hle.refl _⟩
 refine Zm <| Z06 [0, 3] _ rfl ?_
 exact J56 ⟨h0, IntKind.u64.wrap x1, HF, rfl, S0, Hle.refl _⟩
theorem all_ref03_Digits : ∀ k j, j ≤ k → Zc3 (Z1l j).ref03_Digits := by
  intro k
  induction k with
  | zero =>
    intro j hj
    obtain rfl : j = 0 := by omega
    exact (fun _ _ => by intro h; cases h)
  | succ k ih =>
    intro j hj
    by_cases h : j ≤ k
    · exact ih j h
    · obtain rfl : j = k + 1 := by omega
      exact s_ref03_Digits k ih
theorem Zbk (k : Nat) : Zc3 (Z3n k) := (all_ref03_Digits k k (Nat.le_refl _))

def Zcj (φ : (List Int) → Option ByteArray) : Prop := ∀ ⦃xs1 : List Int⦄ ⦃r : ByteArray⦄, φ xs1 = some r → ∀ ⦃w0 : World⦄ ⦃h0 : Hp⦄ ⦃v2 : Value⦄, Sub h0 w0 → RS h0 v2 xs1 →
  Calls Tryz.prog 78 #[v2] w0 fun e w1 => ∃ v, e = .returned v ∧ ∃ h1, Stp [] w0 h0 w1 h1 ∧ v = .string r
theorem s_ref03_labels (k : Nat) (IH : ∀ j, j ≤ k → Zcj (Z1q j).ref03_labels) : Zcj (Ze4 k (Z1q k)) := by
 intro xs1 r HF w0 h0 v2 hs0 rs3
 have S0 : Stp [] w0 h0 w0 h0 := Stp.refl hs0 _
 refine Z66 (n := 23) Tryz.func78 rfl Tryz.ntmps78 rfl [(0, v2)] rfl <| Za <| Z0 <| Wa rfl rfl <| Z7 <| Z5 <| Za <| Z0 <| Wa rfl rfl <| Z7 <| Z5 <| Za <| Za <| Z0 <| Wa rfl rfl <| Z7 <| Z5 <| Z0c <| Z4j <| Z8e [0, 3, 4] [(0, v2), (3, .string Z2c), (4, vi 0)] rfl <| Z4m (K := k) (fun j E w5 => ∃ (h4 : Hp) (x8 : ByteArray) (x9 : Int), (Z1q j).ref03_labels_l1 xs1 x8 x9 = some r ∧ E = [(0, v2), (3, .string x8), (4, vi x9)] ∧ Stp [] w0 h0 w5 h4 ∧ Hle h0 h4) ?_ ?_ (j := k) (Nat.le_refl _) ?_
 ·rintro E w5 ⟨_, _, _, HF, _⟩; cases HF
 ·rintro j10 hj12 IHL11 E w5 ⟨h4, x8, x9, HF, rfl, S7, le6⟩
  refine Z04 (fun E w18 => ∃ (h17 : Hp), Zbi j10 (Z1q j10) xs1 x8 x9 = some r ∧ E = [(0, v2), (3, .string x8), (4, vi x9)] ∧ Stp [] w0 h0 w18 h17 ∧ Hle h4 h17) ?_ ?_
  ·rintro E w18 ⟨h17, HF, rfl, S20, le19⟩
   refine Z04 (fun E w51 => ∃ (h50 : Hp) (x54 : ByteArray), Zbj j10 (Z1q j10) xs1 x9 x54 = some r ∧ E = [(0, v2), (3, .string x54), (4, vi x9)] ∧ Stp [] w0 h0 w51 h50 ∧ Hle h17 h50) ?_ ?_
   ·rintro E w51 ⟨h50, x54, HF, rfl, S53, le52⟩
    refine Z0 <| Wm rfl rfl <| Wv rfl (Z2v rfl rfl) <| Wa rfl rfl <| Z7 <| Z2x <| Z8e [0, 3, 4] [(0, v2), (3, .string x54), (4, vi (IntKind.i64.wrap (x9 + 1)))] rfl ?_
    exact IHL11 j10 (Nat.le_refl _) _ _ ⟨h50, x54, IntKind.i64.wrap (x9 + 1), HF, rfl, S53, (le6).trans ((le19).trans le52)⟩
   intro J55
   refine Z0c <| Z04 (fun E w24 => ∃ (h23 : Hp) (x27 : ByteArray), Z92 j10 (Z1q j10) xs1 x9 x27 = some r ∧ E = [(0, v2), (3, .string x27), (4, vi x9)] ∧ Stp [] w0 h0 w24 h23 ∧ Hle h17 h23) ?_ ?_
   ·rintro E w24 ⟨h23, x27, HF, rfl, S26, le25⟩
    refine Z0 <| Wm rfl rfl <| Wm rfl rfl <| Wm rfl rfl ?_
    obtain ⟨A28, c29, rfl, rs30⟩ := RS.form (rs3.mono ((le6).trans ((le19).trans le25)))
    obtain ⟨e31, he32, HF⟩ := Z6 HF
    obtain ⟨b33, o34, rfl, h36, h37, ra35⟩ := RS.atO rs30 he32
    obtain ⟨cs38, r39, hc40⟩ := ra35
    obtain rfl := (show cs38 = _ from r39)
    refine Wv rfl (Zk rfl rfl Z43 Zeb h36 h37) <| Wv rfl (Z8 rfl Z0t (S26.sub.at_ _ _ _ (hc40 0 _ rfl))) ?_
    obtain ⟨r41, hr42, HF⟩ := Z6 HF
    refine Wc rfl (Zi (vs := [vi e31]) rfl t_ent_37) (Zbk _ hr42 S26.sub) ?_
    rintro _ w44 ⟨h45, s46, rfl⟩
    have S47 := S26.trans0 s46
    obtain ⟨hl48, HF⟩ := Zj HF
    refine Wv rfl (Zs rfl rfl hl48) <| Wa rfl rfl <| Z7 <| Zv <| Z06 [0, 3, 4] _ rfl ?_
    exact J55 ⟨h45, x27 ++ r41, HF, rfl, S47, (le25).trans s46.le⟩
   intro J49
   refine Za <| Z0 <| Wm rfl rfl <| Wv rfl (Zao rfl rfl) <| Z7 <| Z5 <| Z12 HF rfl (fun HF => ?_) (fun HF => ?_)
   ·refine Z0 <| Wm rfl rfl ?_
    obtain ⟨hl22, HF⟩ := Zj HF
    refine Wv rfl (Zs rfl rfl hl22) <| Wa rfl rfl <| Z7 <| Z06 [0, 3, 4] _ rfl ?_
    exact J49 ⟨h17, x8 ++ b'103, HF, rfl, S20, Hle.refl _⟩
   refine Zm <| Z06 [0, 3, 4] _ rfl ?_
   exact J49 ⟨h17, x8, HF, rfl, S20, Hle.refl _⟩
  intro J56
  refine Za <| Z0 <| Wm rfl rfl <| Wm rfl rfl ?_
  obtain ⟨A13, c14, rfl, rs15⟩ := RS.form (rs3.mono (le6))
  refine Wv rfl (Z0v rfl Z43) <| Wv rfl (Z6q rfl rfl) <| Z7 <| Z5 <| Z12 HF rfl (fun HF => ?_) (fun HF => ?_)
  ·refine Zm <| Z06 [0, 3, 4] _ rfl ?_
   exact J56 ⟨h4, HF, rfl, S7, Hle.refl _⟩
  refine Z4b <| Zr <| Zr <| Z0x <| Z5 <| Za <| Z0 <| Wm rfl rfl <| Wa rfl rfl <| Z7 <| Z5 <| Z09 <| Zt rfl rfl ?_
  obtain rfl := Option.some.inj HF
  exact ⟨_, rfl, h4, S7, rfl⟩
 exact ⟨h0, Z2c, 0, HF, rfl, S0, Hle.refl _⟩
theorem all_ref03_labels : ∀ k j, j ≤ k → Zcj (Z1q j).ref03_labels := by
  intro k
  induction k with
  | zero =>
    intro j hj
    obtain rfl : j = 0 := by omega
    exact (fun _ _ => by intro h; cases h)
  | succ k ih =>
    intro j hj
    by_cases h : j ≤ k
    · exact ih j h
    · obtain rfl : j = k + 1 := by omega
      exact s_ref03_labels k ih
theorem ok_ref03_labels (k : Nat) : Zcj (Za9 k) := (all_ref03_labels k k (Nat.le_refl _))

def Zer (φ : Int → Option (Int × ByteArray)) : Prop := ∀ ⦃x1 : Int⦄ ⦃r : Int × ByteArray⦄, φ x1 = some r → ∀ ⦃w0 : World⦄ ⦃h0 : Hp⦄, Sub h0 w0 →
  Calls Tryz.prog 32 #[.int .i64 x1] w0 fun e w1 => ∃ v, e = .returned v ∧ ∃ h1, Stp [] w0 h0 w1 h1 ∧ (∃ u0 u1 : Value, v = .tuple #[u0, u1] ∧ (u0 = .int .i64 r.1) ∧ (u1 = .string r.2))
theorem s_ref02_Sign (k : Nat) (IH : ∀ j, j ≤ k → Zer (Z21 j).ref02_Sign) : Zer (m_ref02_Sign k (Z21 k)) := by
 intro x1 r HF w0 h0  hs0 
 have S0 : Stp [] w0 h0 w0 h0 := Stp.refl hs0 _
 refine Z66 (n := 33) Tryz.func32 rfl Tryz.ntmps32 rfl [(0, vi x1)] rfl <| Za <| Z0 <| Wa rfl rfl <| Wa rfl rfl <| Z7 <| Z5 <| Za <| Za <| Z0 <| Wa rfl rfl <| Z7 <| Z5 <| Z0c <| Z4j <| Z8e [0, 4] [(0, vi x1), (4, vi 0)] rfl <| Z4m (K := k) (fun j E w3 => ∃ (h2 : Hp) (x6 : Int), (Z21 j).ref02_Sign_l1 x1 x6 = some r ∧ E = [(0, vi x1), (4, vi x6)] ∧ Stp [] w0 h0 w3 h2 ∧ Hle h0 h2) ?_ ?_ (j := k) (Nat.le_refl _) ?_
 ·rintro E w3 ⟨_, _, HF, _⟩; cases HF
 ·rintro j7 hj9 IHL8 E w3 ⟨h2, x6, HF, rfl, S5, le4⟩
  refine Z04 (fun E w12 => ∃ (h11 : Hp), ref02_Sign_j2 j7 (Z21 j7) x1 x6 = some r ∧ E = [(0, vi x1), (4, vi x6)] ∧ Stp [] w0 h0 w12 h11 ∧ Hle h2 h11) ?_ ?_
  ·rintro E w12 ⟨h11, HF, rfl, S14, le13⟩
   refine Za <| Z0c <| Za <| Z0 <| Wa rfl rfl <| Z7 <| Z5 <| Z0c <| Z4j <| Z8e [0, 4, 5] [(0, vi x1), (4, vi x6), (5, vi 0)] rfl <| Z4m (K := j7) (fun j E w16 => ∃ (h15 : Hp) (x19 : Int), (Z21 j).ref02_Sign_l3 x1 x6 x19 = some r ∧ E = [(0, vi x1), (4, vi x6), (5, vi x19)] ∧ Stp [] w0 h0 w16 h15 ∧ Hle h11 h15) ?_ ?_ (j := j7) (Nat.le_refl _) ?_
   ·rintro E w16 ⟨_, _, HF, _⟩; cases HF
   ·rintro j20 hj22 IHL21 E w16 ⟨h15, x19, HF, rfl, S18, le17⟩
    refine Z04 (fun E w40 => ∃ (h39 : Hp), ref02_Sign_j4 j20 (Z21 j20) x1 x6 x19 = some r ∧ E = [(0, vi x1), (4, vi x6), (5, vi x19)] ∧ Stp [] w0 h0 w40 h39 ∧ Hle h15 h39) ?_ ?_
    ·rintro E w40 ⟨h39, HF, rfl, S42, le41⟩
     refine Z04 (fun E w99 => ∃ (h98 : Hp), ref02_Sign_j5 j20 (Z21 j20) x1 x6 x19 = some r ∧ E = [(0, vi x1), (4, vi x6), (5, vi x19)] ∧ Stp [] w0 h0 w99 h98 ∧ Hle h39 h98) ?_ ?_
     ·rintro E w99 ⟨h98, HF, rfl, S101, le100⟩
      refine Z0 <| Wm rfl rfl <| Wv rfl (Z2v rfl rfl) <| Wa rfl rfl <| Z7 <| Z2x <| Z8e [0, 4, 5] [(0, vi x1), (4, vi x6), (5, vi (IntKind.i64.wrap (x19 + 1)))] rfl ?_
      exact IHL21 j20 (Nat.le_refl _) _ _ ⟨h98, IntKind.i64.wrap (x19 + 1), HF, rfl, S101, (le17).trans ((le41).trans le100)⟩
     intro J102
     refine Z0c <| Za <| Z0 <| Wm rfl rfl ?_
     obtain ⟨e43, he44, HF⟩ := Z6 HF
     obtain ⟨b45, o46, hA, h48, h49, ra47⟩ := RS.atO S42.sub.glob.g0 he44
     cases hA
     obtain ⟨cs50, r51, hc52⟩ := ra47
     obtain ⟨v53, rfl, rs54⟩ := r51
     refine Wv rfl (ov_indexAddrA rfl rfl t_arr_101 t_size_45 h48 h49) <| Wv rfl (Z8 rfl Z9g (S42.sub.at_ _ _ _ (hc52 0 _ rfl))) <| Wm rfl rfl ?_
     obtain ⟨A55, c56, rfl, rs57⟩ := RS.form rs54
     obtain ⟨e58, he59, HF⟩ := Z6 HF
     obtain ⟨b60, o61, rfl, h63, h64, ra62⟩ := RS.atO rs57 he59
     obtain ⟨cs65, r66, hc67⟩ := ra62
     obtain rfl := (show cs65 = _ from r66)
     refine Wv rfl (Zk rfl rfl Z43 Zeb h63 h64) <| Wv rfl (Z8 rfl Z0t (S42.sub.at_ _ _ _ (hc67 0 _ rfl))) <| Wm rfl rfl <| Wv rfl (Z0y rfl rfl) <| Z7 <| Z5 <| Z12 HF rfl (fun HF => ?_) (fun HF => ?_)
     ·refine Za ?_
      obtain ⟨e69, he70, HF⟩ := Z6 HF
      obtain ⟨b71, o72, hA, h74, h75, ra73⟩ := RS.atO S42.sub.glob.g1 he70
      cases hA
      obtain ⟨cs76, r77, hc78⟩ := ra73
      obtain ⟨v79, rfl, rs80⟩ := r77
      obtain ⟨A81, c82, rfl, rs83⟩ := RS.form rs80
      obtain ⟨e84, he85, HF⟩ := Z6 HF
      obtain ⟨b86, o87, rfl, h89, h90, ra88⟩ := RS.atO rs83 he85
      obtain ⟨cs91, r92, hc93⟩ := ra88
      obtain rfl := (show cs91 = _ from r92)
      refine Z2z (m := 8) [(4, vi x6), (5, vi x19)] [4, 5] rfl (fun i v w h => match i with | 0 => v = vi x6 | 1 => v = vi x6 | 2 => v = pt 1 (0 + Int.toNat x6 * 1) | 3 => v = sl b86 o87 (e69).length c82 | 4 => v = vi x19 | 5 => v = pt b86 (o87 + Int.toNat x19 * 1) | 6 => v = .string e84 | 7 => v = vi x6 | _ => True) Z4c S42.sub rfl rfl rfl rfl rfl ?_ ?_ ?_
      ·intro i v w h w2 h2 hΦ hst
       match i, hΦ with
       | 0, hΦ | 1, hΦ | 2, hΦ | 3, hΦ | 4, hΦ | 5, hΦ | 6, hΦ | 7, hΦ => exact hΦ
       | i + 8, _ => exact trivial
      ·refine ⟨?_, ?_, ?_, ?_, ?_, ?_, ?_, ?_, trivial⟩
       ·intro a w94 h95 s96 hat hF
        exact Z4 hat rfl (Z0j rfl) s96.sub (by exact rfl)
       ·intro a w94 h95 s96 hat hF
        exact Z4 hat rfl (Z0j rfl) s96.sub (by exact rfl)
       ·intro a w94 h95 s96 hat hF
        exact Z4 (Z1 hat (hF 1 27 rfl rfl)) rfl (ov_indexAddrA rfl rfl t_arr_102 t_size_41 h74 h75) s96.sub (by exact rfl)
       ·intro a w94 h95 s96 hat hF
        exact Z4 (Z1 hat (hF 2 28 rfl rfl)) rfl (Z8 rfl Zdl (s96.sub.at_ _ _ _ ((fun i v hv => (s96.le).1 _ _ _ (hc78 i v hv)) 0 _ rfl))) s96.sub (by exact rfl)
       ·intro a w94 h95 s96 hat hF
        exact Z4 hat rfl (Z0j rfl) s96.sub (by exact rfl)
       ·intro a w94 h95 s96 hat hF
        exact Z4 (Z1 (Z1 hat (hF 3 29 rfl rfl)) (hF 4 30 rfl rfl)) rfl (Zk rfl rfl Z26 Z6k h89 h90) s96.sub (by exact rfl)
       ·intro a w94 h95 s96 hat hF
        exact Z4 (Z1 hat (hF 5 31 rfl rfl)) rfl (Z8 rfl Z3l (s96.sub.at_ _ _ _ ((fun i v hv => (s96.le).1 _ _ _ (hc93 i v hv)) 0 _ rfl))) s96.sub (by exact rfl)
       intro a w94 h95 s96 hat hF
       exact Z4 (Z1 hat (hF 0 26 rfl rfl)) rfl (ov_assign rfl) s96.sub (by exact rfl)
      intro a w94 h95 s96 hat hF
      obtain hv0 := hF 0 26 (by decide) rfl
      obtain hv1 := hF 1 27 (by decide) rfl
      obtain hv2 := hF 2 28 (by decide) rfl
      obtain hv3 := hF 3 29 (by decide) rfl
      obtain hv4 := hF 4 30 (by decide) rfl
      obtain hv5 := hF 5 31 (by decide) rfl
      obtain hv6 := hF 6 32 (by decide) rfl
      obtain hv7 := hF 7 2 (by decide) rfl
      refine Z7u [(2, vi x6), (32, .string e84), (31, pt b86 (o87 + Int.toNat x19 * 1)), (30, vi x19), (29, sl b86 o87 (e69).length c82), (28, pt 1 (0 + Int.toNat x6 * 1)), (27, vi x6), (26, vi x6), (4, vi x6), (5, vi x19)] (Z1 (Z1 (Z1 (Z1 (Z1 (Z1 (Z1 (Z1 hat hv0) hv1) hv2) hv3) hv4) hv5) hv6) hv7) ?_
      have S97 := S42.trans0 s96
      refine Wa rfl rfl <| Z7 <| Z5 <| Z09 <| Z03 <| Zp <| Zp <| Z03 <| Z03 <| Zp <| Zp <| Z03 <| Zp <| Z94 rfl rfl rfl ?_
      obtain rfl := Option.some.inj HF
      exact ⟨_, rfl, h95, S97, _, _, rfl, rfl, rfl⟩
     refine Zm <| Zv <| Z06 [0, 4, 5] _ rfl ?_
     exact J102 ⟨h39, HF, rfl, S42, Hle.refl _⟩
    intro J103
    refine Za <| Z0 <| Wm rfl rfl <| Wm rfl rfl ?_
    obtain ⟨e23, he24, HF⟩ := Z6 HF
    obtain ⟨b25, o26, hA, h28, h29, ra27⟩ := RS.atO S18.sub.glob.g0 he24
    cases hA
    obtain ⟨cs30, r31, hc32⟩ := ra27
    obtain ⟨v33, rfl, rs34⟩ := r31
    refine Wv rfl (ov_indexAddrA rfl rfl t_arr_101 t_size_45 h28 h29) <| Wv rfl (Z8 rfl Z9g (S18.sub.at_ _ _ _ (hc32 0 _ rfl))) ?_
    obtain ⟨A35, c36, rfl, rs37⟩ := RS.form rs34
    refine Wv rfl (Z0v rfl Z43) <| Wv rfl (Z6q rfl rfl) <| Z7 <| Z5 <| Z12 HF rfl (fun HF => ?_) (fun HF => ?_)
    ·refine Zm <| Z06 [0, 4, 5] _ rfl ?_
     exact J103 ⟨h15, HF, rfl, S18, Hle.refl _⟩
    refine Z4b <| Zr <| Zr <| Z0x <| Zv <| Z5 <| Z0 <| Wm rfl rfl <| Wv rfl (Z2v rfl rfl) <| Wa rfl rfl <| Z7 <| Z2x <| Z8e [0, 4] [(0, vi x1), (4, vi (IntKind.i64.wrap (x6 + 1)))] rfl ?_
    exact IHL8 j20 (Nat.le_trans (Nat.le_of_succ_le hj22) (Nat.le_refl _)) _ _ ⟨h15, IntKind.i64.wrap (x6 + 1), HF, rfl, S18, (le4).trans ((le13).trans le17)⟩
   exact ⟨h11, 0, HF, rfl, S14, Hle.refl _⟩
  intro J104
  refine Za <| Z0 <| Wm rfl rfl <| Wv rfl (Z6q rfl rfl) <| Z7 <| Z5 <| Z12 HF rfl (fun HF => ?_) (fun HF => ?_)
  ·refine Zm <| Z06 [0, 4] _ rfl ?_
   exact J104 ⟨h2, HF, rfl, S5, Hle.refl _⟩
  refine Z4b <| Zr <| Zr <| Z0x <| Z5 <| Za <| Z0 <| Wa rfl rfl <| Wa rfl rfl <| Z7 <| Z5 <| Z09 <| Z94 rfl rfl rfl ?_
  obtain rfl := Option.some.inj HF
  exact ⟨_, rfl, h2, S5, _, _, rfl, rfl, rfl⟩
 exact ⟨h0, 0, HF, rfl, S0, Hle.refl _⟩
theorem all_ref02_Sign : ∀ k j, j ≤ k → Zer (Z21 j).ref02_Sign := by
  intro k
  induction k with
  | zero =>
    intro j hj
    obtain rfl : j = 0 := by omega
    exact (fun _ _ => by intro h; cases h)
  | succ k ih =>
    intro j hj
    by_cases h : j ≤ k
    · exact ih j h
    · obtain rfl : j = k + 1 := by omega
      exact s_ref02_Sign k ih
theorem ok_ref02_Sign (k : Nat) : Zer (Z63 k) := (all_ref02_Sign k k (Nat.le_refl _))

def C_ref03_two (φ : Ex → Option (Int × Bool)) : Prop := ∀ ⦃x1 : Ex⦄ ⦃r : Int × Bool⦄, φ x1 = some r → ∀ ⦃w0 : World⦄ ⦃h0 : Hp⦄ ⦃cs2 : List Value⦄, Sub h0 w0 → Rp.R h0 x1 cs2 →
  Calls Tryz.prog 30 #[.agg cs2.toArray] w0 fun e w1 => ∃ v, e = .returned v ∧ ∃ h1, Stp [] w0 h0 w1 h1 ∧ (∃ u0 u1 : Value, v = .tuple #[u0, u1] ∧ (u0 = .int .i64 r.1) ∧ (u1 = .bool r.2))
theorem s_ref03_two (k : Nat) : C_ref03_two (Z3h k) := by
 intro x1 r HF w0 h0 cs2 hs0 r3
 have S0 : Stp [] w0 h0 w0 h0 := Stp.refl hs0 _
 refine Z66 (n := 15) Tryz.func30 rfl Tryz.ntmps30 rfl [(0, .agg cs2.toArray)] rfl <| Za <| Z0 ?_
 obtain ⟨v4, rfl, rs5⟩ := rp_Ex.1 r3
 refine Zd2 (cs := [vi x1.op, vi x1.kind, vi x1.n, .string x1.s, .string x1.f, v4]) rfl rfl rfl rfl S0.sub (fun w6 b7 hb8 s9 ob10 => ?_)
 have g11 : w0.heap.size ≤ b7 := by rw [hb8]; exact S0.size
 have S12 := S0.trans0 s9
 refine Wa rfl rfl <| Wa rfl rfl <| Z7 <| Z5 <| Za <| Z0 <| Wv rfl (Z2 rfl Z2d) <| Wv rfl (Z8 rfl Z0t (OB.cell ob10 (j := 0) rfl)) ?_
 obtain ⟨r13, hr14, HF⟩ := Z6 HF
 refine Wc rfl (Zi (vs := [vi x1.op]) rfl t_ent_32) (ok_ref02_Sign _ hr14 S12.sub) ?_
 rintro _ w16 ⟨h17, s18, _, _, rfl, rfl, rfl⟩
 have S19 := S12.trans0 s18
 refine Wm rfl rfl <| Wv rfl (Z1a rfl rfl) <| Wv rfl (Z1a rfl rfl) <| Wa rfl rfl <| Wa rfl rfl <| Z7 <| Z5 <| Za <| Z0 <| Wm rfl rfl <| Wm rfl rfl <| Wv rfl (ov_neqS rfl rfl) <| Wa rfl rfl <| Wa rfl rfl <| Z7 <| Z5 <| Z09 <| Z94 rfl rfl rfl ?_
 obtain rfl := Option.some.inj HF
 exact ⟨_, rfl, h17, S19, _, _, rfl, rfl, rfl⟩
theorem Ze9 (k : Nat) : C_ref03_two (Z3h k) := s_ref03_two k

def C_ref03_Const (φ : Int → Int → Option (ByteArray × Bool)) : Prop := ∀ ⦃x1 : Int⦄ ⦃x2 : Int⦄ ⦃r : ByteArray × Bool⦄, φ x1 x2 = some r → ∀ ⦃w0 : World⦄ ⦃h0 : Hp⦄, Sub h0 w0 →
  Calls Tryz.prog 18 #[.int .i64 x1, .int .i64 x2] w0 fun e w1 => ∃ v, e = .returned v ∧ ∃ h1, Stp [] w0 h0 w1 h1 ∧ (∃ u0 u1 : Value, v = .tuple #[u0, u1] ∧ (u0 = .string r.1) ∧ (u1 = .bool r.2))
theorem s_ref03_Const (k : Nat) : C_ref03_Const (Z7w k) := by
 intro x1 x2 r HF w0 h0  hs0 
 have S0 : Stp [] w0 h0 w0 h0 := Stp.refl hs0 _
 refine Z66 (n := 36) Tryz.func18 rfl Tryz.ntmps18 rfl [(0, vi x1), (1, vi x2)] rfl <| Za <| Z0 <| Wa rfl rfl <| Wa rfl rfl <| Z7 <| Z5 <| Z04 (fun E w21 => ∃ (h20 : Hp), Ze6 k x1 x2 = some r ∧ E = [(0, vi x1), (1, vi x2)] ∧ Stp [] w0 h0 w21 h20 ∧ Hle h0 h20) ?_ ?_
 ·rintro E w21 ⟨h20, HF, rfl, S23, le22⟩
  refine Za <| Z0 <| Wm rfl rfl ?_
  obtain ⟨r24, hr25, HF⟩ := Z6 HF
  refine Wc rfl (Zi (vs := [vi x2]) rfl t_ent_37) (Zbk _ hr25 S23.sub) ?_
  rintro _ w27 ⟨h28, s29, rfl⟩
  have S30 := S23.trans0 s29
  refine Wm rfl rfl <| Wv rfl (Z0y rfl rfl) <| Wm rfl rfl <| Z2m 28 HF rfl (fun HF => ?_) (fun HF => ?_)
  ·refine Wm rfl rfl <| Wv rfl (ov_geq rfl rfl) <| Wv rfl (Zh rfl rfl) <| Wm rfl rfl <| Z2m 32 HF rfl (fun HF => ?_) (fun HF => ?_)
   ·refine Wm rfl rfl <| Wv rfl (Zdo rfl rfl) <| Wv rfl (Zh rfl rfl) <| Wa rfl rfl <| Wa rfl rfl <| Z7 <| Z5 <| Z09 <| Z94 rfl rfl rfl ?_
    obtain rfl := Option.some.inj HF
    exact ⟨_, rfl, h28, S30, _, _, rfl, rfl, rfl⟩
   refine Wp rfl <| Wp rfl <| Wv rfl (Zf rfl rfl) <| Wa rfl rfl <| Wa rfl rfl <| Z7 <| Z5 <| Z09 <| Z94 rfl rfl rfl ?_
   obtain rfl := Option.some.inj HF
   exact ⟨_, rfl, h28, S30, _, _, rfl, rfl, rfl⟩
  refine Wp rfl <| Wp rfl <| Wv rfl (Zf rfl rfl) <| Wm rfl rfl <| Wp rfl <| Wp rfl <| Wv rfl (Zf rfl rfl) <| Wa rfl rfl <| Wa rfl rfl <| Z7 <| Z5 <| Z09 <| Z94 rfl rfl rfl ?_
  obtain rfl := Option.some.inj HF
  exact ⟨_, rfl, h28, S30, _, _, rfl, rfl, rfl⟩
 intro J33
 refine Za <| Z0 <| Wm rfl rfl <| Z7 <| Z5 <| Z0c <| Za <| Z0 <| Wv rfl (Z0y rfl rfl) <| Wa rfl rfl <| Z7 <| Z5 <| Z12 HF rfl (fun HF => ?_) (fun HF => ?_)
 ·refine Z04 (fun E w6 => ∃ (h5 : Hp), Zei k x2 = some r ∧ E = [(1, vi x2)] ∧ Stp [] w0 h0 w6 h5 ∧ Hle h0 h5) ?_ ?_
  ·rintro E w6 ⟨h5, HF, rfl, S8, le7⟩
   refine Za <| Z0 <| Wm rfl rfl <| Wv rfl (Z0y rfl rfl) <| Wa rfl rfl <| Wa rfl rfl <| Z7 <| Z5 <| Z09 <| Z03 <| Zp <| Z94 rfl rfl rfl ?_
   obtain rfl := Option.some.inj HF
   exact ⟨_, rfl, h5, S8, _, _, rfl, rfl, rfl⟩
  intro J9
  refine Za <| Z0 <| Wm rfl rfl <| Wv rfl (Z0y rfl rfl) <| Z7 <| Z5 <| Z12 HF rfl (fun HF => ?_) (fun HF => ?_)
  ·refine Za <| Z0 <| Wa rfl rfl <| Wa rfl rfl <| Z7 <| Z5 <| Z09 <| Zp <| Z03 <| Zp <| Z94 rfl rfl rfl ?_
   obtain rfl := Option.some.inj HF
   exact ⟨_, rfl, h0, S0, _, _, rfl, rfl, rfl⟩
  refine Zm <| Z06 [1] _ rfl ?_
  exact J9 ⟨h0, HF, rfl, S0, Hle.refl _⟩
 refine Za <| Z0 <| Wv rfl (Z0y rfl rfl) <| Wa rfl rfl <| Z7 <| Z5 <| Z12 HF rfl (fun HF => ?_) (fun HF => ?_)
 ·refine Za <| Z0 <| Wm rfl rfl ?_
  obtain ⟨r11, hr12, HF⟩ := Z6 HF
  refine Wc rfl (Zi (vs := [vi x2]) rfl t_ent_37) (Zbk _ hr12 S0.sub) ?_
  rintro _ w14 ⟨h15, s16, rfl⟩
  have S17 := S0.trans0 s16
  obtain ⟨hl18, HF⟩ := Zj HF
  refine Wv rfl (Zs rfl rfl hl18) <| Wm rfl rfl <| Wv rfl (ov_geq rfl rfl) <| Wm rfl rfl <| Z2m 20 HF rfl (fun HF => ?_) (fun HF => ?_)
  ·refine Wm rfl rfl <| Wv rfl (Zdo rfl rfl) <| Wv rfl (Zh rfl rfl) <| Wa rfl rfl <| Wa rfl rfl <| Z7 <| Z5 <| Z09 <| Z03 <| Zp <| Z94 rfl rfl rfl ?_
   obtain rfl := Option.some.inj HF
   exact ⟨_, rfl, h15, S17, _, _, rfl, rfl, rfl⟩
  refine Wp rfl <| Wp rfl <| Wv rfl (Zf rfl rfl) <| Wa rfl rfl <| Wa rfl rfl <| Z7 <| Z5 <| Z09 <| Z03 <| Zp <| Z94 rfl rfl rfl ?_
  obtain rfl := Option.some.inj HF
  exact ⟨_, rfl, h15, S17, _, _, rfl, rfl, rfl⟩
 refine Zm <| Zv <| Z06 [0, 1] _ rfl ?_
 exact J33 ⟨h0, HF, rfl, S0, Hle.refl _⟩
theorem ok_ref03_Const (k : Nat) : C_ref03_Const (Z7w k) := s_ref03_Const k

def Zb3 (φ : Ex → Option ByteArray) : Prop := ∀ ⦃x1 : Ex⦄ ⦃r : ByteArray⦄, φ x1 = some r → ∀ ⦃w0 : World⦄ ⦃h0 : Hp⦄ ⦃cs2 : List Value⦄, Sub h0 w0 → Rp.R h0 x1 cs2 →
  Calls Tryz.prog 16 #[.agg cs2.toArray] w0 fun e w1 => ∃ v, e = .returned v ∧ ∃ h1, Stp [] w0 h0 w1 h1 ∧ v = .string r
def Z9t (φ : (List Ex) → Option ByteArray) : Prop := ∀ ⦃xs1 : List Ex⦄ ⦃r : ByteArray⦄, φ xs1 = some r → ∀ ⦃w0 : World⦄ ⦃h0 : Hp⦄ ⦃v2 : Value⦄, Sub h0 w0 → RS h0 v2 xs1 →
  Calls Tryz.prog 29 #[v2] w0 fun e w1 => ∃ v, e = .returned v ∧ ∃ h1, Stp [] w0 h0 w1 h1 ∧ v = .string r
def Z7b (φ : Ex → Bool → Option ByteArray) : Prop := ∀ ⦃x1 : Ex⦄ ⦃x4 : Bool⦄ ⦃r : ByteArray⦄, φ x1 x4 = some r → ∀ ⦃w0 : World⦄ ⦃h0 : Hp⦄ ⦃cs2 : List Value⦄, Sub h0 w0 → Rp.R h0 x1 cs2 →
  Calls Tryz.prog 31 #[.agg cs2.toArray, .bool x4] w0 fun e w1 => ∃ v, e = .returned v ∧ ∃ h1, Stp [] w0 h0 w1 h1 ∧ v = .string r
theorem s_ref03_Expr (k : Nat) (IH : ∀ j, j ≤ k → Zb3 (Zn j).ref03_Expr ∧ Z9t (Zn j).ref03_Exprs ∧ Z7b (Zn j).ref03_operand) : Zb3 (Z9e k (Zn k)) := by
 intro x1 r HF w0 h0 cs2 hs0 r3
 have S0 : Stp [] w0 h0 w0 h0 := Stp.refl hs0 _
 refine Z66 (n := 143) Tryz.func16 rfl Tryz.ntmps16 rfl [(0, .agg cs2.toArray)] rfl <| Za <| Z0 ?_
 obtain ⟨v4, rfl, rs5⟩ := rp_Ex.1 r3
 refine Zd2 (cs := [vi x1.op, vi x1.kind, vi x1.n, .string x1.s, .string x1.f, v4]) rfl rfl rfl rfl S0.sub (fun w6 b7 hb8 s9 ob10 => ?_)
 have g11 : w0.heap.size ≤ b7 := by rw [hb8]; exact S0.size
 have S12 := S0.trans0 s9
 refine Wa rfl rfl <| Z7 <| Z5 <| Z04 (fun E w136 => ∃ (h135 : Hp), ref03_Expr_j1 k (Zn k) x1 = some r ∧ E = [(1, pt b7 0)] ∧ Stp [] w0 h0 w136 h135 ∧ Hle h0 h135 ∧ OB w136 h135 b7 32 [vi x1.op, vi x1.kind, vi x1.n, .string x1.s, .string x1.f, v4]) ?_ ?_
 ·rintro E w136 ⟨h135, HF, rfl, S138, le137, ob139⟩
  refine Za <| Z0 <| Wv rfl (Z2 rfl Z2d) <| Wv rfl (Z8 rfl Z0t (OB.cell ob139 (j := 0) rfl)) ?_
  obtain ⟨r140, hr141, HF⟩ := Z6 HF
  refine Wc rfl (Zi (vs := [vi x1.op]) rfl t_ent_32) (ok_ref02_Sign _ hr141 S138.sub) ?_
  rintro _ w143 ⟨h144, s145, _, _, rfl, rfl, rfl⟩
  have S146 := S138.trans0 s145
  refine Wm rfl rfl <| Wv rfl (Z1a rfl rfl) <| Wv rfl (Z1a rfl rfl) <| Wa rfl rfl <| Wa rfl rfl <| Z7 <| Z5 <| Za <| Z0 <| Wv rfl (Z2 rfl Z0z) ?_
  have ob147 := (ob139.step0 s145)
  refine Wv rfl (Z8 rfl Z0h (OB.cell ob147 (j := 5) rfl)) ?_
  obtain ⟨A148, c149, rfl, rs150⟩ := RS.form (rs5.mono ((s9.le).trans ((le137).trans s145.le)))
  obtain ⟨e151, he152, HF⟩ := Z6 HF
  obtain ⟨b153, o154, rfl, h156, h157, ra155⟩ := RS.atO rs150 he152
  obtain ⟨cs158, r159, hc160⟩ := ra155
  refine Wv rfl (Zk rfl rfl Zx Zu h156 h157) <| Wv rfl (Z0w (cs := cs158) rfl Z1u (by rw [Rp.len r159]; exact Zu) (fun j v hv => S146.sub.at_ _ _ _ (hc160 j v hv))) ?_
  obtain ⟨r161, hr162, HF⟩ := Z6 HF
  refine Wc rfl (Zi (vs := [.agg cs158.toArray]) rfl t_ent_30) (Ze9 _ hr162 S146.sub r159) ?_
  rintro _ w164 ⟨h165, s166, _, _, rfl, rfl, rfl⟩
  have S167 := S146.trans0 s166
  refine Wm rfl rfl <| Wv rfl (Z1a rfl rfl) <| Wv rfl (Z1a rfl rfl) <| Wa rfl rfl <| Wa rfl rfl <| Z7 <| Z5 <| Za <| Z0 <| Wv rfl (Z2 rfl Z0z) ?_
  have ob168 := (ob147.step0 s166)
  refine Wv rfl (Z8 rfl Z0h (OB.cell ob168 (j := 5) rfl)) ?_
  obtain ⟨e169, he170, HF⟩ := Z6 HF
  obtain ⟨b171, o172, hA, h174, h175, ra173⟩ := RS.atO (rs150.mono (s166.le)) he170
  obtain ⟨rfl, rfl⟩ := Z5m hA
  obtain ⟨cs176, r177, hc178⟩ := ra173
  refine Wv rfl (Zk rfl rfl Zx Zu h174 h175) <| Wv rfl (Z0w (cs := cs176) rfl Z1u (by rw [Rp.len r177]; exact Zu) (fun j v hv => S167.sub.at_ _ _ _ (hc178 j v hv))) ?_
  obtain ⟨r179, hr180, HF⟩ := Z6 HF
  refine Wc rfl (Zi (vs := [.agg cs176.toArray]) rfl t_ent_30) (Ze9 _ hr180 S167.sub r177) ?_
  rintro _ w182 ⟨h183, s184, _, _, rfl, rfl, rfl⟩
  have S185 := S167.trans0 s184
  refine Wm rfl rfl <| Wv rfl (Z1a rfl rfl) <| Wv rfl (Z1a rfl rfl) <| Wa rfl rfl <| Wa rfl rfl <| Z7 <| Z5 <| Za ?_
  obtain ⟨e186, he187, HF⟩ := Z6 HF
  obtain ⟨b188, o189, hA, h191, h192, ra190⟩ := RS.atO (rs150.mono ((s166.le).trans s184.le)) he187
  obtain ⟨rfl, rfl⟩ := Z5m hA
  obtain ⟨cs193, r194, hc195⟩ := ra190
  refine bool_cases (b := r161.2) (fun hb196 => ?_) (fun hb196 => ?_)
  ·replace HF := bif_t hb196 HF
   obtain ⟨r197, hr198, HF⟩ := Z6 HF
   obtain ⟨hl199, HF⟩ := Zj HF
   obtain ⟨hl200, HF⟩ := Zj HF
   obtain ⟨hl201, HF⟩ := Zj HF
   obtain ⟨e202, he203, HF⟩ := Z6 HF
   obtain ⟨b204, o205, hA, h207, h208, ra206⟩ := RS.atO (rs150.mono ((s166.le).trans s184.le)) he203
   obtain ⟨rfl, rfl⟩ := Z5m hA
   obtain ⟨cs209, r210, hc211⟩ := ra206
   refine bool_cases (b := r179.2) (fun hb212 => ?_) (fun hb212 => ?_)
   ·replace HF := bif_t hb212 HF
    obtain ⟨r213, hr214, HF⟩ := Z6 HF
    refine Z2z (m := 26) [(1, pt b7 0), (9, vi r140.1), (10, .string r140.2), (11, vi r161.1), (12, .bool r161.2), (13, vi r179.1), (14, .bool r179.2)] [1, 9, 10, 11, 12, 13, 14] rfl (fun i v w h => match i with | 0 => v = pt b7 5 | 1 => v = sl b153 o154 (x1.args).length c149 | 2 => v = pt b153 (o154 + Int.toNat 0 * 6) | 3 => v = .agg cs193.toArray | 4 => v = .bool r161.2 | 5 => v = .bool true | 6 => v = vi r161.1 | 7 => v = vi r140.1 | 8 => v = .bool (decide ((r161.1 : Int) < r140.1)) | 9 => v = .bool (decide ((r161.1 : Int) < r140.1)) | 10 => v = .string r197 | 11 => v = .string (r197 ++ b'98) | 12 => v = .string r140.2 | 13 => v = .string ((r197 ++ b'98) ++ r140.2) | 14 => v = .string (((r197 ++ b'98) ++ r140.2) ++ b'98) | 15 => v = pt b7 5 | 16 => v = sl b153 o154 (x1.args).length c149 | 17 => v = pt b153 (o154 + Int.toNat 1 * 6) | 18 => v = .agg cs209.toArray | 19 => v = .bool r179.2 | 20 => v = .bool true | 21 => v = vi r179.1 | 22 => v = vi r140.1 | 23 => v = .bool (decide ((r179.1 : Int) ≤ r140.1)) | 24 => v = .bool (decide ((r179.1 : Int) ≤ r140.1)) | 25 => v = .string r213 | _ => True) Z4c S185.sub rfl rfl rfl rfl rfl ?_ ?_ ?_
    ·intro i v w h w2 h2 hΦ hst
     match i, hΦ with
     | 0, hΦ | 1, hΦ | 2, hΦ | 3, hΦ | 4, hΦ | 5, hΦ | 6, hΦ | 7, hΦ | 8, hΦ | 9, hΦ | 10, hΦ | 11, hΦ | 12, hΦ | 13, hΦ | 14, hΦ | 15, hΦ | 16, hΦ | 17, hΦ | 18, hΦ | 19, hΦ | 20, hΦ | 21, hΦ | 22, hΦ | 23, hΦ | 24, hΦ | 25, hΦ => exact hΦ
     | i + 26, _ => exact trivial
    ·refine ⟨?_, ?_, ?_, ?_, ?_, ?_, ?_, ?_, ?_, ?_, ?_, ?_, ?_, ?_, ?_, ?_, ?_, ?_, ?_, ?_, ?_, ?_, ?_, ?_, ?_, ?_, trivial⟩
     ·intro a w215 h216 s217 hat hF
      exact Z4 hat rfl (Z2 rfl Z0z) s217.sub (by exact rfl)
     ·intro a w215 h216 s217 hat hF
      have ob218 := ((ob168.step0 s184).step0 s217)
      exact Z4 (Z1 hat (hF 0 116 rfl rfl)) rfl (Z8 rfl Z0h (OB.cell ob218 (j := 5) rfl)) s217.sub (by exact rfl)
     ·intro a w215 h216 s217 hat hF
      exact Z4 (Z1 hat (hF 1 117 rfl rfl)) rfl (Zk rfl rfl Zx Zu h191 h192) s217.sub (by exact rfl)
     ·intro a w215 h216 s217 hat hF
      exact Z4 (Z1 hat (hF 2 118 rfl rfl)) rfl (Z0w (cs := cs193) rfl Z1u (by rw [Rp.len (Rp.mono (s217.le) r194)]; exact Zu) (fun j v hv => s217.sub.at_ _ _ _ ((fun i v hv => (s217.le).1 _ _ _ (hc195 i v hv)) j v hv))) s217.sub (by exact rfl)
     ·intro a w215 h216 s217 hat hF
      exact Z4 hat rfl (Z0j rfl) s217.sub (by exact rfl)
     ·intro a w215 h216 s217 hat hF
      exact Z4 (Z1 hat (hF 4 120 rfl rfl)) rfl (ov_bool (Z0j rfl) hb196) s217.sub (by exact rfl)
     ·intro a w215 h216 s217 hat hF
      exact Z4 (Z1 hat (hF 5 121 rfl rfl)) rfl (Z0j rfl) s217.sub (by exact rfl)
     ·intro a w215 h216 s217 hat hF
      exact Z4 (Z1 hat (hF 5 121 rfl rfl)) rfl (Z0j rfl) s217.sub (by exact rfl)
     ·intro a w215 h216 s217 hat hF
      exact Z4 (Z1 (Z1 (Z1 hat (hF 5 121 rfl rfl)) (hF 6 122 rfl rfl)) (hF 7 123 rfl rfl)) rfl (Z6q rfl rfl) s217.sub (by exact rfl)
     ·intro a w215 h216 s217 hat hF
      exact Z4 (Z1 (Z1 hat (hF 5 121 rfl rfl)) (hF 8 124 rfl rfl)) rfl (Zh rfl rfl) s217.sub (by exact rfl)
     ·intro a w215 h216 s217 hat hF
      refine Z0n (Z1 (Z1 hat (hF 3 119 rfl rfl)) (hF 9 125 rfl rfl)) rfl (Zi (vs := [.agg cs193.toArray, .bool (decide ((r161.1 : Int) < r140.1))]) rfl Zdq) ((IH _ (Nat.le_refl _)).2.2 hr198 s217.sub (Rp.mono (s217.le) r194)) ?_
      rintro _ w219 ⟨h220, s221, rfl⟩
      exact ⟨_, h220, rfl, s221, (by exact rfl)⟩
     ·intro a w215 h216 s217 hat hF
      exact Z4 (Z1 hat (hF 10 126 rfl rfl)) rfl (Zs rfl rfl hl199) s217.sub (by exact rfl)
     ·intro a w215 h216 s217 hat hF
      exact Z4 hat rfl (Z0j rfl) s217.sub (by exact rfl)
     ·intro a w215 h216 s217 hat hF
      exact Z4 (Z1 (Z1 hat (hF 11 127 rfl rfl)) (hF 12 128 rfl rfl)) rfl (Zs rfl rfl hl200) s217.sub (by exact rfl)
     ·intro a w215 h216 s217 hat hF
      exact Z4 (Z1 hat (hF 13 129 rfl rfl)) rfl (Zs rfl rfl hl201) s217.sub (by exact rfl)
     ·intro a w215 h216 s217 hat hF
      exact Z4 hat rfl (Z2 rfl Z0z) s217.sub (by exact rfl)
     ·intro a w215 h216 s217 hat hF
      have ob222 := ((ob168.step0 s184).step0 s217)
      exact Z4 (Z1 hat (hF 15 131 rfl rfl)) rfl (Z8 rfl Z0h (OB.cell ob222 (j := 5) rfl)) s217.sub (by exact rfl)
     ·intro a w215 h216 s217 hat hF
      exact Z4 (Z1 hat (hF 16 132 rfl rfl)) rfl (Zk rfl rfl Zx Zu h207 h208) s217.sub (by exact rfl)
     ·intro a w215 h216 s217 hat hF
      exact Z4 (Z1 hat (hF 17 133 rfl rfl)) rfl (Z0w (cs := cs209) rfl Z1u (by rw [Rp.len (Rp.mono (s217.le) r210)]; exact Zu) (fun j v hv => s217.sub.at_ _ _ _ ((fun i v hv => (s217.le).1 _ _ _ (hc211 i v hv)) j v hv))) s217.sub (by exact rfl)
     ·intro a w215 h216 s217 hat hF
      exact Z4 hat rfl (Z0j rfl) s217.sub (by exact rfl)
     ·intro a w215 h216 s217 hat hF
      exact Z4 (Z1 hat (hF 19 135 rfl rfl)) rfl (ov_bool (Z0j rfl) hb212) s217.sub (by exact rfl)
     ·intro a w215 h216 s217 hat hF
      exact Z4 (Z1 hat (hF 20 136 rfl rfl)) rfl (Z0j rfl) s217.sub (by exact rfl)
     ·intro a w215 h216 s217 hat hF
      exact Z4 (Z1 hat (hF 20 136 rfl rfl)) rfl (Z0j rfl) s217.sub (by exact rfl)
     ·intro a w215 h216 s217 hat hF
      exact Z4 (Z1 (Z1 (Z1 hat (hF 20 136 rfl rfl)) (hF 21 137 rfl rfl)) (hF 22 138 rfl rfl)) rfl (Zdo rfl rfl) s217.sub (by exact rfl)
     ·intro a w215 h216 s217 hat hF
      exact Z4 (Z1 (Z1 hat (hF 20 136 rfl rfl)) (hF 23 139 rfl rfl)) rfl (Zh rfl rfl) s217.sub (by exact rfl)
     intro a w215 h216 s217 hat hF
     refine Z0n (Z1 (Z1 hat (hF 18 134 rfl rfl)) (hF 24 140 rfl rfl)) rfl (Zi (vs := [.agg cs209.toArray, .bool (decide ((r179.1 : Int) ≤ r140.1))]) rfl Zdq) ((IH _ (Nat.le_refl _)).2.2 hr214 s217.sub (Rp.mono (s217.le) r210)) ?_
     rintro _ w223 ⟨h224, s225, rfl⟩
     exact ⟨_, h224, rfl, s225, (by exact rfl)⟩
    intro a w215 h216 s217 hat hF
    obtain hv0 := hF 0 116 (by decide) rfl
    obtain hv1 := hF 1 117 (by decide) rfl
    obtain hv2 := hF 2 118 (by decide) rfl
    obtain hv3 := hF 3 119 (by decide) rfl
    obtain hv4 := hF 4 120 (by decide) rfl
    obtain hv5 := hF 5 121 (by decide) rfl
    obtain hv6 := hF 6 122 (by decide) rfl
    obtain hv7 := hF 7 123 (by decide) rfl
    obtain hv8 := hF 8 124 (by decide) rfl
    obtain hv9 := hF 9 125 (by decide) rfl
    obtain hv10 := hF 10 126 (by decide) rfl
    obtain hv11 := hF 11 127 (by decide) rfl
    obtain hv12 := hF 12 128 (by decide) rfl
    obtain hv13 := hF 13 129 (by decide) rfl
    obtain hv14 := hF 14 130 (by decide) rfl
    obtain hv15 := hF 15 131 (by decide) rfl
    obtain hv16 := hF 16 132 (by decide) rfl
    obtain hv17 := hF 17 133 (by decide) rfl
    obtain hv18 := hF 18 134 (by decide) rfl
    obtain hv19 := hF 19 135 (by decide) rfl
    obtain hv20 := hF 20 136 (by decide) rfl
    obtain hv21 := hF 21 137 (by decide) rfl
    obtain hv22 := hF 22 138 (by decide) rfl
    obtain hv23 := hF 23 139 (by decide) rfl
    obtain hv24 := hF 24 140 (by decide) rfl
    obtain hv25 := hF 25 141 (by decide) rfl
    refine Z7u [(141, .string r213), (140, .bool (decide ((r179.1 : Int) ≤ r140.1))), (139, .bool (decide ((r179.1 : Int) ≤ r140.1))), (138, vi r140.1), (137, vi r179.1), (136, .bool true), (135, .bool r179.2), (134, .agg cs209.toArray), (133, pt b153 (o154 + Int.toNat 1 * 6)), (132, sl b153 o154 (x1.args).length c149), (131, pt b7 5), (130, .string (((r197 ++ b'98) ++ r140.2) ++ b'98)), (129, .string ((r197 ++ b'98) ++ r140.2)), (128, .string r140.2), (127, .string (r197 ++ b'98)), (126, .string r197), (125, .bool (decide ((r161.1 : Int) < r140.1))), (124, .bool (decide ((r161.1 : Int) < r140.1))), (123, vi r140.1), (122, vi r161.1), (121, .bool true), (120, .bool r161.2), (119, .agg cs193.toArray), (118, pt b153 (o154 + Int.toNat 0 * 6)), (117, sl b153 o154 (x1.args).length c149), (116, pt b7 5), (1, pt b7 0), (9, vi r140.1), (10, .string r140.2), (11, vi r161.1), (12, .bool r161.2), (13, vi r179.1), (14, .bool r179.2)] (Z1 (Z1 (Z1 (Z1 (Z1 (Z1 (Z1 (Z1 (Z1 (Z1 (Z1 (Z1 (Z1 (Z1 (Z1 (Z1 (Z1 (Z1 (Z1 (Z1 (Z1 (Z1 (Z1 (Z1 (Z1 (Z1 hat hv0) hv1) hv2) hv3) hv4) hv5) hv6) hv7) hv8) hv9) hv10) hv11) hv12) hv13) hv14) hv15) hv16) hv17) hv18) hv19) hv20) hv21) hv22) hv23) hv24) hv25) ?_
    have S226 := S185.trans0 s217
    obtain ⟨hl227, HF⟩ := Zj HF
    refine Wv rfl (Zs rfl rfl hl227) <| Wa rfl rfl <| Z7 <| Z5 <| Z09 <| Zt rfl rfl ?_
    obtain rfl := Option.some.inj HF
    exact ⟨_, rfl, h216, S226, rfl⟩
   replace HF := bif_f hb212 HF
   obtain ⟨r228, hr229, HF⟩ := Z6 HF
   refine Z2z (m := 26) [(1, pt b7 0), (9, vi r140.1), (10, .string r140.2), (11, vi r161.1), (12, .bool r161.2), (13, vi r179.1), (14, .bool r179.2)] [1, 9, 10, 11, 12, 13, 14] rfl (fun i v w h => match i with | 0 => v = pt b7 5 | 1 => v = sl b153 o154 (x1.args).length c149 | 2 => v = pt b153 (o154 + Int.toNat 0 * 6) | 3 => v = .agg cs193.toArray | 4 => v = .bool r161.2 | 5 => v = .bool true | 6 => v = vi r161.1 | 7 => v = vi r140.1 | 8 => v = .bool (decide ((r161.1 : Int) < r140.1)) | 9 => v = .bool (decide ((r161.1 : Int) < r140.1)) | 10 => v = .string r197 | 11 => v = .string (r197 ++ b'98) | 12 => v = .string r140.2 | 13 => v = .string ((r197 ++ b'98) ++ r140.2) | 14 => v = .string (((r197 ++ b'98) ++ r140.2) ++ b'98) | 15 => v = pt b7 5 | 16 => v = sl b153 o154 (x1.args).length c149 | 17 => v = pt b153 (o154 + Int.toNat 1 * 6) | 18 => v = .agg cs209.toArray | 19 => v = .bool r179.2 | 20 => v = .bool false | 21 => v = undef | 22 => v = undef | 23 => v = undef | 24 => v = .bool false | 25 => v = .string r228 | _ => True) Z4c S185.sub rfl rfl rfl rfl rfl ?_ ?_ ?_
   ·intro i v w h w2 h2 hΦ hst
    match i, hΦ with
    | 0, hΦ | 1, hΦ | 2, hΦ | 3, hΦ | 4, hΦ | 5, hΦ | 6, hΦ | 7, hΦ | 8, hΦ | 9, hΦ | 10, hΦ | 11, hΦ | 12, hΦ | 13, hΦ | 14, hΦ | 15, hΦ | 16, hΦ | 17, hΦ | 18, hΦ | 19, hΦ | 20, hΦ | 21, hΦ | 22, hΦ | 23, hΦ | 24, hΦ | 25, hΦ => exact hΦ
    | i + 26, _ => exact trivial
   ·refine ⟨?_, ?_, ?_, ?_, ?_, ?_, ?_, ?_, ?_, ?_, ?_, ?_, ?_, ?_, ?_, ?_, ?_, ?_, ?_, ?_, ?_, ?_, ?_, ?_, ?_, ?_, trivial⟩
    ·intro a w230 h231 s232 hat hF
     exact Z4 hat rfl (Z2 rfl Z0z) s232.sub (by exact rfl)
    ·intro a w230 h231 s232 hat hF
     have ob233 := ((ob168.step0 s184).step0 s232)
     exact Z4 (Z1 hat (hF 0 116 rfl rfl)) rfl (Z8 rfl Z0h (OB.cell ob233 (j := 5) rfl)) s232.sub (by exact rfl)
    ·intro a w230 h231 s232 hat hF
     exact Z4 (Z1 hat (hF 1 117 rfl rfl)) rfl (Zk rfl rfl Zx Zu h191 h192) s232.sub (by exact rfl)
    ·intro a w230 h231 s232 hat hF
     exact Z4 (Z1 hat (hF 2 118 rfl rfl)) rfl (Z0w (cs := cs193) rfl Z1u (by rw [Rp.len (Rp.mono (s232.le) r194)]; exact Zu) (fun j v hv => s232.sub.at_ _ _ _ ((fun i v hv => (s232.le).1 _ _ _ (hc195 i v hv)) j v hv))) s232.sub (by exact rfl)
    ·intro a w230 h231 s232 hat hF
     exact Z4 hat rfl (Z0j rfl) s232.sub (by exact rfl)
    ·intro a w230 h231 s232 hat hF
     exact Z4 (Z1 hat (hF 4 120 rfl rfl)) rfl (ov_bool (Z0j rfl) hb196) s232.sub (by exact rfl)
    ·intro a w230 h231 s232 hat hF
     exact Z4 (Z1 hat (hF 5 121 rfl rfl)) rfl (Z0j rfl) s232.sub (by exact rfl)
    ·intro a w230 h231 s232 hat hF
     exact Z4 (Z1 hat (hF 5 121 rfl rfl)) rfl (Z0j rfl) s232.sub (by exact rfl)
    ·intro a w230 h231 s232 hat hF
     exact Z4 (Z1 (Z1 (Z1 hat (hF 5 121 rfl rfl)) (hF 6 122 rfl rfl)) (hF 7 123 rfl rfl)) rfl (Z6q rfl rfl) s232.sub (by exact rfl)
    ·intro a w230 h231 s232 hat hF
     exact Z4 (Z1 (Z1 hat (hF 5 121 rfl rfl)) (hF 8 124 rfl rfl)) rfl (Zh rfl rfl) s232.sub (by exact rfl)
    ·intro a w230 h231 s232 hat hF
     refine Z0n (Z1 (Z1 hat (hF 3 119 rfl rfl)) (hF 9 125 rfl rfl)) rfl (Zi (vs := [.agg cs193.toArray, .bool (decide ((r161.1 : Int) < r140.1))]) rfl Zdq) ((IH _ (Nat.le_refl _)).2.2 hr198 s232.sub (Rp.mono (s232.le) r194)) ?_
     rintro _ w234 ⟨h235, s236, rfl⟩
     exact ⟨_, h235, rfl, s236, (by exact rfl)⟩
    ·intro a w230 h231 s232 hat hF
     exact Z4 (Z1 hat (hF 10 126 rfl rfl)) rfl (Zs rfl rfl hl199) s232.sub (by exact rfl)
    ·intro a w230 h231 s232 hat hF
     exact Z4 hat rfl (Z0j rfl) s232.sub (by exact rfl)
    ·intro a w230 h231 s232 hat hF
     exact Z4 (Z1 (Z1 hat (hF 11 127 rfl rfl)) (hF 12 128 rfl rfl)) rfl (Zs rfl rfl hl200) s232.sub (by exact rfl)
    ·intro a w230 h231 s232 hat hF
     exact Z4 (Z1 hat (hF 13 129 rfl rfl)) rfl (Zs rfl rfl hl201) s232.sub (by exact rfl)
    ·intro a w230 h231 s232 hat hF
     exact Z4 hat rfl (Z2 rfl Z0z) s232.sub (by exact rfl)
    ·intro a w230 h231 s232 hat hF
     have ob237 := ((ob168.step0 s184).step0 s232)
     exact Z4 (Z1 hat (hF 15 131 rfl rfl)) rfl (Z8 rfl Z0h (OB.cell ob237 (j := 5) rfl)) s232.sub (by exact rfl)
    ·intro a w230 h231 s232 hat hF
     exact Z4 (Z1 hat (hF 16 132 rfl rfl)) rfl (Zk rfl rfl Zx Zu h207 h208) s232.sub (by exact rfl)
    ·intro a w230 h231 s232 hat hF
     exact Z4 (Z1 hat (hF 17 133 rfl rfl)) rfl (Z0w (cs := cs209) rfl Z1u (by rw [Rp.len (Rp.mono (s232.le) r210)]; exact Zu) (fun j v hv => s232.sub.at_ _ _ _ ((fun i v hv => (s232.le).1 _ _ _ (hc211 i v hv)) j v hv))) s232.sub (by exact rfl)
    ·intro a w230 h231 s232 hat hF
     exact Z4 hat rfl (Z0j rfl) s232.sub (by exact rfl)
    ·intro a w230 h231 s232 hat hF
     exact Z4 (Z1 hat (hF 19 135 rfl rfl)) rfl (ov_bool (Z0j rfl) hb212) s232.sub (by exact rfl)
    ·intro a w230 h231 s232 hat hF
     exact Z7a (Z1 hat (hF 20 136 rfl rfl)) rfl (by exact rfl)
    ·intro a w230 h231 s232 hat hF
     exact Z7a (Z1 hat (hF 20 136 rfl rfl)) rfl (by exact rfl)
    ·intro a w230 h231 s232 hat hF
     exact Z7a (Z1 (Z1 (Z1 hat (hF 20 136 rfl rfl)) (hF 21 137 rfl rfl)) (hF 22 138 rfl rfl)) rfl (by exact rfl)
    ·intro a w230 h231 s232 hat hF
     exact Z4 (Z1 (Z1 hat (hF 20 136 rfl rfl)) (hF 23 139 rfl rfl)) rfl (Zf rfl rfl) s232.sub (by exact rfl)
    intro a w230 h231 s232 hat hF
    refine Z0n (Z1 (Z1 hat (hF 18 134 rfl rfl)) (hF 24 140 rfl rfl)) rfl (Zi (vs := [.agg cs209.toArray, .bool false]) rfl Zdq) ((IH _ (Nat.le_refl _)).2.2 hr229 s232.sub (Rp.mono (s232.le) r210)) ?_
    rintro _ w238 ⟨h239, s240, rfl⟩
    exact ⟨_, h239, rfl, s240, (by exact rfl)⟩
   intro a w230 h231 s232 hat hF
   obtain hv0 := hF 0 116 (by decide) rfl
   obtain hv1 := hF 1 117 (by decide) rfl
   obtain hv2 := hF 2 118 (by decide) rfl
   obtain hv3 := hF 3 119 (by decide) rfl
   obtain hv4 := hF 4 120 (by decide) rfl
   obtain hv5 := hF 5 121 (by decide) rfl
   obtain hv6 := hF 6 122 (by decide) rfl
   obtain hv7 := hF 7 123 (by decide) rfl
   obtain hv8 := hF 8 124 (by decide) rfl
   obtain hv9 := hF 9 125 (by decide) rfl
   obtain hv10 := hF 10 126 (by decide) rfl
   obtain hv11 := hF 11 127 (by decide) rfl
   obtain hv12 := hF 12 128 (by decide) rfl
   obtain hv13 := hF 13 129 (by decide) rfl
   obtain hv14 := hF 14 130 (by decide) rfl
   obtain hv15 := hF 15 131 (by decide) rfl
   obtain hv16 := hF 16 132 (by decide) rfl
   obtain hv17 := hF 17 133 (by decide) rfl
   obtain hv18 := hF 18 134 (by decide) rfl
   obtain hv19 := hF 19 135 (by decide) rfl
   obtain hv20 := hF 20 136 (by decide) rfl
   obtain hv21 := hF 21 137 (by decide) rfl
   obtain hv22 := hF 22 138 (by decide) rfl
   obtain hv23 := hF 23 139 (by decide) rfl
   obtain hv24 := hF 24 140 (by decide) rfl
   obtain hv25 := hF 25 141 (by decide) rfl
   refine Z7u [(141, .string r228), (140, .bool false), (139, undef), (138, undef), (137, undef), (136, .bool false), (135, .bool r179.2), (134, .agg cs209.toArray), (133, pt b153 (o154 + Int.toNat 1 * 6)), (132, sl b153 o154 (x1.args).length c149), (131, pt b7 5), (130, .string (((r197 ++ b'98) ++ r140.2) ++ b'98)), (129, .string ((r197 ++ b'98) ++ r140.2)), (128, .string r140.2), (127, .string (r197 ++ b'98)), (126, .string r197), (125, .bool (decide ((r161.1 : Int) < r140.1))), (124, .bool (decide ((r161.1 : Int) < r140.1))), (123, vi r140.1), (122, vi r161.1), (121, .bool true), (120, .bool r161.2), (119, .agg cs193.toArray), (118, pt b153 (o154 + Int.toNat 0 * 6)), (117, sl b153 o154 (x1.args).length c149), (116, pt b7 5), (1, pt b7 0), (9, vi r140.1), (10, .string r140.2), (11, vi r161.1), (12, .bool r161.2), (13, vi r179.1), (14, .bool r179.2)] (Z1 (Z1 (Z1 (Z1 (Z1 (Z1 (Z1 (Z1 (Z1 (Z1 (Z1 (Z1 (Z1 (Z1 (Z1 (Z1 (Z1 (Z1 (Z1 (Z1 (Z1 (Z1 (Z1 (Z1 (Z1 (Z1 hat hv0) hv1) hv2) hv3) hv4) hv5) hv6) hv7) hv8) hv9) hv10) hv11) hv12) hv13) hv14) hv15) hv16) hv17) hv18) hv19) hv20) hv21) hv22) hv23) hv24) hv25) ?_
   have S241 := S185.trans0 s232
   obtain ⟨hl242, HF⟩ := Zj HF
   refine Wv rfl (Zs rfl rfl hl242) <| Wa rfl rfl <| Z7 <| Z5 <| Z09 <| Zt rfl rfl ?_
   obtain rfl := Option.some.inj HF
   exact ⟨_, rfl, h231, S241, rfl⟩
  replace HF := bif_f hb196 HF
  obtain ⟨r243, hr244, HF⟩ := Z6 HF
  obtain ⟨hl245, HF⟩ := Zj HF
  obtain ⟨hl246, HF⟩ := Zj HF
  obtain ⟨hl247, HF⟩ := Zj HF
  obtain ⟨e248, he249, HF⟩ := Z6 HF
  obtain ⟨b250, o251, hA, h253, h254, ra252⟩ := RS.atO (rs150.mono ((s166.le).trans s184.le)) he249
  obtain ⟨rfl, rfl⟩ := Z5m hA
  obtain ⟨cs255, r256, hc257⟩ := ra252
  refine bool_cases (b := r179.2) (fun hb258 => ?_) (fun hb258 => ?_)
  ·replace HF := bif_t hb258 HF
   obtain ⟨r259, hr260, HF⟩ := Z6 HF
   refine Z2z (m := 26) [(1, pt b7 0), (9, vi r140.1), (10, .string r140.2), (11, vi r161.1), (12, .bool r161.2), (13, vi r179.1), (14, .bool r179.2)] [1, 9, 10, 11, 12, 13, 14] rfl (fun i v w h => match i with | 0 => v = pt b7 5 | 1 => v = sl b153 o154 (x1.args).length c149 | 2 => v = pt b153 (o154 + Int.toNat 0 * 6) | 3 => v = .agg cs193.toArray | 4 => v = .bool r161.2 | 5 => v = .bool false | 6 => v = undef | 7 => v = undef | 8 => v = undef | 9 => v = .bool false | 10 => v = .string r243 | 11 => v = .string (r243 ++ b'98) | 12 => v = .string r140.2 | 13 => v = .string ((r243 ++ b'98) ++ r140.2) | 14 => v = .string (((r243 ++ b'98) ++ r140.2) ++ b'98) | 15 => v = pt b7 5 | 16 => v = sl b153 o154 (x1.args).length c149 | 17 => v = pt b153 (o154 + Int.toNat 1 * 6) | 18 => v = .agg cs255.toArray | 19 => v = .bool r179.2 | 20 => v = .bool true | 21 => v = vi r179.1 | 22 => v = vi r140.1 | 23 => v = .bool (decide ((r179.1 : Int) ≤ r140.1)) | 24 => v = .bool (decide ((r179.1 : Int) ≤ r140.1)) | 25 => v = .string r259 | _ => True) Z4c S185.sub rfl rfl rfl rfl rfl ?_ ?_ ?_
   ·intro i v w h w2 h2 hΦ hst
    match i, hΦ with
    | 0, hΦ | 1, hΦ | 2, hΦ | 3, hΦ | 4, hΦ | 5, hΦ | 6, hΦ | 7, hΦ | 8, hΦ | 9, hΦ | 10, hΦ | 11, hΦ | 12, hΦ | 13, hΦ | 14, hΦ | 15, hΦ | 16, hΦ | 17, hΦ | 18, hΦ | 19, hΦ | 20, hΦ | 21, hΦ | 22, hΦ | 23, hΦ | 24, hΦ | 25, hΦ => exact hΦ
    | i + 26, _ => exact trivial
   ·refine ⟨?_, ?_, ?_, ?_, ?_, ?_, ?_, ?_, ?_, ?_, ?_, ?_, ?_, ?_, ?_, ?_, ?_, ?_, ?_, ?_, ?_, ?_, ?_, ?_, ?_, ?_, trivial⟩
    ·intro a w261 h262 s263 hat hF
     exact Z4 hat rfl (Z2 rfl Z0z) s263.sub (by exact rfl)
    ·intro a w261 h262 s263 hat hF
     have ob264 := ((ob168.step0 s184).step0 s263)
     exact Z4 (Z1 hat (hF 0 116 rfl rfl)) rfl (Z8 rfl Z0h (OB.cell ob264 (j := 5) rfl)) s263.sub (by exact rfl)
    ·intro a w261 h262 s263 hat hF
     exact Z4 (Z1 hat (hF 1 117 rfl rfl)) rfl (Zk rfl rfl Zx Zu h191 h192) s263.sub (by exact rfl)
    ·intro a w261 h262 s263 hat hF
     exact Z4 (Z1 hat (hF 2 118 rfl rfl)) rfl (Z0w (cs := cs193) rfl Z1u (by rw [Rp.len (Rp.mono (s263.le) r194)]; exact Zu) (fun j v hv => s263.sub.at_ _ _ _ ((fun i v hv => (s263.le).1 _ _ _ (hc195 i v hv)) j v hv))) s263.sub (by exact rfl)
    ·intro a w261 h262 s263 hat hF
     exact Z4 hat rfl (Z0j rfl) s263.sub (by exact rfl)
    ·intro a w261 h262 s263 hat hF
     exact Z4 (Z1 hat (hF 4 120 rfl rfl)) rfl (ov_bool (Z0j rfl) hb196) s263.sub (by exact rfl)
    ·intro a w261 h262 s263 hat hF
     exact Z7a (Z1 hat (hF 5 121 rfl rfl)) rfl (by exact rfl)
    ·intro a w261 h262 s263 hat hF
     exact Z7a (Z1 hat (hF 5 121 rfl rfl)) rfl (by exact rfl)
    ·intro a w261 h262 s263 hat hF
     exact Z7a (Z1 (Z1 (Z1 hat (hF 5 121 rfl rfl)) (hF 6 122 rfl rfl)) (hF 7 123 rfl rfl)) rfl (by exact rfl)
    ·intro a w261 h262 s263 hat hF
     exact Z4 (Z1 (Z1 hat (hF 5 121 rfl rfl)) (hF 8 124 rfl rfl)) rfl (Zf rfl rfl) s263.sub (by exact rfl)
    ·intro a w261 h262 s263 hat hF
     refine Z0n (Z1 (Z1 hat (hF 3 119 rfl rfl)) (hF 9 125 rfl rfl)) rfl (Zi (vs := [.agg cs193.toArray, .bool false]) rfl Zdq) ((IH _ (Nat.le_refl _)).2.2 hr244 s263.sub (Rp.mono (s263.le) r194)) ?_
     rintro _ w265 ⟨h266, s267, rfl⟩
     exact ⟨_, h266, rfl, s267, (by exact rfl)⟩
    ·intro a w261 h262 s263 hat hF
     exact Z4 (Z1 hat (hF 10 126 rfl rfl)) rfl (Zs rfl rfl hl245) s263.sub (by exact rfl)
    ·intro a w261 h262 s263 hat hF
     exact Z4 hat rfl (Z0j rfl) s263.sub (by exact rfl)
    ·intro a w261 h262 s263 hat hF
     exact Z4 (Z1 (Z1 hat (hF 11 127 rfl rfl)) (hF 12 128 rfl rfl)) rfl (Zs rfl rfl hl246) s263.sub (by exact rfl)
    ·intro a w261 h262 s263 hat hF
     exact Z4 (Z1 hat (hF 13 129 rfl rfl)) rfl (Zs rfl rfl hl247) s263.sub (by exact rfl)
    ·intro a w261 h262 s263 hat hF
     exact Z4 hat rfl (Z2 rfl Z0z) s263.sub (by exact rfl)
    ·intro a w261 h262 s263 hat hF
     have ob268 := ((ob168.step0 s184).step0 s263)
     exact Z4 (Z1 hat (hF 15 131 rfl rfl)) rfl (Z8 rfl Z0h (OB.cell ob268 (j := 5) rfl)) s263.sub (by exact rfl)
    ·intro a w261 h262 s263 hat hF
     exact Z4 (Z1 hat (hF 16 132 rfl rfl)) rfl (Zk rfl rfl Zx Zu h253 h254) s263.sub (by exact rfl)
    ·intro a w261 h262 s263 hat hF
     exact Z4 (Z1 hat (hF 17 133 rfl rfl)) rfl (Z0w (cs := cs255) rfl Z1u (by rw [Rp.len (Rp.mono (s263.le) r256)]; exact Zu) (fun j v hv => s263.sub.at_ _ _ _ ((fun i v hv => (s263.le).1 _ _ _ (hc257 i v hv)) j v hv))) s263.sub (by exact rfl)
    ·intro a w261 h262 s263 hat hF
     exact Z4 hat rfl (Z0j rfl) s263.sub (by exact rfl)
    ·intro a w261 h262 s263 hat hF
     exact Z4 (Z1 hat (hF 19 135 rfl rfl)) rfl (ov_bool (Z0j rfl) hb258) s263.sub (by exact rfl)
    ·intro a w261 h262 s263 hat hF
     exact Z4 (Z1 hat (hF 20 136 rfl rfl)) rfl (Z0j rfl) s263.sub (by exact rfl)
    ·intro a w261 h262 s263 hat hF
     exact Z4 (Z1 hat (hF 20 136 rfl rfl)) rfl (Z0j rfl) s263.sub (by exact rfl)
    ·intro a w261 h262 s263 hat hF
     exact Z4 (Z1 (Z1 (Z1 hat (hF 20 136 rfl rfl)) (hF 21 137 rfl rfl)) (hF 22 138 rfl rfl)) rfl (Zdo rfl rfl) s263.sub (by exact rfl)
    ·intro a w261 h262 s263 hat hF
     exact Z4 (Z1 (Z1 hat (hF 20 136 rfl rfl)) (hF 23 139 rfl rfl)) rfl (Zh rfl rfl) s263.sub (by exact rfl)
    intro a w261 h262 s263 hat hF
    refine Z0n (Z1 (Z1 hat (hF 18 134 rfl rfl)) (hF 24 140 rfl rfl)) rfl (Zi (vs := [.agg cs255.toArray, .bool (decide ((r179.1 : Int) ≤ r140.1))]) rfl Zdq) ((IH _ (Nat.le_refl _)).2.2 hr260 s263.sub (Rp.mono (s263.le) r256)) ?_
    rintro _ w269 ⟨h270, s271, rfl⟩
    exact ⟨_, h270, rfl, s271, (by exact rfl)⟩
   intro a w261 h262 s263 hat hF
   obtain hv0 := hF 0 116 (by decide) rfl
   obtain hv1 := hF 1 117 (by decide) rfl
   obtain hv2 := hF 2 118 (by decide) rfl
   obtain hv3 := hF 3 119 (by decide) rfl
   obtain hv4 := hF 4 120 (by decide) rfl
   obtain hv5 := hF 5 121 (by decide) rfl
   obtain hv6 := hF 6 122 (by decide) rfl
   obtain hv7 := hF 7 123 (by decide) rfl
   obtain hv8 := hF 8 124 (by decide) rfl
   obtain hv9 := hF 9 125 (by decide) rfl
   obtain hv10 := hF 10 126 (by decide) rfl
   obtain hv11 := hF 11 127 (by decide) rfl
   obtain hv12 := hF 12 128 (by decide) rfl
   obtain hv13 := hF 13 129 (by decide) rfl
   obtain hv14 := hF 14 130 (by decide) rfl
   obtain hv15 := hF 15 131 (by decide) rfl
   obtain hv16 := hF 16 132 (by decide) rfl
   obtain hv17 := hF 17 133 (by decide) rfl
   obtain hv18 := hF 18 134 (by decide) rfl
   obtain hv19 := hF 19 135 (by decide) rfl
   obtain hv20 := hF 20 136 (by decide) rfl
   obtain hv21 := hF 21 137 (by decide) rfl
   obtain hv22 := hF 22 138 (by decide) rfl
   obtain hv23 := hF 23 139 (by decide) rfl
   obtain hv24 := hF 24 140 (by decide) rfl
   obtain hv25 := hF 25 141 (by decide) rfl
   refine Z7u [(141, .string r259), (140, .bool (decide ((r179.1 : Int) ≤ r140.1))), (139, .bool (decide ((r179.1 : Int) ≤ r140.1))), (138, vi r140.1), (137, vi r179.1), (136, .bool true), (135, .bool r179.2), (134, .agg cs255.toArray), (133, pt b153 (o154 + Int.toNat 1 * 6)), (132, sl b153 o154 (x1.args).length c149), (131, pt b7 5), (130, .string (((r243 ++ b'98) ++ r140.2) ++ b'98)), (129, .string ((r243 ++ b'98) ++ r140.2)), (128, .string r140.2), (127, .string (r243 ++ b'98)), (126, .string r243), (125, .bool false), (124, undef), (123, undef), (122, undef), (121, .bool false), (120, .bool r161.2), (119, .agg cs193.toArray), (118, pt b153 (o154 + Int.toNat 0 * 6)), (117, sl b153 o154 (x1.args).length c149), (116, pt b7 5), (1, pt b7 0), (9, vi r140.1), (10, .string r140.2), (11, vi r161.1), (12, .bool r161.2), (13, vi r179.1), (14, .bool r179.2)] (Z1 (Z1 (Z1 (Z1 (Z1 (Z1 (Z1 (Z1 (Z1 (Z1 (Z1 (Z1 (Z1 (Z1 (Z1 (Z1 (Z1 (Z1 (Z1 (Z1 (Z1 (Z1 (Z1 (Z1 (Z1 (Z1 hat hv0) hv1) hv2) hv3) hv4) hv5) hv6) hv7) hv8) hv9) hv10) hv11) hv12) hv13) hv14) hv15) hv16) hv17) hv18) hv19) hv20) hv21) hv22) hv23) hv24) hv25) ?_
   have S272 := S185.trans0 s263
   obtain ⟨hl273, HF⟩ := Zj HF
   refine Wv rfl (Zs rfl rfl hl273) <| Wa rfl rfl <| Z7 <| Z5 <| Z09 <| Zt rfl rfl ?_
   obtain rfl := Option.some.inj HF
   exact ⟨_, rfl, h262, S272, rfl⟩
  replace HF := bif_f hb258 HF
  obtain ⟨r274, hr275, HF⟩ := Z6 HF
  refine Z2z (m := 26) [(1, pt b7 0), (9, vi r140.1), (10, .string r140.2), (11, vi r161.1), (12, .bool r161.2), (13, vi r179.1), (14, .bool r179.2)] [1, 9, 10, 11, 12, 13, 14] rfl (fun i v w h => match i with | 0 => v = pt b7 5 | 1 => v = sl b153 o154 (x1.args).length c149 | 2 => v = pt b153 (o154 + Int.toNat 0 * 6) | 3 => v = .agg cs193.toArray | 4 => v = .bool r161.2 | 5 => v = .bool false | 6 => v = undef | 7 => v = undef | 8 => v = undef | 9 => v = .bool false | 10 => v = .string r243 | 11 => v = .string (r243 ++ b'98) | 12 => v = .string r140.2 | 13 => v = .string ((r243 ++ b'98) ++ r140.2) | 14 => v = .string (((r243 ++ b'98) ++ r140.2) ++ b'98) | 15 => v = pt b7 5 | 16 => v = sl b153 o154 (x1.args).length c149 | 17 => v = pt b153 (o154 + Int.toNat 1 * 6) | 18 => v = .agg cs255.toArray | 19 => v = .bool r179.2 | 20 => v = .bool false | 21 => v = undef | 22 => v = undef | 23 => v = undef | 24 => v = .bool false | 25 => v = .string r274 | _ => True) Z4c S185.sub rfl rfl rfl rfl rfl ?_ ?_ ?_
  ·intro i v w h w2 h2 hΦ hst
   match i, hΦ with
   | 0, hΦ | 1, hΦ | 2, hΦ | 3, hΦ | 4, hΦ | 5, hΦ | 6, hΦ | 7, hΦ | 8, hΦ | 9, hΦ | 10, hΦ | 11, hΦ | 12, hΦ | 13, hΦ | 14, hΦ | 15, hΦ | 16, hΦ | 17, hΦ | 18, hΦ | 19, hΦ | 20, hΦ | 21, hΦ | 22, hΦ | 23, hΦ | 24, hΦ | 25, hΦ => exact hΦ
   | i + 26, _ => exact trivial
  ·refine ⟨?_, ?_, ?_, ?_, ?_, ?_, ?_, ?_, ?_, ?_, ?_, ?_, ?_, ?_, ?_, ?_, ?_, ?_, ?_, ?_, ?_, ?_, ?_, ?_, ?_, ?_, trivial⟩
   ·intro a w276 h277 s278 hat hF
    exact Z4 hat rfl (Z2 rfl Z0z) s278.sub (by exact rfl)
   ·intro a w276 h277 s278 hat hF
    have ob279 := ((ob168.step0 s184).step0 s278)
    exact Z4 (Z1 hat (hF 0 116 rfl rfl)) rfl (Z8 rfl Z0h (OB.cell ob279 (j := 5) rfl)) s278.sub (by exact rfl)
   ·intro a w276 h277 s278 hat hF
    exact Z4 (Z1 hat (hF 1 117 rfl rfl)) rfl (Zk rfl rfl Zx Zu h191 h192) s278.sub (by exact rfl)
   ·intro a w276 h277 s278 hat hF
    exact Z4 (Z1 hat (hF 2 118 rfl rfl)) rfl (Z0w (cs := cs193) rfl Z1u (by rw [Rp.len (Rp.mono (s278.le) r194)]; exact Zu) (fun j v hv => s278.sub.at_ _ _ _ ((fun i v hv => (s278.le).1 _ _ _ (hc195 i v hv)) j v hv))) s278.sub (by exact rfl)
   ·intro a w276 h277 s278 hat hF
    exact Z4 hat rfl (Z0j rfl) s278.sub (by exact rfl)
   ·intro a w276 h277 s278 hat hF
    exact Z4 (Z1 hat (hF 4 120 rfl rfl)) rfl (ov_bool (Z0j rfl) hb196) s278.sub (by exact rfl)
   ·intro a w276 h277 s278 hat hF
    exact Z7a (Z1 hat (hF 5 121 rfl rfl)) rfl (by exact rfl)
   ·intro a w276 h277 s278 hat hF
    exact Z7a (Z1 hat (hF 5 121 rfl rfl)) rfl (by exact rfl)
   ·intro a w276 h277 s278 hat hF
    exact Z7a (Z1 (Z1 (Z1 hat (hF 5 121 rfl rfl)) (hF 6 122 rfl rfl)) (hF 7 123 rfl rfl)) rfl (by exact rfl)
   ·intro a w276 h277 s278 hat hF
    exact Z4 (Z1 (Z1 hat (hF 5 121 rfl rfl)) (hF 8 124 rfl rfl)) rfl (Zf rfl rfl) s278.sub (by exact rfl)
   ·intro a w276 h277 s278 hat hF
    refine Z0n (Z1 (Z1 hat (hF 3 119 rfl rfl)) (hF 9 125 rfl rfl)) rfl (Zi (vs := [.agg cs193.toArray, .bool false]) rfl Zdq) ((IH _ (Nat.le_refl _)).2.2 hr244 s278.sub (Rp.mono (s278.le) r194)) ?_
    rintro _ w280 ⟨h281, s282, rfl⟩
    exact ⟨_, h281, rfl, s282, (by exact rfl)⟩
   ·intro a w276 h277 s278 hat hF
    exact Z4 (Z1 hat (hF 10 126 rfl rfl)) rfl (Zs rfl rfl hl245) s278.sub (by exact rfl)
   ·intro a w276 h277 s278 hat hF
    exact Z4 hat rfl (Z0j rfl) s278.sub (by exact rfl)
   ·intro a w276 h277 s278 hat hF
    exact Z4 (Z1 (Z1 hat (hF 11 127 rfl rfl)) (hF 12 128 rfl rfl)) rfl (Zs rfl rfl hl246) s278.sub (by exact rfl)
   ·intro a w276 h277 s278 hat hF
    exact Z4 (Z1 hat (hF 13 129 rfl rfl)) rfl (Zs rfl rfl hl247) s278.sub (by exact rfl)
   ·intro a w276 h277 s278 hat hF
    exact Z4 hat rfl (Z2 rfl Z0z) s278.sub (by exact rfl)
   ·intro a w276 h277 s278 hat hF
    have ob283 := ((ob168.step0 s184).step0 s278)
    exact Z4 (Z1 hat (hF 15 131 rfl rfl)) rfl (Z8 rfl Z0h (OB.cell ob283 (j := 5) rfl)) s278.sub (by exact rfl)
   ·intro a w276 h277 s278 hat hF
    exact Z4 (Z1 hat (hF 16 132 rfl rfl)) rfl (Zk rfl rfl Zx Zu h253 h254) s278.sub (by exact rfl)
   ·intro a w276 h277 s278 hat hF
    exact Z4 (Z1 hat (hF 17 133 rfl rfl)) rfl (Z0w (cs := cs255) rfl Z1u (by rw [Rp.len (Rp.mono (s278.le) r256)]; exact Zu) (fun j v hv => s278.sub.at_ _ _ _ ((fun i v hv => (s278.le).1 _ _ _ (hc257 i v hv)) j v hv))) s278.sub (by exact rfl)
   ·intro a w276 h277 s278 hat hF
    exact Z4 hat rfl (Z0j rfl) s278.sub (by exact rfl)
   ·intro a w276 h277 s278 hat hF
    exact Z4 (Z1 hat (hF 19 135 rfl rfl)) rfl (ov_bool (Z0j rfl) hb258) s278.sub (by exact rfl)
   ·intro a w276 h277 s278 hat hF
    exact Z7a (Z1 hat (hF 20 136 rfl rfl)) rfl (by exact rfl)
   ·intro a w276 h277 s278 hat hF
    exact Z7a (Z1 hat (hF 20 136 rfl rfl)) rfl (by exact rfl)
   ·intro a w276 h277 s278 hat hF
    exact Z7a (Z1 (Z1 (Z1 hat (hF 20 136 rfl rfl)) (hF 21 137 rfl rfl)) (hF 22 138 rfl rfl)) rfl (by exact rfl)
   ·intro a w276 h277 s278 hat hF
    exact Z4 (Z1 (Z1 hat (hF 20 136 rfl rfl)) (hF 23 139 rfl rfl)) rfl (Zf rfl rfl) s278.sub (by exact rfl)
   intro a w276 h277 s278 hat hF
   refine Z0n (Z1 (Z1 hat (hF 18 134 rfl rfl)) (hF 24 140 rfl rfl)) rfl (Zi (vs := [.agg cs255.toArray, .bool false]) rfl Zdq) ((IH _ (Nat.le_refl _)).2.2 hr275 s278.sub (Rp.mono (s278.le) r256)) ?_
   rintro _ w284 ⟨h285, s286, rfl⟩
   exact ⟨_, h285, rfl, s286, (by exact rfl)⟩
  intro a w276 h277 s278 hat hF
  obtain hv0 := hF 0 116 (by decide) rfl
  obtain hv1 := hF 1 117 (by decide) rfl
  obtain hv2 := hF 2 118 (by decide) rfl
  obtain hv3 := hF 3 119 (by decide) rfl
  obtain hv4 := hF 4 120 (by decide) rfl
  obtain hv5 := hF 5 121 (by decide) rfl
  obtain hv6 := hF 6 122 (by decide) rfl
  obtain hv7 := hF 7 123 (by decide) rfl
  obtain hv8 := hF 8 124 (by decide) rfl
  obtain hv9 := hF 9 125 (by decide) rfl
  obtain hv10 := hF 10 126 (by decide) rfl
  obtain hv11 := hF 11 127 (by decide) rfl
  obtain hv12 := hF 12 128 (by decide) rfl
  obtain hv13 := hF 13 129 (by decide) rfl
  obtain hv14 := hF 14 130 (by decide) rfl
  obtain hv15 := hF 15 131 (by decide) rfl
  obtain hv16 := hF 16 132 (by decide) rfl
  obtain hv17 := hF 17 133 (by decide) rfl
  obtain hv18 := hF 18 134 (by decide) rfl
  obtain hv19 := hF 19 135 (by decide) rfl
  obtain hv20 := hF 20 136 (by decide) rfl
  obtain hv21 := hF 21 137 (by decide) rfl
  obtain hv22 := hF 22 138 (by decide) rfl
  obtain hv23 := hF 23 139 (by decide) rfl
  obtain hv24 := hF 24 140 (by decide) rfl
  obtain hv25 := hF 25 141 (by decide) rfl
  refine Z7u [(141, .string r274), (140, .bool false), (139, undef), (138, undef), (137, undef), (136, .bool false), (135, .bool r179.2), (134, .agg cs255.toArray), (133, pt b153 (o154 + Int.toNat 1 * 6)), (132, sl b153 o154 (x1.args).length c149), (131, pt b7 5), (130, .string (((r243 ++ b'98) ++ r140.2) ++ b'98)), (129, .string ((r243 ++ b'98) ++ r140.2)), (128, .string r140.2), (127, .string (r243 ++ b'98)), (126, .string r243), (125, .bool false), (124, undef), (123, undef), (122, undef), (121, .bool false), (120, .bool r161.2), (119, .agg cs193.toArray), (118, pt b153 (o154 + Int.toNat 0 * 6)), (117, sl b153 o154 (x1.args).length c149), (116, pt b7 5), (1, pt b7 0), (9, vi r140.1), (10, .string r140.2), (11, vi r161.1), (12, .bool r161.2), (13, vi r179.1), (14, .bool r179.2)] (Z1 (Z1 (Z1 (Z1 (Z1 (Z1 (Z1 (Z1 (Z1 (Z1 (Z1 (Z1 (Z1 (Z1 (Z1 (Z1 (Z1 (Z1 (Z1 (Z1 (Z1 (Z1 (Z1 (Z1 (Z1 (Z1 hat hv0) hv1) hv2) hv3) hv4) hv5) hv6) hv7) hv8) hv9) hv10) hv11) hv12) hv13) hv14) hv15) hv16) hv17) hv18) hv19) hv20) hv21) hv22) hv23) hv24) hv25) ?_
  have S287 := S185.trans0 s278
  obtain ⟨hl288, HF⟩ := Zj HF
  refine Wv rfl (Zs rfl rfl hl288) <| Wa rfl rfl <| Z7 <| Z5 <| Z09 <| Zt rfl rfl ?_
  obtain rfl := Option.some.inj HF
  exact ⟨_, rfl, h277, S287, rfl⟩
 intro J289
 refine Za <| Z0 <| Wv rfl (Z2 rfl Z2d) <| Wv rfl (Z8 rfl Z0t (OB.cell ob10 (j := 0) rfl)) <| Z7 <| Z5 <| Z0c <| Za <| Z0 <| Wv rfl (Z0y rfl rfl) <| Wa rfl rfl <| Z7 <| Z5 <| Z12 HF rfl (fun HF => ?_) (fun HF => ?_)
 ·refine Za <| Z0 <| Wv rfl (Z2 rfl Z88) <| Wv rfl (Z8 rfl Z0t (OB.cell ob10 (j := 1) rfl)) <| Wv rfl (Z2 rfl Z7y) <| Wv rfl (Z8 rfl Z0t (OB.cell ob10 (j := 2) rfl)) ?_
  obtain ⟨r14, hr15, HF⟩ := Z6 HF
  refine Wc rfl (Zi (vs := [vi x1.kind, vi x1.n]) rfl t_ent_18) (ok_ref03_Const _ hr15 S12.sub) ?_
  rintro _ w17 ⟨h18, s19, _, _, rfl, rfl, rfl⟩
  have S20 := S12.trans0 s19
  refine Wm rfl rfl <| Wv rfl (Z1a rfl rfl) <| Wv rfl (Z1a rfl rfl) <| Wa rfl rfl <| Wa rfl rfl <| Z7 <| Z5 <| Za <| Z0 <| Wm rfl rfl <| Wa rfl rfl <| Z7 <| Z5 <| Z09 <| Z03 <| Zp <| Zt rfl rfl ?_
  obtain rfl := Option.some.inj HF
  exact ⟨_, rfl, h18, S20, rfl⟩
 refine Za <| Z0 <| Wv rfl (Z0y rfl rfl) <| Wa rfl rfl <| Z7 <| Z5 <| Z12 HF rfl (fun HF => ?_) (fun HF => ?_)
 ·refine Za <| Z0 <| Wv rfl (Z2 rfl Z4y) <| Wv rfl (Z8 rfl Z3l (OB.cell ob10 (j := 3) rfl)) <| Wa rfl rfl <| Z7 <| Z5 <| Z09 <| Z03 <| Zp <| Zt rfl rfl ?_
  obtain rfl := Option.some.inj HF
  exact ⟨_, rfl, h0, S12, rfl⟩
 refine Za <| Z0 <| Wv rfl (Z0y rfl rfl) <| Wa rfl rfl <| Z7 <| Z5 <| Z12 HF rfl (fun HF => ?_) (fun HF => ?_)
 ·refine Za <| Z0 <| Wv rfl (Z2 rfl Z4y) <| Wv rfl (Z8 rfl Z3l (OB.cell ob10 (j := 3) rfl)) ?_
  obtain ⟨hl23, HF⟩ := Zj HF
  refine Wv rfl (Zs rfl rfl hl23) <| Wv rfl (Z2 rfl Zb7) <| Wv rfl (Z8 rfl Z3l (OB.cell ob10 (j := 4) rfl)) ?_
  obtain ⟨hl24, HF⟩ := Zj HF
  refine Wv rfl (Zs rfl rfl hl24) <| Wa rfl rfl <| Z7 <| Z5 <| Z09 <| Z03 <| Zp <| Zt rfl rfl ?_
  obtain rfl := Option.some.inj HF
  exact ⟨_, rfl, h0, S12, rfl⟩
 refine Za <| Z0 <| Wv rfl (Z0y rfl rfl) <| Wa rfl rfl <| Z7 <| Z5 <| Z12 HF rfl (fun HF => ?_) (fun HF => ?_)
 ·refine Za ?_
  obtain ⟨hl26, HF⟩ := Zj HF
  obtain ⟨r27, hr28, HF⟩ := Z6 HF
  refine Z2z (m := 6) [(1, pt b7 0), (2, .string Z2c)] [1, 2] rfl (fun i v w h => match i with | 0 => v = pt b7 3 | 1 => v = .string x1.s | 2 => v = .string (x1.s ++ b'115) | 3 => v = pt b7 5 | 4 => v = v4 | 5 => v = .string r27 | _ => True) Z4c S12.sub rfl rfl rfl rfl rfl ?_ ?_ ?_
  ·intro i v w h w2 h2 hΦ hst
   match i, hΦ with
   | 0, hΦ | 1, hΦ | 2, hΦ | 3, hΦ | 4, hΦ | 5, hΦ => exact hΦ
   | i + 6, _ => exact trivial
  ·refine ⟨?_, ?_, ?_, ?_, ?_, ?_, trivial⟩
   ·intro a w29 h30 s31 hat hF
    exact Z4 hat rfl (Z2 rfl Z4y) s31.sub (by exact rfl)
   ·intro a w29 h30 s31 hat hF
    have ob32 := (ob10.step0 s31)
    exact Z4 (Z1 hat (hF 0 42 rfl rfl)) rfl (Z8 rfl Z3l (OB.cell ob32 (j := 3) rfl)) s31.sub (by exact rfl)
   ·intro a w29 h30 s31 hat hF
    exact Z4 (Z1 hat (hF 1 43 rfl rfl)) rfl (Zs rfl rfl hl26) s31.sub (by exact rfl)
   ·intro a w29 h30 s31 hat hF
    exact Z4 hat rfl (Z2 rfl Z0z) s31.sub (by exact rfl)
   ·intro a w29 h30 s31 hat hF
    have ob33 := (ob10.step0 s31)
    exact Z4 (Z1 hat (hF 3 45 rfl rfl)) rfl (Z8 rfl Z0h (OB.cell ob33 (j := 5) rfl)) s31.sub (by exact rfl)
   intro a w29 h30 s31 hat hF
   refine Z0n (Z1 hat (hF 4 46 rfl rfl)) rfl (Zi (vs := [v4]) rfl Zea) ((IH _ (Nat.le_refl _)).2.1 hr28 s31.sub (rs5.mono ((s9.le).trans s31.le))) ?_
   rintro _ w34 ⟨h35, s36, rfl⟩
   exact ⟨_, h35, rfl, s36, (by exact rfl)⟩
  intro a w29 h30 s31 hat hF
  obtain hv0 := hF 0 42 (by decide) rfl
  obtain hv1 := hF 1 43 (by decide) rfl
  obtain hv2 := hF 2 44 (by decide) rfl
  obtain hv3 := hF 3 45 (by decide) rfl
  obtain hv4 := hF 4 46 (by decide) rfl
  obtain hv5 := hF 5 47 (by decide) rfl
  refine Z7u [(47, .string r27), (46, v4), (45, pt b7 5), (44, .string (x1.s ++ b'115)), (43, .string x1.s), (42, pt b7 3), (1, pt b7 0), (2, .string Z2c)] (Z1 (Z1 (Z1 (Z1 (Z1 (Z1 hat hv0) hv1) hv2) hv3) hv4) hv5) ?_
  have S37 := S12.trans0 s31
  obtain ⟨hl38, HF⟩ := Zj HF
  refine Wv rfl (Zs rfl rfl hl38) ?_
  obtain ⟨hl39, HF⟩ := Zj HF
  refine Wv rfl (Zs rfl rfl hl39) <| Wa rfl rfl <| Z7 <| Z5 <| Z09 <| Z03 <| Zp <| Zt rfl rfl ?_
  obtain rfl := Option.some.inj HF
  exact ⟨_, rfl, h30, S37, rfl⟩
 refine Za <| Z0 <| Wv rfl (Z0y rfl rfl) <| Wa rfl rfl <| Z7 <| Z5 <| Z12 HF rfl (fun HF => ?_) (fun HF => ?_)
 ·refine Za ?_
  obtain ⟨hl41, HF⟩ := Zj HF
  obtain ⟨r42, hr43, HF⟩ := Z6 HF
  refine Z2z (m := 6) [(1, pt b7 0), (2, .string Z2c)] [1, 2] rfl (fun i v w h => match i with | 0 => v = pt b7 3 | 1 => v = .string x1.s | 2 => v = .string (x1.s ++ b'99) | 3 => v = pt b7 5 | 4 => v = v4 | 5 => v = .string r42 | _ => True) Z4c S12.sub rfl rfl rfl rfl rfl ?_ ?_ ?_
  ·intro i v w h w2 h2 hΦ hst
   match i, hΦ with
   | 0, hΦ | 1, hΦ | 2, hΦ | 3, hΦ | 4, hΦ | 5, hΦ => exact hΦ
   | i + 6, _ => exact trivial
  ·refine ⟨?_, ?_, ?_, ?_, ?_, ?_, trivial⟩
   ·intro a w44 h45 s46 hat hF
    exact Z4 hat rfl (Z2 rfl Z4y) s46.sub (by exact rfl)
   ·intro a w44 h45 s46 hat hF
    have ob47 := (ob10.step0 s46)
    exact Z4 (Z1 hat (hF 0 52 rfl rfl)) rfl (Z8 rfl Z3l (OB.cell ob47 (j := 3) rfl)) s46.sub (by exact rfl)
   ·intro a w44 h45 s46 hat hF
    exact Z4 (Z1 hat (hF 1 53 rfl rfl)) rfl (Zs rfl rfl hl41) s46.sub (by exact rfl)
   ·intro a w44 h45 s46 hat hF
    exact Z4 hat rfl (Z2 rfl Z0z) s46.sub (by exact rfl)
   ·intro a w44 h45 s46 hat hF
    have ob48 := (ob10.step0 s46)
    exact Z4 (Z1 hat (hF 3 55 rfl rfl)) rfl (Z8 rfl Z0h (OB.cell ob48 (j := 5) rfl)) s46.sub (by exact rfl)
   intro a w44 h45 s46 hat hF
   refine Z0n (Z1 hat (hF 4 56 rfl rfl)) rfl (Zi (vs := [v4]) rfl Zea) ((IH _ (Nat.le_refl _)).2.1 hr43 s46.sub (rs5.mono ((s9.le).trans s46.le))) ?_
   rintro _ w49 ⟨h50, s51, rfl⟩
   exact ⟨_, h50, rfl, s51, (by exact rfl)⟩
  intro a w44 h45 s46 hat hF
  obtain hv0 := hF 0 52 (by decide) rfl
  obtain hv1 := hF 1 53 (by decide) rfl
  obtain hv2 := hF 2 54 (by decide) rfl
  obtain hv3 := hF 3 55 (by decide) rfl
  obtain hv4 := hF 4 56 (by decide) rfl
  obtain hv5 := hF 5 57 (by decide) rfl
  refine Z7u [(57, .string r42), (56, v4), (55, pt b7 5), (54, .string (x1.s ++ b'99)), (53, .string x1.s), (52, pt b7 3), (1, pt b7 0), (2, .string Z2c)] (Z1 (Z1 (Z1 (Z1 (Z1 (Z1 hat hv0) hv1) hv2) hv3) hv4) hv5) ?_
  have S52 := S12.trans0 s46
  obtain ⟨hl53, HF⟩ := Zj HF
  refine Wv rfl (Zs rfl rfl hl53) ?_
  obtain ⟨hl54, HF⟩ := Zj HF
  refine Wv rfl (Zs rfl rfl hl54) <| Wa rfl rfl <| Z7 <| Z5 <| Z09 <| Z03 <| Zp <| Zt rfl rfl ?_
  obtain rfl := Option.some.inj HF
  exact ⟨_, rfl, h45, S52, rfl⟩
 refine Za <| Z0 <| Wv rfl (Z0y rfl rfl) <| Wa rfl rfl <| Z7 <| Z5 <| Z12 HF rfl (fun HF => ?_) (fun HF => ?_)
 ·refine Za <| Z0 <| Wv rfl (Z2 rfl Z0z) <| Wv rfl (Z8 rfl Z0h (OB.cell ob10 (j := 5) rfl)) ?_
  obtain ⟨A56, c57, rfl, rs58⟩ := RS.form (rs5.mono (s9.le))
  obtain ⟨e59, he60, HF⟩ := Z6 HF
  obtain ⟨b61, o62, rfl, h64, h65, ra63⟩ := RS.atO rs58 he60
  obtain ⟨cs66, r67, hc68⟩ := ra63
  refine Wv rfl (Zk rfl rfl Zx Zu h64 h65) <| Wv rfl (Z0w (cs := cs66) rfl Z1u (by rw [Rp.len r67]; exact Zu) (fun j v hv => S12.sub.at_ _ _ _ (hc68 j v hv))) ?_
  obtain ⟨r69, hr70, HF⟩ := Z6 HF
  refine Wc rfl (Zi (vs := [.agg cs66.toArray]) rfl t_ent_30) (Ze9 _ hr70 S12.sub r67) ?_
  rintro _ w72 ⟨h73, s74, _, _, rfl, rfl, rfl⟩
  have S75 := S12.trans0 s74
  refine Wm rfl rfl <| Wv rfl (Z1a rfl rfl) <| Wv rfl (Z1a rfl rfl) <| Wa rfl rfl <| Wa rfl rfl <| Z7 <| Z5 <| Za <| Z0 <| Wv rfl (Z2 rfl Z0z) ?_
  have ob76 := (ob10.step0 s74)
  refine Wv rfl (Z8 rfl Z0h (OB.cell ob76 (j := 5) rfl)) ?_
  obtain ⟨e77, he78, HF⟩ := Z6 HF
  obtain ⟨b79, o80, hA, h82, h83, ra81⟩ := RS.atO (rs58.mono (s74.le)) he78
  obtain ⟨rfl, rfl⟩ := Z5m hA
  obtain ⟨cs84, r85, hc86⟩ := ra81
  refine Wv rfl (Zk rfl rfl Zx Zu h82 h83) <| Wv rfl (Z0w (cs := cs84) rfl Z1u (by rw [Rp.len r85]; exact Zu) (fun j v hv => S75.sub.at_ _ _ _ (hc86 j v hv))) <| Wm rfl rfl ?_
  obtain ⟨r87, hr88, HF⟩ := Z6 HF
  refine Wc rfl (Zi (vs := [.agg cs84.toArray, .bool r69.2]) rfl Zdq) ((IH _ (Nat.le_refl _)).2.2 hr88 S75.sub r85) ?_
  rintro _ w90 ⟨h91, s92, rfl⟩
  have S93 := S75.trans0 s92
  obtain ⟨hl94, HF⟩ := Zj HF
  refine Wv rfl (Zs rfl rfl hl94) <| Wa rfl rfl <| Z7 <| Z5 <| Z09 <| Z03 <| Zp <| Zt rfl rfl ?_
  obtain rfl := Option.some.inj HF
  exact ⟨_, rfl, h91, S93, rfl⟩
 refine Za <| Z0 <| Wv rfl (Z0y rfl rfl) <| Wa rfl rfl <| Z7 <| Z5 <| Z12 HF rfl (fun HF => ?_) (fun HF => ?_)
 ·refine Za <| Z0 <| Wv rfl (Z2 rfl Z0z) <| Wv rfl (Z8 rfl Z0h (OB.cell ob10 (j := 5) rfl)) ?_
  obtain ⟨A96, c97, rfl, rs98⟩ := RS.form (rs5.mono (s9.le))
  obtain ⟨e99, he100, HF⟩ := Z6 HF
  obtain ⟨b101, o102, rfl, h104, h105, ra103⟩ := RS.atO rs98 he100
  obtain ⟨cs106, r107, hc108⟩ := ra103
  refine Wv rfl (Zk rfl rfl Zx Zu h104 h105) <| Wv rfl (Z0w (cs := cs106) rfl Z1u (by rw [Rp.len r107]; exact Zu) (fun j v hv => S12.sub.at_ _ _ _ (hc108 j v hv))) ?_
  obtain ⟨r109, hr110, HF⟩ := Z6 HF
  refine Wc rfl (Zi (vs := [.agg cs106.toArray]) rfl t_ent_30) (Ze9 _ hr110 S12.sub r107) ?_
  rintro _ w112 ⟨h113, s114, _, _, rfl, rfl, rfl⟩
  have S115 := S12.trans0 s114
  refine Wm rfl rfl <| Wv rfl (Z1a rfl rfl) <| Wv rfl (Z1a rfl rfl) <| Wa rfl rfl <| Wa rfl rfl <| Z7 <| Z5 <| Za <| Z0 <| Wv rfl (Z2 rfl Z0z) ?_
  have ob116 := (ob10.step0 s114)
  refine Wv rfl (Z8 rfl Z0h (OB.cell ob116 (j := 5) rfl)) ?_
  obtain ⟨e117, he118, HF⟩ := Z6 HF
  obtain ⟨b119, o120, hA, h122, h123, ra121⟩ := RS.atO (rs98.mono (s114.le)) he118
  obtain ⟨rfl, rfl⟩ := Z5m hA
  obtain ⟨cs124, r125, hc126⟩ := ra121
  refine Wv rfl (Zk rfl rfl Zx Zu h122 h123) <| Wv rfl (Z0w (cs := cs124) rfl Z1u (by rw [Rp.len r125]; exact Zu) (fun j v hv => S115.sub.at_ _ _ _ (hc126 j v hv))) <| Wm rfl rfl ?_
  obtain ⟨r127, hr128, HF⟩ := Z6 HF
  refine Wc rfl (Zi (vs := [.agg cs124.toArray, .bool r109.2]) rfl Zdq) ((IH _ (Nat.le_refl _)).2.2 hr128 S115.sub r125) ?_
  rintro _ w130 ⟨h131, s132, rfl⟩
  have S133 := S115.trans0 s132
  obtain ⟨hl134, HF⟩ := Zj HF
  refine Wv rfl (Zs rfl rfl hl134) <| Wa rfl rfl <| Z7 <| Z5 <| Z09 <| Z03 <| Zp <| Zt rfl rfl ?_
  obtain rfl := Option.some.inj HF
  exact ⟨_, rfl, h131, S133, rfl⟩
 refine Zm <| Zv <| Z06 [1] _ rfl ?_
 exact J289 ⟨h0, HF, rfl, S12, Hle.refl _, ob10⟩
theorem s_ref03_Exprs (k : Nat) (IH : ∀ j, j ≤ k → Zb3 (Zn j).ref03_Expr ∧ Z9t (Zn j).ref03_Exprs ∧ Z7b (Zn j).ref03_operand) : Z9t (m_ref03_Exprs k (Zn k)) := by
 intro xs1 r HF w0 h0 v2 hs0 rs3
 have S0 : Stp [] w0 h0 w0 h0 := Stp.refl hs0 _
 refine Z66 (n := 23) Tryz.func29 rfl Tryz.ntmps29 rfl [(0, v2)] rfl <| Za <| Z0 <| Wa rfl rfl <| Z7 <| Z5 <| Za <| Z0 <| Wa rfl rfl <| Z7 <| Z5 <| Za <| Za <| Z0 <| Wa rfl rfl <| Z7 <| Z5 <| Z0c <| Z4j <| Z8e [0, 3, 4] [(0, v2), (3, .string Z2c), (4, vi 0)] rfl <| Z4m (K := k) (fun j E w5 => ∃ (h4 : Hp) (x8 : ByteArray) (x9 : Int), (Zn j).ref03_Exprs_l1 xs1 x8 x9 = some r ∧ E = [(0, v2), (3, .string x8), (4, vi x9)] ∧ Stp [] w0 h0 w5 h4 ∧ Hle h0 h4) ?_ ?_ (j := k) (Nat.le_refl _) ?_
 ·rintro E w5 ⟨_, _, _, HF, _⟩; cases HF
 ·rintro j10 hj12 IHL11 E w5 ⟨h4, x8, x9, HF, rfl, S7, le6⟩
  refine Z04 (fun E w18 => ∃ (h17 : Hp), Zca j10 (Zn j10) xs1 x8 x9 = some r ∧ E = [(0, v2), (3, .string x8), (4, vi x9)] ∧ Stp [] w0 h0 w18 h17 ∧ Hle h4 h17) ?_ ?_
  ·rintro E w18 ⟨h17, HF, rfl, S20, le19⟩
   refine Z04 (fun E w51 => ∃ (h50 : Hp) (x54 : ByteArray), Zc8 j10 (Zn j10) xs1 x9 x54 = some r ∧ E = [(0, v2), (3, .string x54), (4, vi x9)] ∧ Stp [] w0 h0 w51 h50 ∧ Hle h17 h50) ?_ ?_
   ·rintro E w51 ⟨h50, x54, HF, rfl, S53, le52⟩
    refine Z0 <| Wm rfl rfl <| Wv rfl (Z2v rfl rfl) <| Wa rfl rfl <| Z7 <| Z2x <| Z8e [0, 3, 4] [(0, v2), (3, .string x54), (4, vi (IntKind.i64.wrap (x9 + 1)))] rfl ?_
    exact IHL11 j10 (Nat.le_refl _) _ _ ⟨h50, x54, IntKind.i64.wrap (x9 + 1), HF, rfl, S53, (le6).trans ((le19).trans le52)⟩
   intro J55
   refine Z0c <| Z04 (fun E w24 => ∃ (h23 : Hp) (x27 : ByteArray), Zab j10 (Zn j10) xs1 x9 x27 = some r ∧ E = [(0, v2), (3, .string x27), (4, vi x9)] ∧ Stp [] w0 h0 w24 h23 ∧ Hle h17 h23) ?_ ?_
   ·rintro E w24 ⟨h23, x27, HF, rfl, S26, le25⟩
    refine Z0 <| Wm rfl rfl <| Wm rfl rfl <| Wm rfl rfl ?_
    obtain ⟨A28, c29, rfl, rs30⟩ := RS.form (rs3.mono ((le6).trans ((le19).trans le25)))
    obtain ⟨e31, he32, HF⟩ := Z6 HF
    obtain ⟨b33, o34, rfl, h36, h37, ra35⟩ := RS.atO rs30 he32
    obtain ⟨cs38, r39, hc40⟩ := ra35
    refine Wv rfl (Zk rfl rfl Zx Zu h36 h37) <| Wv rfl (Z0w (cs := cs38) rfl Z1u (by rw [Rp.len r39]; exact Zu) (fun j v hv => S26.sub.at_ _ _ _ (hc40 j v hv))) ?_
    obtain ⟨r41, hr42, HF⟩ := Z6 HF
    refine Wc rfl (Zi (vs := [.agg cs38.toArray]) rfl t_ent_16) ((IH _ (Nat.le_trans (Nat.le_of_succ_le hj12) (Nat.le_refl _))).1 hr42 S26.sub r39) ?_
    rintro _ w44 ⟨h45, s46, rfl⟩
    have S47 := S26.trans0 s46
    obtain ⟨hl48, HF⟩ := Zj HF
    refine Wv rfl (Zs rfl rfl hl48) <| Wa rfl rfl <| Z7 <| Zv <| Z06 [0, 3, 4] _ rfl ?_
    exact J55 ⟨h45, x27 ++ r41, HF, rfl, S47, (le25).trans s46.le⟩
   intro J49
   refine Za <| Z0 <| Wm rfl rfl <| Wv rfl (Zao rfl rfl) <| Z7 <| Z5 <| Z12 HF rfl (fun HF => ?_) (fun HF => ?_)
   ·refine Z0 <| Wm rfl rfl ?_
    obtain ⟨hl22, HF⟩ := Zj HF
    refine Wv rfl (Zs rfl rfl hl22) <| Wa rfl rfl <| Z7 <| Z06 [0, 3, 4] _ rfl ?_
    exact J49 ⟨h17, x8 ++ b'103, HF, rfl, S20, Hle.refl _⟩
   refine Zm <| Z06 [0, 3, 4] _ rfl ?_
   exact J49 ⟨h17, x8, HF, rfl, S20, Hle.refl _⟩
  intro J56
  refine Za <| Z0 <| Wm rfl rfl <| Wm rfl rfl ?_
  obtain ⟨A13, c14, rfl, rs15⟩ := RS.form (rs3.mono (le6))
  refine Wv rfl (Z0v rfl Zx) <| Wv rfl (Z6q rfl rfl) <| Z7 <| Z5 <| Z12 HF rfl (fun HF => ?_) (fun HF => ?_)
  ·refine Zm <| Z06 [0, 3, 4] _ rfl ?_
   exact J56 ⟨h4, HF, rfl, S7, Hle.refl _⟩
  refine Z4b <| Zr <| Zr <| Z0x <| Z5 <| Za <| Z0 <| Wm rfl rfl <| Wa rfl rfl <| Z7 <| Z5 <| Z09 <| Zt rfl rfl ?_
  obtain rfl := Option.some.inj HF
  exact ⟨_, rfl, h4, S7, rfl⟩
 exact ⟨h0, Z2c, 0, HF, rfl, S0, Hle.refl _⟩
theorem s_ref03_operand (k : Nat) (IH : ∀ j, j ≤ k → Zb3 (Zn j).ref03_Expr ∧ Z9t (Zn j).ref03_Exprs ∧ Z7b (Zn j).ref03_operand) : Z7b (Z95 k (Zn k)) := by
 intro x1 x4 r HF w0 h0 cs2 hs0 r3
 have S0 : Stp [] w0 h0 w0 h0 := Stp.refl hs0 _
 refine Z66 (n := 12) Tryz.func31 rfl Tryz.ntmps31 rfl [(0, .agg cs2.toArray), (1, .bool x4)] rfl <| Za <| Z0 ?_
 obtain ⟨v5, rfl, rs6⟩ := rp_Ex.1 r3
 refine Zd2 (cs := [vi x1.op, vi x1.kind, vi x1.n, .string x1.s, .string x1.f, v5]) rfl rfl rfl rfl S0.sub (fun w7 b8 hb9 s10 ob11 => ?_)
 have g12 : w0.heap.size ≤ b8 := by rw [hb9]; exact S0.size
 have S13 := S0.trans0 s10
 refine Wa rfl rfl <| Z7 <| Z5 <| Z04 (fun E w25 => ∃ (h24 : Hp), Zcu k (Zn k) x1 = some r ∧ E = [(2, pt b8 0)] ∧ Stp [] w0 h0 w25 h24 ∧ Hle h0 h24 ∧ OB w25 h24 b8 32 [vi x1.op, vi x1.kind, vi x1.n, .string x1.s, .string x1.f, v5]) ?_ ?_
 ·rintro E w25 ⟨h24, HF, rfl, S27, le26, ob28⟩
  refine Za <| Z0 <| Wv rfl (Z0w (cs := [vi x1.op, vi x1.kind, vi x1.n, .string x1.s, .string x1.f, v5]) rfl Z1u Zu (OB.cells ob28 0 rfl)) ?_
  obtain ⟨r29, hr30, HF⟩ := Z6 HF
  refine Wc rfl (Zi (vs := [.agg #[vi x1.op, vi x1.kind, vi x1.n, .string x1.s, .string x1.f, v5]]) rfl t_ent_16) ((IH _ (Nat.le_refl _)).1 hr30 S27.sub (rp_Ex.2 ⟨_, rfl, (rs6.mono ((s10.le).trans le26))⟩)) ?_
  rintro _ w32 ⟨h33, s34, rfl⟩
  have S35 := S27.trans0 s34
  refine Wa rfl rfl <| Z7 <| Z5 <| Z09 <| Zt rfl rfl ?_
  obtain rfl := Option.some.inj HF
  exact ⟨_, rfl, h33, S35, rfl⟩
 intro J36
 refine Za <| Z0 <| Wm rfl rfl <| Z7 <| Z5 <| Z12 HF rfl (fun HF => ?_) (fun HF => ?_)
 ·refine Za <| Z0 <| Wv rfl (Z0w (cs := [vi x1.op, vi x1.kind, vi x1.n, .string x1.s, .string x1.f, v5]) rfl Z1u Zu (OB.cells ob11 0 rfl)) ?_
  obtain ⟨r15, hr16, HF⟩ := Z6 HF
  refine Wc rfl (Zi (vs := [.agg #[vi x1.op, vi x1.kind, vi x1.n, .string x1.s, .string x1.f, v5]]) rfl t_ent_16) ((IH _ (Nat.le_refl _)).1 hr16 S13.sub (rp_Ex.2 ⟨_, rfl, (rs6.mono (s10.le))⟩)) ?_
  rintro _ w18 ⟨h19, s20, rfl⟩
  have S21 := S13.trans0 s20
  obtain ⟨hl22, HF⟩ := Zj HF
  refine Wv rfl (Zs rfl rfl hl22) ?_
  obtain ⟨hl23, HF⟩ := Zj HF
  refine Wv rfl (Zs rfl rfl hl23) <| Wa rfl rfl <| Z7 <| Z5 <| Z09 <| Zp <| Zt rfl rfl ?_
  obtain rfl := Option.some.inj HF
  exact ⟨_, rfl, h19, S21, rfl⟩
 refine Zm <| Z06 [2] _ rfl ?_
 exact J36 ⟨h0, HF, rfl, S13, Hle.refl _, ob11⟩
theorem Zek : ∀ k j, j ≤ k → Zb3 (Zn j).ref03_Expr ∧ Z9t (Zn j).ref03_Exprs ∧ Z7b (Zn j).ref03_operand := by
  intro k
  induction k with
  | zero =>
    intro j hj
    obtain rfl : j = 0 := by omega
    exact ⟨(fun _ _ => by intro h; cases h), (fun _ _ => by intro h; cases h), (fun _ _ _ => by intro h; cases h)⟩
  | succ k ih =>
    intro j hj
    by_cases h : j ≤ k
    · exact ih j h
    · obtain rfl : j = k + 1 := by omega
      exact ⟨s_ref03_Expr k ih, s_ref03_Exprs k ih, s_ref03_operand k ih⟩
theorem ok_ref03_Expr (k : Nat) : Zb3 (Z3g k) := (Zek k k (Nat.le_refl _)).1
theorem Z6t (k : Nat) : Z9t (Z1y k) := (Zek k k (Nat.le_refl _)).2.1
theorem ok_ref03_operand (k : Nat) : Z7b (F_ref03_operand k) := (Zek k k (Nat.le_refl _)).2.2

def Zcc (φ : (List ByteArray) → (List Ex) → Option ByteArray) : Prop := ∀ ⦃xs1 : List ByteArray⦄ ⦃xs4 : List Ex⦄ ⦃r : ByteArray⦄, φ xs1 xs4 = some r → ∀ ⦃w0 : World⦄ ⦃h0 : Hp⦄ ⦃v2 : Value⦄ ⦃v5 : Value⦄, Sub h0 w0 → RS h0 v2 xs1 → RS h0 v5 xs4 →
  Calls Tryz.prog 76 #[v2, v5] w0 fun e w1 => ∃ v, e = .returned v ∧ ∃ h1, Stp [] w0 h0 w1 h1 ∧ v = .string r
theorem s_ref03_Fields (k : Nat) (IH : ∀ j, j ≤ k → Zcc (Z1j j).ref03_Fields) : Zcc (Zew k (Z1j k)) := by
 intro xs1 xs4 r HF w0 h0 v2 v5 hs0 rs3 rs6
 have S0 : Stp [] w0 h0 w0 h0 := Stp.refl hs0 _
 refine Z66 (n := 31) Tryz.func76 rfl Tryz.ntmps76 rfl [(0, v2), (1, v5)] rfl <| Za <| Z0 <| Wa rfl rfl <| Z7 <| Z5 <| Za <| Z0 <| Wa rfl rfl <| Z7 <| Z5 <| Za <| Za <| Z0 <| Wa rfl rfl <| Z7 <| Z5 <| Z0c <| Z4j <| Z8e [0, 1, 5, 6] [(0, v2), (1, v5), (5, .string Z2c), (6, vi 0)] rfl <| Z4m (K := k) (fun j E w8 => ∃ (h7 : Hp) (x11 : ByteArray) (x12 : Int), (Z1j j).ref03_Fields_l1 xs1 xs4 x11 x12 = some r ∧ E = [(0, v2), (1, v5), (5, .string x11), (6, vi x12)] ∧ Stp [] w0 h0 w8 h7 ∧ Hle h0 h7) ?_ ?_ (j := k) (Nat.le_refl _) ?_
 ·rintro E w8 ⟨_, _, _, HF, _⟩; cases HF
 ·rintro j13 hj15 IHL14 E w8 ⟨h7, x11, x12, HF, rfl, S10, le9⟩
  refine Z04 (fun E w21 => ∃ (h20 : Hp), Zbe j13 (Z1j j13) xs1 xs4 x11 x12 = some r ∧ E = [(0, v2), (1, v5), (5, .string x11), (6, vi x12)] ∧ Stp [] w0 h0 w21 h20 ∧ Hle h7 h20) ?_ ?_
  ·rintro E w21 ⟨h20, HF, rfl, S23, le22⟩
   refine Z04 (fun E w71 => ∃ (h70 : Hp) (x74 : ByteArray), Zbm j13 (Z1j j13) xs1 xs4 x12 x74 = some r ∧ E = [(0, v2), (1, v5), (5, .string x74), (6, vi x12)] ∧ Stp [] w0 h0 w71 h70 ∧ Hle h20 h70) ?_ ?_
   ·rintro E w71 ⟨h70, x74, HF, rfl, S73, le72⟩
    refine Z0 <| Wm rfl rfl <| Wv rfl (Z2v rfl rfl) <| Wa rfl rfl <| Z7 <| Z2x <| Z8e [0, 1, 5, 6] [(0, v2), (1, v5), (5, .string x74), (6, vi (IntKind.i64.wrap (x12 + 1)))] rfl ?_
    exact IHL14 j13 (Nat.le_refl _) _ _ ⟨h70, x74, IntKind.i64.wrap (x12 + 1), HF, rfl, S73, (le9).trans ((le22).trans le72)⟩
   intro J75
   refine Z0c <| Z04 (fun E w27 => ∃ (h26 : Hp) (x30 : ByteArray), Z91 j13 (Z1j j13) xs1 xs4 x12 x30 = some r ∧ E = [(0, v2), (1, v5), (5, .string x30), (6, vi x12)] ∧ Stp [] w0 h0 w27 h26 ∧ Hle h20 h26) ?_ ?_
   ·rintro E w27 ⟨h26, x30, HF, rfl, S29, le28⟩
    obtain ⟨A31, c32, rfl, rs33⟩ := RS.form (rs3.mono ((le9).trans ((le22).trans le28)))
    obtain ⟨e34, he35, HF⟩ := Z6 HF
    obtain ⟨b36, o37, rfl, h39, h40, ra38⟩ := RS.atO rs33 he35
    obtain ⟨cs41, r42, hc43⟩ := ra38
    obtain rfl := (show cs41 = _ from r42)
    obtain ⟨hl44, HF⟩ := Zj HF
    obtain ⟨hl45, HF⟩ := Zj HF
    obtain ⟨A46, c47, rfl, rs48⟩ := RS.form (rs6.mono ((le9).trans ((le22).trans le28)))
    obtain ⟨e49, he50, HF⟩ := Z6 HF
    obtain ⟨b51, o52, rfl, h54, h55, ra53⟩ := RS.atO rs48 he50
    obtain ⟨cs56, r57, hc58⟩ := ra53
    obtain ⟨r59, hr60, HF⟩ := Z6 HF
    refine Z2z (m := 12) [(0, sl b36 o37 (xs1).length c32), (1, sl b51 o52 (xs4).length c47), (5, .string x30), (6, vi x12)] [0, 1, 5, 6] rfl (fun i v w h => match i with | 0 => v = .string x30 | 1 => v = sl b36 o37 (xs1).length c32 | 2 => v = vi x12 | 3 => v = pt b36 (o37 + Int.toNat x12 * 1) | 4 => v = .string e34 | 5 => v = .string (x30 ++ e34) | 6 => v = .string ((x30 ++ e34) ++ b'96) | 7 => v = sl b51 o52 (xs4).length c47 | 8 => v = vi x12 | 9 => v = pt b51 (o52 + Int.toNat x12 * 6) | 10 => v = .agg cs56.toArray | 11 => v = .string r59 | _ => True) Z4c S29.sub rfl rfl rfl rfl rfl ?_ ?_ ?_
    ·intro i v w h w2 h2 hΦ hst
     match i, hΦ with
     | 0, hΦ | 1, hΦ | 2, hΦ | 3, hΦ | 4, hΦ | 5, hΦ | 6, hΦ | 7, hΦ | 8, hΦ | 9, hΦ | 10, hΦ | 11, hΦ => exact hΦ
     | i + 12, _ => exact trivial
    ·refine ⟨?_, ?_, ?_, ?_, ?_, ?_, ?_, ?_, ?_, ?_, ?_, ?_, trivial⟩
     ·intro a w61 h62 s63 hat hF
      exact Z4 hat rfl (Z0j rfl) s63.sub (by exact rfl)
     ·intro a w61 h62 s63 hat hF
      exact Z4 hat rfl (Z0j rfl) s63.sub (by exact rfl)
     ·intro a w61 h62 s63 hat hF
      exact Z4 hat rfl (Z0j rfl) s63.sub (by exact rfl)
     ·intro a w61 h62 s63 hat hF
      exact Z4 (Z1 (Z1 hat (hF 1 18 rfl rfl)) (hF 2 19 rfl rfl)) rfl (Zk rfl rfl Z26 Z6k h39 h40) s63.sub (by exact rfl)
     ·intro a w61 h62 s63 hat hF
      exact Z4 (Z1 hat (hF 3 20 rfl rfl)) rfl (Z8 rfl Z3l (s63.sub.at_ _ _ _ ((fun i v hv => (s63.le).1 _ _ _ (hc43 i v hv)) 0 _ rfl))) s63.sub (by exact rfl)
     ·intro a w61 h62 s63 hat hF
      exact Z4 (Z1 (Z1 hat (hF 0 17 rfl rfl)) (hF 4 21 rfl rfl)) rfl (Zs rfl rfl hl44) s63.sub (by exact rfl)
     ·intro a w61 h62 s63 hat hF
      exact Z4 (Z1 hat (hF 5 22 rfl rfl)) rfl (Zs rfl rfl hl45) s63.sub (by exact rfl)
     ·intro a w61 h62 s63 hat hF
      exact Z4 hat rfl (Z0j rfl) s63.sub (by exact rfl)
     ·intro a w61 h62 s63 hat hF
      exact Z4 hat rfl (Z0j rfl) s63.sub (by exact rfl)
     ·intro a w61 h62 s63 hat hF
      exact Z4 (Z1 (Z1 hat (hF 7 24 rfl rfl)) (hF 8 25 rfl rfl)) rfl (Zk rfl rfl Zx Zu h54 h55) s63.sub (by exact rfl)
     ·intro a w61 h62 s63 hat hF
      exact Z4 (Z1 hat (hF 9 26 rfl rfl)) rfl (Z0w (cs := cs56) rfl Z1u (by rw [Rp.len (Rp.mono (s63.le) r57)]; exact Zu) (fun j v hv => s63.sub.at_ _ _ _ ((fun i v hv => (s63.le).1 _ _ _ (hc58 i v hv)) j v hv))) s63.sub (by exact rfl)
     intro a w61 h62 s63 hat hF
     refine Z0n (Z1 hat (hF 10 27 rfl rfl)) rfl (Zi (vs := [.agg cs56.toArray]) rfl t_ent_16) (ok_ref03_Expr _ hr60 s63.sub (Rp.mono (s63.le) r57)) ?_
     rintro _ w64 ⟨h65, s66, rfl⟩
     exact ⟨_, h65, rfl, s66, (by exact rfl)⟩
    intro a w61 h62 s63 hat hF
    obtain hv0 := hF 0 17 (by decide) rfl
    obtain hv1 := hF 1 18 (by decide) rfl
    obtain hv2 := hF 2 19 (by decide) rfl
    obtain hv3 := hF 3 20 (by decide) rfl
    obtain hv4 := hF 4 21 (by decide) rfl
    obtain hv5 := hF 5 22 (by decide) rfl
    obtain hv6 := hF 6 23 (by decide) rfl
    obtain hv7 := hF 7 24 (by decide) rfl
    obtain hv8 := hF 8 25 (by decide) rfl
    obtain hv9 := hF 9 26 (by decide) rfl
    obtain hv10 := hF 10 27 (by decide) rfl
    obtain hv11 := hF 11 28 (by decide) rfl
    refine Z7u [(28, .string r59), (27, .agg cs56.toArray), (26, pt b51 (o52 + Int.toNat x12 * 6)), (25, vi x12), (24, sl b51 o52 (xs4).length c47), (23, .string ((x30 ++ e34) ++ b'96)), (22, .string (x30 ++ e34)), (21, .string e34), (20, pt b36 (o37 + Int.toNat x12 * 1)), (19, vi x12), (18, sl b36 o37 (xs1).length c32), (17, .string x30), (0, sl b36 o37 (xs1).length c32), (1, sl b51 o52 (xs4).length c47), (5, .string x30), (6, vi x12)] (Z1 (Z1 (Z1 (Z1 (Z1 (Z1 (Z1 (Z1 (Z1 (Z1 (Z1 (Z1 hat hv0) hv1) hv2) hv3) hv4) hv5) hv6) hv7) hv8) hv9) hv10) hv11) ?_
    have S67 := S29.trans0 s63
    obtain ⟨hl68, HF⟩ := Zj HF
    refine Wv rfl (Zs rfl rfl hl68) <| Wa rfl rfl <| Z7 <| Zv <| Z06 [0, 1, 5, 6] _ rfl ?_
    exact J75 ⟨h62, ((x30 ++ e34) ++ b'96) ++ r59, HF, rfl, S67, (le28).trans s63.le⟩
   intro J69
   refine Za <| Z0 <| Wm rfl rfl <| Wv rfl (Zao rfl rfl) <| Z7 <| Z5 <| Z12 HF rfl (fun HF => ?_) (fun HF => ?_)
   ·refine Z0 <| Wm rfl rfl ?_
    obtain ⟨hl25, HF⟩ := Zj HF
    refine Wv rfl (Zs rfl rfl hl25) <| Wa rfl rfl <| Z7 <| Z06 [0, 1, 5, 6] _ rfl ?_
    exact J69 ⟨h20, x11 ++ b'103, HF, rfl, S23, Hle.refl _⟩
   refine Zm <| Z06 [0, 1, 5, 6] _ rfl ?_
   exact J69 ⟨h20, x11, HF, rfl, S23, Hle.refl _⟩
  intro J76
  refine Za <| Z0 <| Wm rfl rfl <| Wm rfl rfl ?_
  obtain ⟨A16, c17, rfl, rs18⟩ := RS.form (rs6.mono (le9))
  refine Wv rfl (Z0v rfl Zx) <| Wv rfl (Z6q rfl rfl) <| Z7 <| Z5 <| Z12 HF rfl (fun HF => ?_) (fun HF => ?_)
  ·refine Zm <| Z06 [0, 1, 5, 6] _ rfl ?_
   exact J76 ⟨h7, HF, rfl, S10, Hle.refl _⟩
  refine Z4b <| Zr <| Zr <| Z0x <| Z5 <| Za <| Z0 <| Wm rfl rfl <| Wa rfl rfl <| Z7 <| Z5 <| Z09 <| Zt rfl rfl ?_
  obtain rfl := Option.some.inj HF
  exact ⟨_, rfl, h7, S10, rfl⟩
 exact ⟨h0, Z2c, 0, HF, rfl, S0, Hle.refl _⟩
theorem all_ref03_Fields : ∀ k j, j ≤ k → Zcc (Z1j j).ref03_Fields := by
  intro k
  induction k with
  | zero =>
    intro j hj
    obtain rfl : j = 0 := by omega
    exact (fun _ _ _ => by intro h; cases h)
  | succ k ih =>
    intro j hj
    by_cases h : j ≤ k
    · exact ih j h
    · obtain rfl : j = k + 1 := by omega
      exact s_ref03_Fields k ih
theorem ok_ref03_Fields (k : Nat) : Zcc (Zai k) := (all_ref03_Fields k k (Nat.le_refl _))
end Go.Proofs.YtaknpdhmhifpeaaGreatDoor
