import Derived.Test.YtaknpdhmhifpeaaGreatDoorE0
import Derived.Test.YtaknpdhmhifpeaaGreatDoorGP0
set_option linter.unusedVariables false
set_option linter.unusedSimpArgs false
namespace Go.Proofs.YtaknpdhmhifpeaaGreatDoor
open Go
def C_print_printer_stmt (φ : Bool → (List UInt8) → ByteArray → St → Option (Bool × List UInt8 × ByteArray)) : Prop := ∀ ⦃x2 : Bool⦄ ⦃xs3 : List UInt8⦄ ⦃x9 : ByteArray⦄ ⦃x11 : St⦄ ⦃r : Bool × List UInt8 × ByteArray⦄, φ x2 xs3 x9 x11 = some r → ∀ ⦃w0 : World⦄ ⦃h0 : Hp⦄ ⦃b1 : Nat⦄ ⦃A4 : Option Addr⦄ ⦃c5 : Nat⦄ ⦃cs12 : List Value⦄, Sub h0 w0 → RS h0 (.slice A4 xs3.length c5) xs3 → Own w0 h0 h0.base 5 1 (.slice A4 xs3.length c5) xs3.length → Rp.R h0 x11 cs12 → OB w0 h0 b1 55 [.pointer (bif x2 then some ⟨b1, 0, none⟩ else none), .slice A4 xs3.length c5, .string x9] → (5 : Nat) ≠ 55 →
  Calls Tryz.prog 20 #[.pointer (some ⟨b1, 0, none⟩), .agg cs12.toArray] w0 fun e w1 => ∃ v, e = .returned v ∧ ∃ h1, Stp (b1 :: ((Value.slice A4 xs3.length c5).ownBlock.toList ++ [])) w0 h0 w1 h1 ∧ v = .tuple #[] ∧ (∃ y0 : Value, RS h1 y0 r.2.1 ∧ Own w1 h1 h0.base 5 1 y0 r.2.1.length ∧ (∀ i ∈ y0.ownBlock.toList, i ∈ (Value.slice A4 xs3.length c5).ownBlock.toList ∨ w0.heap.size ≤ i) ∧ OB w1 h1 b1 55 [.pointer (bif r.1 then some ⟨b1, 0, none⟩ else none), y0, .string r.2.2])
def C_print_printer_text (φ : Bool → (List UInt8) → ByteArray → (List St) → Option (Bool × List UInt8 × ByteArray)) : Prop := ∀ ⦃x2 : Bool⦄ ⦃xs3 : List UInt8⦄ ⦃x9 : ByteArray⦄ ⦃xs11 : List St⦄ ⦃r : Bool × List UInt8 × ByteArray⦄, φ x2 xs3 x9 xs11 = some r → ∀ ⦃w0 : World⦄ ⦃h0 : Hp⦄ ⦃b1 : Nat⦄ ⦃A4 : Option Addr⦄ ⦃c5 : Nat⦄ ⦃v12 : Value⦄, Sub h0 w0 → RS h0 (.slice A4 xs3.length c5) xs3 → Own w0 h0 h0.base 5 1 (.slice A4 xs3.length c5) xs3.length → RS h0 v12 xs11 → OB w0 h0 b1 55 [.pointer (bif x2 then some ⟨b1, 0, none⟩ else none), .slice A4 xs3.length c5, .string x9] → (5 : Nat) ≠ 55 →
  Calls Tryz.prog 41 #[.pointer (some ⟨b1, 0, none⟩), v12] w0 fun e w1 => ∃ v, e = .returned v ∧ ∃ h1, Stp (b1 :: ((Value.slice A4 xs3.length c5).ownBlock.toList ++ [])) w0 h0 w1 h1 ∧ v = .tuple #[] ∧ (∃ y0 : Value, RS h1 y0 r.2.1 ∧ Own w1 h1 h0.base 5 1 y0 r.2.1.length ∧ (∀ i ∈ y0.ownBlock.toList, i ∈ (Value.slice A4 xs3.length c5).ownBlock.toList ∨ w0.heap.size ≤ i) ∧ OB w1 h1 b1 55 [.pointer (bif r.1 then some ⟨b1, 0, none⟩ else none), y0, .string r.2.2])
def C_print_lines_inside_v1 (φ : Bool → (List UInt8) → ByteArray → (List St) → Option (Bool × List UInt8 × ByteArray)) : Prop := ∀ ⦃x2 : Bool⦄ ⦃xs3 : List UInt8⦄ ⦃x9 : ByteArray⦄ ⦃xs13 : List St⦄ ⦃r : Bool × List UInt8 × ByteArray⦄, φ x2 xs3 x9 xs13 = some r → ∀ ⦃w0 : World⦄ ⦃h0 : Hp⦄ ⦃b1 : Nat⦄ ⦃A4 : Option Addr⦄ ⦃c5 : Nat⦄ ⦃b11 : Nat⦄ ⦃T12 : Nat⦄ ⦃v14 : Value⦄ ⦃b17 : Nat⦄ ⦃T18 : Nat⦄, Sub h0 w0 → RS h0 (.slice A4 xs3.length c5) xs3 → Own w0 h0 h0.base 5 1 (.slice A4 xs3.length c5) xs3.length → RS h0 v14 xs13 → OB w0 h0 b1 55 [.pointer (bif x2 then some ⟨b1, 0, none⟩ else none), .slice A4 xs3.length c5, .string x9] → OB w0 h0 b11 T12 [v14] → OB w0 h0 b17 T18 [.pointer (some ⟨b1, 0, none⟩)] → b1 ≠ b11 → b1 ≠ b17 → b11 ≠ b17 → (5 : Nat) ≠ 55 → (5 : Nat) ≠ T12 → (5 : Nat) ≠ T18 →
  Calls Tryz.prog 43 #[.pointer (some ⟨b1, 0, none⟩), .func (.func 68) #[] #[.pointer (some ⟨b11, 0, none⟩), .pointer (some ⟨b17, 0, none⟩)]] w0 fun e w1 => ∃ v, e = .returned v ∧ ∃ h1, Stp (b1 :: ((Value.slice A4 xs3.length c5).ownBlock.toList ++ [])) w0 h0 w1 h1 ∧ v = .tuple #[] ∧ (∃ y0 : Value, RS h1 y0 r.2.1 ∧ Own w1 h1 h0.base 5 1 y0 r.2.1.length ∧ (∀ i ∈ y0.ownBlock.toList, i ∈ (Value.slice A4 xs3.length c5).ownBlock.toList ∨ w0.heap.size ≤ i) ∧ OB w1 h1 b1 55 [.pointer (bif r.1 then some ⟨b1, 0, none⟩ else none), y0, .string r.2.2])
def C_print_printer_text_1 (φ : (List St) → Bool → (List UInt8) → ByteArray → Option (Bool × List UInt8 × ByteArray)) : Prop := ∀ ⦃xs3 : List St⦄ ⦃x10 : Bool⦄ ⦃xs11 : List UInt8⦄ ⦃x17 : ByteArray⦄ ⦃r : Bool × List UInt8 × ByteArray⦄, φ xs3 x10 xs11 x17 = some r → ∀ ⦃w0 : World⦄ ⦃h0 : Hp⦄ ⦃b1 : Nat⦄ ⦃T2 : Nat⦄ ⦃v4 : Value⦄ ⦃b7 : Nat⦄ ⦃T8 : Nat⦄ ⦃b9 : Nat⦄ ⦃A12 : Option Addr⦄ ⦃c13 : Nat⦄, Sub h0 w0 → RS h0 v4 xs3 → RS h0 (.slice A12 xs11.length c13) xs11 → Own w0 h0 h0.base 5 1 (.slice A12 xs11.length c13) xs11.length → OB w0 h0 b1 T2 [v4] → OB w0 h0 b7 T8 [.pointer (some ⟨b9, 0, none⟩)] → OB w0 h0 b9 55 [.pointer (bif x10 then some ⟨b9, 0, none⟩ else none), .slice A12 xs11.length c13, .string x17] → b1 ≠ b7 → b1 ≠ b9 → b7 ≠ b9 → (5 : Nat) ≠ T2 → (5 : Nat) ≠ T8 → (5 : Nat) ≠ 55 →
  Calls Tryz.prog 68 #[.pointer (some ⟨b1, 0, none⟩), .pointer (some ⟨b7, 0, none⟩)] w0 fun e w1 => ∃ v, e = .returned v ∧ ∃ h1, Stp (b9 :: ((Value.slice A12 xs11.length c13).ownBlock.toList ++ [])) w0 h0 w1 h1 ∧ v = .tuple #[] ∧ (∃ y0 : Value, RS h1 y0 r.2.1 ∧ Own w1 h1 h0.base 5 1 y0 r.2.1.length ∧ (∀ i ∈ y0.ownBlock.toList, i ∈ (Value.slice A12 xs11.length c13).ownBlock.toList ∨ w0.heap.size ≤ i) ∧ OB w1 h1 b9 55 [.pointer (bif r.1 then some ⟨b9, 0, none⟩ else none), y0, .string r.2.2])
def C_print_printer_loop (φ : Bool → (List UInt8) → ByteArray → St → Option (Bool × List UInt8 × ByteArray)) : Prop := ∀ ⦃x2 : Bool⦄ ⦃xs3 : List UInt8⦄ ⦃x9 : ByteArray⦄ ⦃x11 : St⦄ ⦃r : Bool × List UInt8 × ByteArray⦄, φ x2 xs3 x9 x11 = some r → ∀ ⦃w0 : World⦄ ⦃h0 : Hp⦄ ⦃b1 : Nat⦄ ⦃A4 : Option Addr⦄ ⦃c5 : Nat⦄ ⦃cs12 : List Value⦄, Sub h0 w0 → RS h0 (.slice A4 xs3.length c5) xs3 → Own w0 h0 h0.base 5 1 (.slice A4 xs3.length c5) xs3.length → Rp.R h0 x11 cs12 → OB w0 h0 b1 55 [.pointer (bif x2 then some ⟨b1, 0, none⟩ else none), .slice A4 xs3.length c5, .string x9] → (5 : Nat) ≠ 55 →
  Calls Tryz.prog 46 #[.pointer (some ⟨b1, 0, none⟩), .agg cs12.toArray] w0 fun e w1 => ∃ v, e = .returned v ∧ ∃ h1, Stp (b1 :: ((Value.slice A4 xs3.length c5).ownBlock.toList ++ [])) w0 h0 w1 h1 ∧ v = .tuple #[] ∧ (∃ y0 : Value, RS h1 y0 r.2.1 ∧ Own w1 h1 h0.base 5 1 y0 r.2.1.length ∧ (∀ i ∈ y0.ownBlock.toList, i ∈ (Value.slice A4 xs3.length c5).ownBlock.toList ∨ w0.heap.size ≤ i) ∧ OB w1 h1 b1 55 [.pointer (bif r.1 then some ⟨b1, 0, none⟩ else none), y0, .string r.2.2])
def C_print_lines_inside (φ : Bool → (List UInt8) → ByteArray → Int → ByteArray → (List Ex) → (List ByteArray) → (List Ex) → Int → (List St) → (List Ar) → (List St) → Bool → Option (Bool × List UInt8 × ByteArray)) : Prop := ∀ ⦃x2 : Bool⦄ ⦃xs3 : List UInt8⦄ ⦃x9 : ByteArray⦄ ⦃x13 : Int⦄ ⦃x14 : ByteArray⦄ ⦃xs15 : List Ex⦄ ⦃xs18 : List ByteArray⦄ ⦃xs21 : List Ex⦄ ⦃x24 : Int⦄ ⦃xs25 : List St⦄ ⦃xs28 : List Ar⦄ ⦃xs31 : List St⦄ ⦃x34 : Bool⦄ ⦃r : Bool × List UInt8 × ByteArray⦄, φ x2 xs3 x9 x13 x14 xs15 xs18 xs21 x24 xs25 xs28 xs31 x34 = some r → ∀ ⦃w0 : World⦄ ⦃h0 : Hp⦄ ⦃b1 : Nat⦄ ⦃A4 : Option Addr⦄ ⦃c5 : Nat⦄ ⦃b11 : Nat⦄ ⦃T12 : Nat⦄ ⦃v16 : Value⦄ ⦃v19 : Value⦄ ⦃v22 : Value⦄ ⦃v26 : Value⦄ ⦃v29 : Value⦄ ⦃v32 : Value⦄ ⦃b36 : Nat⦄ ⦃T37 : Nat⦄, Sub h0 w0 → RS h0 (.slice A4 xs3.length c5) xs3 → Own w0 h0 h0.base 5 1 (.slice A4 xs3.length c5) xs3.length → RS h0 v16 xs15 → RS h0 v19 xs18 → RS h0 v22 xs21 → RS h0 v26 xs25 → RS h0 v29 xs28 → RS h0 v32 xs31 → OB w0 h0 b1 55 [.pointer (bif x2 then some ⟨b1, 0, none⟩ else none), .slice A4 xs3.length c5, .string x9] → OB w0 h0 b11 T12 [.int .i64 x13, .string x14, v16, v19, v22, .int .i64 x24, v26, v29, v32, .bool x34] → OB w0 h0 b36 T37 [.pointer (some ⟨b1, 0, none⟩)] → b1 ≠ b11 → b1 ≠ b36 → b11 ≠ b36 → (5 : Nat) ≠ 55 → (5 : Nat) ≠ T12 → (5 : Nat) ≠ T37 →
  Calls Tryz.prog 43 #[.pointer (some ⟨b1, 0, none⟩), .func (.func 44) #[] #[.pointer (some ⟨b11, 0, none⟩), .pointer (some ⟨b36, 0, none⟩)]] w0 fun e w1 => ∃ v, e = .returned v ∧ ∃ h1, Stp (b1 :: ((Value.slice A4 xs3.length c5).ownBlock.toList ++ [])) w0 h0 w1 h1 ∧ v = .tuple #[] ∧ (∃ y0 : Value, RS h1 y0 r.2.1 ∧ Own w1 h1 h0.base 5 1 y0 r.2.1.length ∧ (∀ i ∈ y0.ownBlock.toList, i ∈ (Value.slice A4 xs3.length c5).ownBlock.toList ∨ w0.heap.size ≤ i) ∧ OB w1 h1 b1 55 [.pointer (bif r.1 then some ⟨b1, 0, none⟩ else none), y0, .string r.2.2])
def C_print_printer_stmt_1 (φ : Int → ByteArray → (List Ex) → (List ByteArray) → (List Ex) → Int → (List St) → (List Ar) → (List St) → Bool → Bool → (List UInt8) → ByteArray → Option (Bool × List UInt8 × ByteArray)) : Prop := ∀ ⦃x3 : Int⦄ ⦃x4 : ByteArray⦄ ⦃xs5 : List Ex⦄ ⦃xs8 : List ByteArray⦄ ⦃xs11 : List Ex⦄ ⦃x14 : Int⦄ ⦃xs15 : List St⦄ ⦃xs18 : List Ar⦄ ⦃xs21 : List St⦄ ⦃x24 : Bool⦄ ⦃x29 : Bool⦄ ⦃xs30 : List UInt8⦄ ⦃x36 : ByteArray⦄ ⦃r : Bool × List UInt8 × ByteArray⦄, φ x3 x4 xs5 xs8 xs11 x14 xs15 xs18 xs21 x24 x29 xs30 x36 = some r → ∀ ⦃w0 : World⦄ ⦃h0 : Hp⦄ ⦃b1 : Nat⦄ ⦃T2 : Nat⦄ ⦃v6 : Value⦄ ⦃v9 : Value⦄ ⦃v12 : Value⦄ ⦃v16 : Value⦄ ⦃v19 : Value⦄ ⦃v22 : Value⦄ ⦃b26 : Nat⦄ ⦃T27 : Nat⦄ ⦃b28 : Nat⦄ ⦃A31 : Option Addr⦄ ⦃c32 : Nat⦄, Sub h0 w0 → RS h0 v6 xs5 → RS h0 v9 xs8 → RS h0 v12 xs11 → RS h0 v16 xs15 → RS h0 v19 xs18 → RS h0 v22 xs21 → RS h0 (.slice A31 xs30.length c32) xs30 → Own w0 h0 h0.base 5 1 (.slice A31 xs30.length c32) xs30.length → OB w0 h0 b1 T2 [.int .i64 x3, .string x4, v6, v9, v12, .int .i64 x14, v16, v19, v22, .bool x24] → OB w0 h0 b26 T27 [.pointer (some ⟨b28, 0, none⟩)] → OB w0 h0 b28 55 [.pointer (bif x29 then some ⟨b28, 0, none⟩ else none), .slice A31 xs30.length c32, .string x36] → b1 ≠ b26 → b1 ≠ b28 → b26 ≠ b28 → (5 : Nat) ≠ T2 → (5 : Nat) ≠ T27 → (5 : Nat) ≠ 55 →
  Calls Tryz.prog 44 #[.pointer (some ⟨b1, 0, none⟩), .pointer (some ⟨b26, 0, none⟩)] w0 fun e w1 => ∃ v, e = .returned v ∧ ∃ h1, Stp (b28 :: ((Value.slice A31 xs30.length c32).ownBlock.toList ++ [])) w0 h0 w1 h1 ∧ v = .tuple #[] ∧ (∃ y0 : Value, RS h1 y0 r.2.1 ∧ Own w1 h1 h0.base 5 1 y0 r.2.1.length ∧ (∀ i ∈ y0.ownBlock.toList, i ∈ (Value.slice A31 xs30.length c32).ownBlock.toList ∨ w0.heap.size ≤ i) ∧ OB w1 h1 b28 55 [.pointer (bif r.1 then some ⟨b28, 0, none⟩ else none), y0, .string r.2.2])
def C_print_printer_other (φ : Bool → (List UInt8) → ByteArray → St → Option (Bool × List UInt8 × ByteArray)) : Prop := ∀ ⦃x2 : Bool⦄ ⦃xs3 : List UInt8⦄ ⦃x9 : ByteArray⦄ ⦃x11 : St⦄ ⦃r : Bool × List UInt8 × ByteArray⦄, φ x2 xs3 x9 x11 = some r → ∀ ⦃w0 : World⦄ ⦃h0 : Hp⦄ ⦃b1 : Nat⦄ ⦃A4 : Option Addr⦄ ⦃c5 : Nat⦄ ⦃cs12 : List Value⦄, Sub h0 w0 → RS h0 (.slice A4 xs3.length c5) xs3 → Own w0 h0 h0.base 5 1 (.slice A4 xs3.length c5) xs3.length → Rp.R h0 x11 cs12 → OB w0 h0 b1 55 [.pointer (bif x2 then some ⟨b1, 0, none⟩ else none), .slice A4 xs3.length c5, .string x9] → (5 : Nat) ≠ 55 →
  Calls Tryz.prog 42 #[.pointer (some ⟨b1, 0, none⟩), .agg cs12.toArray] w0 fun e w1 => ∃ v, e = .returned v ∧ ∃ h1, Stp (b1 :: ((Value.slice A4 xs3.length c5).ownBlock.toList ++ [])) w0 h0 w1 h1 ∧ v = .tuple #[] ∧ (∃ y0 : Value, RS h1 y0 r.2.1 ∧ Own w1 h1 h0.base 5 1 y0 r.2.1.length ∧ (∀ i ∈ y0.ownBlock.toList, i ∈ (Value.slice A4 xs3.length c5).ownBlock.toList ∨ w0.heap.size ≤ i) ∧ OB w1 h1 b1 55 [.pointer (bif r.1 then some ⟨b1, 0, none⟩ else none), y0, .string r.2.2])
set_option maxRecDepth 20000 in
set_option maxHeartbeats 4000000 in
theorem s_print_printer_stmt (k : Nat) (IH : ∀ j, j ≤ k → C_print_printer_stmt (tie_print_printer_stmt j).print_printer_stmt ∧ C_print_printer_text (tie_print_printer_stmt j).print_printer_text ∧ C_print_lines_inside_v1 (tie_print_printer_stmt j).print_lines_inside_v1 ∧ C_print_printer_text_1 (tie_print_printer_stmt j).print_printer_text_1 ∧ C_print_printer_loop (tie_print_printer_stmt j).print_printer_loop ∧ C_print_lines_inside (tie_print_printer_stmt j).print_lines_inside ∧ C_print_printer_stmt_1 (tie_print_printer_stmt j).print_printer_stmt_1 ∧ C_print_printer_other (tie_print_printer_stmt j).print_printer_other) : C_print_printer_stmt (m_print_printer_stmt k (tie_print_printer_stmt k)) := by
  intro x2 xs3 x9 x11 r HF w0 h0 b1 A4 c5 cs12 hs0 rs6 ow7 r13 ob10 tn14
  have S0 : Stp (b1 :: ((Value.slice A4 xs3.length c5).ownBlock.toList ++ [])) w0 h0 w0 h0 := Stp.refl hs0 _
  have om8 : ∀ i ∈ (Value.slice A4 xs3.length c5).ownBlock.toList, i ∈ (Value.slice A4 xs3.length c5).ownBlock.toList ∨ w0.heap.size ≤ i := fun i hi => .inl hi
  have lt15 : b1 < w0.heap.size := OB.lt ob10
  refine enter (n := 142) Tryz.func20 rfl Tryz.ntmps20 rfl [(0, .pointer (some ⟨b1, 0, none⟩)), (1, .agg cs12.toArray)] rfl ?_
  refine WC.seq ?_
  refine WC.region ?_
  refine WL.box (cs := [.pointer (some ⟨b1, 0, none⟩)]) rfl rfl rfl rfl S0.sub (fun w16 b17 hb18 s19 ob20 => ?_)
  have ne21 : b1 ≠ b17 := ob10.ne_new hb18
  have g22 : w0.heap.size ≤ b17 := by rw [hb18]; exact S0.size
  have S23 := S0.trans0 s19
  have ob24 := (ob10.step0 s19)
  obtain ⟨v25, v27, v29, v31, v33, v35, rfl, rs26, rs28, rs30, rs32, rs34, rs36⟩ := rp_St.1 (Rp.mono (s19.le) r13)
  refine WL.box (cs := [.int .i64 x11.op, .string x11.name, v25, v27, v29, .int .i64 x11.n, v31, v33, v35, .bool x11.els]) rfl rfl rfl rfl S23.sub (fun w37 b38 hb39 s40 ob41 => ?_)
  have ne42 : b1 ≠ b38 := ob24.ne_new hb39
  have ne43 : b17 ≠ b38 := ob20.ne_new hb39
  have g44 : w0.heap.size ≤ b38 := by rw [hb39]; exact S23.size
  have S45 := S23.trans0 s40
  refine WL.nil ?_
  refine WQ.seqN ?_
  refine WC.seq ?_
  refine WC.region ?_
  refine WL.val rfl rfl rfl (ov_fieldAddr rfl t_field_44_0) ?_
  refine WL.val rfl rfl rfl (ov_load1 rfl t_agg_3 (OB.cell ob41 (j := 0) rfl)) ?_
  refine WL.nil ?_
  refine WQ.seqN ?_
  refine WC.block ?_
  refine WC.seq ?_
  refine WC.region ?_
  refine WL.val rfl rfl rfl (ov_eql rfl rfl) ?_
  refine WL.val rfl rfl rfl (ov_assign rfl) ?_
  refine WL.nil ?_
  refine WQ.seqN ?_
  refine WC.cond (b := (x11.op : Int) == 1) rfl (fun hb46 => ?_) (fun hb46 => ?_)
  · replace HF := bif_t hb46 HF
    refine WC.seq ?_
    refine WC.region ?_
    refine WL.val rfl rfl rfl (ov_fieldAddr rfl t_field_44_1) ?_
    refine WL.val rfl rfl rfl (ov_load1 rfl t_agg_9 (OB.cell ob41 (j := 1) rfl)) ?_
    refine WL.val rfl rfl rfl (ov_assign rfl) ?_
    refine WL.nil ?_
    refine WQ.seqN ?_
    refine WC.join (fun E w74 => ∃ (h73 : Hp) (x77 : ByteArray) (xs78 : List UInt8) (v79 : Value), print_printer_stmt_j1 k (tie_print_printer_stmt k) x2 x9 x11 x77 xs78 = some r ∧ E = [(2, .pointer (some ⟨b17, 0, none⟩)), (3, .pointer (some ⟨b38, 0, none⟩)), (4, .string x77)] ∧ Stp (b1 :: ((Value.slice A4 xs3.length c5).ownBlock.toList ++ [])) w0 h0 w74 h73 ∧ Hle h0 h73 ∧ RS h73 v79 xs78 ∧ Own w74 h73 h0.base 5 1 v79 xs78.length ∧ (∀ i ∈ v79.ownBlock.toList, i ∈ (Value.slice A4 xs3.length c5).ownBlock.toList ∨ w0.heap.size ≤ i) ∧ OB w74 h73 b1 55 [.pointer (bif x2 then some ⟨b1, 0, none⟩ else none), v79, .string x9] ∧ OB w74 h73 b17 77 [.pointer (some ⟨b1, 0, none⟩)] ∧ OB w74 h73 b38 44 [.int .i64 x11.op, .string x11.name, v25, v27, v29, .int .i64 x11.n, v31, v33, v35, .bool x11.els]) ?_ ?_
    · rintro E w74 ⟨h73, x77, xs78, v79, HF, rfl, S76, le75, rs80, ow81, om82, ob83, ob84, ob85⟩
      obtain ⟨hl86, HF⟩ := ite_none HF
      obtain ⟨A87, c88, rfl, rs89⟩ := RS.form (rs30.mono ((s40.le).trans le75))
      obtain ⟨e90, he91, HF⟩ := bind_some HF
      obtain ⟨b92, o93, rfl, h95, h96, ra94⟩ := RS.atO rs89 he91
      obtain ⟨cs97, r98, hc99⟩ := ra94
      obtain ⟨r100, hr101, HF⟩ := bind_some HF
      obtain ⟨hl102, HF⟩ := ite_none HF
      obtain ⟨hl103, HF⟩ := ite_none HF
      refine WC.drawn (m := 12) [(2, .pointer (some ⟨b17, 0, none⟩)), (3, .pointer (some ⟨b38, 0, none⟩)), (4, .string x77)] [2, 3, 4] rfl (fun i v w h => match i with | 0 => v = .pointer (some ⟨b1, 0, none⟩) | 1 => v = .pointer (some ⟨b1, 0, none⟩) | 2 => v = .pointer (some ⟨b1, 0, none⟩) | 3 => v = .string x77 | 4 => v = .string (x77 ++ (⟨#[32, 58, 61, 32]⟩ : ByteArray)) | 5 => v = .pointer (some ⟨b38, 4, none⟩) | 6 => v = .slice (some ⟨b92, o93, none⟩) (x11.args).length c88 | 7 => v = .pointer (some ⟨b92, o93 + Int.toNat 0 * 6, none⟩) | 8 => v = .agg cs97.toArray | 9 => v = .string r100 | 10 => v = .string ((x77 ++ (⟨#[32, 58, 61, 32]⟩ : ByteArray)) ++ r100) | 11 => v = .string (((x77 ++ (⟨#[32, 58, 61, 32]⟩ : ByteArray)) ++ r100) ++ (⟨#[59]⟩ : ByteArray)) | _ => True) t_mixed S76.sub rfl rfl rfl rfl rfl ?_ ?_ ?_
      · intro i v w h w2 h2 hΦ hst
        match i, hΦ with
        | 0, hΦ => exact hΦ
        | 1, hΦ => exact hΦ
        | 2, hΦ => exact hΦ
        | 3, hΦ => exact hΦ
        | 4, hΦ => exact hΦ
        | 5, hΦ => exact hΦ
        | 6, hΦ => exact hΦ
        | 7, hΦ => exact hΦ
        | 8, hΦ => exact hΦ
        | 9, hΦ => exact hΦ
        | 10, hΦ => exact hΦ
        | 11, hΦ => exact hΦ
        | i + 12, _ => exact trivial
      · refine ⟨?_, ?_, ?_, ?_, ?_, ?_, ?_, ?_, ?_, ?_, ?_, ?_, trivial⟩
        · intro a w104 h105 s106 hat hF
          have ob107 := (ob84.step0 s106)
          exact front_val (show At _ [(2, .pointer (some ⟨b17, 0, none⟩)), (3, .pointer (some ⟨b38, 0, none⟩)), (4, .string x77)] _ from hat) rfl (ov_load1 rfl t_agg_77 (OB.cell ob107 (j := 0) rfl)) s106.sub (by exact rfl)
        · intro a w104 h105 s106 hat hF
          obtain hv0 := hF 0 29 rfl rfl
          exact front_val (show At _ [(29, .pointer (some ⟨b1, 0, none⟩)), (2, .pointer (some ⟨b17, 0, none⟩)), (3, .pointer (some ⟨b38, 0, none⟩)), (4, .string x77)] _ from (At.cons hat hv0)) rfl (ov_nilCheck rfl) s106.sub (by exact rfl)
        · intro a w104 h105 s106 hat hF
          obtain hv1 := hF 1 30 rfl rfl
          exact front_val (show At _ [(30, .pointer (some ⟨b1, 0, none⟩)), (2, .pointer (some ⟨b17, 0, none⟩)), (3, .pointer (some ⟨b38, 0, none⟩)), (4, .string x77)] _ from (At.cons hat hv1)) rfl (ov_fieldAddr rfl t_field_55_0) s106.sub (by exact rfl)
        · intro a w104 h105 s106 hat hF
          exact front_val (show At _ [(2, .pointer (some ⟨b17, 0, none⟩)), (3, .pointer (some ⟨b38, 0, none⟩)), (4, .string x77)] _ from hat) rfl (ov_move rfl) s106.sub (by exact rfl)
        · intro a w104 h105 s106 hat hF
          obtain hv3 := hF 3 32 rfl rfl
          exact front_val (show At _ [(32, .string x77), (2, .pointer (some ⟨b17, 0, none⟩)), (3, .pointer (some ⟨b38, 0, none⟩)), (4, .string x77)] _ from (At.cons hat hv3)) rfl (ov_addS rfl rfl hl86) s106.sub (by exact rfl)
        · intro a w104 h105 s106 hat hF
          exact front_val (show At _ [(2, .pointer (some ⟨b17, 0, none⟩)), (3, .pointer (some ⟨b38, 0, none⟩)), (4, .string x77)] _ from hat) rfl (ov_fieldAddr rfl t_field_44_4) s106.sub (by exact rfl)
        · intro a w104 h105 s106 hat hF
          obtain hv5 := hF 5 34 rfl rfl
          have ob108 := (ob85.step0 s106)
          exact front_val (show At _ [(34, .pointer (some ⟨b38, 4, none⟩)), (2, .pointer (some ⟨b17, 0, none⟩)), (3, .pointer (some ⟨b38, 0, none⟩)), (4, .string x77)] _ from (At.cons hat hv5)) rfl (ov_load1 rfl t_agg_30 (OB.cell ob108 (j := 4) rfl)) s106.sub (by exact rfl)
        · intro a w104 h105 s106 hat hF
          obtain hv6 := hF 6 35 rfl rfl
          exact front_val (show At _ [(35, .slice (some ⟨b92, o93, none⟩) (x11.args).length c88), (2, .pointer (some ⟨b17, 0, none⟩)), (3, .pointer (some ⟨b38, 0, none⟩)), (4, .string x77)] _ from (At.cons hat hv6)) rfl (ov_indexAddr rfl rfl t_slice_30 t_size_32 h95 h96) s106.sub (by exact rfl)
        · intro a w104 h105 s106 hat hF
          obtain hv7 := hF 7 36 rfl rfl
          exact front_val (show At _ [(36, .pointer (some ⟨b92, o93 + Int.toNat 0 * 6, none⟩)), (2, .pointer (some ⟨b17, 0, none⟩)), (3, .pointer (some ⟨b38, 0, none⟩)), (4, .string x77)] _ from (At.cons hat hv7)) rfl (ov_loadN (cs := cs97) rfl t_agg_32 (by rw [Rp.len (Rp.mono (s106.le) r98)]; exact t_size_32) (fun j v hv => s106.sub.at_ _ _ _ ((fun i v hv => (s106.le).1 _ _ _ (hc99 i v hv)) j v hv))) s106.sub (by exact rfl)
        · intro a w104 h105 s106 hat hF
          obtain hv8 := hF 8 37 rfl rfl
          refine front_call (show At _ [(37, .agg cs97.toArray), (2, .pointer (some ⟨b17, 0, none⟩)), (3, .pointer (some ⟨b38, 0, none⟩)), (4, .string x77)] _ from (At.cons hat hv8)) rfl (oc_func (vs := [.agg cs97.toArray]) rfl t_ent_27) (ok_print_Of _ hr101 s106.sub (Rp.mono (s106.le) r98)) ?_
          rintro _ w109 ⟨h110, s111, rfl⟩
          exact ⟨_, h110, rfl, s111, (by exact rfl)⟩
        · intro a w104 h105 s106 hat hF
          obtain hv4 := hF 4 33 rfl rfl
          obtain hv9 := hF 9 38 rfl rfl
          exact front_val (show At _ [(38, .string r100), (33, .string (x77 ++ (⟨#[32, 58, 61, 32]⟩ : ByteArray))), (2, .pointer (some ⟨b17, 0, none⟩)), (3, .pointer (some ⟨b38, 0, none⟩)), (4, .string x77)] _ from (At.cons (At.cons hat hv4) hv9)) rfl (ov_addS rfl rfl hl102) s106.sub (by exact rfl)
        · intro a w104 h105 s106 hat hF
          obtain hv10 := hF 10 39 rfl rfl
          exact front_val (show At _ [(39, .string ((x77 ++ (⟨#[32, 58, 61, 32]⟩ : ByteArray)) ++ r100)), (2, .pointer (some ⟨b17, 0, none⟩)), (3, .pointer (some ⟨b38, 0, none⟩)), (4, .string x77)] _ from (At.cons hat hv10)) rfl (ov_addS rfl rfl hl103) s106.sub (by exact rfl)
      · intro a w104 h105 s106 hat hF
        obtain hv0 := hF 0 29 (by decide) rfl
        obtain hv1 := hF 1 30 (by decide) rfl
        obtain hv2 := hF 2 31 (by decide) rfl
        obtain hv3 := hF 3 32 (by decide) rfl
        obtain hv4 := hF 4 33 (by decide) rfl
        obtain hv5 := hF 5 34 (by decide) rfl
        obtain hv6 := hF 6 35 (by decide) rfl
        obtain hv7 := hF 7 36 (by decide) rfl
        obtain hv8 := hF 8 37 (by decide) rfl
        obtain hv9 := hF 9 38 (by decide) rfl
        obtain hv10 := hF 10 39 (by decide) rfl
        obtain hv11 := hF 11 40 (by decide) rfl
        refine WL.at_ [(40, .string (((x77 ++ (⟨#[32, 58, 61, 32]⟩ : ByteArray)) ++ r100) ++ (⟨#[59]⟩ : ByteArray))), (39, .string ((x77 ++ (⟨#[32, 58, 61, 32]⟩ : ByteArray)) ++ r100)), (38, .string r100), (37, .agg cs97.toArray), (36, .pointer (some ⟨b92, o93 + Int.toNat 0 * 6, none⟩)), (35, .slice (some ⟨b92, o93, none⟩) (x11.args).length c88), (34, .pointer (some ⟨b38, 4, none⟩)), (33, .string (x77 ++ (⟨#[32, 58, 61, 32]⟩ : ByteArray))), (32, .string x77), (31, .pointer (some ⟨b1, 0, none⟩)), (30, .pointer (some ⟨b1, 0, none⟩)), (29, .pointer (some ⟨b1, 0, none⟩)), (2, .pointer (some ⟨b17, 0, none⟩)), (3, .pointer (some ⟨b38, 0, none⟩)), (4, .string x77)] (At.cons (At.cons (At.cons (At.cons (At.cons (At.cons (At.cons (At.cons (At.cons (At.cons (At.cons (At.cons hat hv0) hv1) hv2) hv3) hv4) hv5) hv6) hv7) hv8) hv9) hv10) hv11) ?_
        have S112 := S76.trans0 s106
        obtain ⟨A113, c114, rfl, rs115⟩ := RS.form (rs80.mono (s106.le))
        have ob116 := (ob83.step0 s106)
        obtain ⟨r117, hr118, HF⟩ := bind_some HF
        refine WL.call rfl rfl rfl (oc_func (vs := [.pointer (some ⟨b1, 0, none⟩), .string (((x77 ++ (⟨#[32, 58, 61, 32]⟩ : ByteArray)) ++ r100) ++ (⟨#[59]⟩ : ByteArray))]) rfl t_ent_39) (ok_print_lines_line _ hr118 S112.sub rs115 (by rw [S112.eqb]; exact (ow81.step0 s106)) ob116 tn14) ?_
        have ob123 := (ob84.step0 s106)
        have ob124 := (ob85.step0 s106)
        rintro v119 w120 ⟨h121, s122, rfl, ⟨v125, rs126, ow127, om128, ob131⟩⟩
        have ow129 := Own.rb ow127 S112.eqb
        have om130 : ∀ i ∈ v125.ownBlock.toList, i ∈ (Value.slice A4 xs3.length c5).ownBlock.toList ∨ w0.heap.size ≤ i := fun i hi => (om128 i hi).elim (fun q => om82 i q) (fun q => .inr (Nat.le_trans S112.size q))
        have S132 := S112.trans s122 (in_cons (.inl (by simp)) (in_own (fun i hi => (om82 i hi).elim (fun q => .inl (by simp only [List.mem_cons, List.mem_append]; simp [q])) .inr) in_nil))
        refine WL.nil ?_
        refine WQ.blockN ?_
        refine WQ.end0 rfl ?_
        obtain rfl := Option.some.inj HF
        exact ⟨_, rfl, h121, S132, rfl, ⟨_, rs126, ow129, om130, ob131⟩⟩
    · intro J133
      refine WC.seq ?_
      refine WC.region ?_
      refine WL.val rfl rfl rfl (ov_fieldAddr rfl t_field_44_2) ?_
      refine WL.val rfl rfl rfl (ov_load1 rfl t_agg_30 (OB.cell ob41 (j := 2) rfl)) ?_
      obtain ⟨A47, c48, rfl, rs49⟩ := RS.form (rs26.mono (s40.le))
      refine WL.val rfl rfl rfl (ov_lenL rfl t_slice_30) ?_
      refine WL.val rfl rfl rfl (ov_gtr rfl rfl) ?_
      refine WL.nil ?_
      refine WQ.seqN ?_
      refine WC.cond (b := decide ((0 : Int) < (x11.index.length : Int))) rfl (fun hb50 => ?_) (fun hb50 => ?_)
      · replace HF := bif_t hb50 HF
        refine WC.region ?_
        refine WL.val rfl rfl rfl (ov_move rfl) ?_
        refine WL.val rfl rfl rfl (ov_fieldAddr rfl t_field_44_2) ?_
        refine WL.val rfl rfl rfl (ov_load1 rfl t_agg_30 (OB.cell ob41 (j := 2) rfl)) ?_
        obtain ⟨e51, he52, HF⟩ := bind_some HF
        obtain ⟨b53, o54, rfl, h56, h57, ra55⟩ := RS.atO rs49 he52
        obtain ⟨cs58, r59, hc60⟩ := ra55
        refine WL.val rfl rfl rfl (ov_indexAddr rfl rfl t_slice_30 t_size_32 h56 h57) ?_
        refine WL.val rfl rfl rfl (ov_loadN (cs := cs58) rfl t_agg_32 (by rw [Rp.len r59]; exact t_size_32) (fun j v hv => S45.sub.at_ _ _ _ (hc60 j v hv))) ?_
        obtain ⟨r61, hr62, HF⟩ := bind_some HF
        refine WL.call rfl rfl rfl (oc_func (vs := [.agg cs58.toArray]) rfl t_ent_27) (ok_print_Of _ hr62 S45.sub r59) ?_
        have ob67 := (ob24.step0 s40)
        have ob68 := (ob20.step0 s40)
        rintro _ w64 ⟨h65, s66, rfl⟩
        have S69 := S45.trans0 s66
        obtain ⟨hl70, HF⟩ := ite_none HF
        refine WL.val rfl rfl rfl (ov_addS rfl rfl hl70) ?_
        obtain ⟨hl71, HF⟩ := ite_none HF
        refine WL.val rfl rfl rfl (ov_addS rfl rfl hl71) ?_
        obtain ⟨hl72, HF⟩ := ite_none HF
        refine WL.val rfl rfl rfl (ov_addS rfl rfl hl72) ?_
        refine WL.val rfl rfl rfl (ov_assign rfl) ?_
        refine WL.nil ?_
        have ob134 := (ob67.step0 s66)
        have ob135 := (ob68.step0 s66)
        have ob136 := (ob41.step0 s66)
        refine WC.to [2, 3, 4] [(2, .pointer (some ⟨b17, 0, none⟩)), (3, .pointer (some ⟨b38, 0, none⟩)), (4, .string (x11.name ++ (((⟨#[91]⟩ : ByteArray) ++ r61) ++ (⟨#[93]⟩ : ByteArray))))] rfl ?_
        exact J133 ⟨h65, x11.name ++ (((⟨#[91]⟩ : ByteArray) ++ r61) ++ (⟨#[93]⟩ : ByteArray)), xs3, .slice A4 xs3.length c5, HF, rfl, S69, s66.le, (rs6.mono ((s19.le).trans ((s40.le).trans s66.le))), (((ow7.step0 s19).step0 s40).step0 s66), om8, ob134, ob135, ob136⟩
      · replace HF := bif_f hb50 HF
        refine WC.skip ?_
        have ob137 := (ob24.step0 s40)
        have ob138 := (ob20.step0 s40)
        refine WC.to [2, 3, 4] [(2, .pointer (some ⟨b17, 0, none⟩)), (3, .pointer (some ⟨b38, 0, none⟩)), (4, .string x11.name)] rfl ?_
        exact J133 ⟨h0, x11.name, xs3, .slice A4 xs3.length c5, HF, rfl, S45, Hle.refl _, (rs6.mono ((s19.le).trans s40.le)), ((ow7.step0 s19).step0 s40), om8, ob137, ob138, ob41⟩
  · replace HF := bif_f hb46 HF
    refine WC.seq ?_
    refine WC.region ?_
    refine WL.val rfl rfl rfl (ov_eql rfl rfl) ?_
    refine WL.val rfl rfl rfl (ov_assign rfl) ?_
    refine WL.nil ?_
    refine WQ.seqN ?_
    refine WC.cond (b := (x11.op : Int) == 2) rfl (fun hb139 => ?_) (fun hb139 => ?_)
    · replace HF := bif_t hb139 HF
      obtain ⟨hl140, HF⟩ := ite_none HF
      obtain ⟨r141, hr142, HF⟩ := bind_some HF
      obtain ⟨hl143, HF⟩ := ite_none HF
      obtain ⟨hl144, HF⟩ := ite_none HF
      refine WC.drawn (m := 13) [(2, .pointer (some ⟨b17, 0, none⟩)), (3, .pointer (some ⟨b38, 0, none⟩))] [2, 3] rfl (fun i v w h => match i with | 0 => v = .pointer (some ⟨b1, 0, none⟩) | 1 => v = .pointer (some ⟨b1, 0, none⟩) | 2 => v = .pointer (some ⟨b1, 0, none⟩) | 3 => v = .pointer (some ⟨b38, 1, none⟩) | 4 => v = .string x11.name | 5 => v = .string (x11.name ++ (⟨#[40]⟩ : ByteArray)) | 6 => v = .pointer (some ⟨b38, 3, none⟩) | 7 => v = v27 | 8 => v = .pointer (some ⟨b38, 4, none⟩) | 9 => v = v29 | 10 => v = .string r141 | 11 => v = .string ((x11.name ++ (⟨#[40]⟩ : ByteArray)) ++ r141) | 12 => v = .string (((x11.name ++ (⟨#[40]⟩ : ByteArray)) ++ r141) ++ (⟨#[41, 59]⟩ : ByteArray)) | _ => True) t_mixed S45.sub rfl rfl rfl rfl rfl ?_ ?_ ?_
      · intro i v w h w2 h2 hΦ hst
        match i, hΦ with
        | 0, hΦ => exact hΦ
        | 1, hΦ => exact hΦ
        | 2, hΦ => exact hΦ
        | 3, hΦ => exact hΦ
        | 4, hΦ => exact hΦ
        | 5, hΦ => exact hΦ
        | 6, hΦ => exact hΦ
        | 7, hΦ => exact hΦ
        | 8, hΦ => exact hΦ
        | 9, hΦ => exact hΦ
        | 10, hΦ => exact hΦ
        | 11, hΦ => exact hΦ
        | 12, hΦ => exact hΦ
        | i + 13, _ => exact trivial
      · refine ⟨?_, ?_, ?_, ?_, ?_, ?_, ?_, ?_, ?_, ?_, ?_, ?_, ?_, trivial⟩
        · intro a w145 h146 s147 hat hF
          have ob148 := ((ob20.step0 s40).step0 s147)
          exact front_val (show At _ [(2, .pointer (some ⟨b17, 0, none⟩)), (3, .pointer (some ⟨b38, 0, none⟩))] _ from hat) rfl (ov_load1 rfl t_agg_77 (OB.cell ob148 (j := 0) rfl)) s147.sub (by exact rfl)
        · intro a w145 h146 s147 hat hF
          obtain hv0 := hF 0 44 rfl rfl
          exact front_val (show At _ [(44, .pointer (some ⟨b1, 0, none⟩)), (2, .pointer (some ⟨b17, 0, none⟩)), (3, .pointer (some ⟨b38, 0, none⟩))] _ from (At.cons hat hv0)) rfl (ov_nilCheck rfl) s147.sub (by exact rfl)
        · intro a w145 h146 s147 hat hF
          obtain hv1 := hF 1 45 rfl rfl
          exact front_val (show At _ [(45, .pointer (some ⟨b1, 0, none⟩)), (2, .pointer (some ⟨b17, 0, none⟩)), (3, .pointer (some ⟨b38, 0, none⟩))] _ from (At.cons hat hv1)) rfl (ov_fieldAddr rfl t_field_55_0) s147.sub (by exact rfl)
        · intro a w145 h146 s147 hat hF
          exact front_val (show At _ [(2, .pointer (some ⟨b17, 0, none⟩)), (3, .pointer (some ⟨b38, 0, none⟩))] _ from hat) rfl (ov_fieldAddr rfl t_field_44_1) s147.sub (by exact rfl)
        · intro a w145 h146 s147 hat hF
          obtain hv3 := hF 3 47 rfl rfl
          have ob149 := (ob41.step0 s147)
          exact front_val (show At _ [(47, .pointer (some ⟨b38, 1, none⟩)), (2, .pointer (some ⟨b17, 0, none⟩)), (3, .pointer (some ⟨b38, 0, none⟩))] _ from (At.cons hat hv3)) rfl (ov_load1 rfl t_agg_9 (OB.cell ob149 (j := 1) rfl)) s147.sub (by exact rfl)
        · intro a w145 h146 s147 hat hF
          obtain hv4 := hF 4 48 rfl rfl
          exact front_val (show At _ [(48, .string x11.name), (2, .pointer (some ⟨b17, 0, none⟩)), (3, .pointer (some ⟨b38, 0, none⟩))] _ from (At.cons hat hv4)) rfl (ov_addS rfl rfl hl140) s147.sub (by exact rfl)
        · intro a w145 h146 s147 hat hF
          exact front_val (show At _ [(2, .pointer (some ⟨b17, 0, none⟩)), (3, .pointer (some ⟨b38, 0, none⟩))] _ from hat) rfl (ov_fieldAddr rfl t_field_44_3) s147.sub (by exact rfl)
        · intro a w145 h146 s147 hat hF
          obtain hv6 := hF 6 50 rfl rfl
          have ob150 := (ob41.step0 s147)
          exact front_val (show At _ [(50, .pointer (some ⟨b38, 3, none⟩)), (2, .pointer (some ⟨b17, 0, none⟩)), (3, .pointer (some ⟨b38, 0, none⟩))] _ from (At.cons hat hv6)) rfl (ov_load1 rfl t_agg_41 (OB.cell ob150 (j := 3) rfl)) s147.sub (by exact rfl)
        · intro a w145 h146 s147 hat hF
          exact front_val (show At _ [(2, .pointer (some ⟨b17, 0, none⟩)), (3, .pointer (some ⟨b38, 0, none⟩))] _ from hat) rfl (ov_fieldAddr rfl t_field_44_4) s147.sub (by exact rfl)
        · intro a w145 h146 s147 hat hF
          obtain hv8 := hF 8 52 rfl rfl
          have ob151 := (ob41.step0 s147)
          exact front_val (show At _ [(52, .pointer (some ⟨b38, 4, none⟩)), (2, .pointer (some ⟨b17, 0, none⟩)), (3, .pointer (some ⟨b38, 0, none⟩))] _ from (At.cons hat hv8)) rfl (ov_load1 rfl t_agg_30 (OB.cell ob151 (j := 4) rfl)) s147.sub (by exact rfl)
        · intro a w145 h146 s147 hat hF
          obtain hv7 := hF 7 51 rfl rfl
          obtain hv9 := hF 9 53 rfl rfl
          refine front_call (show At _ [(53, v29), (51, v27), (2, .pointer (some ⟨b17, 0, none⟩)), (3, .pointer (some ⟨b38, 0, none⟩))] _ from (At.cons (At.cons hat hv7) hv9)) rfl (oc_func (vs := [v27, v29]) rfl t_ent_40) (ok_print_Inputs _ hr142 s147.sub (rs28.mono ((s40.le).trans s147.le)) (rs30.mono ((s40.le).trans s147.le))) ?_
          rintro _ w152 ⟨h153, s154, rfl⟩
          exact ⟨_, h153, rfl, s154, (by exact rfl)⟩
        · intro a w145 h146 s147 hat hF
          obtain hv5 := hF 5 49 rfl rfl
          obtain hv10 := hF 10 54 rfl rfl
          exact front_val (show At _ [(54, .string r141), (49, .string (x11.name ++ (⟨#[40]⟩ : ByteArray))), (2, .pointer (some ⟨b17, 0, none⟩)), (3, .pointer (some ⟨b38, 0, none⟩))] _ from (At.cons (At.cons hat hv5) hv10)) rfl (ov_addS rfl rfl hl143) s147.sub (by exact rfl)
        · intro a w145 h146 s147 hat hF
          obtain hv11 := hF 11 55 rfl rfl
          exact front_val (show At _ [(55, .string ((x11.name ++ (⟨#[40]⟩ : ByteArray)) ++ r141)), (2, .pointer (some ⟨b17, 0, none⟩)), (3, .pointer (some ⟨b38, 0, none⟩))] _ from (At.cons hat hv11)) rfl (ov_addS rfl rfl hl144) s147.sub (by exact rfl)
      · intro a w145 h146 s147 hat hF
        obtain hv0 := hF 0 44 (by decide) rfl
        obtain hv1 := hF 1 45 (by decide) rfl
        obtain hv2 := hF 2 46 (by decide) rfl
        obtain hv3 := hF 3 47 (by decide) rfl
        obtain hv4 := hF 4 48 (by decide) rfl
        obtain hv5 := hF 5 49 (by decide) rfl
        obtain hv6 := hF 6 50 (by decide) rfl
        obtain hv7 := hF 7 51 (by decide) rfl
        obtain hv8 := hF 8 52 (by decide) rfl
        obtain hv9 := hF 9 53 (by decide) rfl
        obtain hv10 := hF 10 54 (by decide) rfl
        obtain hv11 := hF 11 55 (by decide) rfl
        obtain hv12 := hF 12 56 (by decide) rfl
        refine WL.at_ [(56, .string (((x11.name ++ (⟨#[40]⟩ : ByteArray)) ++ r141) ++ (⟨#[41, 59]⟩ : ByteArray))), (55, .string ((x11.name ++ (⟨#[40]⟩ : ByteArray)) ++ r141)), (54, .string r141), (53, v29), (52, .pointer (some ⟨b38, 4, none⟩)), (51, v27), (50, .pointer (some ⟨b38, 3, none⟩)), (49, .string (x11.name ++ (⟨#[40]⟩ : ByteArray))), (48, .string x11.name), (47, .pointer (some ⟨b38, 1, none⟩)), (46, .pointer (some ⟨b1, 0, none⟩)), (45, .pointer (some ⟨b1, 0, none⟩)), (44, .pointer (some ⟨b1, 0, none⟩)), (2, .pointer (some ⟨b17, 0, none⟩)), (3, .pointer (some ⟨b38, 0, none⟩))] (At.cons (At.cons (At.cons (At.cons (At.cons (At.cons (At.cons (At.cons (At.cons (At.cons (At.cons (At.cons (At.cons hat hv0) hv1) hv2) hv3) hv4) hv5) hv6) hv7) hv8) hv9) hv10) hv11) hv12) ?_
        have S155 := S45.trans0 s147
        have ob156 := ((ob24.step0 s40).step0 s147)
        obtain ⟨r157, hr158, HF⟩ := bind_some HF
        refine WL.call rfl rfl rfl (oc_func (vs := [.pointer (some ⟨b1, 0, none⟩), .string (((x11.name ++ (⟨#[40]⟩ : ByteArray)) ++ r141) ++ (⟨#[41, 59]⟩ : ByteArray))]) rfl t_ent_39) (ok_print_lines_line _ hr158 S155.sub (rs6.mono ((s19.le).trans ((s40.le).trans s147.le))) (by rw [S155.eqb]; exact (((ow7.step0 s19).step0 s40).step0 s147)) ob156 tn14) ?_
        have ob163 := ((ob20.step0 s40).step0 s147)
        have ob164 := (ob41.step0 s147)
        rintro v159 w160 ⟨h161, s162, rfl, ⟨v165, rs166, ow167, om168, ob171⟩⟩
        have ow169 := Own.rb ow167 S155.eqb
        have om170 : ∀ i ∈ v165.ownBlock.toList, i ∈ (Value.slice A4 xs3.length c5).ownBlock.toList ∨ w0.heap.size ≤ i := fun i hi => (om168 i hi).elim (fun q => om8 i q) (fun q => .inr (Nat.le_trans S155.size q))
        have S172 := S155.trans s162 (in_cons (.inl (by simp)) (in_own (fun i hi => (om8 i hi).elim (fun q => .inl (by simp only [List.mem_cons, List.mem_append]; simp [q])) .inr) in_nil))
        refine WL.nil ?_
        refine WQ.blockN ?_
        refine WQ.end0 rfl ?_
        obtain rfl := Option.some.inj HF
        exact ⟨_, rfl, h161, S172, rfl, ⟨_, rs166, ow169, om170, ob171⟩⟩
    · replace HF := bif_f hb139 HF
      refine WC.seq ?_
      refine WC.region ?_
      refine WL.val rfl rfl rfl (ov_eql rfl rfl) ?_
      refine WL.val rfl rfl rfl (ov_assign rfl) ?_
      refine WL.nil ?_
      refine WQ.seqN ?_
      refine WC.cond (b := (x11.op : Int) == 8) rfl (fun hb173 => ?_) (fun hb173 => ?_)
      · replace HF := bif_t hb173 HF
        refine WC.region ?_
        have ob174 := (ob20.step0 s40)
        refine WL.val rfl rfl rfl (ov_load1 rfl t_agg_77 (OB.cell ob174 (j := 0) rfl)) ?_
        refine WL.val rfl rfl rfl (ov_nilCheck rfl) ?_
        refine WL.val rfl rfl rfl (ov_fieldAddr rfl t_field_55_0) ?_
        have ob175 := (ob24.step0 s40)
        obtain ⟨r176, hr177, HF⟩ := bind_some HF
        refine WL.call rfl rfl rfl (oc_func (vs := [.pointer (some ⟨b1, 0, none⟩), .string (⟨#[101, 120, 105, 116, 59]⟩ : ByteArray)]) rfl t_ent_39) (ok_print_lines_line _ hr177 S45.sub (rs6.mono ((s19.le).trans s40.le)) (by rw [S45.eqb]; exact ((ow7.step0 s19).step0 s40)) ob175 tn14) ?_
        rintro v178 w179 ⟨h180, s181, rfl, ⟨v182, rs183, ow184, om185, ob188⟩⟩
        have ow186 := Own.rb ow184 S45.eqb
        have om187 : ∀ i ∈ v182.ownBlock.toList, i ∈ (Value.slice A4 xs3.length c5).ownBlock.toList ∨ w0.heap.size ≤ i := fun i hi => (om185 i hi).elim (fun q => om8 i q) (fun q => .inr (Nat.le_trans S45.size q))
        have S189 := S45.trans s181 (in_cons (.inl (by simp)) (in_own (fun i hi => (om8 i hi).elim (fun q => .inl (by simp only [List.mem_cons, List.mem_append]; simp [q])) .inr) in_nil))
        refine WL.nil ?_
        refine WQ.blockN ?_
        refine WQ.end0 rfl ?_
        obtain rfl := Option.some.inj HF
        exact ⟨_, rfl, h180, S189, rfl, ⟨_, rs183, ow186, om187, ob188⟩⟩
      · replace HF := bif_f hb173 HF
        refine WC.seq ?_
        refine WC.region ?_
        refine WL.val rfl rfl rfl (ov_eql rfl rfl) ?_
        refine WL.val rfl rfl rfl (ov_assign rfl) ?_
        refine WL.nil ?_
        refine WQ.seqN ?_
        refine WC.cond (b := (x11.op : Int) == 9) rfl (fun hb190 => ?_) (fun hb190 => ?_)
        · replace HF := bif_t hb190 HF
          refine WC.region ?_
          have ob191 := (ob20.step0 s40)
          refine WL.val rfl rfl rfl (ov_load1 rfl t_agg_77 (OB.cell ob191 (j := 0) rfl)) ?_
          refine WL.val rfl rfl rfl (ov_nilCheck rfl) ?_
          refine WL.val rfl rfl rfl (ov_fieldAddr rfl t_field_55_0) ?_
          have ob192 := (ob24.step0 s40)
          obtain ⟨r193, hr194, HF⟩ := bind_some HF
          refine WL.call rfl rfl rfl (oc_func (vs := [.pointer (some ⟨b1, 0, none⟩), .string (⟨#[114, 101, 116, 117, 114, 110, 59]⟩ : ByteArray)]) rfl t_ent_39) (ok_print_lines_line _ hr194 S45.sub (rs6.mono ((s19.le).trans s40.le)) (by rw [S45.eqb]; exact ((ow7.step0 s19).step0 s40)) ob192 tn14) ?_
          rintro v195 w196 ⟨h197, s198, rfl, ⟨v199, rs200, ow201, om202, ob205⟩⟩
          have ow203 := Own.rb ow201 S45.eqb
          have om204 : ∀ i ∈ v199.ownBlock.toList, i ∈ (Value.slice A4 xs3.length c5).ownBlock.toList ∨ w0.heap.size ≤ i := fun i hi => (om202 i hi).elim (fun q => om8 i q) (fun q => .inr (Nat.le_trans S45.size q))
          have S206 := S45.trans s198 (in_cons (.inl (by simp)) (in_own (fun i hi => (om8 i hi).elim (fun q => .inl (by simp only [List.mem_cons, List.mem_append]; simp [q])) .inr) in_nil))
          refine WL.nil ?_
          refine WQ.blockN ?_
          refine WQ.end0 rfl ?_
          obtain rfl := Option.some.inj HF
          exact ⟨_, rfl, h197, S206, rfl, ⟨_, rs200, ow203, om204, ob205⟩⟩
        · replace HF := bif_f hb190 HF
          refine WC.seq ?_
          refine WC.region ?_
          refine WL.val rfl rfl rfl (ov_eql rfl rfl) ?_
          refine WL.val rfl rfl rfl (ov_assign rfl) ?_
          refine WL.nil ?_
          refine WQ.seqN ?_
          refine WC.cond (b := (x11.op : Int) == 3) rfl (fun hb207 => ?_) (fun hb207 => ?_)
          · replace HF := bif_t hb207 HF
            refine WC.seq ?_
            obtain ⟨A208, c209, rfl, rs210⟩ := RS.form (rs30.mono (s40.le))
            obtain ⟨e211, he212, HF⟩ := bind_some HF
            obtain ⟨b213, o214, rfl, h216, h217, ra215⟩ := RS.atO rs210 he212
            obtain ⟨cs218, r219, hc220⟩ := ra215
            obtain ⟨r221, hr222, HF⟩ := bind_some HF
            obtain ⟨hl223, HF⟩ := ite_none HF
            obtain ⟨hl224, HF⟩ := ite_none HF
            refine WC.drawn (m := 10) [(2, .pointer (some ⟨b17, 0, none⟩)), (3, .pointer (some ⟨b38, 0, none⟩))] [2, 3] rfl (fun i v w h => match i with | 0 => v = .pointer (some ⟨b1, 0, none⟩) | 1 => v = .pointer (some ⟨b1, 0, none⟩) | 2 => v = .pointer (some ⟨b1, 0, none⟩) | 3 => v = .pointer (some ⟨b38, 4, none⟩) | 4 => v = .slice (some ⟨b213, o214, none⟩) (x11.args).length c209 | 5 => v = .pointer (some ⟨b213, o214 + Int.toNat 0 * 6, none⟩) | 6 => v = .agg cs218.toArray | 7 => v = .string r221 | 8 => v = .string ((⟨#[105, 102, 32]⟩ : ByteArray) ++ r221) | 9 => v = .string (((⟨#[105, 102, 32]⟩ : ByteArray) ++ r221) ++ (⟨#[32, 116, 104, 101, 110]⟩ : ByteArray)) | _ => True) t_mixed S45.sub rfl rfl rfl rfl rfl ?_ ?_ ?_
            · intro i v w h w2 h2 hΦ hst
              match i, hΦ with
              | 0, hΦ => exact hΦ
              | 1, hΦ => exact hΦ
              | 2, hΦ => exact hΦ
              | 3, hΦ => exact hΦ
              | 4, hΦ => exact hΦ
              | 5, hΦ => exact hΦ
              | 6, hΦ => exact hΦ
              | 7, hΦ => exact hΦ
              | 8, hΦ => exact hΦ
              | 9, hΦ => exact hΦ
              | i + 10, _ => exact trivial
            · refine ⟨?_, ?_, ?_, ?_, ?_, ?_, ?_, ?_, ?_, ?_, trivial⟩
              · intro a w225 h226 s227 hat hF
                have ob228 := ((ob20.step0 s40).step0 s227)
                exact front_val (show At _ [(2, .pointer (some ⟨b17, 0, none⟩)), (3, .pointer (some ⟨b38, 0, none⟩))] _ from hat) rfl (ov_load1 rfl t_agg_77 (OB.cell ob228 (j := 0) rfl)) s227.sub (by exact rfl)
              · intro a w225 h226 s227 hat hF
                obtain hv0 := hF 0 72 rfl rfl
                exact front_val (show At _ [(72, .pointer (some ⟨b1, 0, none⟩)), (2, .pointer (some ⟨b17, 0, none⟩)), (3, .pointer (some ⟨b38, 0, none⟩))] _ from (At.cons hat hv0)) rfl (ov_nilCheck rfl) s227.sub (by exact rfl)
              · intro a w225 h226 s227 hat hF
                obtain hv1 := hF 1 73 rfl rfl
                exact front_val (show At _ [(73, .pointer (some ⟨b1, 0, none⟩)), (2, .pointer (some ⟨b17, 0, none⟩)), (3, .pointer (some ⟨b38, 0, none⟩))] _ from (At.cons hat hv1)) rfl (ov_fieldAddr rfl t_field_55_0) s227.sub (by exact rfl)
              · intro a w225 h226 s227 hat hF
                exact front_val (show At _ [(2, .pointer (some ⟨b17, 0, none⟩)), (3, .pointer (some ⟨b38, 0, none⟩))] _ from hat) rfl (ov_fieldAddr rfl t_field_44_4) s227.sub (by exact rfl)
              · intro a w225 h226 s227 hat hF
                obtain hv3 := hF 3 75 rfl rfl
                have ob229 := (ob41.step0 s227)
                exact front_val (show At _ [(75, .pointer (some ⟨b38, 4, none⟩)), (2, .pointer (some ⟨b17, 0, none⟩)), (3, .pointer (some ⟨b38, 0, none⟩))] _ from (At.cons hat hv3)) rfl (ov_load1 rfl t_agg_30 (OB.cell ob229 (j := 4) rfl)) s227.sub (by exact rfl)
              · intro a w225 h226 s227 hat hF
                obtain hv4 := hF 4 76 rfl rfl
                exact front_val (show At _ [(76, .slice (some ⟨b213, o214, none⟩) (x11.args).length c209), (2, .pointer (some ⟨b17, 0, none⟩)), (3, .pointer (some ⟨b38, 0, none⟩))] _ from (At.cons hat hv4)) rfl (ov_indexAddr rfl rfl t_slice_30 t_size_32 h216 h217) s227.sub (by exact rfl)
              · intro a w225 h226 s227 hat hF
                obtain hv5 := hF 5 77 rfl rfl
                exact front_val (show At _ [(77, .pointer (some ⟨b213, o214 + Int.toNat 0 * 6, none⟩)), (2, .pointer (some ⟨b17, 0, none⟩)), (3, .pointer (some ⟨b38, 0, none⟩))] _ from (At.cons hat hv5)) rfl (ov_loadN (cs := cs218) rfl t_agg_32 (by rw [Rp.len (Rp.mono (s227.le) r219)]; exact t_size_32) (fun j v hv => s227.sub.at_ _ _ _ ((fun i v hv => (s227.le).1 _ _ _ (hc220 i v hv)) j v hv))) s227.sub (by exact rfl)
              · intro a w225 h226 s227 hat hF
                obtain hv6 := hF 6 78 rfl rfl
                refine front_call (show At _ [(78, .agg cs218.toArray), (2, .pointer (some ⟨b17, 0, none⟩)), (3, .pointer (some ⟨b38, 0, none⟩))] _ from (At.cons hat hv6)) rfl (oc_func (vs := [.agg cs218.toArray]) rfl t_ent_27) (ok_print_Of _ hr222 s227.sub (Rp.mono (s227.le) r219)) ?_
                rintro _ w230 ⟨h231, s232, rfl⟩
                exact ⟨_, h231, rfl, s232, (by exact rfl)⟩
              · intro a w225 h226 s227 hat hF
                obtain hv7 := hF 7 79 rfl rfl
                exact front_val (show At _ [(79, .string r221), (2, .pointer (some ⟨b17, 0, none⟩)), (3, .pointer (some ⟨b38, 0, none⟩))] _ from (At.cons hat hv7)) rfl (ov_addS rfl rfl hl223) s227.sub (by exact rfl)
              · intro a w225 h226 s227 hat hF
                obtain hv8 := hF 8 80 rfl rfl
                exact front_val (show At _ [(80, .string ((⟨#[105, 102, 32]⟩ : ByteArray) ++ r221)), (2, .pointer (some ⟨b17, 0, none⟩)), (3, .pointer (some ⟨b38, 0, none⟩))] _ from (At.cons hat hv8)) rfl (ov_addS rfl rfl hl224) s227.sub (by exact rfl)
            · intro a w225 h226 s227 hat hF
              obtain hv0 := hF 0 72 (by decide) rfl
              obtain hv1 := hF 1 73 (by decide) rfl
              obtain hv2 := hF 2 74 (by decide) rfl
              obtain hv3 := hF 3 75 (by decide) rfl
              obtain hv4 := hF 4 76 (by decide) rfl
              obtain hv5 := hF 5 77 (by decide) rfl
              obtain hv6 := hF 6 78 (by decide) rfl
              obtain hv7 := hF 7 79 (by decide) rfl
              obtain hv8 := hF 8 80 (by decide) rfl
              obtain hv9 := hF 9 81 (by decide) rfl
              refine WL.at_ [(81, .string (((⟨#[105, 102, 32]⟩ : ByteArray) ++ r221) ++ (⟨#[32, 116, 104, 101, 110]⟩ : ByteArray))), (80, .string ((⟨#[105, 102, 32]⟩ : ByteArray) ++ r221)), (79, .string r221), (78, .agg cs218.toArray), (77, .pointer (some ⟨b213, o214 + Int.toNat 0 * 6, none⟩)), (76, .slice (some ⟨b213, o214, none⟩) (x11.args).length c209), (75, .pointer (some ⟨b38, 4, none⟩)), (74, .pointer (some ⟨b1, 0, none⟩)), (73, .pointer (some ⟨b1, 0, none⟩)), (72, .pointer (some ⟨b1, 0, none⟩)), (2, .pointer (some ⟨b17, 0, none⟩)), (3, .pointer (some ⟨b38, 0, none⟩))] (At.cons (At.cons (At.cons (At.cons (At.cons (At.cons (At.cons (At.cons (At.cons (At.cons hat hv0) hv1) hv2) hv3) hv4) hv5) hv6) hv7) hv8) hv9) ?_
              have S233 := S45.trans0 s227
              have ob234 := ((ob24.step0 s40).step0 s227)
              obtain ⟨r235, hr236, HF⟩ := bind_some HF
              refine WL.call rfl rfl rfl (oc_func (vs := [.pointer (some ⟨b1, 0, none⟩), .string (((⟨#[105, 102, 32]⟩ : ByteArray) ++ r221) ++ (⟨#[32, 116, 104, 101, 110]⟩ : ByteArray))]) rfl t_ent_39) (ok_print_lines_line _ hr236 S233.sub (rs6.mono ((s19.le).trans ((s40.le).trans s227.le))) (by rw [S233.eqb]; exact (((ow7.step0 s19).step0 s40).step0 s227)) ob234 tn14) ?_
              have ob241 := ((ob20.step0 s40).step0 s227)
              have ob242 := (ob41.step0 s227)
              rintro v237 w238 ⟨h239, s240, rfl, ⟨v243, rs244, ow245, om246, ob249⟩⟩
              have ow247 := Own.rb ow245 S233.eqb
              have om248 : ∀ i ∈ v243.ownBlock.toList, i ∈ (Value.slice A4 xs3.length c5).ownBlock.toList ∨ w0.heap.size ≤ i := fun i hi => (om246 i hi).elim (fun q => om8 i q) (fun q => .inr (Nat.le_trans S233.size q))
              have S250 := S233.trans s240 (in_cons (.inl (by simp)) (in_own (fun i hi => (om8 i hi).elim (fun q => .inl (by simp only [List.mem_cons, List.mem_append]; simp [q])) .inr) in_nil))
              refine WL.nil ?_
              refine WQ.seqN ?_
              refine WC.seq ?_
              refine WC.region ?_
              have ob251 := (ob241.step s240 (ni_cons (Ne.symm ne21) (ni_own (fun hm => (((ow7.step0 s19).step0 s40).step0 s227).ne ob241 (by decide) _ hm rfl) ni_nil)))
              refine WL.val rfl rfl rfl (ov_load1 rfl t_agg_77 (OB.cell ob251 (j := 0) rfl)) ?_
              refine WL.val rfl rfl rfl (ov_fieldAddr rfl t_field_44_6) ?_
              have ob252 := (ob242.step s240 (ni_cons (Ne.symm ne42) (ni_own (fun hm => (((ow7.step0 s19).step0 s40).step0 s227).ne ob242 (by decide) _ hm rfl) ni_nil)))
              refine WL.val rfl rfl rfl (ov_load1 rfl t_agg_22 (OB.cell ob252 (j := 6) rfl)) ?_
              obtain ⟨A253, c254, rfl, rs255⟩ := RS.form rs244
              obtain ⟨r256, hr257, HF⟩ := bind_some HF
              refine WL.call rfl rfl rfl (oc_func (vs := [.pointer (some ⟨b1, 0, none⟩), v31]) rfl t_ent_41) ((IH _ (Nat.le_refl _)).2.1 hr257 S250.sub rs255 (by rw [S250.eqb]; exact ow247) (rs32.mono ((s40.le).trans ((s227.le).trans s240.le))) ob249 tn14) ?_
              rintro v258 w259 ⟨h260, s261, rfl, ⟨v262, rs263, ow264, om265, ob268⟩⟩
              have ow266 := Own.rb ow264 S250.eqb
              have om267 : ∀ i ∈ v262.ownBlock.toList, i ∈ (Value.slice A4 xs3.length c5).ownBlock.toList ∨ w0.heap.size ≤ i := fun i hi => (om265 i hi).elim (fun q => om248 i q) (fun q => .inr (Nat.le_trans S250.size q))
              have S269 := S250.trans s261 (in_cons (.inl (by simp)) (in_own (fun i hi => (om248 i hi).elim (fun q => .inl (by simp only [List.mem_cons, List.mem_append]; simp [q])) .inr) in_nil))
              refine WL.nil ?_
              refine WQ.seqN ?_
              refine WC.seq ?_
              refine WC.seq ?_
              refine WC.region ?_
              refine WL.val rfl rfl rfl (ov_fieldAddr rfl t_field_44_7) ?_
              have ob270 := (ob252.step s261 (ni_cons (Ne.symm ne42) (ni_own (fun hm => ow247.ne ob252 (by decide) _ hm rfl) ni_nil)))
              refine WL.val rfl rfl rfl (ov_load1 rfl t_agg_42 (OB.cell ob270 (j := 7) rfl)) ?_
              obtain ⟨A271, c272, rfl, rs273⟩ := RS.form (rs34.mono ((s40.le).trans ((s227.le).trans ((s240.le).trans s261.le))))
              refine WL.val rfl rfl rfl (ov_lenL rfl t_slice_42) ?_
              refine WL.val rfl rfl rfl (ov_move rfl) ?_
              refine WL.nil ?_
              refine WQ.seqN ?_
              refine WC.block ?_
              refine WC.loop ?_
              refine WP.to [2, 3, 88, 89, 90] [(2, .pointer (some ⟨b17, 0, none⟩)), (3, .pointer (some ⟨b38, 0, none⟩)), (88, .slice A271 (x11.arms).length c272), (89, .int .i64 (x11.arms.length : Int)), (90, .int .i64 0)] rfl ?_
              refine WP_rule (K := k) (fun j E w275 => ∃ (h274 : Hp) (x278 : Int) (x279 : Bool) (xs280 : List UInt8) (v281 : Value) (x285 : ByteArray) (xs288 : List Ar) (v289 : Value), (tie_print_printer_stmt j).print_printer_stmt_l2 x11 x278 x279 xs280 x285 xs288 = some r ∧ E = [(2, .pointer (some ⟨b17, 0, none⟩)), (3, .pointer (some ⟨b38, 0, none⟩)), (88, .slice A271 (x11.arms).length c272), (89, .int .i64 (x11.arms.length : Int)), (90, .int .i64 x278)] ∧ Stp (b1 :: ((Value.slice A4 xs3.length c5).ownBlock.toList ++ [])) w0 h0 w275 h274 ∧ Hle h260 h274 ∧ RS h274 v281 xs280 ∧ Own w275 h274 h0.base 5 1 v281 xs280.length ∧ (∀ i ∈ v281.ownBlock.toList, i ∈ (Value.slice A4 xs3.length c5).ownBlock.toList ∨ w0.heap.size ≤ i) ∧ RS h274 v289 xs288 ∧ OB w275 h274 b1 55 [.pointer (bif x279 then some ⟨b1, 0, none⟩ else none), v281, .string x285] ∧ OB w275 h274 b17 77 [.pointer (some ⟨b1, 0, none⟩)] ∧ OB w275 h274 b38 44 [.int .i64 x11.op, .string x11.name, v25, v27, .slice (some ⟨b213, o214, none⟩) (x11.args).length c209, .int .i64 x11.n, v31, v289, v35, .bool x11.els]) ?_ ?_ (j := k) (Nat.le_refl _) ?_
              · rintro E w275 ⟨_, _, _, _, _, _, _, _, HF, _⟩; cases HF
              · rintro j292 hj294 IHL293 E w275 ⟨h274, x278, x279, xs280, v281, x285, xs288, v289, HF, rfl, S277, le276, rs282, ow283, om284, rs290, ob286, ob287, ob291⟩
                refine WC.seq ?_
                refine WC.region ?_
                refine WL.val rfl rfl rfl (ov_lss rfl rfl) ?_
                refine WL.nil ?_
                refine WQ.seqN ?_
                refine WC.join (fun E w333 => ∃ (h332 : Hp) (xs336 : List UInt8) (v337 : Value), print_printer_stmt_j3 j292 (tie_print_printer_stmt j292) x11 x278 x279 x285 xs288 xs336 = some r ∧ E = [(2, .pointer (some ⟨b17, 0, none⟩)), (3, .pointer (some ⟨b38, 0, none⟩)), (88, .slice A271 (x11.arms).length c272), (89, .int .i64 (x11.arms.length : Int)), (90, .int .i64 x278)] ∧ Stp (b1 :: ((Value.slice A4 xs3.length c5).ownBlock.toList ++ [])) w0 h0 w333 h332 ∧ Hle h274 h332 ∧ RS h332 v337 xs336 ∧ Own w333 h332 h0.base 5 1 v337 xs336.length ∧ (∀ i ∈ v337.ownBlock.toList, i ∈ (Value.slice A4 xs3.length c5).ownBlock.toList ∨ w0.heap.size ≤ i) ∧ OB w333 h332 b1 55 [.pointer (bif x279 then some ⟨b1, 0, none⟩ else none), v337, .string x285] ∧ OB w333 h332 b17 77 [.pointer (some ⟨b1, 0, none⟩)] ∧ OB w333 h332 b38 44 [.int .i64 x11.op, .string x11.name, v25, v27, .slice (some ⟨b213, o214, none⟩) (x11.args).length c209, .int .i64 x11.n, v31, v289, v35, .bool x11.els]) ?_ ?_
                · rintro E w333 ⟨h332, xs336, v337, HF, rfl, S335, le334, rs338, ow339, om340, ob341, ob342, ob343⟩
                  refine WC.seq ?_
                  refine WC.block ?_
                  refine WC.seq ?_
                  refine WC.region ?_
                  obtain ⟨e344, he345, HF⟩ := bind_some HF
                  obtain ⟨b346, o347, rfl, h349, h350, ra348⟩ := RS.atO (rs273.mono ((le276).trans le334)) he345
                  obtain ⟨cs351, r352, hc353⟩ := ra348
                  refine WL.val rfl rfl rfl (ov_indexAddr rfl rfl t_slice_42 t_size_47 h349 h350) ?_
                  refine WL.val rfl rfl rfl (ov_loadN (cs := cs351) rfl t_agg_47 (by rw [Rp.len r352]; exact t_size_47) (fun j v hv => S335.sub.at_ _ _ _ (hc353 j v hv))) ?_
                  refine WL.alloc (zs := [.slice none 0 0, .slice none 0 0, .slice none 0 0]) rfl rfl t_zero_47 rfl S335.sub (fun w354 b355 hb356 s357 ob358 => ?_)
                  have ne359 : b1 ≠ b355 := ob341.ne_new hb356
                  have ne360 : b17 ≠ b355 := ob342.ne_new hb356
                  have ne361 : b38 ≠ b355 := ob343.ne_new hb356
                  have g362 : w0.heap.size ≤ b355 := by rw [hb356]; exact S335.size
                  have S363 := S335.trans0 s357
                  obtain ⟨v364, v366, v368, rfl, rs365, rs367, rs369⟩ := rp_Ar.1 (Rp.mono (s357.le) r352)
                  refine WL.store (vs := [v364, v366, v368]) rfl rfl rfl rfl t_size_47 (one_cons (RS.one rs365) (one_cons (RS.one rs367) (one_cons (RS.one rs369) one_nil))) ob358 S363.sub (by simp) (ds := [v364, v366, v368]) rfl (fun w370 s371 ob372 => ?_)
                  have S373 := S363.trans1 s371 (.inr g362)
                  refine WL.nil ?_
                  refine WQ.seqN ?_
                  refine WC.seq ?_
                  obtain ⟨A374, c375, rfl, rs376⟩ := RS.form (rs365.mono (s371.le))
                  obtain ⟨e377, he378, HF⟩ := bind_some HF
                  obtain ⟨b379, o380, rfl, h382, h383, ra381⟩ := RS.atO rs376 he378
                  obtain ⟨cs384, r385, hc386⟩ := ra381
                  obtain ⟨r387, hr388, HF⟩ := bind_some HF
                  obtain ⟨hl389, HF⟩ := ite_none HF
                  obtain ⟨hl390, HF⟩ := ite_none HF
                  refine WC.drawn (m := 10) [(2, .pointer (some ⟨b17, 0, none⟩)), (3, .pointer (some ⟨b38, 0, none⟩)), (6, .pointer (some ⟨b355, 0, none⟩)), (88, .slice (some ⟨b346, o347, none⟩) (x11.arms).length c272), (89, .int .i64 (x11.arms.length : Int)), (90, .int .i64 x278)] [2, 3, 6, 88, 89, 90] rfl (fun i v w h => match i with | 0 => v = .pointer (some ⟨b1, 0, none⟩) | 1 => v = .pointer (some ⟨b1, 0, none⟩) | 2 => v = .pointer (some ⟨b1, 0, none⟩) | 3 => v = .pointer (some ⟨b355, 0, none⟩) | 4 => v = .slice (some ⟨b379, o380, none⟩) (e344.cond).length c375 | 5 => v = .pointer (some ⟨b379, o380 + Int.toNat 0 * 6, none⟩) | 6 => v = .agg cs384.toArray | 7 => v = .string r387 | 8 => v = .string ((⟨#[101, 108, 115, 105, 102, 32]⟩ : ByteArray) ++ r387) | 9 => v = .string (((⟨#[101, 108, 115, 105, 102, 32]⟩ : ByteArray) ++ r387) ++ (⟨#[32, 116, 104, 101, 110]⟩ : ByteArray)) | _ => True) t_mixed S373.sub rfl rfl rfl rfl rfl ?_ ?_ ?_
                  · intro i v w h w2 h2 hΦ hst
                    match i, hΦ with
                    | 0, hΦ => exact hΦ
                    | 1, hΦ => exact hΦ
                    | 2, hΦ => exact hΦ
                    | 3, hΦ => exact hΦ
                    | 4, hΦ => exact hΦ
                    | 5, hΦ => exact hΦ
                    | 6, hΦ => exact hΦ
                    | 7, hΦ => exact hΦ
                    | 8, hΦ => exact hΦ
                    | 9, hΦ => exact hΦ
                    | i + 10, _ => exact trivial
                  · refine ⟨?_, ?_, ?_, ?_, ?_, ?_, ?_, ?_, ?_, ?_, trivial⟩
                    · intro a w391 h392 s393 hat hF
                      have ob394 := (((ob342.step0 s357).step1 s371 ne360).step0 s393)
                      exact front_val (show At _ [(2, .pointer (some ⟨b17, 0, none⟩)), (3, .pointer (some ⟨b38, 0, none⟩)), (6, .pointer (some ⟨b355, 0, none⟩)), (88, .slice (some ⟨b346, o347, none⟩) (x11.arms).length c272), (89, .int .i64 (x11.arms.length : Int)), (90, .int .i64 x278)] _ from hat) rfl (ov_load1 rfl t_agg_77 (OB.cell ob394 (j := 0) rfl)) s393.sub (by exact rfl)
                    · intro a w391 h392 s393 hat hF
                      obtain hv0 := hF 0 94 rfl rfl
                      exact front_val (show At _ [(94, .pointer (some ⟨b1, 0, none⟩)), (2, .pointer (some ⟨b17, 0, none⟩)), (3, .pointer (some ⟨b38, 0, none⟩)), (6, .pointer (some ⟨b355, 0, none⟩)), (88, .slice (some ⟨b346, o347, none⟩) (x11.arms).length c272), (89, .int .i64 (x11.arms.length : Int)), (90, .int .i64 x278)] _ from (At.cons hat hv0)) rfl (ov_nilCheck rfl) s393.sub (by exact rfl)
                    · intro a w391 h392 s393 hat hF
                      obtain hv1 := hF 1 95 rfl rfl
                      exact front_val (show At _ [(95, .pointer (some ⟨b1, 0, none⟩)), (2, .pointer (some ⟨b17, 0, none⟩)), (3, .pointer (some ⟨b38, 0, none⟩)), (6, .pointer (some ⟨b355, 0, none⟩)), (88, .slice (some ⟨b346, o347, none⟩) (x11.arms).length c272), (89, .int .i64 (x11.arms.length : Int)), (90, .int .i64 x278)] _ from (At.cons hat hv1)) rfl (ov_fieldAddr rfl t_field_55_0) s393.sub (by exact rfl)
                    · intro a w391 h392 s393 hat hF
                      exact front_val (show At _ [(2, .pointer (some ⟨b17, 0, none⟩)), (3, .pointer (some ⟨b38, 0, none⟩)), (6, .pointer (some ⟨b355, 0, none⟩)), (88, .slice (some ⟨b346, o347, none⟩) (x11.arms).length c272), (89, .int .i64 (x11.arms.length : Int)), (90, .int .i64 x278)] _ from hat) rfl (ov_fieldAddr rfl t_field_47_0) s393.sub (by exact rfl)
                    · intro a w391 h392 s393 hat hF
                      obtain hv3 := hF 3 97 rfl rfl
                      have ob395 := (ob372.step0 s393)
                      exact front_val (show At _ [(97, .pointer (some ⟨b355, 0, none⟩)), (2, .pointer (some ⟨b17, 0, none⟩)), (3, .pointer (some ⟨b38, 0, none⟩)), (6, .pointer (some ⟨b355, 0, none⟩)), (88, .slice (some ⟨b346, o347, none⟩) (x11.arms).length c272), (89, .int .i64 (x11.arms.length : Int)), (90, .int .i64 x278)] _ from (At.cons hat hv3)) rfl (ov_load1 rfl t_agg_30 (OB.cell ob395 (j := 0) rfl)) s393.sub (by exact rfl)
                    · intro a w391 h392 s393 hat hF
                      obtain hv4 := hF 4 98 rfl rfl
                      exact front_val (show At _ [(98, .slice (some ⟨b379, o380, none⟩) (e344.cond).length c375), (2, .pointer (some ⟨b17, 0, none⟩)), (3, .pointer (some ⟨b38, 0, none⟩)), (6, .pointer (some ⟨b355, 0, none⟩)), (88, .slice (some ⟨b346, o347, none⟩) (x11.arms).length c272), (89, .int .i64 (x11.arms.length : Int)), (90, .int .i64 x278)] _ from (At.cons hat hv4)) rfl (ov_indexAddr rfl rfl t_slice_30 t_size_32 h382 h383) s393.sub (by exact rfl)
                    · intro a w391 h392 s393 hat hF
                      obtain hv5 := hF 5 99 rfl rfl
                      exact front_val (show At _ [(99, .pointer (some ⟨b379, o380 + Int.toNat 0 * 6, none⟩)), (2, .pointer (some ⟨b17, 0, none⟩)), (3, .pointer (some ⟨b38, 0, none⟩)), (6, .pointer (some ⟨b355, 0, none⟩)), (88, .slice (some ⟨b346, o347, none⟩) (x11.arms).length c272), (89, .int .i64 (x11.arms.length : Int)), (90, .int .i64 x278)] _ from (At.cons hat hv5)) rfl (ov_loadN (cs := cs384) rfl t_agg_32 (by rw [Rp.len (Rp.mono (s393.le) r385)]; exact t_size_32) (fun j v hv => s393.sub.at_ _ _ _ ((fun i v hv => (s393.le).1 _ _ _ (hc386 i v hv)) j v hv))) s393.sub (by exact rfl)
                    · intro a w391 h392 s393 hat hF
                      obtain hv6 := hF 6 100 rfl rfl
                      refine front_call (show At _ [(100, .agg cs384.toArray), (2, .pointer (some ⟨b17, 0, none⟩)), (3, .pointer (some ⟨b38, 0, none⟩)), (6, .pointer (some ⟨b355, 0, none⟩)), (88, .slice (some ⟨b346, o347, none⟩) (x11.arms).length c272), (89, .int .i64 (x11.arms.length : Int)), (90, .int .i64 x278)] _ from (At.cons hat hv6)) rfl (oc_func (vs := [.agg cs384.toArray]) rfl t_ent_27) (ok_print_Of _ hr388 s393.sub (Rp.mono (s393.le) r385)) ?_
                      rintro _ w396 ⟨h397, s398, rfl⟩
                      exact ⟨_, h397, rfl, s398, (by exact rfl)⟩
                    · intro a w391 h392 s393 hat hF
                      obtain hv7 := hF 7 101 rfl rfl
                      exact front_val (show At _ [(101, .string r387), (2, .pointer (some ⟨b17, 0, none⟩)), (3, .pointer (some ⟨b38, 0, none⟩)), (6, .pointer (some ⟨b355, 0, none⟩)), (88, .slice (some ⟨b346, o347, none⟩) (x11.arms).length c272), (89, .int .i64 (x11.arms.length : Int)), (90, .int .i64 x278)] _ from (At.cons hat hv7)) rfl (ov_addS rfl rfl hl389) s393.sub (by exact rfl)
                    · intro a w391 h392 s393 hat hF
                      obtain hv8 := hF 8 102 rfl rfl
                      exact front_val (show At _ [(102, .string ((⟨#[101, 108, 115, 105, 102, 32]⟩ : ByteArray) ++ r387)), (2, .pointer (some ⟨b17, 0, none⟩)), (3, .pointer (some ⟨b38, 0, none⟩)), (6, .pointer (some ⟨b355, 0, none⟩)), (88, .slice (some ⟨b346, o347, none⟩) (x11.arms).length c272), (89, .int .i64 (x11.arms.length : Int)), (90, .int .i64 x278)] _ from (At.cons hat hv8)) rfl (ov_addS rfl rfl hl390) s393.sub (by exact rfl)
                  · intro a w391 h392 s393 hat hF
                    obtain hv0 := hF 0 94 (by decide) rfl
                    obtain hv1 := hF 1 95 (by decide) rfl
                    obtain hv2 := hF 2 96 (by decide) rfl
                    obtain hv3 := hF 3 97 (by decide) rfl
                    obtain hv4 := hF 4 98 (by decide) rfl
                    obtain hv5 := hF 5 99 (by decide) rfl
                    obtain hv6 := hF 6 100 (by decide) rfl
                    obtain hv7 := hF 7 101 (by decide) rfl
                    obtain hv8 := hF 8 102 (by decide) rfl
                    obtain hv9 := hF 9 103 (by decide) rfl
                    refine WL.at_ [(103, .string (((⟨#[101, 108, 115, 105, 102, 32]⟩ : ByteArray) ++ r387) ++ (⟨#[32, 116, 104, 101, 110]⟩ : ByteArray))), (102, .string ((⟨#[101, 108, 115, 105, 102, 32]⟩ : ByteArray) ++ r387)), (101, .string r387), (100, .agg cs384.toArray), (99, .pointer (some ⟨b379, o380 + Int.toNat 0 * 6, none⟩)), (98, .slice (some ⟨b379, o380, none⟩) (e344.cond).length c375), (97, .pointer (some ⟨b355, 0, none⟩)), (96, .pointer (some ⟨b1, 0, none⟩)), (95, .pointer (some ⟨b1, 0, none⟩)), (94, .pointer (some ⟨b1, 0, none⟩)), (2, .pointer (some ⟨b17, 0, none⟩)), (3, .pointer (some ⟨b38, 0, none⟩)), (6, .pointer (some ⟨b355, 0, none⟩)), (88, .slice (some ⟨b346, o347, none⟩) (x11.arms).length c272), (89, .int .i64 (x11.arms.length : Int)), (90, .int .i64 x278)] (At.cons (At.cons (At.cons (At.cons (At.cons (At.cons (At.cons (At.cons (At.cons (At.cons hat hv0) hv1) hv2) hv3) hv4) hv5) hv6) hv7) hv8) hv9) ?_
                    have S399 := S373.trans0 s393
                    obtain ⟨A400, c401, rfl, rs402⟩ := RS.form (rs338.mono ((s357.le).trans ((s371.le).trans s393.le)))
                    have ob403 := (((ob341.step0 s357).step1 s371 ne359).step0 s393)
                    obtain ⟨r404, hr405, HF⟩ := bind_some HF
                    refine WL.call rfl rfl rfl (oc_func (vs := [.pointer (some ⟨b1, 0, none⟩), .string (((⟨#[101, 108, 115, 105, 102, 32]⟩ : ByteArray) ++ r387) ++ (⟨#[32, 116, 104, 101, 110]⟩ : ByteArray))]) rfl t_ent_39) (ok_print_lines_line _ hr405 S399.sub rs402 (by rw [S399.eqb]; exact (((ow339.step0 s357).step s371 (on_cons ((ow339.step0 s357).ne_ob ob358 (by decide)) on_nil)).step0 s393)) ob403 tn14) ?_
                    have ob410 := (((ob342.step0 s357).step1 s371 ne360).step0 s393)
                    have ob411 := (((ob343.step0 s357).step1 s371 ne361).step0 s393)
                    have ob412 := (ob372.step0 s393)
                    rintro v406 w407 ⟨h408, s409, rfl, ⟨v413, rs414, ow415, om416, ob419⟩⟩
                    have ow417 := Own.rb ow415 S399.eqb
                    have om418 : ∀ i ∈ v413.ownBlock.toList, i ∈ (Value.slice A4 xs3.length c5).ownBlock.toList ∨ w0.heap.size ≤ i := fun i hi => (om416 i hi).elim (fun q => om340 i q) (fun q => .inr (Nat.le_trans S399.size q))
                    have S420 := S399.trans s409 (in_cons (.inl (by simp)) (in_own (fun i hi => (om340 i hi).elim (fun q => .inl (by simp only [List.mem_cons, List.mem_append]; simp [q])) .inr) in_nil))
                    refine WL.nil ?_
                    refine WQ.seqN ?_
                    refine WC.region ?_
                    have ob421 := (ob410.step s409 (ni_cons (Ne.symm ne21) (ni_own (fun hm => (((ow339.step0 s357).step s371 (on_cons ((ow339.step0 s357).ne_ob ob358 (by decide)) on_nil)).step0 s393).ne ob410 (by decide) _ hm rfl) ni_nil)))
                    refine WL.val rfl rfl rfl (ov_load1 rfl t_agg_77 (OB.cell ob421 (j := 0) rfl)) ?_
                    refine WL.val rfl rfl rfl (ov_fieldAddr rfl t_field_47_2) ?_
                    have ob422 := (ob412.step s409 (ni_cons (Ne.symm ne359) (ni_own (fun hm => (((ow339.step0 s357).step s371 (on_cons ((ow339.step0 s357).ne_ob ob358 (by decide)) on_nil)).step0 s393).ne ob412 (by decide) _ hm rfl) ni_nil)))
                    refine WL.val rfl rfl rfl (ov_load1 rfl t_agg_22 (OB.cell ob422 (j := 2) rfl)) ?_
                    obtain ⟨A423, c424, rfl, rs425⟩ := RS.form rs414
                    obtain ⟨r426, hr427, HF⟩ := bind_some HF
                    refine WL.call rfl rfl rfl (oc_func (vs := [.pointer (some ⟨b1, 0, none⟩), v368]) rfl t_ent_41) ((IH _ (Nat.le_trans (Nat.le_of_succ_le hj294) (Nat.le_refl _))).2.1 hr427 S420.sub rs425 (by rw [S420.eqb]; exact ow417) (rs369.mono ((s371.le).trans ((s393.le).trans s409.le))) ob419 tn14) ?_
                    have ob432 := (ob411.step s409 (ni_cons (Ne.symm ne42) (ni_own (fun hm => (((ow339.step0 s357).step s371 (on_cons ((ow339.step0 s357).ne_ob ob358 (by decide)) on_nil)).step0 s393).ne ob411 (by decide) _ hm rfl) ni_nil)))
                    rintro v428 w429 ⟨h430, s431, rfl, ⟨v433, rs434, ow435, om436, ob439⟩⟩
                    have ow437 := Own.rb ow435 S420.eqb
                    have om438 : ∀ i ∈ v433.ownBlock.toList, i ∈ (Value.slice A4 xs3.length c5).ownBlock.toList ∨ w0.heap.size ≤ i := fun i hi => (om436 i hi).elim (fun q => om418 i q) (fun q => .inr (Nat.le_trans S420.size q))
                    have S440 := S420.trans s431 (in_cons (.inl (by simp)) (in_own (fun i hi => (om418 i hi).elim (fun q => .inl (by simp only [List.mem_cons, List.mem_append]; simp [q])) .inr) in_nil))
                    refine WL.nil ?_
                    refine WQ.blockN ?_
                    refine WQ.seqN ?_
                    refine WC.region ?_
                    refine WL.val rfl rfl rfl (ov_add rfl rfl) ?_
                    refine WL.val rfl rfl rfl (ov_move rfl) ?_
                    refine WL.nil ?_
                    have ob442 := (ob421.step s431 (ni_cons (Ne.symm ne21) (ni_own (fun hm => ow417.ne ob421 (by decide) _ hm rfl) ni_nil)))
                    have ob443 := (ob432.step s431 (ni_cons (Ne.symm ne42) (ni_own (fun hm => ow417.ne ob432 (by decide) _ hm rfl) ni_nil)))
                    refine WQ.loopN ?_
                    refine WP.to [2, 3, 88, 89, 90] [(2, .pointer (some ⟨b17, 0, none⟩)), (3, .pointer (some ⟨b38, 0, none⟩)), (88, .slice (some ⟨b346, o347, none⟩) (x11.arms).length c272), (89, .int .i64 (x11.arms.length : Int)), (90, .int .i64 (IntKind.i64.wrap (x278 + 1)))] rfl ?_
                    exact IHL293 j292 (Nat.le_refl _) _ _ ⟨h430, IntKind.i64.wrap (x278 + 1), r426.1, r426.2.1, v433, r426.2.2, xs288, v289, HF, rfl, S440, (le276).trans ((le334).trans ((s357.le).trans ((s371.le).trans ((s393.le).trans ((s409.le).trans s431.le))))), rs434, ow437, om438, (rs290.mono ((le334).trans ((s357.le).trans ((s371.le).trans ((s393.le).trans ((s409.le).trans s431.le)))))), ob439, ob442, ob443⟩
                · intro J441
                  refine WC.cond (b := decide ((x278 : Int) < (x11.arms.length : Int))) rfl (fun hb295 => ?_) (fun hb295 => ?_)
                  · replace HF := bif_t hb295 HF
                    refine WC.skip ?_
                    refine WC.to [2, 3, 88, 89, 90] [(2, .pointer (some ⟨b17, 0, none⟩)), (3, .pointer (some ⟨b38, 0, none⟩)), (88, .slice A271 (x11.arms).length c272), (89, .int .i64 (x11.arms.length : Int)), (90, .int .i64 x278)] rfl ?_
                    exact J441 ⟨h274, xs280, v281, HF, rfl, S277, Hle.refl _, rs282, ow283, om284, ob286, ob287, ob291⟩
                  · replace HF := bif_f hb295 HF
                    refine WC.exit ?_
                    refine WQ.thenExit ?_
                    refine WQ.thenExit ?_
                    refine WQ.blockHit ?_
                    refine WQ.seqN ?_
                    refine WC.seq ?_
                    refine WC.region ?_
                    refine WL.val rfl rfl rfl (ov_load1 rfl t_agg_77 (OB.cell ob287 (j := 0) rfl)) ?_
                    refine WL.val rfl rfl rfl (ov_loadN (cs := [.int .i64 x11.op, .string x11.name, v25, v27, .slice (some ⟨b213, o214, none⟩) (x11.args).length c209, .int .i64 x11.n, v31, v289, v35, .bool x11.els]) rfl t_agg_44 t_size_44 (OB.cells ob291 0 rfl)) ?_
                    obtain ⟨A296, c297, rfl, rs298⟩ := RS.form rs282
                    obtain ⟨r299, hr300, HF⟩ := bind_some HF
                    refine WL.call rfl rfl rfl (oc_func (vs := [.pointer (some ⟨b1, 0, none⟩), .agg #[.int .i64 x11.op, .string x11.name, v25, v27, .slice (some ⟨b213, o214, none⟩) (x11.args).length c209, .int .i64 x11.n, v31, v289, v35, .bool x11.els]]) rfl t_ent_42) ((IH _ (Nat.le_trans (Nat.le_of_succ_le hj294) (Nat.le_refl _))).2.2.2.2.2.2.2 hr300 S277.sub rs298 (by rw [S277.eqb]; exact ow283) (rp_St.2 ⟨_, _, _, _, _, _, rfl, (rs26.mono ((s40.le).trans ((s227.le).trans ((s240.le).trans ((s261.le).trans le276))))), (rs28.mono ((s40.le).trans ((s227.le).trans ((s240.le).trans ((s261.le).trans le276))))), (rs210.mono ((s227.le).trans ((s240.le).trans ((s261.le).trans le276)))), (rs32.mono ((s40.le).trans ((s227.le).trans ((s240.le).trans ((s261.le).trans le276))))), rs290, (rs36.mono ((s40.le).trans ((s227.le).trans ((s240.le).trans ((s261.le).trans le276)))))⟩) ob286 tn14) ?_
                    rintro v301 w302 ⟨h303, s304, rfl, ⟨v305, rs306, ow307, om308, ob311⟩⟩
                    have ow309 := Own.rb ow307 S277.eqb
                    have om310 : ∀ i ∈ v305.ownBlock.toList, i ∈ (Value.slice A4 xs3.length c5).ownBlock.toList ∨ w0.heap.size ≤ i := fun i hi => (om308 i hi).elim (fun q => om284 i q) (fun q => .inr (Nat.le_trans S277.size q))
                    have S312 := S277.trans s304 (in_cons (.inl (by simp)) (in_own (fun i hi => (om284 i hi).elim (fun q => .inl (by simp only [List.mem_cons, List.mem_append]; simp [q])) .inr) in_nil))
                    refine WL.nil ?_
                    refine WQ.seqN ?_
                    refine WC.region ?_
                    have ob313 := (ob287.step s304 (ni_cons (Ne.symm ne21) (ni_own (fun hm => ow283.ne ob287 (by decide) _ hm rfl) ni_nil)))
                    refine WL.val rfl rfl rfl (ov_load1 rfl t_agg_77 (OB.cell ob313 (j := 0) rfl)) ?_
                    refine WL.val rfl rfl rfl (ov_nilCheck rfl) ?_
                    refine WL.val rfl rfl rfl (ov_fieldAddr rfl t_field_55_0) ?_
                    obtain ⟨A314, c315, rfl, rs316⟩ := RS.form rs306
                    obtain ⟨r317, hr318, HF⟩ := bind_some HF
                    refine WL.call rfl rfl rfl (oc_func (vs := [.pointer (some ⟨b1, 0, none⟩), .string (⟨#[101, 110, 100, 95, 105, 102, 59]⟩ : ByteArray)]) rfl t_ent_39) (ok_print_lines_line _ hr318 S312.sub rs316 (by rw [S312.eqb]; exact ow309) ob311 tn14) ?_
                    have ob323 := (ob291.step s304 (ni_cons (Ne.symm ne42) (ni_own (fun hm => ow283.ne ob291 (by decide) _ hm rfl) ni_nil)))
                    rintro v319 w320 ⟨h321, s322, rfl, ⟨v324, rs325, ow326, om327, ob330⟩⟩
                    have ow328 := Own.rb ow326 S312.eqb
                    have om329 : ∀ i ∈ v324.ownBlock.toList, i ∈ (Value.slice A4 xs3.length c5).ownBlock.toList ∨ w0.heap.size ≤ i := fun i hi => (om327 i hi).elim (fun q => om310 i q) (fun q => .inr (Nat.le_trans S312.size q))
                    have S331 := S312.trans s322 (in_cons (.inl (by simp)) (in_own (fun i hi => (om310 i hi).elim (fun q => .inl (by simp only [List.mem_cons, List.mem_append]; simp [q])) .inr) in_nil))
                    refine WL.nil ?_
                    refine WQ.blockN ?_
                    refine WQ.end0 rfl ?_
                    obtain rfl := Option.some.inj HF
                    exact ⟨_, rfl, h321, S331, rfl, ⟨_, rs325, ow328, om329, ob330⟩⟩
              have ob444 := (ob251.step s261 (ni_cons (Ne.symm ne21) (ni_own (fun hm => ow247.ne ob251 (by decide) _ hm rfl) ni_nil)))
              · exact ⟨h260, 0, r256.1, r256.2.1, v262, r256.2.2, x11.arms, .slice A271 (x11.arms).length c272, HF, rfl, S269, Hle.refl _, rs263, ow266, om267, rs273, ob268, ob444, ob270⟩
          · replace HF := bif_f hb207 HF
            refine WC.seq ?_
            refine WC.region ?_
            refine WL.val rfl rfl rfl (ov_eql rfl rfl) ?_
            refine WL.val rfl rfl rfl (ov_assign rfl) ?_
            refine WL.nil ?_
            refine WQ.seqN ?_
            refine WC.cond (b := (x11.op : Int) == 4) rfl (fun hb445 => ?_) (fun hb445 => ?_)
            · replace HF := bif_t hb445 HF
              refine WC.seq ?_
              obtain ⟨A446, c447, rfl, rs448⟩ := RS.form (rs30.mono (s40.le))
              obtain ⟨e449, he450, HF⟩ := bind_some HF
              obtain ⟨b451, o452, rfl, h454, h455, ra453⟩ := RS.atO rs448 he450
              obtain ⟨cs456, r457, hc458⟩ := ra453
              obtain ⟨r459, hr460, HF⟩ := bind_some HF
              obtain ⟨hl461, HF⟩ := ite_none HF
              obtain ⟨hl462, HF⟩ := ite_none HF
              refine WC.drawn (m := 10) [(2, .pointer (some ⟨b17, 0, none⟩)), (3, .pointer (some ⟨b38, 0, none⟩))] [2, 3] rfl (fun i v w h => match i with | 0 => v = .pointer (some ⟨b1, 0, none⟩) | 1 => v = .pointer (some ⟨b1, 0, none⟩) | 2 => v = .pointer (some ⟨b1, 0, none⟩) | 3 => v = .pointer (some ⟨b38, 4, none⟩) | 4 => v = .slice (some ⟨b451, o452, none⟩) (x11.args).length c447 | 5 => v = .pointer (some ⟨b451, o452 + Int.toNat 0 * 6, none⟩) | 6 => v = .agg cs456.toArray | 7 => v = .string r459 | 8 => v = .string ((⟨#[99, 97, 115, 101, 32]⟩ : ByteArray) ++ r459) | 9 => v = .string (((⟨#[99, 97, 115, 101, 32]⟩ : ByteArray) ++ r459) ++ (⟨#[32, 111, 102]⟩ : ByteArray)) | _ => True) t_mixed S45.sub rfl rfl rfl rfl rfl ?_ ?_ ?_
              · intro i v w h w2 h2 hΦ hst
                match i, hΦ with
                | 0, hΦ => exact hΦ
                | 1, hΦ => exact hΦ
                | 2, hΦ => exact hΦ
                | 3, hΦ => exact hΦ
                | 4, hΦ => exact hΦ
                | 5, hΦ => exact hΦ
                | 6, hΦ => exact hΦ
                | 7, hΦ => exact hΦ
                | 8, hΦ => exact hΦ
                | 9, hΦ => exact hΦ
                | i + 10, _ => exact trivial
              · refine ⟨?_, ?_, ?_, ?_, ?_, ?_, ?_, ?_, ?_, ?_, trivial⟩
                · intro a w463 h464 s465 hat hF
                  have ob466 := ((ob20.step0 s40).step0 s465)
                  exact front_val (show At _ [(2, .pointer (some ⟨b17, 0, none⟩)), (3, .pointer (some ⟨b38, 0, none⟩))] _ from hat) rfl (ov_load1 rfl t_agg_77 (OB.cell ob466 (j := 0) rfl)) s465.sub (by exact rfl)
                · intro a w463 h464 s465 hat hF
                  obtain hv0 := hF 0 119 rfl rfl
                  exact front_val (show At _ [(119, .pointer (some ⟨b1, 0, none⟩)), (2, .pointer (some ⟨b17, 0, none⟩)), (3, .pointer (some ⟨b38, 0, none⟩))] _ from (At.cons hat hv0)) rfl (ov_nilCheck rfl) s465.sub (by exact rfl)
                · intro a w463 h464 s465 hat hF
                  obtain hv1 := hF 1 120 rfl rfl
                  exact front_val (show At _ [(120, .pointer (some ⟨b1, 0, none⟩)), (2, .pointer (some ⟨b17, 0, none⟩)), (3, .pointer (some ⟨b38, 0, none⟩))] _ from (At.cons hat hv1)) rfl (ov_fieldAddr rfl t_field_55_0) s465.sub (by exact rfl)
                · intro a w463 h464 s465 hat hF
                  exact front_val (show At _ [(2, .pointer (some ⟨b17, 0, none⟩)), (3, .pointer (some ⟨b38, 0, none⟩))] _ from hat) rfl (ov_fieldAddr rfl t_field_44_4) s465.sub (by exact rfl)
                · intro a w463 h464 s465 hat hF
                  obtain hv3 := hF 3 122 rfl rfl
                  have ob467 := (ob41.step0 s465)
                  exact front_val (show At _ [(122, .pointer (some ⟨b38, 4, none⟩)), (2, .pointer (some ⟨b17, 0, none⟩)), (3, .pointer (some ⟨b38, 0, none⟩))] _ from (At.cons hat hv3)) rfl (ov_load1 rfl t_agg_30 (OB.cell ob467 (j := 4) rfl)) s465.sub (by exact rfl)
                · intro a w463 h464 s465 hat hF
                  obtain hv4 := hF 4 123 rfl rfl
                  exact front_val (show At _ [(123, .slice (some ⟨b451, o452, none⟩) (x11.args).length c447), (2, .pointer (some ⟨b17, 0, none⟩)), (3, .pointer (some ⟨b38, 0, none⟩))] _ from (At.cons hat hv4)) rfl (ov_indexAddr rfl rfl t_slice_30 t_size_32 h454 h455) s465.sub (by exact rfl)
                · intro a w463 h464 s465 hat hF
                  obtain hv5 := hF 5 124 rfl rfl
                  exact front_val (show At _ [(124, .pointer (some ⟨b451, o452 + Int.toNat 0 * 6, none⟩)), (2, .pointer (some ⟨b17, 0, none⟩)), (3, .pointer (some ⟨b38, 0, none⟩))] _ from (At.cons hat hv5)) rfl (ov_loadN (cs := cs456) rfl t_agg_32 (by rw [Rp.len (Rp.mono (s465.le) r457)]; exact t_size_32) (fun j v hv => s465.sub.at_ _ _ _ ((fun i v hv => (s465.le).1 _ _ _ (hc458 i v hv)) j v hv))) s465.sub (by exact rfl)
                · intro a w463 h464 s465 hat hF
                  obtain hv6 := hF 6 125 rfl rfl
                  refine front_call (show At _ [(125, .agg cs456.toArray), (2, .pointer (some ⟨b17, 0, none⟩)), (3, .pointer (some ⟨b38, 0, none⟩))] _ from (At.cons hat hv6)) rfl (oc_func (vs := [.agg cs456.toArray]) rfl t_ent_27) (ok_print_Of _ hr460 s465.sub (Rp.mono (s465.le) r457)) ?_
                  rintro _ w468 ⟨h469, s470, rfl⟩
                  exact ⟨_, h469, rfl, s470, (by exact rfl)⟩
                · intro a w463 h464 s465 hat hF
                  obtain hv7 := hF 7 126 rfl rfl
                  exact front_val (show At _ [(126, .string r459), (2, .pointer (some ⟨b17, 0, none⟩)), (3, .pointer (some ⟨b38, 0, none⟩))] _ from (At.cons hat hv7)) rfl (ov_addS rfl rfl hl461) s465.sub (by exact rfl)
                · intro a w463 h464 s465 hat hF
                  obtain hv8 := hF 8 127 rfl rfl
                  exact front_val (show At _ [(127, .string ((⟨#[99, 97, 115, 101, 32]⟩ : ByteArray) ++ r459)), (2, .pointer (some ⟨b17, 0, none⟩)), (3, .pointer (some ⟨b38, 0, none⟩))] _ from (At.cons hat hv8)) rfl (ov_addS rfl rfl hl462) s465.sub (by exact rfl)
              · intro a w463 h464 s465 hat hF
                obtain hv0 := hF 0 119 (by decide) rfl
                obtain hv1 := hF 1 120 (by decide) rfl
                obtain hv2 := hF 2 121 (by decide) rfl
                obtain hv3 := hF 3 122 (by decide) rfl
                obtain hv4 := hF 4 123 (by decide) rfl
                obtain hv5 := hF 5 124 (by decide) rfl
                obtain hv6 := hF 6 125 (by decide) rfl
                obtain hv7 := hF 7 126 (by decide) rfl
                obtain hv8 := hF 8 127 (by decide) rfl
                obtain hv9 := hF 9 128 (by decide) rfl
                refine WL.at_ [(128, .string (((⟨#[99, 97, 115, 101, 32]⟩ : ByteArray) ++ r459) ++ (⟨#[32, 111, 102]⟩ : ByteArray))), (127, .string ((⟨#[99, 97, 115, 101, 32]⟩ : ByteArray) ++ r459)), (126, .string r459), (125, .agg cs456.toArray), (124, .pointer (some ⟨b451, o452 + Int.toNat 0 * 6, none⟩)), (123, .slice (some ⟨b451, o452, none⟩) (x11.args).length c447), (122, .pointer (some ⟨b38, 4, none⟩)), (121, .pointer (some ⟨b1, 0, none⟩)), (120, .pointer (some ⟨b1, 0, none⟩)), (119, .pointer (some ⟨b1, 0, none⟩)), (2, .pointer (some ⟨b17, 0, none⟩)), (3, .pointer (some ⟨b38, 0, none⟩))] (At.cons (At.cons (At.cons (At.cons (At.cons (At.cons (At.cons (At.cons (At.cons (At.cons hat hv0) hv1) hv2) hv3) hv4) hv5) hv6) hv7) hv8) hv9) ?_
                have S471 := S45.trans0 s465
                have ob472 := ((ob24.step0 s40).step0 s465)
                obtain ⟨r473, hr474, HF⟩ := bind_some HF
                refine WL.call rfl rfl rfl (oc_func (vs := [.pointer (some ⟨b1, 0, none⟩), .string (((⟨#[99, 97, 115, 101, 32]⟩ : ByteArray) ++ r459) ++ (⟨#[32, 111, 102]⟩ : ByteArray))]) rfl t_ent_39) (ok_print_lines_line _ hr474 S471.sub (rs6.mono ((s19.le).trans ((s40.le).trans s465.le))) (by rw [S471.eqb]; exact (((ow7.step0 s19).step0 s40).step0 s465)) ob472 tn14) ?_
                have ob479 := ((ob20.step0 s40).step0 s465)
                have ob480 := (ob41.step0 s465)
                rintro v475 w476 ⟨h477, s478, rfl, ⟨v481, rs482, ow483, om484, ob487⟩⟩
                have ow485 := Own.rb ow483 S471.eqb
                have om486 : ∀ i ∈ v481.ownBlock.toList, i ∈ (Value.slice A4 xs3.length c5).ownBlock.toList ∨ w0.heap.size ≤ i := fun i hi => (om484 i hi).elim (fun q => om8 i q) (fun q => .inr (Nat.le_trans S471.size q))
                have S488 := S471.trans s478 (in_cons (.inl (by simp)) (in_own (fun i hi => (om8 i hi).elim (fun q => .inl (by simp only [List.mem_cons, List.mem_append]; simp [q])) .inr) in_nil))
                refine WL.nil ?_
                refine WQ.seqN ?_
                refine WC.seq ?_
                refine WC.region ?_
                have ob489 := (ob479.step s478 (ni_cons (Ne.symm ne21) (ni_own (fun hm => (((ow7.step0 s19).step0 s40).step0 s465).ne ob479 (by decide) _ hm rfl) ni_nil)))
                refine WL.val rfl rfl rfl (ov_load1 rfl t_agg_77 (OB.cell ob489 (j := 0) rfl)) ?_
                refine WL.val rfl rfl rfl (ov_nilCheck rfl) ?_
                refine WL.val rfl rfl rfl (ov_fieldAddr rfl t_field_55_0) ?_
                refine WL.val rfl rfl rfl (ov_makeFunc (vs := [.pointer (some ⟨b38, 0, none⟩), .pointer (some ⟨b17, 0, none⟩)]) rfl) ?_
                obtain ⟨A490, c491, rfl, rs492⟩ := RS.form rs482
                have ob493 := (ob480.step s478 (ni_cons (Ne.symm ne42) (ni_own (fun hm => (((ow7.step0 s19).step0 s40).step0 s465).ne ob480 (by decide) _ hm rfl) ni_nil)))
                obtain ⟨r494, hr495, HF⟩ := bind_some HF
                refine WL.call rfl rfl rfl (oc_func (vs := [.pointer (some ⟨b1, 0, none⟩), .func (.func 44) #[] #[.pointer (some ⟨b38, 0, none⟩), .pointer (some ⟨b17, 0, none⟩)]]) rfl t_ent_43) ((IH _ (Nat.le_refl _)).2.2.2.2.2.1 hr495 S488.sub rs492 (by rw [S488.eqb]; exact ow485) (rs26.mono ((s40.le).trans ((s465.le).trans s478.le))) (rs28.mono ((s40.le).trans ((s465.le).trans s478.le))) (rs448.mono ((s465.le).trans s478.le)) (rs32.mono ((s40.le).trans ((s465.le).trans s478.le))) (rs34.mono ((s40.le).trans ((s465.le).trans s478.le))) (rs36.mono ((s40.le).trans ((s465.le).trans s478.le))) ob487 ob493 ob489 ne42 ne21 (Ne.symm ne43) tn14 (by decide) (by decide)) ?_
                rintro v496 w497 ⟨h498, s499, rfl, ⟨v500, rs501, ow502, om503, ob506⟩⟩
                have ow504 := Own.rb ow502 S488.eqb
                have om505 : ∀ i ∈ v500.ownBlock.toList, i ∈ (Value.slice A4 xs3.length c5).ownBlock.toList ∨ w0.heap.size ≤ i := fun i hi => (om503 i hi).elim (fun q => om486 i q) (fun q => .inr (Nat.le_trans S488.size q))
                have S507 := S488.trans s499 (in_cons (.inl (by simp)) (in_own (fun i hi => (om486 i hi).elim (fun q => .inl (by simp only [List.mem_cons, List.mem_append]; simp [q])) .inr) in_nil))
                refine WL.nil ?_
                refine WQ.seqN ?_
                refine WC.seq ?_
                refine WC.region ?_
                have ob508 := (ob489.step s499 (ni_cons (Ne.symm ne21) (ni_own (fun hm => ow485.ne ob489 (by decide) _ hm rfl) ni_nil)))
                refine WL.val rfl rfl rfl (ov_load1 rfl t_agg_77 (OB.cell ob508 (j := 0) rfl)) ?_
                have ob509 := (ob493.step s499 (ni_cons (Ne.symm ne42) (ni_own (fun hm => ow485.ne ob493 (by decide) _ hm rfl) ni_nil)))
                refine WL.val rfl rfl rfl (ov_loadN (cs := [.int .i64 x11.op, .string x11.name, v25, v27, .slice (some ⟨b451, o452, none⟩) (x11.args).length c447, .int .i64 x11.n, v31, v33, v35, .bool x11.els]) rfl t_agg_44 t_size_44 (OB.cells ob509 0 rfl)) ?_
                obtain ⟨A510, c511, rfl, rs512⟩ := RS.form rs501
                obtain ⟨r513, hr514, HF⟩ := bind_some HF
                refine WL.call rfl rfl rfl (oc_func (vs := [.pointer (some ⟨b1, 0, none⟩), .agg #[.int .i64 x11.op, .string x11.name, v25, v27, .slice (some ⟨b451, o452, none⟩) (x11.args).length c447, .int .i64 x11.n, v31, v33, v35, .bool x11.els]]) rfl t_ent_42) ((IH _ (Nat.le_refl _)).2.2.2.2.2.2.2 hr514 S507.sub rs512 (by rw [S507.eqb]; exact ow504) (rp_St.2 ⟨_, _, _, _, _, _, rfl, (rs26.mono ((s40.le).trans ((s465.le).trans ((s478.le).trans s499.le)))), (rs28.mono ((s40.le).trans ((s465.le).trans ((s478.le).trans s499.le)))), (rs448.mono ((s465.le).trans ((s478.le).trans s499.le))), (rs32.mono ((s40.le).trans ((s465.le).trans ((s478.le).trans s499.le)))), (rs34.mono ((s40.le).trans ((s465.le).trans ((s478.le).trans s499.le)))), (rs36.mono ((s40.le).trans ((s465.le).trans ((s478.le).trans s499.le))))⟩) ob506 tn14) ?_
                rintro v515 w516 ⟨h517, s518, rfl, ⟨v519, rs520, ow521, om522, ob525⟩⟩
                have ow523 := Own.rb ow521 S507.eqb
                have om524 : ∀ i ∈ v519.ownBlock.toList, i ∈ (Value.slice A4 xs3.length c5).ownBlock.toList ∨ w0.heap.size ≤ i := fun i hi => (om522 i hi).elim (fun q => om505 i q) (fun q => .inr (Nat.le_trans S507.size q))
                have S526 := S507.trans s518 (in_cons (.inl (by simp)) (in_own (fun i hi => (om505 i hi).elim (fun q => .inl (by simp only [List.mem_cons, List.mem_append]; simp [q])) .inr) in_nil))
                refine WL.nil ?_
                refine WQ.seqN ?_
                refine WC.region ?_
                have ob527 := (ob508.step s518 (ni_cons (Ne.symm ne21) (ni_own (fun hm => ow504.ne ob508 (by decide) _ hm rfl) ni_nil)))
                refine WL.val rfl rfl rfl (ov_load1 rfl t_agg_77 (OB.cell ob527 (j := 0) rfl)) ?_
                refine WL.val rfl rfl rfl (ov_nilCheck rfl) ?_
                refine WL.val rfl rfl rfl (ov_fieldAddr rfl t_field_55_0) ?_
                obtain ⟨A528, c529, rfl, rs530⟩ := RS.form rs520
                obtain ⟨r531, hr532, HF⟩ := bind_some HF
                refine WL.call rfl rfl rfl (oc_func (vs := [.pointer (some ⟨b1, 0, none⟩), .string (⟨#[101, 110, 100, 95, 99, 97, 115, 101, 59]⟩ : ByteArray)]) rfl t_ent_39) (ok_print_lines_line _ hr532 S526.sub rs530 (by rw [S526.eqb]; exact ow523) ob525 tn14) ?_
                have ob537 := (ob509.step s518 (ni_cons (Ne.symm ne42) (ni_own (fun hm => ow504.ne ob509 (by decide) _ hm rfl) ni_nil)))
                rintro v533 w534 ⟨h535, s536, rfl, ⟨v538, rs539, ow540, om541, ob544⟩⟩
                have ow542 := Own.rb ow540 S526.eqb
                have om543 : ∀ i ∈ v538.ownBlock.toList, i ∈ (Value.slice A4 xs3.length c5).ownBlock.toList ∨ w0.heap.size ≤ i := fun i hi => (om541 i hi).elim (fun q => om524 i q) (fun q => .inr (Nat.le_trans S526.size q))
                have S545 := S526.trans s536 (in_cons (.inl (by simp)) (in_own (fun i hi => (om524 i hi).elim (fun q => .inl (by simp only [List.mem_cons, List.mem_append]; simp [q])) .inr) in_nil))
                refine WL.nil ?_
                refine WQ.blockN ?_
                refine WQ.end0 rfl ?_
                obtain rfl := Option.some.inj HF
                exact ⟨_, rfl, h535, S545, rfl, ⟨_, rs539, ow542, om543, ob544⟩⟩
            · replace HF := bif_f hb445 HF
              refine WC.region ?_
              have ob546 := (ob20.step0 s40)
              refine WL.val rfl rfl rfl (ov_load1 rfl t_agg_77 (OB.cell ob546 (j := 0) rfl)) ?_
              refine WL.val rfl rfl rfl (ov_loadN (cs := [.int .i64 x11.op, .string x11.name, v25, v27, v29, .int .i64 x11.n, v31, v33, v35, .bool x11.els]) rfl t_agg_44 t_size_44 (OB.cells ob41 0 rfl)) ?_
              have ob547 := (ob24.step0 s40)
              obtain ⟨r548, hr549, HF⟩ := bind_some HF
              refine WL.call rfl rfl rfl (oc_func (vs := [.pointer (some ⟨b1, 0, none⟩), .agg #[.int .i64 x11.op, .string x11.name, v25, v27, v29, .int .i64 x11.n, v31, v33, v35, .bool x11.els]]) rfl t_ent_46) ((IH _ (Nat.le_refl _)).2.2.2.2.1 hr549 S45.sub (rs6.mono ((s19.le).trans s40.le)) (by rw [S45.eqb]; exact ((ow7.step0 s19).step0 s40)) (rp_St.2 ⟨_, _, _, _, _, _, rfl, (rs26.mono (s40.le)), (rs28.mono (s40.le)), (rs30.mono (s40.le)), (rs32.mono (s40.le)), (rs34.mono (s40.le)), (rs36.mono (s40.le))⟩) ob547 tn14) ?_
              rintro v550 w551 ⟨h552, s553, rfl, ⟨v554, rs555, ow556, om557, ob560⟩⟩
              have ow558 := Own.rb ow556 S45.eqb
              have om559 : ∀ i ∈ v554.ownBlock.toList, i ∈ (Value.slice A4 xs3.length c5).ownBlock.toList ∨ w0.heap.size ≤ i := fun i hi => (om557 i hi).elim (fun q => om8 i q) (fun q => .inr (Nat.le_trans S45.size q))
              have S561 := S45.trans s553 (in_cons (.inl (by simp)) (in_own (fun i hi => (om8 i hi).elim (fun q => .inl (by simp only [List.mem_cons, List.mem_append]; simp [q])) .inr) in_nil))
              refine WL.nil ?_
              refine WQ.blockN ?_
              refine WQ.end0 rfl ?_
              obtain rfl := Option.some.inj HF
              exact ⟨_, rfl, h552, S561, rfl, ⟨_, rs555, ow558, om559, ob560⟩⟩
set_option maxRecDepth 20000 in
set_option maxHeartbeats 4000000 in
theorem s_print_printer_text (k : Nat) (IH : ∀ j, j ≤ k → C_print_printer_stmt (tie_print_printer_stmt j).print_printer_stmt ∧ C_print_printer_text (tie_print_printer_stmt j).print_printer_text ∧ C_print_lines_inside_v1 (tie_print_printer_stmt j).print_lines_inside_v1 ∧ C_print_printer_text_1 (tie_print_printer_stmt j).print_printer_text_1 ∧ C_print_printer_loop (tie_print_printer_stmt j).print_printer_loop ∧ C_print_lines_inside (tie_print_printer_stmt j).print_lines_inside ∧ C_print_printer_stmt_1 (tie_print_printer_stmt j).print_printer_stmt_1 ∧ C_print_printer_other (tie_print_printer_stmt j).print_printer_other) : C_print_printer_text (m_print_printer_text k (tie_print_printer_stmt k)) := by
  intro x2 xs3 x9 xs11 r HF w0 h0 b1 A4 c5 v12 hs0 rs6 ow7 rs13 ob10 tn14
  have S0 : Stp (b1 :: ((Value.slice A4 xs3.length c5).ownBlock.toList ++ [])) w0 h0 w0 h0 := Stp.refl hs0 _
  have om8 : ∀ i ∈ (Value.slice A4 xs3.length c5).ownBlock.toList, i ∈ (Value.slice A4 xs3.length c5).ownBlock.toList ∨ w0.heap.size ≤ i := fun i hi => .inl hi
  have lt15 : b1 < w0.heap.size := OB.lt ob10
  refine enter (n := 9) Tryz.func41 rfl Tryz.ntmps41 rfl [(0, .pointer (some ⟨b1, 0, none⟩)), (1, v12)] rfl ?_
  refine WC.seq ?_
  refine WC.region ?_
  refine WL.box (cs := [.pointer (some ⟨b1, 0, none⟩)]) rfl rfl rfl rfl S0.sub (fun w16 b17 hb18 s19 ob20 => ?_)
  have ne21 : b1 ≠ b17 := ob10.ne_new hb18
  have g22 : w0.heap.size ≤ b17 := by rw [hb18]; exact S0.size
  have S23 := S0.trans0 s19
  have ob24 := (ob10.step0 s19)
  refine WL.box (cs := [v12]) rfl rfl rfl (RS.cellsL (rs13.mono (s19.le))) S23.sub (fun w25 b26 hb27 s28 ob29 => ?_)
  have ne30 : b1 ≠ b26 := ob24.ne_new hb27
  have ne31 : b17 ≠ b26 := ob20.ne_new hb27
  have g32 : w0.heap.size ≤ b26 := by rw [hb27]; exact S23.size
  have S33 := S23.trans0 s28
  refine WL.nil ?_
  refine WQ.seqN ?_
  refine WC.region ?_
  have ob34 := (ob20.step0 s28)
  refine WL.val rfl rfl rfl (ov_load1 rfl t_agg_77 (OB.cell ob34 (j := 0) rfl)) ?_
  refine WL.val rfl rfl rfl (ov_nilCheck rfl) ?_
  refine WL.val rfl rfl rfl (ov_fieldAddr rfl t_field_55_0) ?_
  refine WL.val rfl rfl rfl (ov_makeFunc (vs := [.pointer (some ⟨b26, 0, none⟩), .pointer (some ⟨b17, 0, none⟩)]) rfl) ?_
  have ob35 := (ob24.step0 s28)
  obtain ⟨r36, hr37, HF⟩ := bind_some HF
  refine WL.call rfl rfl rfl (oc_func (vs := [.pointer (some ⟨b1, 0, none⟩), .func (.func 68) #[] #[.pointer (some ⟨b26, 0, none⟩), .pointer (some ⟨b17, 0, none⟩)]]) rfl t_ent_43) ((IH _ (Nat.le_refl _)).2.2.1 hr37 S33.sub (rs6.mono ((s19.le).trans s28.le)) (by rw [S33.eqb]; exact ((ow7.step0 s19).step0 s28)) (rs13.mono ((s19.le).trans s28.le)) ob35 ob29 ob34 ne30 ne21 (Ne.symm ne31) tn14 (by decide) (by decide)) ?_
  rintro v38 w39 ⟨h40, s41, rfl, ⟨v42, rs43, ow44, om45, ob48⟩⟩
  have ow46 := Own.rb ow44 S33.eqb
  have om47 : ∀ i ∈ v42.ownBlock.toList, i ∈ (Value.slice A4 xs3.length c5).ownBlock.toList ∨ w0.heap.size ≤ i := fun i hi => (om45 i hi).elim (fun q => om8 i q) (fun q => .inr (Nat.le_trans S33.size q))
  have S49 := S33.trans s41 (in_cons (.inl (by simp)) (in_own (fun i hi => (om8 i hi).elim (fun q => .inl (by simp only [List.mem_cons, List.mem_append]; simp [q])) .inr) in_nil))
  refine WL.nil ?_
  refine WQ.end0 rfl ?_
  obtain rfl := Option.some.inj HF
  exact ⟨_, rfl, h40, S49, rfl, ⟨_, rs43, ow46, om47, ob48⟩⟩
set_option maxRecDepth 20000 in
set_option maxHeartbeats 4000000 in
theorem s_print_lines_inside_v1 (k : Nat) (IH : ∀ j, j ≤ k → C_print_printer_stmt (tie_print_printer_stmt j).print_printer_stmt ∧ C_print_printer_text (tie_print_printer_stmt j).print_printer_text ∧ C_print_lines_inside_v1 (tie_print_printer_stmt j).print_lines_inside_v1 ∧ C_print_printer_text_1 (tie_print_printer_stmt j).print_printer_text_1 ∧ C_print_printer_loop (tie_print_printer_stmt j).print_printer_loop ∧ C_print_lines_inside (tie_print_printer_stmt j).print_lines_inside ∧ C_print_printer_stmt_1 (tie_print_printer_stmt j).print_printer_stmt_1 ∧ C_print_printer_other (tie_print_printer_stmt j).print_printer_other) : C_print_lines_inside_v1 (m_print_lines_inside_v1 k (tie_print_printer_stmt k)) := by
  intro x2 xs3 x9 xs13 r HF w0 h0 b1 A4 c5 b11 T12 v14 b17 T18 hs0 rs6 ow7 rs15 ob10 ob16 ob19 ne20 ne21 ne22 tn23 tn24 tn25
  have S0 : Stp (b1 :: ((Value.slice A4 xs3.length c5).ownBlock.toList ++ [])) w0 h0 w0 h0 := Stp.refl hs0 _
  have om8 : ∀ i ∈ (Value.slice A4 xs3.length c5).ownBlock.toList, i ∈ (Value.slice A4 xs3.length c5).ownBlock.toList ∨ w0.heap.size ≤ i := fun i hi => .inl hi
  have lt26 : b1 < w0.heap.size := OB.lt ob10
  have lt27 : b11 < w0.heap.size := OB.lt ob16
  have lt28 : b17 < w0.heap.size := OB.lt ob19
  refine enter (n := 20) Tryz.func43 rfl Tryz.ntmps43 rfl [(0, .pointer (some ⟨b1, 0, none⟩)), (1, .func (.func 68) #[] #[.pointer (some ⟨b11, 0, none⟩), .pointer (some ⟨b17, 0, none⟩)])] rfl ?_
  refine WC.seq ?_
  refine WC.region ?_
  refine WL.val rfl rfl rfl (ov_move rfl) ?_
  refine WL.val rfl rfl rfl (ov_nilCheck rfl) ?_
  refine WL.val rfl rfl rfl (ov_fieldAddr rfl t_field_53_1) ?_
  refine WL.val rfl rfl rfl (ov_load1 rfl t_agg_9 (OB.cell ob10 (j := 2) rfl)) ?_
  refine WL.val rfl rfl rfl (ov_assign rfl) ?_
  refine WL.nil ?_
  refine WQ.seqN ?_
  refine WC.seq ?_
  refine WC.region ?_
  refine WL.val rfl rfl rfl (ov_move rfl) ?_
  refine WL.val rfl rfl rfl (ov_move rfl) ?_
  obtain ⟨hl29, HF⟩ := ite_none HF
  refine WL.val rfl rfl rfl (ov_addS rfl rfl hl29) ?_
  refine WL.val rfl rfl rfl (ov_nilCheck rfl) ?_
  refine WL.val rfl rfl rfl (ov_fieldAddr rfl t_field_53_1) ?_
  refine WL.store (vs := [.string (x9 ++ (⟨#[32, 32]⟩ : ByteArray))]) rfl rfl rfl rfl t_size_9 (one_cons rfl one_nil) ob10 S0.sub (by simp) (ds := [.pointer (bif x2 then some ⟨b1, 0, none⟩ else none), .slice A4 xs3.length c5, .string (x9 ++ (⟨#[32, 32]⟩ : ByteArray))]) rfl (fun w30 s31 ob32 => ?_)
  have S33 := S0.trans1 s31 (.inl (by simp))
  refine WL.nil ?_
  refine WQ.seqN ?_
  refine WC.seq ?_
  refine WC.region ?_
  refine WL.val rfl rfl rfl (ov_move rfl) ?_
  have ob34 := (ob16.step1 s31 (Ne.symm ne20))
  have ob35 := (ob19.step1 s31 (Ne.symm ne21))
  obtain ⟨r36, hr37, HF⟩ := bind_some HF
  refine WL.call rfl rfl rfl (oc_val (vs := []) (caps := [.pointer (some ⟨b11, 0, none⟩), .pointer (some ⟨b17, 0, none⟩)]) rfl rfl t_ent_68) ((IH _ (Nat.le_refl _)).2.2.2.1 hr37 S33.sub (rs15.mono (s31.le)) (rs6.mono (s31.le)) (by rw [S33.eqb]; exact (ow7.step s31 (on_cons (ow7.ne_ob ob10 tn23) on_nil))) ob34 ob35 ob32 ne22 (Ne.symm ne20) (Ne.symm ne21) tn24 tn25 tn23) ?_
  rintro v38 w39 ⟨h40, s41, rfl, ⟨v42, rs43, ow44, om45, ob48⟩⟩
  have ow46 := Own.rb ow44 S33.eqb
  have om47 : ∀ i ∈ v42.ownBlock.toList, i ∈ (Value.slice A4 xs3.length c5).ownBlock.toList ∨ w0.heap.size ≤ i := fun i hi => (om45 i hi).elim (fun q => om8 i q) (fun q => .inr (Nat.le_trans S33.size q))
  have S49 := S33.trans s41 (in_cons (.inl (by simp)) (in_own (fun i hi => (om8 i hi).elim (fun q => .inl (by simp only [List.mem_cons, List.mem_append]; simp [q])) .inr) in_nil))
  refine WL.nil ?_
  refine WQ.seqN ?_
  refine WC.region ?_
  refine WL.val rfl rfl rfl (ov_move rfl) ?_
  refine WL.val rfl rfl rfl (ov_move rfl) ?_
  refine WL.val rfl rfl rfl (ov_nilCheck rfl) ?_
  refine WL.val rfl rfl rfl (ov_fieldAddr rfl t_field_53_1) ?_
  refine WL.store (vs := [.string x9]) rfl rfl rfl rfl t_size_9 (one_cons rfl one_nil) ob48 S49.sub (by simp) (ds := [.pointer (bif r36.1 then some ⟨b1, 0, none⟩ else none), v42, .string x9]) rfl (fun w50 s51 ob52 => ?_)
  have S53 := S49.trans1 s51 (.inl (by simp))
  refine WL.nil ?_
  refine WQ.end0 rfl ?_
  obtain rfl := Option.some.inj HF
  exact ⟨_, rfl, h40, S53, rfl, ⟨_, (rs43.mono (s51.le)), (ow46.step s51 (on_cons (ow46.ne_ob ob48 tn23) on_nil)), om47, ob52⟩⟩
set_option maxRecDepth 20000 in
set_option maxHeartbeats 4000000 in
theorem s_print_printer_text_1 (k : Nat) (IH : ∀ j, j ≤ k → C_print_printer_stmt (tie_print_printer_stmt j).print_printer_stmt ∧ C_print_printer_text (tie_print_printer_stmt j).print_printer_text ∧ C_print_lines_inside_v1 (tie_print_printer_stmt j).print_lines_inside_v1 ∧ C_print_printer_text_1 (tie_print_printer_stmt j).print_printer_text_1 ∧ C_print_printer_loop (tie_print_printer_stmt j).print_printer_loop ∧ C_print_lines_inside (tie_print_printer_stmt j).print_lines_inside ∧ C_print_printer_stmt_1 (tie_print_printer_stmt j).print_printer_stmt_1 ∧ C_print_printer_other (tie_print_printer_stmt j).print_printer_other) : C_print_printer_text_1 (m_print_printer_text_1 k (tie_print_printer_stmt k)) := by
  intro xs3 x10 xs11 x17 r HF w0 h0 b1 T2 v4 b7 T8 b9 A12 c13 hs0 rs5 rs14 ow15 ob6 ob19 ob18 ne20 ne21 ne22 tn23 tn24 tn25
  have S0 : Stp (b9 :: ((Value.slice A12 xs11.length c13).ownBlock.toList ++ [])) w0 h0 w0 h0 := Stp.refl hs0 _
  have om16 : ∀ i ∈ (Value.slice A12 xs11.length c13).ownBlock.toList, i ∈ (Value.slice A12 xs11.length c13).ownBlock.toList ∨ w0.heap.size ≤ i := fun i hi => .inl hi
  have lt26 : b1 < w0.heap.size := OB.lt ob6
  have lt27 : b7 < w0.heap.size := OB.lt ob19
  have lt28 : b9 < w0.heap.size := OB.lt ob18
  refine enter (n := 14) Tryz.func68 rfl Tryz.ntmps68 rfl [(0, .pointer (some ⟨b1, 0, none⟩)), (1, .pointer (some ⟨b7, 0, none⟩))] rfl ?_
  refine WC.seq ?_
  refine WC.region ?_
  refine WL.val rfl rfl rfl (ov_load1 rfl t_agg_22 (OB.cell ob6 (j := 0) rfl)) ?_
  obtain ⟨A29, c30, rfl, rs31⟩ := RS.form rs5
  refine WL.val rfl rfl rfl (ov_lenL rfl t_slice_22) ?_
  refine WL.val rfl rfl rfl (ov_move rfl) ?_
  refine WL.nil ?_
  refine WQ.seqN ?_
  refine WC.block ?_
  refine WC.loop ?_
  refine WP.to [1, 4, 5, 6] [(1, .pointer (some ⟨b7, 0, none⟩)), (4, .slice A29 (xs3).length c30), (5, .int .i64 (xs3.length : Int)), (6, .int .i64 0)] rfl ?_
  refine WP_rule (K := k) (fun j E w33 => ∃ (h32 : Hp) (x36 : Int) (xs37 : List St) (v38 : Value) (x42 : Bool) (xs43 : List UInt8) (v44 : Value) (x48 : ByteArray), (tie_print_printer_stmt j).print_printer_text_1_l1 xs3 x36 xs37 x42 xs43 x48 = some r ∧ E = [(1, .pointer (some ⟨b7, 0, none⟩)), (4, .slice A29 (xs3).length c30), (5, .int .i64 (xs3.length : Int)), (6, .int .i64 x36)] ∧ Stp (b9 :: ((Value.slice A12 xs11.length c13).ownBlock.toList ++ [])) w0 h0 w33 h32 ∧ Hle h0 h32 ∧ RS h32 v38 xs37 ∧ RS h32 v44 xs43 ∧ Own w33 h32 h0.base 5 1 v44 xs43.length ∧ (∀ i ∈ v44.ownBlock.toList, i ∈ (Value.slice A12 xs11.length c13).ownBlock.toList ∨ w0.heap.size ≤ i) ∧ OB w33 h32 b1 T2 [v38] ∧ OB w33 h32 b7 T8 [.pointer (some ⟨b9, 0, none⟩)] ∧ OB w33 h32 b9 55 [.pointer (bif x42 then some ⟨b9, 0, none⟩ else none), v44, .string x48]) ?_ ?_ (j := k) (Nat.le_refl _) ?_
  · rintro E w33 ⟨_, _, _, _, _, _, _, _, HF, _⟩; cases HF
  · rintro j50 hj52 IHL51 E w33 ⟨h32, x36, xs37, v38, x42, xs43, v44, x48, HF, rfl, S35, le34, rs39, rs45, ow46, om47, ob40, ob41, ob49⟩
    refine WC.seq ?_
    refine WC.region ?_
    refine WL.val rfl rfl rfl (ov_lss rfl rfl) ?_
    refine WL.nil ?_
    refine WQ.seqN ?_
    refine WC.join (fun E w55 => ∃ (h54 : Hp) (xs60 : List UInt8) (v61 : Value), print_printer_text_1_j2 j50 (tie_print_printer_stmt j50) xs3 x36 xs37 x42 x48 xs60 = some r ∧ E = [(1, .pointer (some ⟨b7, 0, none⟩)), (4, .slice A29 (xs3).length c30), (5, .int .i64 (xs3.length : Int)), (6, .int .i64 x36)] ∧ Stp (b9 :: ((Value.slice A12 xs11.length c13).ownBlock.toList ++ [])) w0 h0 w55 h54 ∧ Hle h32 h54 ∧ RS h54 v61 xs60 ∧ Own w55 h54 h0.base 5 1 v61 xs60.length ∧ (∀ i ∈ v61.ownBlock.toList, i ∈ (Value.slice A12 xs11.length c13).ownBlock.toList ∨ w0.heap.size ≤ i) ∧ OB w55 h54 b1 T2 [v38] ∧ OB w55 h54 b7 T8 [.pointer (some ⟨b9, 0, none⟩)] ∧ OB w55 h54 b9 55 [.pointer (bif x42 then some ⟨b9, 0, none⟩ else none), v61, .string x48]) ?_ ?_
    · rintro E w55 ⟨h54, xs60, v61, HF, rfl, S57, le56, rs62, ow63, om64, ob58, ob59, ob65⟩
      refine WC.seq ?_
      refine WC.block ?_
      refine WC.seq ?_
      refine WC.region ?_
      obtain ⟨e66, he67, HF⟩ := bind_some HF
      obtain ⟨b68, o69, rfl, h71, h72, ra70⟩ := RS.atO (rs31.mono ((le34).trans le56)) he67
      obtain ⟨cs73, r74, hc75⟩ := ra70
      refine WL.val rfl rfl rfl (ov_indexAddr rfl rfl t_slice_22 t_size_44 h71 h72) ?_
      refine WL.val rfl rfl rfl (ov_loadN (cs := cs73) rfl t_agg_44 (by rw [Rp.len r74]; exact t_size_44) (fun j v hv => S57.sub.at_ _ _ _ (hc75 j v hv))) ?_
      refine WL.alloc (zs := [.int .i64 0, .string (⟨#[]⟩ : ByteArray), .slice none 0 0, .slice none 0 0, .slice none 0 0, .int .i64 0, .slice none 0 0, .slice none 0 0, .slice none 0 0, .bool false]) rfl rfl t_zero_44 rfl S57.sub (fun w76 b77 hb78 s79 ob80 => ?_)
      have ne81 : b1 ≠ b77 := ob58.ne_new hb78
      have ne82 : b7 ≠ b77 := ob59.ne_new hb78
      have ne83 : b9 ≠ b77 := ob65.ne_new hb78
      have g84 : w0.heap.size ≤ b77 := by rw [hb78]; exact S57.size
      have S85 := S57.trans0 s79
      obtain ⟨v86, v88, v90, v92, v94, v96, rfl, rs87, rs89, rs91, rs93, rs95, rs97⟩ := rp_St.1 (Rp.mono (s79.le) r74)
      refine WL.store (vs := [.int .i64 e66.op, .string e66.name, v86, v88, v90, .int .i64 e66.n, v92, v94, v96, .bool e66.els]) rfl rfl rfl rfl t_size_44 (one_cons rfl (one_cons rfl (one_cons (RS.one rs87) (one_cons (RS.one rs89) (one_cons (RS.one rs91) (one_cons rfl (one_cons (RS.one rs93) (one_cons (RS.one rs95) (one_cons (RS.one rs97) (one_cons rfl one_nil)))))))))) ob80 S85.sub (by simp) (ds := [.int .i64 e66.op, .string e66.name, v86, v88, v90, .int .i64 e66.n, v92, v94, v96, .bool e66.els]) rfl (fun w98 s99 ob100 => ?_)
      have S101 := S85.trans1 s99 (.inr g84)
      refine WL.nil ?_
      refine WQ.seqN ?_
      refine WC.region ?_
      have ob102 := ((ob59.step0 s79).step1 s99 ne82)
      refine WL.val rfl rfl rfl (ov_load1 rfl t_agg_77 (OB.cell ob102 (j := 0) rfl)) ?_
      refine WL.val rfl rfl rfl (ov_loadN (cs := [.int .i64 e66.op, .string e66.name, v86, v88, v90, .int .i64 e66.n, v92, v94, v96, .bool e66.els]) rfl t_agg_44 t_size_44 (OB.cells ob100 0 rfl)) ?_
      obtain ⟨A103, c104, rfl, rs105⟩ := RS.form (rs62.mono ((s79.le).trans s99.le))
      have ob106 := ((ob65.step0 s79).step1 s99 ne83)
      obtain ⟨r107, hr108, HF⟩ := bind_some HF
      refine WL.call rfl rfl rfl (oc_func (vs := [.pointer (some ⟨b9, 0, none⟩), .agg #[.int .i64 e66.op, .string e66.name, v86, v88, v90, .int .i64 e66.n, v92, v94, v96, .bool e66.els]]) rfl t_ent_20) ((IH _ (Nat.le_trans (Nat.le_of_succ_le hj52) (Nat.le_refl _))).1 hr108 S101.sub rs105 (by rw [S101.eqb]; exact ((ow63.step0 s79).step s99 (on_cons ((ow63.step0 s79).ne_ob ob80 (by decide)) on_nil))) (rp_St.2 ⟨_, _, _, _, _, _, rfl, (rs87.mono (s99.le)), (rs89.mono (s99.le)), (rs91.mono (s99.le)), (rs93.mono (s99.le)), (rs95.mono (s99.le)), (rs97.mono (s99.le))⟩) ob106 tn25) ?_
      have ob113 := ((ob58.step0 s79).step1 s99 ne81)
      rintro v109 w110 ⟨h111, s112, rfl, ⟨v114, rs115, ow116, om117, ob120⟩⟩
      have ow118 := Own.rb ow116 S101.eqb
      have om119 : ∀ i ∈ v114.ownBlock.toList, i ∈ (Value.slice A12 xs11.length c13).ownBlock.toList ∨ w0.heap.size ≤ i := fun i hi => (om117 i hi).elim (fun q => om64 i q) (fun q => .inr (Nat.le_trans S101.size q))
      have S121 := S101.trans s112 (in_cons (.inl (by simp)) (in_own (fun i hi => (om64 i hi).elim (fun q => .inl (by simp only [List.mem_cons, List.mem_append]; simp [q])) .inr) in_nil))
      refine WL.nil ?_
      refine WQ.blockN ?_
      refine WQ.seqN ?_
      refine WC.region ?_
      refine WL.val rfl rfl rfl (ov_add rfl rfl) ?_
      refine WL.val rfl rfl rfl (ov_move rfl) ?_
      refine WL.nil ?_
      have ob123 := (ob113.step s112 (ni_cons ne21 (ni_own (fun hm => ((ow63.step0 s79).step s99 (on_cons ((ow63.step0 s79).ne_ob ob80 (by decide)) on_nil)).ne ob113 tn23 _ hm rfl) ni_nil)))
      have ob124 := (ob102.step s112 (ni_cons ne22 (ni_own (fun hm => ((ow63.step0 s79).step s99 (on_cons ((ow63.step0 s79).ne_ob ob80 (by decide)) on_nil)).ne ob102 tn24 _ hm rfl) ni_nil)))
      refine WQ.loopN ?_
      refine WP.to [1, 4, 5, 6] [(1, .pointer (some ⟨b7, 0, none⟩)), (4, .slice (some ⟨b68, o69, none⟩) (xs3).length c30), (5, .int .i64 (xs3.length : Int)), (6, .int .i64 (IntKind.i64.wrap (x36 + 1)))] rfl ?_
      exact IHL51 j50 (Nat.le_refl _) _ _ ⟨h111, IntKind.i64.wrap (x36 + 1), xs37, v38, r107.1, r107.2.1, v114, r107.2.2, HF, rfl, S121, (le34).trans ((le56).trans ((s79.le).trans ((s99.le).trans s112.le))), (rs39.mono ((le56).trans ((s79.le).trans ((s99.le).trans s112.le)))), rs115, ow118, om119, ob123, ob124, ob120⟩
    · intro J122
      refine WC.cond (b := decide ((x36 : Int) < (xs3.length : Int))) rfl (fun hb53 => ?_) (fun hb53 => ?_)
      · replace HF := bif_t hb53 HF
        refine WC.skip ?_
        refine WC.to [1, 4, 5, 6] [(1, .pointer (some ⟨b7, 0, none⟩)), (4, .slice A29 (xs3).length c30), (5, .int .i64 (xs3.length : Int)), (6, .int .i64 x36)] rfl ?_
        exact J122 ⟨h32, xs43, v44, HF, rfl, S35, Hle.refl _, rs45, ow46, om47, ob40, ob41, ob49⟩
      · replace HF := bif_f hb53 HF
        refine WC.exit ?_
        refine WQ.thenExit ?_
        refine WQ.thenExit ?_
        refine WQ.blockHit ?_
        refine WQ.end0 rfl ?_
        obtain rfl := Option.some.inj HF
        exact ⟨_, rfl, h32, S35, rfl, ⟨_, rs45, ow46, om47, ob49⟩⟩
  · exact ⟨h0, 0, xs3, .slice A29 (xs3).length c30, x10, xs11, .slice A12 xs11.length c13, x17, HF, rfl, S0, Hle.refl _, rs31, rs14, ow15, om16, ob6, ob19, ob18⟩
set_option maxRecDepth 20000 in
set_option maxHeartbeats 4000000 in
theorem s_print_printer_loop (k : Nat) (IH : ∀ j, j ≤ k → C_print_printer_stmt (tie_print_printer_stmt j).print_printer_stmt ∧ C_print_printer_text (tie_print_printer_stmt j).print_printer_text ∧ C_print_lines_inside_v1 (tie_print_printer_stmt j).print_lines_inside_v1 ∧ C_print_printer_text_1 (tie_print_printer_stmt j).print_printer_text_1 ∧ C_print_printer_loop (tie_print_printer_stmt j).print_printer_loop ∧ C_print_lines_inside (tie_print_printer_stmt j).print_lines_inside ∧ C_print_printer_stmt_1 (tie_print_printer_stmt j).print_printer_stmt_1 ∧ C_print_printer_other (tie_print_printer_stmt j).print_printer_other) : C_print_printer_loop (m_print_printer_loop k (tie_print_printer_stmt k)) := by
  intro x2 xs3 x9 x11 r HF w0 h0 b1 A4 c5 cs12 hs0 rs6 ow7 r13 ob10 tn14
  have S0 : Stp (b1 :: ((Value.slice A4 xs3.length c5).ownBlock.toList ++ [])) w0 h0 w0 h0 := Stp.refl hs0 _
  have om8 : ∀ i ∈ (Value.slice A4 xs3.length c5).ownBlock.toList, i ∈ (Value.slice A4 xs3.length c5).ownBlock.toList ∨ w0.heap.size ≤ i := fun i hi => .inl hi
  have lt15 : b1 < w0.heap.size := OB.lt ob10
  refine enter (n := 93) Tryz.func46 rfl Tryz.ntmps46 rfl [(0, .pointer (some ⟨b1, 0, none⟩)), (1, .agg cs12.toArray)] rfl ?_
  refine WC.seq ?_
  refine WC.region ?_
  obtain ⟨v16, v18, v20, v22, v24, v26, rfl, rs17, rs19, rs21, rs23, rs25, rs27⟩ := rp_St.1 r13
  refine WL.box (cs := [.int .i64 x11.op, .string x11.name, v16, v18, v20, .int .i64 x11.n, v22, v24, v26, .bool x11.els]) rfl rfl rfl rfl S0.sub (fun w28 b29 hb30 s31 ob32 => ?_)
  have ne33 : b1 ≠ b29 := ob10.ne_new hb30
  have g34 : w0.heap.size ≤ b29 := by rw [hb30]; exact S0.size
  have S35 := S0.trans0 s31
  refine WL.nil ?_
  refine WQ.seqN ?_
  refine WC.seq ?_
  refine WC.region ?_
  refine WL.val rfl rfl rfl (ov_fieldAddr rfl t_field_44_0) ?_
  refine WL.val rfl rfl rfl (ov_load1 rfl t_agg_3 (OB.cell ob32 (j := 0) rfl)) ?_
  refine WL.nil ?_
  refine WQ.seqN ?_
  refine WC.block ?_
  refine WC.seq ?_
  refine WC.region ?_
  refine WL.val rfl rfl rfl (ov_eql rfl rfl) ?_
  refine WL.val rfl rfl rfl (ov_assign rfl) ?_
  refine WL.nil ?_
  refine WQ.seqN ?_
  refine WC.cond (b := (x11.op : Int) == 5) rfl (fun hb36 => ?_) (fun hb36 => ?_)
  · replace HF := bif_t hb36 HF
    refine WC.seq ?_
    refine WC.region ?_
    refine WL.val rfl rfl rfl (ov_assign rfl) ?_
    refine WL.nil ?_
    refine WQ.seqN ?_
    refine WC.join (fun E w48 => ∃ (h47 : Hp) (x51 : ByteArray) (xs52 : List UInt8) (v53 : Value), print_printer_loop_j1 k (tie_print_printer_stmt k) x2 x9 x11 x51 xs52 = some r ∧ E = [(0, .pointer (some ⟨b1, 0, none⟩)), (3, .pointer (some ⟨b29, 0, none⟩)), (4, .string x51)] ∧ Stp (b1 :: ((Value.slice A4 xs3.length c5).ownBlock.toList ++ [])) w0 h0 w48 h47 ∧ Hle h0 h47 ∧ RS h47 v53 xs52 ∧ Own w48 h47 h0.base 5 1 v53 xs52.length ∧ (∀ i ∈ v53.ownBlock.toList, i ∈ (Value.slice A4 xs3.length c5).ownBlock.toList ∨ w0.heap.size ≤ i) ∧ OB w48 h47 b1 55 [.pointer (bif x2 then some ⟨b1, 0, none⟩ else none), v53, .string x9] ∧ OB w48 h47 b29 44 [.int .i64 x11.op, .string x11.name, v16, v18, v20, .int .i64 x11.n, v22, v24, v26, .bool x11.els]) ?_ ?_
    · rintro E w48 ⟨h47, x51, xs52, v53, HF, rfl, S50, le49, rs54, ow55, om56, ob57, ob58⟩
      refine WC.seq ?_
      obtain ⟨hl59, HF⟩ := ite_none HF
      obtain ⟨hl60, HF⟩ := ite_none HF
      obtain ⟨A61, c62, rfl, rs63⟩ := RS.form (rs21.mono ((s31.le).trans le49))
      obtain ⟨e64, he65, HF⟩ := bind_some HF
      obtain ⟨b66, o67, rfl, h69, h70, ra68⟩ := RS.atO rs63 he65
      obtain ⟨cs71, r72, hc73⟩ := ra68
      obtain ⟨r74, hr75, HF⟩ := bind_some HF
      obtain ⟨hl76, HF⟩ := ite_none HF
      obtain ⟨hl77, HF⟩ := ite_none HF
      obtain ⟨e78, he79, HF⟩ := bind_some HF
      obtain ⟨b80, o81, hA, h83, h84, ra82⟩ := RS.atO rs63 he79
      obtain ⟨rfl, rfl⟩ := some_addr hA
      obtain ⟨cs85, r86, hc87⟩ := ra82
      obtain ⟨r88, hr89, HF⟩ := bind_some HF
      obtain ⟨hl90, HF⟩ := ite_none HF
      obtain ⟨hl91, HF⟩ := ite_none HF
      obtain ⟨hl92, HF⟩ := ite_none HF
      refine WC.drawn (m := 23) [(0, .pointer (some ⟨b1, 0, none⟩)), (3, .pointer (some ⟨b29, 0, none⟩)), (4, .string x51)] [0, 3, 4] rfl (fun i v w h => match i with | 0 => v = .pointer (some ⟨b1, 0, none⟩) | 1 => v = .pointer (some ⟨b1, 0, none⟩) | 2 => v = .pointer (some ⟨b1, 0, none⟩) | 3 => v = .pointer (some ⟨b29, 1, none⟩) | 4 => v = .string x11.name | 5 => v = .string ((⟨#[102, 111, 114, 32]⟩ : ByteArray) ++ x11.name) | 6 => v = .string (((⟨#[102, 111, 114, 32]⟩ : ByteArray) ++ x11.name) ++ (⟨#[32, 58, 61, 32]⟩ : ByteArray)) | 7 => v = .pointer (some ⟨b29, 4, none⟩) | 8 => v = .slice (some ⟨b66, o67, none⟩) (x11.args).length c62 | 9 => v = .pointer (some ⟨b66, o67 + Int.toNat 0 * 6, none⟩) | 10 => v = .agg cs71.toArray | 11 => v = .string r74 | 12 => v = .string ((((⟨#[102, 111, 114, 32]⟩ : ByteArray) ++ x11.name) ++ (⟨#[32, 58, 61, 32]⟩ : ByteArray)) ++ r74) | 13 => v = .string (((((⟨#[102, 111, 114, 32]⟩ : ByteArray) ++ x11.name) ++ (⟨#[32, 58, 61, 32]⟩ : ByteArray)) ++ r74) ++ (⟨#[32, 116, 111, 32]⟩ : ByteArray)) | 14 => v = .pointer (some ⟨b29, 4, none⟩) | 15 => v = .slice (some ⟨b66, o67, none⟩) (x11.args).length c62 | 16 => v = .pointer (some ⟨b66, o67 + Int.toNat 1 * 6, none⟩) | 17 => v = .agg cs85.toArray | 18 => v = .string r88 | 19 => v = .string ((((((⟨#[102, 111, 114, 32]⟩ : ByteArray) ++ x11.name) ++ (⟨#[32, 58, 61, 32]⟩ : ByteArray)) ++ r74) ++ (⟨#[32, 116, 111, 32]⟩ : ByteArray)) ++ r88) | 20 => v = .string x51 | 21 => v = .string (((((((⟨#[102, 111, 114, 32]⟩ : ByteArray) ++ x11.name) ++ (⟨#[32, 58, 61, 32]⟩ : ByteArray)) ++ r74) ++ (⟨#[32, 116, 111, 32]⟩ : ByteArray)) ++ r88) ++ x51) | 22 => v = .string ((((((((⟨#[102, 111, 114, 32]⟩ : ByteArray) ++ x11.name) ++ (⟨#[32, 58, 61, 32]⟩ : ByteArray)) ++ r74) ++ (⟨#[32, 116, 111, 32]⟩ : ByteArray)) ++ r88) ++ x51) ++ (⟨#[32, 100, 111]⟩ : ByteArray)) | _ => True) t_mixed S50.sub rfl rfl rfl rfl rfl ?_ ?_ ?_
      · intro i v w h w2 h2 hΦ hst
        match i, hΦ with
        | 0, hΦ => exact hΦ
        | 1, hΦ => exact hΦ
        | 2, hΦ => exact hΦ
        | 3, hΦ => exact hΦ
        | 4, hΦ => exact hΦ
        | 5, hΦ => exact hΦ
        | 6, hΦ => exact hΦ
        | 7, hΦ => exact hΦ
        | 8, hΦ => exact hΦ
        | 9, hΦ => exact hΦ
        | 10, hΦ => exact hΦ
        | 11, hΦ => exact hΦ
        | 12, hΦ => exact hΦ
        | 13, hΦ => exact hΦ
        | 14, hΦ => exact hΦ
        | 15, hΦ => exact hΦ
        | 16, hΦ => exact hΦ
        | 17, hΦ => exact hΦ
        | 18, hΦ => exact hΦ
        | 19, hΦ => exact hΦ
        | 20, hΦ => exact hΦ
        | 21, hΦ => exact hΦ
        | 22, hΦ => exact hΦ
        | i + 23, _ => exact trivial
      · refine ⟨?_, ?_, ?_, ?_, ?_, ?_, ?_, ?_, ?_, ?_, ?_, ?_, ?_, ?_, ?_, ?_, ?_, ?_, ?_, ?_, ?_, ?_, ?_, trivial⟩
        · intro a w93 h94 s95 hat hF
          exact front_val (show At _ [(0, .pointer (some ⟨b1, 0, none⟩)), (3, .pointer (some ⟨b29, 0, none⟩)), (4, .string x51)] _ from hat) rfl (ov_move rfl) s95.sub (by exact rfl)
        · intro a w93 h94 s95 hat hF
          obtain hv0 := hF 0 16 rfl rfl
          exact front_val (show At _ [(16, .pointer (some ⟨b1, 0, none⟩)), (0, .pointer (some ⟨b1, 0, none⟩)), (3, .pointer (some ⟨b29, 0, none⟩)), (4, .string x51)] _ from (At.cons hat hv0)) rfl (ov_nilCheck rfl) s95.sub (by exact rfl)
        · intro a w93 h94 s95 hat hF
          obtain hv1 := hF 1 17 rfl rfl
          exact front_val (show At _ [(17, .pointer (some ⟨b1, 0, none⟩)), (0, .pointer (some ⟨b1, 0, none⟩)), (3, .pointer (some ⟨b29, 0, none⟩)), (4, .string x51)] _ from (At.cons hat hv1)) rfl (ov_fieldAddr rfl t_field_55_0) s95.sub (by exact rfl)
        · intro a w93 h94 s95 hat hF
          exact front_val (show At _ [(0, .pointer (some ⟨b1, 0, none⟩)), (3, .pointer (some ⟨b29, 0, none⟩)), (4, .string x51)] _ from hat) rfl (ov_fieldAddr rfl t_field_44_1) s95.sub (by exact rfl)
        · intro a w93 h94 s95 hat hF
          obtain hv3 := hF 3 19 rfl rfl
          have ob96 := (ob58.step0 s95)
          exact front_val (show At _ [(19, .pointer (some ⟨b29, 1, none⟩)), (0, .pointer (some ⟨b1, 0, none⟩)), (3, .pointer (some ⟨b29, 0, none⟩)), (4, .string x51)] _ from (At.cons hat hv3)) rfl (ov_load1 rfl t_agg_9 (OB.cell ob96 (j := 1) rfl)) s95.sub (by exact rfl)
        · intro a w93 h94 s95 hat hF
          obtain hv4 := hF 4 20 rfl rfl
          exact front_val (show At _ [(20, .string x11.name), (0, .pointer (some ⟨b1, 0, none⟩)), (3, .pointer (some ⟨b29, 0, none⟩)), (4, .string x51)] _ from (At.cons hat hv4)) rfl (ov_addS rfl rfl hl59) s95.sub (by exact rfl)
        · intro a w93 h94 s95 hat hF
          obtain hv5 := hF 5 21 rfl rfl
          exact front_val (show At _ [(21, .string ((⟨#[102, 111, 114, 32]⟩ : ByteArray) ++ x11.name)), (0, .pointer (some ⟨b1, 0, none⟩)), (3, .pointer (some ⟨b29, 0, none⟩)), (4, .string x51)] _ from (At.cons hat hv5)) rfl (ov_addS rfl rfl hl60) s95.sub (by exact rfl)
        · intro a w93 h94 s95 hat hF
          exact front_val (show At _ [(0, .pointer (some ⟨b1, 0, none⟩)), (3, .pointer (some ⟨b29, 0, none⟩)), (4, .string x51)] _ from hat) rfl (ov_fieldAddr rfl t_field_44_4) s95.sub (by exact rfl)
        · intro a w93 h94 s95 hat hF
          obtain hv7 := hF 7 23 rfl rfl
          have ob97 := (ob58.step0 s95)
          exact front_val (show At _ [(23, .pointer (some ⟨b29, 4, none⟩)), (0, .pointer (some ⟨b1, 0, none⟩)), (3, .pointer (some ⟨b29, 0, none⟩)), (4, .string x51)] _ from (At.cons hat hv7)) rfl (ov_load1 rfl t_agg_30 (OB.cell ob97 (j := 4) rfl)) s95.sub (by exact rfl)
        · intro a w93 h94 s95 hat hF
          obtain hv8 := hF 8 24 rfl rfl
          exact front_val (show At _ [(24, .slice (some ⟨b66, o67, none⟩) (x11.args).length c62), (0, .pointer (some ⟨b1, 0, none⟩)), (3, .pointer (some ⟨b29, 0, none⟩)), (4, .string x51)] _ from (At.cons hat hv8)) rfl (ov_indexAddr rfl rfl t_slice_30 t_size_32 h69 h70) s95.sub (by exact rfl)
        · intro a w93 h94 s95 hat hF
          obtain hv9 := hF 9 25 rfl rfl
          exact front_val (show At _ [(25, .pointer (some ⟨b66, o67 + Int.toNat 0 * 6, none⟩)), (0, .pointer (some ⟨b1, 0, none⟩)), (3, .pointer (some ⟨b29, 0, none⟩)), (4, .string x51)] _ from (At.cons hat hv9)) rfl (ov_loadN (cs := cs71) rfl t_agg_32 (by rw [Rp.len (Rp.mono (s95.le) r72)]; exact t_size_32) (fun j v hv => s95.sub.at_ _ _ _ ((fun i v hv => (s95.le).1 _ _ _ (hc73 i v hv)) j v hv))) s95.sub (by exact rfl)
        · intro a w93 h94 s95 hat hF
          obtain hv10 := hF 10 26 rfl rfl
          refine front_call (show At _ [(26, .agg cs71.toArray), (0, .pointer (some ⟨b1, 0, none⟩)), (3, .pointer (some ⟨b29, 0, none⟩)), (4, .string x51)] _ from (At.cons hat hv10)) rfl (oc_func (vs := [.agg cs71.toArray]) rfl t_ent_27) (ok_print_Of _ hr75 s95.sub (Rp.mono (s95.le) r72)) ?_
          rintro _ w98 ⟨h99, s100, rfl⟩
          exact ⟨_, h99, rfl, s100, (by exact rfl)⟩
        · intro a w93 h94 s95 hat hF
          obtain hv6 := hF 6 22 rfl rfl
          obtain hv11 := hF 11 27 rfl rfl
          exact front_val (show At _ [(27, .string r74), (22, .string (((⟨#[102, 111, 114, 32]⟩ : ByteArray) ++ x11.name) ++ (⟨#[32, 58, 61, 32]⟩ : ByteArray))), (0, .pointer (some ⟨b1, 0, none⟩)), (3, .pointer (some ⟨b29, 0, none⟩)), (4, .string x51)] _ from (At.cons (At.cons hat hv6) hv11)) rfl (ov_addS rfl rfl hl76) s95.sub (by exact rfl)
        · intro a w93 h94 s95 hat hF
          obtain hv12 := hF 12 28 rfl rfl
          exact front_val (show At _ [(28, .string ((((⟨#[102, 111, 114, 32]⟩ : ByteArray) ++ x11.name) ++ (⟨#[32, 58, 61, 32]⟩ : ByteArray)) ++ r74)), (0, .pointer (some ⟨b1, 0, none⟩)), (3, .pointer (some ⟨b29, 0, none⟩)), (4, .string x51)] _ from (At.cons hat hv12)) rfl (ov_addS rfl rfl hl77) s95.sub (by exact rfl)
        · intro a w93 h94 s95 hat hF
          exact front_val (show At _ [(0, .pointer (some ⟨b1, 0, none⟩)), (3, .pointer (some ⟨b29, 0, none⟩)), (4, .string x51)] _ from hat) rfl (ov_fieldAddr rfl t_field_44_4) s95.sub (by exact rfl)
        · intro a w93 h94 s95 hat hF
          obtain hv14 := hF 14 30 rfl rfl
          have ob101 := (ob58.step0 s95)
          exact front_val (show At _ [(30, .pointer (some ⟨b29, 4, none⟩)), (0, .pointer (some ⟨b1, 0, none⟩)), (3, .pointer (some ⟨b29, 0, none⟩)), (4, .string x51)] _ from (At.cons hat hv14)) rfl (ov_load1 rfl t_agg_30 (OB.cell ob101 (j := 4) rfl)) s95.sub (by exact rfl)
        · intro a w93 h94 s95 hat hF
          obtain hv15 := hF 15 31 rfl rfl
          exact front_val (show At _ [(31, .slice (some ⟨b66, o67, none⟩) (x11.args).length c62), (0, .pointer (some ⟨b1, 0, none⟩)), (3, .pointer (some ⟨b29, 0, none⟩)), (4, .string x51)] _ from (At.cons hat hv15)) rfl (ov_indexAddr rfl rfl t_slice_30 t_size_32 h83 h84) s95.sub (by exact rfl)
        · intro a w93 h94 s95 hat hF
          obtain hv16 := hF 16 32 rfl rfl
          exact front_val (show At _ [(32, .pointer (some ⟨b66, o67 + Int.toNat 1 * 6, none⟩)), (0, .pointer (some ⟨b1, 0, none⟩)), (3, .pointer (some ⟨b29, 0, none⟩)), (4, .string x51)] _ from (At.cons hat hv16)) rfl (ov_loadN (cs := cs85) rfl t_agg_32 (by rw [Rp.len (Rp.mono (s95.le) r86)]; exact t_size_32) (fun j v hv => s95.sub.at_ _ _ _ ((fun i v hv => (s95.le).1 _ _ _ (hc87 i v hv)) j v hv))) s95.sub (by exact rfl)
        · intro a w93 h94 s95 hat hF
          obtain hv17 := hF 17 33 rfl rfl
          refine front_call (show At _ [(33, .agg cs85.toArray), (0, .pointer (some ⟨b1, 0, none⟩)), (3, .pointer (some ⟨b29, 0, none⟩)), (4, .string x51)] _ from (At.cons hat hv17)) rfl (oc_func (vs := [.agg cs85.toArray]) rfl t_ent_27) (ok_print_Of _ hr89 s95.sub (Rp.mono (s95.le) r86)) ?_
          rintro _ w102 ⟨h103, s104, rfl⟩
          exact ⟨_, h103, rfl, s104, (by exact rfl)⟩
        · intro a w93 h94 s95 hat hF
          obtain hv13 := hF 13 29 rfl rfl
          obtain hv18 := hF 18 34 rfl rfl
          exact front_val (show At _ [(34, .string r88), (29, .string (((((⟨#[102, 111, 114, 32]⟩ : ByteArray) ++ x11.name) ++ (⟨#[32, 58, 61, 32]⟩ : ByteArray)) ++ r74) ++ (⟨#[32, 116, 111, 32]⟩ : ByteArray))), (0, .pointer (some ⟨b1, 0, none⟩)), (3, .pointer (some ⟨b29, 0, none⟩)), (4, .string x51)] _ from (At.cons (At.cons hat hv13) hv18)) rfl (ov_addS rfl rfl hl90) s95.sub (by exact rfl)
        · intro a w93 h94 s95 hat hF
          exact front_val (show At _ [(0, .pointer (some ⟨b1, 0, none⟩)), (3, .pointer (some ⟨b29, 0, none⟩)), (4, .string x51)] _ from hat) rfl (ov_move rfl) s95.sub (by exact rfl)
        · intro a w93 h94 s95 hat hF
          obtain hv19 := hF 19 35 rfl rfl
          obtain hv20 := hF 20 36 rfl rfl
          exact front_val (show At _ [(36, .string x51), (35, .string ((((((⟨#[102, 111, 114, 32]⟩ : ByteArray) ++ x11.name) ++ (⟨#[32, 58, 61, 32]⟩ : ByteArray)) ++ r74) ++ (⟨#[32, 116, 111, 32]⟩ : ByteArray)) ++ r88)), (0, .pointer (some ⟨b1, 0, none⟩)), (3, .pointer (some ⟨b29, 0, none⟩)), (4, .string x51)] _ from (At.cons (At.cons hat hv19) hv20)) rfl (ov_addS rfl rfl hl91) s95.sub (by exact rfl)
        · intro a w93 h94 s95 hat hF
          obtain hv21 := hF 21 37 rfl rfl
          exact front_val (show At _ [(37, .string (((((((⟨#[102, 111, 114, 32]⟩ : ByteArray) ++ x11.name) ++ (⟨#[32, 58, 61, 32]⟩ : ByteArray)) ++ r74) ++ (⟨#[32, 116, 111, 32]⟩ : ByteArray)) ++ r88) ++ x51)), (0, .pointer (some ⟨b1, 0, none⟩)), (3, .pointer (some ⟨b29, 0, none⟩)), (4, .string x51)] _ from (At.cons hat hv21)) rfl (ov_addS rfl rfl hl92) s95.sub (by exact rfl)
      · intro a w93 h94 s95 hat hF
        obtain hv0 := hF 0 16 (by decide) rfl
        obtain hv1 := hF 1 17 (by decide) rfl
        obtain hv2 := hF 2 18 (by decide) rfl
        obtain hv3 := hF 3 19 (by decide) rfl
        obtain hv4 := hF 4 20 (by decide) rfl
        obtain hv5 := hF 5 21 (by decide) rfl
        obtain hv6 := hF 6 22 (by decide) rfl
        obtain hv7 := hF 7 23 (by decide) rfl
        obtain hv8 := hF 8 24 (by decide) rfl
        obtain hv9 := hF 9 25 (by decide) rfl
        obtain hv10 := hF 10 26 (by decide) rfl
        obtain hv11 := hF 11 27 (by decide) rfl
        obtain hv12 := hF 12 28 (by decide) rfl
        obtain hv13 := hF 13 29 (by decide) rfl
        obtain hv14 := hF 14 30 (by decide) rfl
        obtain hv15 := hF 15 31 (by decide) rfl
        obtain hv16 := hF 16 32 (by decide) rfl
        obtain hv17 := hF 17 33 (by decide) rfl
        obtain hv18 := hF 18 34 (by decide) rfl
        obtain hv19 := hF 19 35 (by decide) rfl
        obtain hv20 := hF 20 36 (by decide) rfl
        obtain hv21 := hF 21 37 (by decide) rfl
        obtain hv22 := hF 22 38 (by decide) rfl
        refine WL.at_ [(38, .string ((((((((⟨#[102, 111, 114, 32]⟩ : ByteArray) ++ x11.name) ++ (⟨#[32, 58, 61, 32]⟩ : ByteArray)) ++ r74) ++ (⟨#[32, 116, 111, 32]⟩ : ByteArray)) ++ r88) ++ x51) ++ (⟨#[32, 100, 111]⟩ : ByteArray))), (37, .string (((((((⟨#[102, 111, 114, 32]⟩ : ByteArray) ++ x11.name) ++ (⟨#[32, 58, 61, 32]⟩ : ByteArray)) ++ r74) ++ (⟨#[32, 116, 111, 32]⟩ : ByteArray)) ++ r88) ++ x51)), (36, .string x51), (35, .string ((((((⟨#[102, 111, 114, 32]⟩ : ByteArray) ++ x11.name) ++ (⟨#[32, 58, 61, 32]⟩ : ByteArray)) ++ r74) ++ (⟨#[32, 116, 111, 32]⟩ : ByteArray)) ++ r88)), (34, .string r88), (33, .agg cs85.toArray), (32, .pointer (some ⟨b66, o67 + Int.toNat 1 * 6, none⟩)), (31, .slice (some ⟨b66, o67, none⟩) (x11.args).length c62), (30, .pointer (some ⟨b29, 4, none⟩)), (29, .string (((((⟨#[102, 111, 114, 32]⟩ : ByteArray) ++ x11.name) ++ (⟨#[32, 58, 61, 32]⟩ : ByteArray)) ++ r74) ++ (⟨#[32, 116, 111, 32]⟩ : ByteArray))), (28, .string ((((⟨#[102, 111, 114, 32]⟩ : ByteArray) ++ x11.name) ++ (⟨#[32, 58, 61, 32]⟩ : ByteArray)) ++ r74)), (27, .string r74), (26, .agg cs71.toArray), (25, .pointer (some ⟨b66, o67 + Int.toNat 0 * 6, none⟩)), (24, .slice (some ⟨b66, o67, none⟩) (x11.args).length c62), (23, .pointer (some ⟨b29, 4, none⟩)), (22, .string (((⟨#[102, 111, 114, 32]⟩ : ByteArray) ++ x11.name) ++ (⟨#[32, 58, 61, 32]⟩ : ByteArray))), (21, .string ((⟨#[102, 111, 114, 32]⟩ : ByteArray) ++ x11.name)), (20, .string x11.name), (19, .pointer (some ⟨b29, 1, none⟩)), (18, .pointer (some ⟨b1, 0, none⟩)), (17, .pointer (some ⟨b1, 0, none⟩)), (16, .pointer (some ⟨b1, 0, none⟩)), (0, .pointer (some ⟨b1, 0, none⟩)), (3, .pointer (some ⟨b29, 0, none⟩)), (4, .string x51)] (At.cons (At.cons (At.cons (At.cons (At.cons (At.cons (At.cons (At.cons (At.cons (At.cons (At.cons (At.cons (At.cons (At.cons (At.cons (At.cons (At.cons (At.cons (At.cons (At.cons (At.cons (At.cons (At.cons hat hv0) hv1) hv2) hv3) hv4) hv5) hv6) hv7) hv8) hv9) hv10) hv11) hv12) hv13) hv14) hv15) hv16) hv17) hv18) hv19) hv20) hv21) hv22) ?_
        have S105 := S50.trans0 s95
        obtain ⟨A106, c107, rfl, rs108⟩ := RS.form (rs54.mono (s95.le))
        have ob109 := (ob57.step0 s95)
        obtain ⟨r110, hr111, HF⟩ := bind_some HF
        refine WL.call rfl rfl rfl (oc_func (vs := [.pointer (some ⟨b1, 0, none⟩), .string ((((((((⟨#[102, 111, 114, 32]⟩ : ByteArray) ++ x11.name) ++ (⟨#[32, 58, 61, 32]⟩ : ByteArray)) ++ r74) ++ (⟨#[32, 116, 111, 32]⟩ : ByteArray)) ++ r88) ++ x51) ++ (⟨#[32, 100, 111]⟩ : ByteArray))]) rfl t_ent_39) (ok_print_lines_line _ hr111 S105.sub rs108 (by rw [S105.eqb]; exact (ow55.step0 s95)) ob109 tn14) ?_
        have ob116 := (ob58.step0 s95)
        rintro v112 w113 ⟨h114, s115, rfl, ⟨v117, rs118, ow119, om120, ob123⟩⟩
        have ow121 := Own.rb ow119 S105.eqb
        have om122 : ∀ i ∈ v117.ownBlock.toList, i ∈ (Value.slice A4 xs3.length c5).ownBlock.toList ∨ w0.heap.size ≤ i := fun i hi => (om120 i hi).elim (fun q => om56 i q) (fun q => .inr (Nat.le_trans S105.size q))
        have S124 := S105.trans s115 (in_cons (.inl (by simp)) (in_own (fun i hi => (om56 i hi).elim (fun q => .inl (by simp only [List.mem_cons, List.mem_append]; simp [q])) .inr) in_nil))
        refine WL.nil ?_
        refine WQ.seqN ?_
        refine WC.seq ?_
        refine WC.region ?_
        refine WL.val rfl rfl rfl (ov_move rfl) ?_
        refine WL.val rfl rfl rfl (ov_fieldAddr rfl t_field_44_6) ?_
        have ob125 := (ob116.step s115 (ni_cons (Ne.symm ne33) (ni_own (fun hm => (ow55.step0 s95).ne ob116 (by decide) _ hm rfl) ni_nil)))
        refine WL.val rfl rfl rfl (ov_load1 rfl t_agg_22 (OB.cell ob125 (j := 6) rfl)) ?_
        obtain ⟨A126, c127, rfl, rs128⟩ := RS.form rs118
        obtain ⟨r129, hr130, HF⟩ := bind_some HF
        refine WL.call rfl rfl rfl (oc_func (vs := [.pointer (some ⟨b1, 0, none⟩), v22]) rfl t_ent_41) ((IH _ (Nat.le_refl _)).2.1 hr130 S124.sub rs128 (by rw [S124.eqb]; exact ow121) (rs23.mono ((s31.le).trans ((le49).trans ((s95.le).trans s115.le)))) ob123 tn14) ?_
        rintro v131 w132 ⟨h133, s134, rfl, ⟨v135, rs136, ow137, om138, ob141⟩⟩
        have ow139 := Own.rb ow137 S124.eqb
        have om140 : ∀ i ∈ v135.ownBlock.toList, i ∈ (Value.slice A4 xs3.length c5).ownBlock.toList ∨ w0.heap.size ≤ i := fun i hi => (om138 i hi).elim (fun q => om122 i q) (fun q => .inr (Nat.le_trans S124.size q))
        have S142 := S124.trans s134 (in_cons (.inl (by simp)) (in_own (fun i hi => (om122 i hi).elim (fun q => .inl (by simp only [List.mem_cons, List.mem_append]; simp [q])) .inr) in_nil))
        refine WL.nil ?_
        refine WQ.seqN ?_
        refine WC.region ?_
        refine WL.val rfl rfl rfl (ov_move rfl) ?_
        refine WL.val rfl rfl rfl (ov_nilCheck rfl) ?_
        refine WL.val rfl rfl rfl (ov_fieldAddr rfl t_field_55_0) ?_
        obtain ⟨A143, c144, rfl, rs145⟩ := RS.form rs136
        obtain ⟨r146, hr147, HF⟩ := bind_some HF
        refine WL.call rfl rfl rfl (oc_func (vs := [.pointer (some ⟨b1, 0, none⟩), .string (⟨#[101, 110, 100, 95, 102, 111, 114, 59]⟩ : ByteArray)]) rfl t_ent_39) (ok_print_lines_line _ hr147 S142.sub rs145 (by rw [S142.eqb]; exact ow139) ob141 tn14) ?_
        have ob152 := (ob125.step s134 (ni_cons (Ne.symm ne33) (ni_own (fun hm => ow121.ne ob125 (by decide) _ hm rfl) ni_nil)))
        rintro v148 w149 ⟨h150, s151, rfl, ⟨v153, rs154, ow155, om156, ob159⟩⟩
        have ow157 := Own.rb ow155 S142.eqb
        have om158 : ∀ i ∈ v153.ownBlock.toList, i ∈ (Value.slice A4 xs3.length c5).ownBlock.toList ∨ w0.heap.size ≤ i := fun i hi => (om156 i hi).elim (fun q => om140 i q) (fun q => .inr (Nat.le_trans S142.size q))
        have S160 := S142.trans s151 (in_cons (.inl (by simp)) (in_own (fun i hi => (om140 i hi).elim (fun q => .inl (by simp only [List.mem_cons, List.mem_append]; simp [q])) .inr) in_nil))
        refine WL.nil ?_
        refine WQ.blockN ?_
        refine WQ.end0 rfl ?_
        obtain rfl := Option.some.inj HF
        exact ⟨_, rfl, h150, S160, rfl, ⟨_, rs154, ow157, om158, ob159⟩⟩
    · intro J161
      refine WC.seq ?_
      refine WC.region ?_
      refine WL.val rfl rfl rfl (ov_fieldAddr rfl t_field_44_5) ?_
      refine WL.val rfl rfl rfl (ov_load1 rfl t_agg_3 (OB.cell ob32 (j := 5) rfl)) ?_
      refine WL.val rfl rfl rfl (ov_neq rfl rfl) ?_
      refine WL.nil ?_
      refine WQ.seqN ?_
      refine WC.cond (b := (x11.n : Int) != 1) rfl (fun hb37 => ?_) (fun hb37 => ?_)
      · replace HF := bif_t hb37 HF
        refine WC.region ?_
        refine WL.val rfl rfl rfl (ov_fieldAddr rfl t_field_44_5) ?_
        refine WL.val rfl rfl rfl (ov_load1 rfl t_agg_3 (OB.cell ob32 (j := 5) rfl)) ?_
        obtain ⟨r38, hr39, HF⟩ := bind_some HF
        refine WL.call rfl rfl rfl (oc_func (vs := [.int .i64 x11.n]) rfl t_ent_36) (ok_strconv_Itoa _ hr39 S35.sub) ?_
        have ob44 := (ob10.step0 s31)
        rintro _ w41 ⟨h42, s43, rfl⟩
        have S45 := S35.trans0 s43
        obtain ⟨hl46, HF⟩ := ite_none HF
        refine WL.val rfl rfl rfl (ov_addS rfl rfl hl46) ?_
        refine WL.val rfl rfl rfl (ov_assign rfl) ?_
        refine WL.nil ?_
        have ob162 := (ob44.step0 s43)
        have ob163 := (ob32.step0 s43)
        refine WC.to [0, 3, 4] [(0, .pointer (some ⟨b1, 0, none⟩)), (3, .pointer (some ⟨b29, 0, none⟩)), (4, .string ((⟨#[32, 98, 121, 32]⟩ : ByteArray) ++ r38))] rfl ?_
        exact J161 ⟨h42, (⟨#[32, 98, 121, 32]⟩ : ByteArray) ++ r38, xs3, .slice A4 xs3.length c5, HF, rfl, S45, s43.le, (rs6.mono ((s31.le).trans s43.le)), ((ow7.step0 s31).step0 s43), om8, ob162, ob163⟩
      · replace HF := bif_f hb37 HF
        refine WC.skip ?_
        have ob164 := (ob10.step0 s31)
        refine WC.to [0, 3, 4] [(0, .pointer (some ⟨b1, 0, none⟩)), (3, .pointer (some ⟨b29, 0, none⟩)), (4, .string (⟨#[]⟩ : ByteArray))] rfl ?_
        exact J161 ⟨h0, (⟨#[]⟩ : ByteArray), xs3, .slice A4 xs3.length c5, HF, rfl, S35, Hle.refl _, (rs6.mono (s31.le)), (ow7.step0 s31), om8, ob164, ob32⟩
  · replace HF := bif_f hb36 HF
    refine WC.seq ?_
    refine WC.region ?_
    refine WL.val rfl rfl rfl (ov_eql rfl rfl) ?_
    refine WL.val rfl rfl rfl (ov_assign rfl) ?_
    refine WL.nil ?_
    refine WQ.seqN ?_
    refine WC.cond (b := (x11.op : Int) == 6) rfl (fun hb165 => ?_) (fun hb165 => ?_)
    · replace HF := bif_t hb165 HF
      refine WC.seq ?_
      obtain ⟨A166, c167, rfl, rs168⟩ := RS.form (rs21.mono (s31.le))
      obtain ⟨e169, he170, HF⟩ := bind_some HF
      obtain ⟨b171, o172, rfl, h174, h175, ra173⟩ := RS.atO rs168 he170
      obtain ⟨cs176, r177, hc178⟩ := ra173
      obtain ⟨r179, hr180, HF⟩ := bind_some HF
      obtain ⟨hl181, HF⟩ := ite_none HF
      obtain ⟨hl182, HF⟩ := ite_none HF
      refine WC.drawn (m := 10) [(0, .pointer (some ⟨b1, 0, none⟩)), (3, .pointer (some ⟨b29, 0, none⟩))] [0, 3] rfl (fun i v w h => match i with | 0 => v = .pointer (some ⟨b1, 0, none⟩) | 1 => v = .pointer (some ⟨b1, 0, none⟩) | 2 => v = .pointer (some ⟨b1, 0, none⟩) | 3 => v = .pointer (some ⟨b29, 4, none⟩) | 4 => v = .slice (some ⟨b171, o172, none⟩) (x11.args).length c167 | 5 => v = .pointer (some ⟨b171, o172 + Int.toNat 0 * 6, none⟩) | 6 => v = .agg cs176.toArray | 7 => v = .string r179 | 8 => v = .string ((⟨#[119, 104, 105, 108, 101, 32]⟩ : ByteArray) ++ r179) | 9 => v = .string (((⟨#[119, 104, 105, 108, 101, 32]⟩ : ByteArray) ++ r179) ++ (⟨#[32, 100, 111]⟩ : ByteArray)) | _ => True) t_mixed S35.sub rfl rfl rfl rfl rfl ?_ ?_ ?_
      · intro i v w h w2 h2 hΦ hst
        match i, hΦ with
        | 0, hΦ => exact hΦ
        | 1, hΦ => exact hΦ
        | 2, hΦ => exact hΦ
        | 3, hΦ => exact hΦ
        | 4, hΦ => exact hΦ
        | 5, hΦ => exact hΦ
        | 6, hΦ => exact hΦ
        | 7, hΦ => exact hΦ
        | 8, hΦ => exact hΦ
        | 9, hΦ => exact hΦ
        | i + 10, _ => exact trivial
      · refine ⟨?_, ?_, ?_, ?_, ?_, ?_, ?_, ?_, ?_, ?_, trivial⟩
        · intro a w183 h184 s185 hat hF
          exact front_val (show At _ [(0, .pointer (some ⟨b1, 0, none⟩)), (3, .pointer (some ⟨b29, 0, none⟩))] _ from hat) rfl (ov_move rfl) s185.sub (by exact rfl)
        · intro a w183 h184 s185 hat hF
          obtain hv0 := hF 0 50 rfl rfl
          exact front_val (show At _ [(50, .pointer (some ⟨b1, 0, none⟩)), (0, .pointer (some ⟨b1, 0, none⟩)), (3, .pointer (some ⟨b29, 0, none⟩))] _ from (At.cons hat hv0)) rfl (ov_nilCheck rfl) s185.sub (by exact rfl)
        · intro a w183 h184 s185 hat hF
          obtain hv1 := hF 1 51 rfl rfl
          exact front_val (show At _ [(51, .pointer (some ⟨b1, 0, none⟩)), (0, .pointer (some ⟨b1, 0, none⟩)), (3, .pointer (some ⟨b29, 0, none⟩))] _ from (At.cons hat hv1)) rfl (ov_fieldAddr rfl t_field_55_0) s185.sub (by exact rfl)
        · intro a w183 h184 s185 hat hF
          exact front_val (show At _ [(0, .pointer (some ⟨b1, 0, none⟩)), (3, .pointer (some ⟨b29, 0, none⟩))] _ from hat) rfl (ov_fieldAddr rfl t_field_44_4) s185.sub (by exact rfl)
        · intro a w183 h184 s185 hat hF
          obtain hv3 := hF 3 53 rfl rfl
          have ob186 := (ob32.step0 s185)
          exact front_val (show At _ [(53, .pointer (some ⟨b29, 4, none⟩)), (0, .pointer (some ⟨b1, 0, none⟩)), (3, .pointer (some ⟨b29, 0, none⟩))] _ from (At.cons hat hv3)) rfl (ov_load1 rfl t_agg_30 (OB.cell ob186 (j := 4) rfl)) s185.sub (by exact rfl)
        · intro a w183 h184 s185 hat hF
          obtain hv4 := hF 4 54 rfl rfl
          exact front_val (show At _ [(54, .slice (some ⟨b171, o172, none⟩) (x11.args).length c167), (0, .pointer (some ⟨b1, 0, none⟩)), (3, .pointer (some ⟨b29, 0, none⟩))] _ from (At.cons hat hv4)) rfl (ov_indexAddr rfl rfl t_slice_30 t_size_32 h174 h175) s185.sub (by exact rfl)
        · intro a w183 h184 s185 hat hF
          obtain hv5 := hF 5 55 rfl rfl
          exact front_val (show At _ [(55, .pointer (some ⟨b171, o172 + Int.toNat 0 * 6, none⟩)), (0, .pointer (some ⟨b1, 0, none⟩)), (3, .pointer (some ⟨b29, 0, none⟩))] _ from (At.cons hat hv5)) rfl (ov_loadN (cs := cs176) rfl t_agg_32 (by rw [Rp.len (Rp.mono (s185.le) r177)]; exact t_size_32) (fun j v hv => s185.sub.at_ _ _ _ ((fun i v hv => (s185.le).1 _ _ _ (hc178 i v hv)) j v hv))) s185.sub (by exact rfl)
        · intro a w183 h184 s185 hat hF
          obtain hv6 := hF 6 56 rfl rfl
          refine front_call (show At _ [(56, .agg cs176.toArray), (0, .pointer (some ⟨b1, 0, none⟩)), (3, .pointer (some ⟨b29, 0, none⟩))] _ from (At.cons hat hv6)) rfl (oc_func (vs := [.agg cs176.toArray]) rfl t_ent_27) (ok_print_Of _ hr180 s185.sub (Rp.mono (s185.le) r177)) ?_
          rintro _ w187 ⟨h188, s189, rfl⟩
          exact ⟨_, h188, rfl, s189, (by exact rfl)⟩
        · intro a w183 h184 s185 hat hF
          obtain hv7 := hF 7 57 rfl rfl
          exact front_val (show At _ [(57, .string r179), (0, .pointer (some ⟨b1, 0, none⟩)), (3, .pointer (some ⟨b29, 0, none⟩))] _ from (At.cons hat hv7)) rfl (ov_addS rfl rfl hl181) s185.sub (by exact rfl)
        · intro a w183 h184 s185 hat hF
          obtain hv8 := hF 8 58 rfl rfl
          exact front_val (show At _ [(58, .string ((⟨#[119, 104, 105, 108, 101, 32]⟩ : ByteArray) ++ r179)), (0, .pointer (some ⟨b1, 0, none⟩)), (3, .pointer (some ⟨b29, 0, none⟩))] _ from (At.cons hat hv8)) rfl (ov_addS rfl rfl hl182) s185.sub (by exact rfl)
      · intro a w183 h184 s185 hat hF
        obtain hv0 := hF 0 50 (by decide) rfl
        obtain hv1 := hF 1 51 (by decide) rfl
        obtain hv2 := hF 2 52 (by decide) rfl
        obtain hv3 := hF 3 53 (by decide) rfl
        obtain hv4 := hF 4 54 (by decide) rfl
        obtain hv5 := hF 5 55 (by decide) rfl
        obtain hv6 := hF 6 56 (by decide) rfl
        obtain hv7 := hF 7 57 (by decide) rfl
        obtain hv8 := hF 8 58 (by decide) rfl
        obtain hv9 := hF 9 59 (by decide) rfl
        refine WL.at_ [(59, .string (((⟨#[119, 104, 105, 108, 101, 32]⟩ : ByteArray) ++ r179) ++ (⟨#[32, 100, 111]⟩ : ByteArray))), (58, .string ((⟨#[119, 104, 105, 108, 101, 32]⟩ : ByteArray) ++ r179)), (57, .string r179), (56, .agg cs176.toArray), (55, .pointer (some ⟨b171, o172 + Int.toNat 0 * 6, none⟩)), (54, .slice (some ⟨b171, o172, none⟩) (x11.args).length c167), (53, .pointer (some ⟨b29, 4, none⟩)), (52, .pointer (some ⟨b1, 0, none⟩)), (51, .pointer (some ⟨b1, 0, none⟩)), (50, .pointer (some ⟨b1, 0, none⟩)), (0, .pointer (some ⟨b1, 0, none⟩)), (3, .pointer (some ⟨b29, 0, none⟩))] (At.cons (At.cons (At.cons (At.cons (At.cons (At.cons (At.cons (At.cons (At.cons (At.cons hat hv0) hv1) hv2) hv3) hv4) hv5) hv6) hv7) hv8) hv9) ?_
        have S190 := S35.trans0 s185
        have ob191 := ((ob10.step0 s31).step0 s185)
        obtain ⟨r192, hr193, HF⟩ := bind_some HF
        refine WL.call rfl rfl rfl (oc_func (vs := [.pointer (some ⟨b1, 0, none⟩), .string (((⟨#[119, 104, 105, 108, 101, 32]⟩ : ByteArray) ++ r179) ++ (⟨#[32, 100, 111]⟩ : ByteArray))]) rfl t_ent_39) (ok_print_lines_line _ hr193 S190.sub (rs6.mono ((s31.le).trans s185.le)) (by rw [S190.eqb]; exact ((ow7.step0 s31).step0 s185)) ob191 tn14) ?_
        have ob198 := (ob32.step0 s185)
        rintro v194 w195 ⟨h196, s197, rfl, ⟨v199, rs200, ow201, om202, ob205⟩⟩
        have ow203 := Own.rb ow201 S190.eqb
        have om204 : ∀ i ∈ v199.ownBlock.toList, i ∈ (Value.slice A4 xs3.length c5).ownBlock.toList ∨ w0.heap.size ≤ i := fun i hi => (om202 i hi).elim (fun q => om8 i q) (fun q => .inr (Nat.le_trans S190.size q))
        have S206 := S190.trans s197 (in_cons (.inl (by simp)) (in_own (fun i hi => (om8 i hi).elim (fun q => .inl (by simp only [List.mem_cons, List.mem_append]; simp [q])) .inr) in_nil))
        refine WL.nil ?_
        refine WQ.seqN ?_
        refine WC.seq ?_
        refine WC.region ?_
        refine WL.val rfl rfl rfl (ov_move rfl) ?_
        refine WL.val rfl rfl rfl (ov_fieldAddr rfl t_field_44_6) ?_
        have ob207 := (ob198.step s197 (ni_cons (Ne.symm ne33) (ni_own (fun hm => ((ow7.step0 s31).step0 s185).ne ob198 (by decide) _ hm rfl) ni_nil)))
        refine WL.val rfl rfl rfl (ov_load1 rfl t_agg_22 (OB.cell ob207 (j := 6) rfl)) ?_
        obtain ⟨A208, c209, rfl, rs210⟩ := RS.form rs200
        obtain ⟨r211, hr212, HF⟩ := bind_some HF
        refine WL.call rfl rfl rfl (oc_func (vs := [.pointer (some ⟨b1, 0, none⟩), v22]) rfl t_ent_41) ((IH _ (Nat.le_refl _)).2.1 hr212 S206.sub rs210 (by rw [S206.eqb]; exact ow203) (rs23.mono ((s31.le).trans ((s185.le).trans s197.le))) ob205 tn14) ?_
        rintro v213 w214 ⟨h215, s216, rfl, ⟨v217, rs218, ow219, om220, ob223⟩⟩
        have ow221 := Own.rb ow219 S206.eqb
        have om222 : ∀ i ∈ v217.ownBlock.toList, i ∈ (Value.slice A4 xs3.length c5).ownBlock.toList ∨ w0.heap.size ≤ i := fun i hi => (om220 i hi).elim (fun q => om204 i q) (fun q => .inr (Nat.le_trans S206.size q))
        have S224 := S206.trans s216 (in_cons (.inl (by simp)) (in_own (fun i hi => (om204 i hi).elim (fun q => .inl (by simp only [List.mem_cons, List.mem_append]; simp [q])) .inr) in_nil))
        refine WL.nil ?_
        refine WQ.seqN ?_
        refine WC.region ?_
        refine WL.val rfl rfl rfl (ov_move rfl) ?_
        refine WL.val rfl rfl rfl (ov_nilCheck rfl) ?_
        refine WL.val rfl rfl rfl (ov_fieldAddr rfl t_field_55_0) ?_
        obtain ⟨A225, c226, rfl, rs227⟩ := RS.form rs218
        obtain ⟨r228, hr229, HF⟩ := bind_some HF
        refine WL.call rfl rfl rfl (oc_func (vs := [.pointer (some ⟨b1, 0, none⟩), .string (⟨#[101, 110, 100, 95, 119, 104, 105, 108, 101, 59]⟩ : ByteArray)]) rfl t_ent_39) (ok_print_lines_line _ hr229 S224.sub rs227 (by rw [S224.eqb]; exact ow221) ob223 tn14) ?_
        have ob234 := (ob207.step s216 (ni_cons (Ne.symm ne33) (ni_own (fun hm => ow203.ne ob207 (by decide) _ hm rfl) ni_nil)))
        rintro v230 w231 ⟨h232, s233, rfl, ⟨v235, rs236, ow237, om238, ob241⟩⟩
        have ow239 := Own.rb ow237 S224.eqb
        have om240 : ∀ i ∈ v235.ownBlock.toList, i ∈ (Value.slice A4 xs3.length c5).ownBlock.toList ∨ w0.heap.size ≤ i := fun i hi => (om238 i hi).elim (fun q => om222 i q) (fun q => .inr (Nat.le_trans S224.size q))
        have S242 := S224.trans s233 (in_cons (.inl (by simp)) (in_own (fun i hi => (om222 i hi).elim (fun q => .inl (by simp only [List.mem_cons, List.mem_append]; simp [q])) .inr) in_nil))
        refine WL.nil ?_
        refine WQ.blockN ?_
        refine WQ.end0 rfl ?_
        obtain rfl := Option.some.inj HF
        exact ⟨_, rfl, h232, S242, rfl, ⟨_, rs236, ow239, om240, ob241⟩⟩
    · replace HF := bif_f hb165 HF
      refine WC.seq ?_
      refine WC.region ?_
      refine WL.val rfl rfl rfl (ov_eql rfl rfl) ?_
      refine WL.val rfl rfl rfl (ov_assign rfl) ?_
      refine WL.nil ?_
      refine WQ.seqN ?_
      refine WC.cond (b := (x11.op : Int) == 7) rfl (fun hb243 => ?_) (fun hb243 => ?_)
      · replace HF := bif_t hb243 HF
        refine WC.seq ?_
        refine WC.region ?_
        refine WL.val rfl rfl rfl (ov_move rfl) ?_
        refine WL.val rfl rfl rfl (ov_nilCheck rfl) ?_
        refine WL.val rfl rfl rfl (ov_fieldAddr rfl t_field_55_0) ?_
        have ob244 := (ob10.step0 s31)
        obtain ⟨r245, hr246, HF⟩ := bind_some HF
        refine WL.call rfl rfl rfl (oc_func (vs := [.pointer (some ⟨b1, 0, none⟩), .string (⟨#[114, 101, 112, 101, 97, 116]⟩ : ByteArray)]) rfl t_ent_39) (ok_print_lines_line _ hr246 S35.sub (rs6.mono (s31.le)) (by rw [S35.eqb]; exact (ow7.step0 s31)) ob244 tn14) ?_
        rintro v247 w248 ⟨h249, s250, rfl, ⟨v251, rs252, ow253, om254, ob257⟩⟩
        have ow255 := Own.rb ow253 S35.eqb
        have om256 : ∀ i ∈ v251.ownBlock.toList, i ∈ (Value.slice A4 xs3.length c5).ownBlock.toList ∨ w0.heap.size ≤ i := fun i hi => (om254 i hi).elim (fun q => om8 i q) (fun q => .inr (Nat.le_trans S35.size q))
        have S258 := S35.trans s250 (in_cons (.inl (by simp)) (in_own (fun i hi => (om8 i hi).elim (fun q => .inl (by simp only [List.mem_cons, List.mem_append]; simp [q])) .inr) in_nil))
        refine WL.nil ?_
        refine WQ.seqN ?_
        refine WC.seq ?_
        refine WC.region ?_
        refine WL.val rfl rfl rfl (ov_move rfl) ?_
        refine WL.val rfl rfl rfl (ov_fieldAddr rfl t_field_44_6) ?_
        have ob259 := (ob32.step s250 (ni_cons (Ne.symm ne33) (ni_own (fun hm => (ow7.step0 s31).ne ob32 (by decide) _ hm rfl) ni_nil)))
        refine WL.val rfl rfl rfl (ov_load1 rfl t_agg_22 (OB.cell ob259 (j := 6) rfl)) ?_
        obtain ⟨A260, c261, rfl, rs262⟩ := RS.form rs252
        obtain ⟨r263, hr264, HF⟩ := bind_some HF
        refine WL.call rfl rfl rfl (oc_func (vs := [.pointer (some ⟨b1, 0, none⟩), v22]) rfl t_ent_41) ((IH _ (Nat.le_refl _)).2.1 hr264 S258.sub rs262 (by rw [S258.eqb]; exact ow255) (rs23.mono ((s31.le).trans s250.le)) ob257 tn14) ?_
        rintro v265 w266 ⟨h267, s268, rfl, ⟨v269, rs270, ow271, om272, ob275⟩⟩
        have ow273 := Own.rb ow271 S258.eqb
        have om274 : ∀ i ∈ v269.ownBlock.toList, i ∈ (Value.slice A4 xs3.length c5).ownBlock.toList ∨ w0.heap.size ≤ i := fun i hi => (om272 i hi).elim (fun q => om256 i q) (fun q => .inr (Nat.le_trans S258.size q))
        have S276 := S258.trans s268 (in_cons (.inl (by simp)) (in_own (fun i hi => (om256 i hi).elim (fun q => .inl (by simp only [List.mem_cons, List.mem_append]; simp [q])) .inr) in_nil))
        refine WL.nil ?_
        refine WQ.seqN ?_
        refine WC.seq ?_
        obtain ⟨A277, c278, rfl, rs279⟩ := RS.form (rs21.mono ((s31.le).trans ((s250.le).trans s268.le)))
        obtain ⟨e280, he281, HF⟩ := bind_some HF
        obtain ⟨b282, o283, rfl, h285, h286, ra284⟩ := RS.atO rs279 he281
        obtain ⟨cs287, r288, hc289⟩ := ra284
        obtain ⟨r290, hr291, HF⟩ := bind_some HF
        obtain ⟨hl292, HF⟩ := ite_none HF
        refine WC.drawn (m := 9) [(0, .pointer (some ⟨b1, 0, none⟩)), (3, .pointer (some ⟨b29, 0, none⟩))] [0, 3] rfl (fun i v w h => match i with | 0 => v = .pointer (some ⟨b1, 0, none⟩) | 1 => v = .pointer (some ⟨b1, 0, none⟩) | 2 => v = .pointer (some ⟨b1, 0, none⟩) | 3 => v = .pointer (some ⟨b29, 4, none⟩) | 4 => v = .slice (some ⟨b282, o283, none⟩) (x11.args).length c278 | 5 => v = .pointer (some ⟨b282, o283 + Int.toNat 0 * 6, none⟩) | 6 => v = .agg cs287.toArray | 7 => v = .string r290 | 8 => v = .string ((⟨#[117, 110, 116, 105, 108, 32]⟩ : ByteArray) ++ r290) | _ => True) t_mixed S276.sub rfl rfl rfl rfl rfl ?_ ?_ ?_
        · intro i v w h w2 h2 hΦ hst
          match i, hΦ with
          | 0, hΦ => exact hΦ
          | 1, hΦ => exact hΦ
          | 2, hΦ => exact hΦ
          | 3, hΦ => exact hΦ
          | 4, hΦ => exact hΦ
          | 5, hΦ => exact hΦ
          | 6, hΦ => exact hΦ
          | 7, hΦ => exact hΦ
          | 8, hΦ => exact hΦ
          | i + 9, _ => exact trivial
        · refine ⟨?_, ?_, ?_, ?_, ?_, ?_, ?_, ?_, ?_, trivial⟩
          · intro a w293 h294 s295 hat hF
            exact front_val (show At _ [(0, .pointer (some ⟨b1, 0, none⟩)), (3, .pointer (some ⟨b29, 0, none⟩))] _ from hat) rfl (ov_move rfl) s295.sub (by exact rfl)
          · intro a w293 h294 s295 hat hF
            obtain hv0 := hF 0 79 rfl rfl
            exact front_val (show At _ [(79, .pointer (some ⟨b1, 0, none⟩)), (0, .pointer (some ⟨b1, 0, none⟩)), (3, .pointer (some ⟨b29, 0, none⟩))] _ from (At.cons hat hv0)) rfl (ov_nilCheck rfl) s295.sub (by exact rfl)
          · intro a w293 h294 s295 hat hF
            obtain hv1 := hF 1 80 rfl rfl
            exact front_val (show At _ [(80, .pointer (some ⟨b1, 0, none⟩)), (0, .pointer (some ⟨b1, 0, none⟩)), (3, .pointer (some ⟨b29, 0, none⟩))] _ from (At.cons hat hv1)) rfl (ov_fieldAddr rfl t_field_55_0) s295.sub (by exact rfl)
          · intro a w293 h294 s295 hat hF
            exact front_val (show At _ [(0, .pointer (some ⟨b1, 0, none⟩)), (3, .pointer (some ⟨b29, 0, none⟩))] _ from hat) rfl (ov_fieldAddr rfl t_field_44_4) s295.sub (by exact rfl)
          · intro a w293 h294 s295 hat hF
            obtain hv3 := hF 3 82 rfl rfl
            have ob296 := ((ob259.step s268 (ni_cons (Ne.symm ne33) (ni_own (fun hm => ow255.ne ob259 (by decide) _ hm rfl) ni_nil))).step0 s295)
            exact front_val (show At _ [(82, .pointer (some ⟨b29, 4, none⟩)), (0, .pointer (some ⟨b1, 0, none⟩)), (3, .pointer (some ⟨b29, 0, none⟩))] _ from (At.cons hat hv3)) rfl (ov_load1 rfl t_agg_30 (OB.cell ob296 (j := 4) rfl)) s295.sub (by exact rfl)
          · intro a w293 h294 s295 hat hF
            obtain hv4 := hF 4 83 rfl rfl
            exact front_val (show At _ [(83, .slice (some ⟨b282, o283, none⟩) (x11.args).length c278), (0, .pointer (some ⟨b1, 0, none⟩)), (3, .pointer (some ⟨b29, 0, none⟩))] _ from (At.cons hat hv4)) rfl (ov_indexAddr rfl rfl t_slice_30 t_size_32 h285 h286) s295.sub (by exact rfl)
          · intro a w293 h294 s295 hat hF
            obtain hv5 := hF 5 84 rfl rfl
            exact front_val (show At _ [(84, .pointer (some ⟨b282, o283 + Int.toNat 0 * 6, none⟩)), (0, .pointer (some ⟨b1, 0, none⟩)), (3, .pointer (some ⟨b29, 0, none⟩))] _ from (At.cons hat hv5)) rfl (ov_loadN (cs := cs287) rfl t_agg_32 (by rw [Rp.len (Rp.mono (s295.le) r288)]; exact t_size_32) (fun j v hv => s295.sub.at_ _ _ _ ((fun i v hv => (s295.le).1 _ _ _ (hc289 i v hv)) j v hv))) s295.sub (by exact rfl)
          · intro a w293 h294 s295 hat hF
            obtain hv6 := hF 6 85 rfl rfl
            refine front_call (show At _ [(85, .agg cs287.toArray), (0, .pointer (some ⟨b1, 0, none⟩)), (3, .pointer (some ⟨b29, 0, none⟩))] _ from (At.cons hat hv6)) rfl (oc_func (vs := [.agg cs287.toArray]) rfl t_ent_27) (ok_print_Of _ hr291 s295.sub (Rp.mono (s295.le) r288)) ?_
            rintro _ w297 ⟨h298, s299, rfl⟩
            exact ⟨_, h298, rfl, s299, (by exact rfl)⟩
          · intro a w293 h294 s295 hat hF
            obtain hv7 := hF 7 86 rfl rfl
            exact front_val (show At _ [(86, .string r290), (0, .pointer (some ⟨b1, 0, none⟩)), (3, .pointer (some ⟨b29, 0, none⟩))] _ from (At.cons hat hv7)) rfl (ov_addS rfl rfl hl292) s295.sub (by exact rfl)
        · intro a w293 h294 s295 hat hF
          obtain hv0 := hF 0 79 (by decide) rfl
          obtain hv1 := hF 1 80 (by decide) rfl
          obtain hv2 := hF 2 81 (by decide) rfl
          obtain hv3 := hF 3 82 (by decide) rfl
          obtain hv4 := hF 4 83 (by decide) rfl
          obtain hv5 := hF 5 84 (by decide) rfl
          obtain hv6 := hF 6 85 (by decide) rfl
          obtain hv7 := hF 7 86 (by decide) rfl
          obtain hv8 := hF 8 87 (by decide) rfl
          refine WL.at_ [(87, .string ((⟨#[117, 110, 116, 105, 108, 32]⟩ : ByteArray) ++ r290)), (86, .string r290), (85, .agg cs287.toArray), (84, .pointer (some ⟨b282, o283 + Int.toNat 0 * 6, none⟩)), (83, .slice (some ⟨b282, o283, none⟩) (x11.args).length c278), (82, .pointer (some ⟨b29, 4, none⟩)), (81, .pointer (some ⟨b1, 0, none⟩)), (80, .pointer (some ⟨b1, 0, none⟩)), (79, .pointer (some ⟨b1, 0, none⟩)), (0, .pointer (some ⟨b1, 0, none⟩)), (3, .pointer (some ⟨b29, 0, none⟩))] (At.cons (At.cons (At.cons (At.cons (At.cons (At.cons (At.cons (At.cons (At.cons hat hv0) hv1) hv2) hv3) hv4) hv5) hv6) hv7) hv8) ?_
          have S300 := S276.trans0 s295
          obtain ⟨A301, c302, rfl, rs303⟩ := RS.form (rs270.mono (s295.le))
          have ob304 := (ob275.step0 s295)
          obtain ⟨r305, hr306, HF⟩ := bind_some HF
          refine WL.call rfl rfl rfl (oc_func (vs := [.pointer (some ⟨b1, 0, none⟩), .string ((⟨#[117, 110, 116, 105, 108, 32]⟩ : ByteArray) ++ r290)]) rfl t_ent_39) (ok_print_lines_line _ hr306 S300.sub rs303 (by rw [S300.eqb]; exact (ow273.step0 s295)) ob304 tn14) ?_
          have ob311 := ((ob259.step s268 (ni_cons (Ne.symm ne33) (ni_own (fun hm => ow255.ne ob259 (by decide) _ hm rfl) ni_nil))).step0 s295)
          rintro v307 w308 ⟨h309, s310, rfl, ⟨v312, rs313, ow314, om315, ob318⟩⟩
          have ow316 := Own.rb ow314 S300.eqb
          have om317 : ∀ i ∈ v312.ownBlock.toList, i ∈ (Value.slice A4 xs3.length c5).ownBlock.toList ∨ w0.heap.size ≤ i := fun i hi => (om315 i hi).elim (fun q => om274 i q) (fun q => .inr (Nat.le_trans S300.size q))
          have S319 := S300.trans s310 (in_cons (.inl (by simp)) (in_own (fun i hi => (om274 i hi).elim (fun q => .inl (by simp only [List.mem_cons, List.mem_append]; simp [q])) .inr) in_nil))
          refine WL.nil ?_
          refine WQ.seqN ?_
          refine WC.region ?_
          refine WL.val rfl rfl rfl (ov_move rfl) ?_
          refine WL.val rfl rfl rfl (ov_nilCheck rfl) ?_
          refine WL.val rfl rfl rfl (ov_fieldAddr rfl t_field_55_0) ?_
          obtain ⟨A320, c321, rfl, rs322⟩ := RS.form rs313
          obtain ⟨r323, hr324, HF⟩ := bind_some HF
          refine WL.call rfl rfl rfl (oc_func (vs := [.pointer (some ⟨b1, 0, none⟩), .string (⟨#[101, 110, 100, 95, 114, 101, 112, 101, 97, 116, 59]⟩ : ByteArray)]) rfl t_ent_39) (ok_print_lines_line _ hr324 S319.sub rs322 (by rw [S319.eqb]; exact ow316) ob318 tn14) ?_
          have ob329 := (ob311.step s310 (ni_cons (Ne.symm ne33) (ni_own (fun hm => (ow273.step0 s295).ne ob311 (by decide) _ hm rfl) ni_nil)))
          rintro v325 w326 ⟨h327, s328, rfl, ⟨v330, rs331, ow332, om333, ob336⟩⟩
          have ow334 := Own.rb ow332 S319.eqb
          have om335 : ∀ i ∈ v330.ownBlock.toList, i ∈ (Value.slice A4 xs3.length c5).ownBlock.toList ∨ w0.heap.size ≤ i := fun i hi => (om333 i hi).elim (fun q => om317 i q) (fun q => .inr (Nat.le_trans S319.size q))
          have S337 := S319.trans s328 (in_cons (.inl (by simp)) (in_own (fun i hi => (om317 i hi).elim (fun q => .inl (by simp only [List.mem_cons, List.mem_append]; simp [q])) .inr) in_nil))
          refine WL.nil ?_
          refine WQ.blockN ?_
          refine WQ.end0 rfl ?_
          obtain rfl := Option.some.inj HF
          exact ⟨_, rfl, h327, S337, rfl, ⟨_, rs331, ow334, om335, ob336⟩⟩
      · replace HF := bif_f hb243 HF
        refine WC.skip ?_
        refine WQ.blockN ?_
        have ob338 := (ob10.step0 s31)
        refine WQ.end0 rfl ?_
        obtain rfl := Option.some.inj HF
        exact ⟨_, rfl, h0, S35, rfl, ⟨_, (rs6.mono (s31.le)), (ow7.step0 s31), om8, ob338⟩⟩
set_option maxRecDepth 20000 in
set_option maxHeartbeats 4000000 in
theorem s_print_lines_inside (k : Nat) (IH : ∀ j, j ≤ k → C_print_printer_stmt (tie_print_printer_stmt j).print_printer_stmt ∧ C_print_printer_text (tie_print_printer_stmt j).print_printer_text ∧ C_print_lines_inside_v1 (tie_print_printer_stmt j).print_lines_inside_v1 ∧ C_print_printer_text_1 (tie_print_printer_stmt j).print_printer_text_1 ∧ C_print_printer_loop (tie_print_printer_stmt j).print_printer_loop ∧ C_print_lines_inside (tie_print_printer_stmt j).print_lines_inside ∧ C_print_printer_stmt_1 (tie_print_printer_stmt j).print_printer_stmt_1 ∧ C_print_printer_other (tie_print_printer_stmt j).print_printer_other) : C_print_lines_inside (m_print_lines_inside k (tie_print_printer_stmt k)) := by
  intro x2 xs3 x9 x13 x14 xs15 xs18 xs21 x24 xs25 xs28 xs31 x34 r HF w0 h0 b1 A4 c5 b11 T12 v16 v19 v22 v26 v29 v32 b36 T37 hs0 rs6 ow7 rs17 rs20 rs23 rs27 rs30 rs33 ob10 ob35 ob38 ne39 ne40 ne41 tn42 tn43 tn44
  have S0 : Stp (b1 :: ((Value.slice A4 xs3.length c5).ownBlock.toList ++ [])) w0 h0 w0 h0 := Stp.refl hs0 _
  have om8 : ∀ i ∈ (Value.slice A4 xs3.length c5).ownBlock.toList, i ∈ (Value.slice A4 xs3.length c5).ownBlock.toList ∨ w0.heap.size ≤ i := fun i hi => .inl hi
  have lt45 : b1 < w0.heap.size := OB.lt ob10
  have lt46 : b11 < w0.heap.size := OB.lt ob35
  have lt47 : b36 < w0.heap.size := OB.lt ob38
  refine enter (n := 20) Tryz.func43 rfl Tryz.ntmps43 rfl [(0, .pointer (some ⟨b1, 0, none⟩)), (1, .func (.func 44) #[] #[.pointer (some ⟨b11, 0, none⟩), .pointer (some ⟨b36, 0, none⟩)])] rfl ?_
  refine WC.seq ?_
  refine WC.region ?_
  refine WL.val rfl rfl rfl (ov_move rfl) ?_
  refine WL.val rfl rfl rfl (ov_nilCheck rfl) ?_
  refine WL.val rfl rfl rfl (ov_fieldAddr rfl t_field_53_1) ?_
  refine WL.val rfl rfl rfl (ov_load1 rfl t_agg_9 (OB.cell ob10 (j := 2) rfl)) ?_
  refine WL.val rfl rfl rfl (ov_assign rfl) ?_
  refine WL.nil ?_
  refine WQ.seqN ?_
  refine WC.seq ?_
  refine WC.region ?_
  refine WL.val rfl rfl rfl (ov_move rfl) ?_
  refine WL.val rfl rfl rfl (ov_move rfl) ?_
  obtain ⟨hl48, HF⟩ := ite_none HF
  refine WL.val rfl rfl rfl (ov_addS rfl rfl hl48) ?_
  refine WL.val rfl rfl rfl (ov_nilCheck rfl) ?_
  refine WL.val rfl rfl rfl (ov_fieldAddr rfl t_field_53_1) ?_
  refine WL.store (vs := [.string (x9 ++ (⟨#[32, 32]⟩ : ByteArray))]) rfl rfl rfl rfl t_size_9 (one_cons rfl one_nil) ob10 S0.sub (by simp) (ds := [.pointer (bif x2 then some ⟨b1, 0, none⟩ else none), .slice A4 xs3.length c5, .string (x9 ++ (⟨#[32, 32]⟩ : ByteArray))]) rfl (fun w49 s50 ob51 => ?_)
  have S52 := S0.trans1 s50 (.inl (by simp))
  refine WL.nil ?_
  refine WQ.seqN ?_
  refine WC.seq ?_
  refine WC.region ?_
  refine WL.val rfl rfl rfl (ov_move rfl) ?_
  have ob53 := (ob35.step1 s50 (Ne.symm ne39))
  have ob54 := (ob38.step1 s50 (Ne.symm ne40))
  obtain ⟨r55, hr56, HF⟩ := bind_some HF
  refine WL.call rfl rfl rfl (oc_val (vs := []) (caps := [.pointer (some ⟨b11, 0, none⟩), .pointer (some ⟨b36, 0, none⟩)]) rfl rfl t_ent_44) ((IH _ (Nat.le_refl _)).2.2.2.2.2.2.1 hr56 S52.sub (rs17.mono (s50.le)) (rs20.mono (s50.le)) (rs23.mono (s50.le)) (rs27.mono (s50.le)) (rs30.mono (s50.le)) (rs33.mono (s50.le)) (rs6.mono (s50.le)) (by rw [S52.eqb]; exact (ow7.step s50 (on_cons (ow7.ne_ob ob10 tn42) on_nil))) ob53 ob54 ob51 ne41 (Ne.symm ne39) (Ne.symm ne40) tn43 tn44 tn42) ?_
  rintro v57 w58 ⟨h59, s60, rfl, ⟨v61, rs62, ow63, om64, ob67⟩⟩
  have ow65 := Own.rb ow63 S52.eqb
  have om66 : ∀ i ∈ v61.ownBlock.toList, i ∈ (Value.slice A4 xs3.length c5).ownBlock.toList ∨ w0.heap.size ≤ i := fun i hi => (om64 i hi).elim (fun q => om8 i q) (fun q => .inr (Nat.le_trans S52.size q))
  have S68 := S52.trans s60 (in_cons (.inl (by simp)) (in_own (fun i hi => (om8 i hi).elim (fun q => .inl (by simp only [List.mem_cons, List.mem_append]; simp [q])) .inr) in_nil))
  refine WL.nil ?_
  refine WQ.seqN ?_
  refine WC.region ?_
  refine WL.val rfl rfl rfl (ov_move rfl) ?_
  refine WL.val rfl rfl rfl (ov_move rfl) ?_
  refine WL.val rfl rfl rfl (ov_nilCheck rfl) ?_
  refine WL.val rfl rfl rfl (ov_fieldAddr rfl t_field_53_1) ?_
  refine WL.store (vs := [.string x9]) rfl rfl rfl rfl t_size_9 (one_cons rfl one_nil) ob67 S68.sub (by simp) (ds := [.pointer (bif r55.1 then some ⟨b1, 0, none⟩ else none), v61, .string x9]) rfl (fun w69 s70 ob71 => ?_)
  have S72 := S68.trans1 s70 (.inl (by simp))
  refine WL.nil ?_
  refine WQ.end0 rfl ?_
  obtain rfl := Option.some.inj HF
  exact ⟨_, rfl, h59, S72, rfl, ⟨_, (rs62.mono (s70.le)), (ow65.step s70 (on_cons (ow65.ne_ob ob67 tn42) on_nil)), om66, ob71⟩⟩
set_option maxRecDepth 20000 in
set_option maxHeartbeats 4000000 in
theorem s_print_printer_stmt_1 (k : Nat) (IH : ∀ j, j ≤ k → C_print_printer_stmt (tie_print_printer_stmt j).print_printer_stmt ∧ C_print_printer_text (tie_print_printer_stmt j).print_printer_text ∧ C_print_lines_inside_v1 (tie_print_printer_stmt j).print_lines_inside_v1 ∧ C_print_printer_text_1 (tie_print_printer_stmt j).print_printer_text_1 ∧ C_print_printer_loop (tie_print_printer_stmt j).print_printer_loop ∧ C_print_lines_inside (tie_print_printer_stmt j).print_lines_inside ∧ C_print_printer_stmt_1 (tie_print_printer_stmt j).print_printer_stmt_1 ∧ C_print_printer_other (tie_print_printer_stmt j).print_printer_other) : C_print_printer_stmt_1 (m_print_printer_stmt_1 k (tie_print_printer_stmt k)) := by
  intro x3 x4 xs5 xs8 xs11 x14 xs15 xs18 xs21 x24 x29 xs30 x36 r HF w0 h0 b1 T2 v6 v9 v12 v16 v19 v22 b26 T27 b28 A31 c32 hs0 rs7 rs10 rs13 rs17 rs20 rs23 rs33 ow34 ob25 ob38 ob37 ne39 ne40 ne41 tn42 tn43 tn44
  have S0 : Stp (b28 :: ((Value.slice A31 xs30.length c32).ownBlock.toList ++ [])) w0 h0 w0 h0 := Stp.refl hs0 _
  have om35 : ∀ i ∈ (Value.slice A31 xs30.length c32).ownBlock.toList, i ∈ (Value.slice A31 xs30.length c32).ownBlock.toList ∨ w0.heap.size ≤ i := fun i hi => .inl hi
  have lt45 : b1 < w0.heap.size := OB.lt ob25
  have lt46 : b26 < w0.heap.size := OB.lt ob38
  have lt47 : b28 < w0.heap.size := OB.lt ob37
  refine enter (n := 24) Tryz.func44 rfl Tryz.ntmps44 rfl [(0, .pointer (some ⟨b1, 0, none⟩)), (1, .pointer (some ⟨b26, 0, none⟩))] rfl ?_
  refine WC.seq ?_
  refine WC.region ?_
  refine WL.val rfl rfl rfl (ov_fieldAddr rfl t_field_44_7) ?_
  refine WL.val rfl rfl rfl (ov_load1 rfl t_agg_42 (OB.cell ob25 (j := 7) rfl)) ?_
  obtain ⟨A48, c49, rfl, rs50⟩ := RS.form rs20
  refine WL.val rfl rfl rfl (ov_lenL rfl t_slice_42) ?_
  refine WL.val rfl rfl rfl (ov_move rfl) ?_
  refine WL.nil ?_
  refine WQ.seqN ?_
  refine WC.block ?_
  refine WC.loop ?_
  refine WP.to [1, 5, 6, 7] [(1, .pointer (some ⟨b26, 0, none⟩)), (5, .slice A48 (xs18).length c49), (6, .int .i64 (xs18.length : Int)), (7, .int .i64 0)] rfl ?_
  refine WP_rule (K := k) (fun j E w52 => ∃ (h51 : Hp) (x55 : Int) (xs56 : List Ar) (v57 : Value) (x61 : Bool) (xs62 : List UInt8) (v63 : Value) (x67 : ByteArray), (tie_print_printer_stmt j).print_printer_stmt_1_l1 xs18 x55 xs56 x61 xs62 x67 = some r ∧ E = [(1, .pointer (some ⟨b26, 0, none⟩)), (5, .slice A48 (xs18).length c49), (6, .int .i64 (xs18.length : Int)), (7, .int .i64 x55)] ∧ Stp (b28 :: ((Value.slice A31 xs30.length c32).ownBlock.toList ++ [])) w0 h0 w52 h51 ∧ Hle h0 h51 ∧ RS h51 v57 xs56 ∧ RS h51 v63 xs62 ∧ Own w52 h51 h0.base 5 1 v63 xs62.length ∧ (∀ i ∈ v63.ownBlock.toList, i ∈ (Value.slice A31 xs30.length c32).ownBlock.toList ∨ w0.heap.size ≤ i) ∧ OB w52 h51 b1 T2 [.int .i64 x3, .string x4, v6, v9, v12, .int .i64 x14, v16, v57, v22, .bool x24] ∧ OB w52 h51 b26 T27 [.pointer (some ⟨b28, 0, none⟩)] ∧ OB w52 h51 b28 55 [.pointer (bif x61 then some ⟨b28, 0, none⟩ else none), v63, .string x67]) ?_ ?_ (j := k) (Nat.le_refl _) ?_
  · rintro E w52 ⟨_, _, _, _, _, _, _, _, HF, _⟩; cases HF
  · rintro j69 hj71 IHL70 E w52 ⟨h51, x55, xs56, v57, x61, xs62, v63, x67, HF, rfl, S54, le53, rs58, rs64, ow65, om66, ob59, ob60, ob68⟩
    refine WC.seq ?_
    refine WC.region ?_
    refine WL.val rfl rfl rfl (ov_lss rfl rfl) ?_
    refine WL.nil ?_
    refine WQ.seqN ?_
    refine WC.join (fun E w74 => ∃ (h73 : Hp) (xs79 : List UInt8) (v80 : Value), print_printer_stmt_1_j2 j69 (tie_print_printer_stmt j69) xs18 x55 xs56 x61 x67 xs79 = some r ∧ E = [(1, .pointer (some ⟨b26, 0, none⟩)), (5, .slice A48 (xs18).length c49), (6, .int .i64 (xs18.length : Int)), (7, .int .i64 x55)] ∧ Stp (b28 :: ((Value.slice A31 xs30.length c32).ownBlock.toList ++ [])) w0 h0 w74 h73 ∧ Hle h51 h73 ∧ RS h73 v80 xs79 ∧ Own w74 h73 h0.base 5 1 v80 xs79.length ∧ (∀ i ∈ v80.ownBlock.toList, i ∈ (Value.slice A31 xs30.length c32).ownBlock.toList ∨ w0.heap.size ≤ i) ∧ OB w74 h73 b1 T2 [.int .i64 x3, .string x4, v6, v9, v12, .int .i64 x14, v16, v57, v22, .bool x24] ∧ OB w74 h73 b26 T27 [.pointer (some ⟨b28, 0, none⟩)] ∧ OB w74 h73 b28 55 [.pointer (bif x61 then some ⟨b28, 0, none⟩ else none), v80, .string x67]) ?_ ?_
    · rintro E w74 ⟨h73, xs79, v80, HF, rfl, S76, le75, rs81, ow82, om83, ob77, ob78, ob84⟩
      refine WC.seq ?_
      refine WC.block ?_
      refine WC.seq ?_
      refine WC.region ?_
      obtain ⟨e85, he86, HF⟩ := bind_some HF
      obtain ⟨b87, o88, rfl, h90, h91, ra89⟩ := RS.atO (rs50.mono ((le53).trans le75)) he86
      obtain ⟨cs92, r93, hc94⟩ := ra89
      refine WL.val rfl rfl rfl (ov_indexAddr rfl rfl t_slice_42 t_size_47 h90 h91) ?_
      refine WL.val rfl rfl rfl (ov_loadN (cs := cs92) rfl t_agg_47 (by rw [Rp.len r93]; exact t_size_47) (fun j v hv => S76.sub.at_ _ _ _ (hc94 j v hv))) ?_
      refine WL.alloc (zs := [.slice none 0 0, .slice none 0 0, .slice none 0 0]) rfl rfl t_zero_47 rfl S76.sub (fun w95 b96 hb97 s98 ob99 => ?_)
      have ne100 : b1 ≠ b96 := ob77.ne_new hb97
      have ne101 : b26 ≠ b96 := ob78.ne_new hb97
      have ne102 : b28 ≠ b96 := ob84.ne_new hb97
      have g103 : w0.heap.size ≤ b96 := by rw [hb97]; exact S76.size
      have S104 := S76.trans0 s98
      obtain ⟨v105, v107, v109, rfl, rs106, rs108, rs110⟩ := rp_Ar.1 (Rp.mono (s98.le) r93)
      refine WL.store (vs := [v105, v107, v109]) rfl rfl rfl rfl t_size_47 (one_cons (RS.one rs106) (one_cons (RS.one rs108) (one_cons (RS.one rs110) one_nil))) ob99 S104.sub (by simp) (ds := [v105, v107, v109]) rfl (fun w111 s112 ob113 => ?_)
      have S114 := S104.trans1 s112 (.inr g103)
      refine WL.nil ?_
      refine WQ.seqN ?_
      refine WC.seq ?_
      obtain ⟨r115, hr116, HF⟩ := bind_some HF
      obtain ⟨hl117, HF⟩ := ite_none HF
      refine WC.drawn (m := 7) [(1, .pointer (some ⟨b26, 0, none⟩)), (3, .pointer (some ⟨b96, 0, none⟩)), (5, .slice (some ⟨b87, o88, none⟩) (xs18).length c49), (6, .int .i64 (xs18.length : Int)), (7, .int .i64 x55)] [1, 3, 5, 6, 7] rfl (fun i v w h => match i with | 0 => v = .pointer (some ⟨b28, 0, none⟩) | 1 => v = .pointer (some ⟨b28, 0, none⟩) | 2 => v = .pointer (some ⟨b28, 0, none⟩) | 3 => v = .pointer (some ⟨b96, 1, none⟩) | 4 => v = v107 | 5 => v = .string r115 | 6 => v = .string (r115 ++ (⟨#[58]⟩ : ByteArray)) | _ => True) t_mixed S114.sub rfl rfl rfl rfl rfl ?_ ?_ ?_
      · intro i v w h w2 h2 hΦ hst
        match i, hΦ with
        | 0, hΦ => exact hΦ
        | 1, hΦ => exact hΦ
        | 2, hΦ => exact hΦ
        | 3, hΦ => exact hΦ
        | 4, hΦ => exact hΦ
        | 5, hΦ => exact hΦ
        | 6, hΦ => exact hΦ
        | i + 7, _ => exact trivial
      · refine ⟨?_, ?_, ?_, ?_, ?_, ?_, ?_, trivial⟩
        · intro a w118 h119 s120 hat hF
          have ob121 := (((ob78.step0 s98).step1 s112 ne101).step0 s120)
          exact front_val (show At _ [(1, .pointer (some ⟨b26, 0, none⟩)), (3, .pointer (some ⟨b96, 0, none⟩)), (5, .slice (some ⟨b87, o88, none⟩) (xs18).length c49), (6, .int .i64 (xs18.length : Int)), (7, .int .i64 x55)] _ from hat) rfl (ov_load1 rfl t_agg_77 (OB.cell ob121 (j := 0) rfl)) s120.sub (by exact rfl)
        · intro a w118 h119 s120 hat hF
          obtain hv0 := hF 0 11 rfl rfl
          exact front_val (show At _ [(11, .pointer (some ⟨b28, 0, none⟩)), (1, .pointer (some ⟨b26, 0, none⟩)), (3, .pointer (some ⟨b96, 0, none⟩)), (5, .slice (some ⟨b87, o88, none⟩) (xs18).length c49), (6, .int .i64 (xs18.length : Int)), (7, .int .i64 x55)] _ from (At.cons hat hv0)) rfl (ov_nilCheck rfl) s120.sub (by exact rfl)
        · intro a w118 h119 s120 hat hF
          obtain hv1 := hF 1 12 rfl rfl
          exact front_val (show At _ [(12, .pointer (some ⟨b28, 0, none⟩)), (1, .pointer (some ⟨b26, 0, none⟩)), (3, .pointer (some ⟨b96, 0, none⟩)), (5, .slice (some ⟨b87, o88, none⟩) (xs18).length c49), (6, .int .i64 (xs18.length : Int)), (7, .int .i64 x55)] _ from (At.cons hat hv1)) rfl (ov_fieldAddr rfl t_field_55_0) s120.sub (by exact rfl)
        · intro a w118 h119 s120 hat hF
          exact front_val (show At _ [(1, .pointer (some ⟨b26, 0, none⟩)), (3, .pointer (some ⟨b96, 0, none⟩)), (5, .slice (some ⟨b87, o88, none⟩) (xs18).length c49), (6, .int .i64 (xs18.length : Int)), (7, .int .i64 x55)] _ from hat) rfl (ov_fieldAddr rfl t_field_47_1) s120.sub (by exact rfl)
        · intro a w118 h119 s120 hat hF
          obtain hv3 := hF 3 14 rfl rfl
          have ob122 := (ob113.step0 s120)
          exact front_val (show At _ [(14, .pointer (some ⟨b96, 1, none⟩)), (1, .pointer (some ⟨b26, 0, none⟩)), (3, .pointer (some ⟨b96, 0, none⟩)), (5, .slice (some ⟨b87, o88, none⟩) (xs18).length c49), (6, .int .i64 (xs18.length : Int)), (7, .int .i64 x55)] _ from (At.cons hat hv3)) rfl (ov_load1 rfl t_agg_45 (OB.cell ob122 (j := 1) rfl)) s120.sub (by exact rfl)
        · intro a w118 h119 s120 hat hF
          obtain hv4 := hF 4 15 rfl rfl
          refine front_call (show At _ [(15, v107), (1, .pointer (some ⟨b26, 0, none⟩)), (3, .pointer (some ⟨b96, 0, none⟩)), (5, .slice (some ⟨b87, o88, none⟩) (xs18).length c49), (6, .int .i64 (xs18.length : Int)), (7, .int .i64 x55)] _ from (At.cons hat hv4)) rfl (oc_func (vs := [v107, .string (⟨#[44, 32]⟩ : ByteArray), .func (.func 36) #[] #[]]) rfl t_ent_45) (ok_print_Joined_int _ hr116 s120.sub (rs108.mono ((s112.le).trans s120.le))) ?_
          rintro _ w123 ⟨h124, s125, rfl⟩
          exact ⟨_, h124, rfl, s125, (by exact rfl)⟩
        · intro a w118 h119 s120 hat hF
          obtain hv5 := hF 5 16 rfl rfl
          exact front_val (show At _ [(16, .string r115), (1, .pointer (some ⟨b26, 0, none⟩)), (3, .pointer (some ⟨b96, 0, none⟩)), (5, .slice (some ⟨b87, o88, none⟩) (xs18).length c49), (6, .int .i64 (xs18.length : Int)), (7, .int .i64 x55)] _ from (At.cons hat hv5)) rfl (ov_addS rfl rfl hl117) s120.sub (by exact rfl)
      · intro a w118 h119 s120 hat hF
        obtain hv0 := hF 0 11 (by decide) rfl
        obtain hv1 := hF 1 12 (by decide) rfl
        obtain hv2 := hF 2 13 (by decide) rfl
        obtain hv3 := hF 3 14 (by decide) rfl
        obtain hv4 := hF 4 15 (by decide) rfl
        obtain hv5 := hF 5 16 (by decide) rfl
        obtain hv6 := hF 6 17 (by decide) rfl
        refine WL.at_ [(17, .string (r115 ++ (⟨#[58]⟩ : ByteArray))), (16, .string r115), (15, v107), (14, .pointer (some ⟨b96, 1, none⟩)), (13, .pointer (some ⟨b28, 0, none⟩)), (12, .pointer (some ⟨b28, 0, none⟩)), (11, .pointer (some ⟨b28, 0, none⟩)), (1, .pointer (some ⟨b26, 0, none⟩)), (3, .pointer (some ⟨b96, 0, none⟩)), (5, .slice (some ⟨b87, o88, none⟩) (xs18).length c49), (6, .int .i64 (xs18.length : Int)), (7, .int .i64 x55)] (At.cons (At.cons (At.cons (At.cons (At.cons (At.cons (At.cons hat hv0) hv1) hv2) hv3) hv4) hv5) hv6) ?_
        have S126 := S114.trans0 s120
        obtain ⟨A127, c128, rfl, rs129⟩ := RS.form (rs81.mono ((s98.le).trans ((s112.le).trans s120.le)))
        have ob130 := (((ob84.step0 s98).step1 s112 ne102).step0 s120)
        obtain ⟨r131, hr132, HF⟩ := bind_some HF
        refine WL.call rfl rfl rfl (oc_func (vs := [.pointer (some ⟨b28, 0, none⟩), .string (r115 ++ (⟨#[58]⟩ : ByteArray))]) rfl t_ent_39) (ok_print_lines_line _ hr132 S126.sub rs129 (by rw [S126.eqb]; exact (((ow82.step0 s98).step s112 (on_cons ((ow82.step0 s98).ne_ob ob99 (by decide)) on_nil)).step0 s120)) ob130 tn44) ?_
        have ob137 := (((ob77.step0 s98).step1 s112 ne100).step0 s120)
        have ob138 := (((ob78.step0 s98).step1 s112 ne101).step0 s120)
        have ob139 := (ob113.step0 s120)
        rintro v133 w134 ⟨h135, s136, rfl, ⟨v140, rs141, ow142, om143, ob146⟩⟩
        have ow144 := Own.rb ow142 S126.eqb
        have om145 : ∀ i ∈ v140.ownBlock.toList, i ∈ (Value.slice A31 xs30.length c32).ownBlock.toList ∨ w0.heap.size ≤ i := fun i hi => (om143 i hi).elim (fun q => om83 i q) (fun q => .inr (Nat.le_trans S126.size q))
        have S147 := S126.trans s136 (in_cons (.inl (by simp)) (in_own (fun i hi => (om83 i hi).elim (fun q => .inl (by simp only [List.mem_cons, List.mem_append]; simp [q])) .inr) in_nil))
        refine WL.nil ?_
        refine WQ.seqN ?_
        refine WC.region ?_
        have ob148 := (ob138.step s136 (ni_cons ne41 (ni_own (fun hm => (((ow82.step0 s98).step s112 (on_cons ((ow82.step0 s98).ne_ob ob99 (by decide)) on_nil)).step0 s120).ne ob138 tn43 _ hm rfl) ni_nil)))
        refine WL.val rfl rfl rfl (ov_load1 rfl t_agg_77 (OB.cell ob148 (j := 0) rfl)) ?_
        refine WL.val rfl rfl rfl (ov_fieldAddr rfl t_field_47_2) ?_
        have ob149 := (ob139.step s136 (ni_cons (Ne.symm ne102) (ni_own (fun hm => (((ow82.step0 s98).step s112 (on_cons ((ow82.step0 s98).ne_ob ob99 (by decide)) on_nil)).step0 s120).ne ob139 (by decide) _ hm rfl) ni_nil)))
        refine WL.val rfl rfl rfl (ov_load1 rfl t_agg_22 (OB.cell ob149 (j := 2) rfl)) ?_
        obtain ⟨A150, c151, rfl, rs152⟩ := RS.form rs141
        obtain ⟨r153, hr154, HF⟩ := bind_some HF
        refine WL.call rfl rfl rfl (oc_func (vs := [.pointer (some ⟨b28, 0, none⟩), v109]) rfl t_ent_41) ((IH _ (Nat.le_trans (Nat.le_of_succ_le hj71) (Nat.le_refl _))).2.1 hr154 S147.sub rs152 (by rw [S147.eqb]; exact ow144) (rs110.mono ((s112.le).trans ((s120.le).trans s136.le))) ob146 tn44) ?_
        have ob159 := (ob137.step s136 (ni_cons ne40 (ni_own (fun hm => (((ow82.step0 s98).step s112 (on_cons ((ow82.step0 s98).ne_ob ob99 (by decide)) on_nil)).step0 s120).ne ob137 tn42 _ hm rfl) ni_nil)))
        rintro v155 w156 ⟨h157, s158, rfl, ⟨v160, rs161, ow162, om163, ob166⟩⟩
        have ow164 := Own.rb ow162 S147.eqb
        have om165 : ∀ i ∈ v160.ownBlock.toList, i ∈ (Value.slice A31 xs30.length c32).ownBlock.toList ∨ w0.heap.size ≤ i := fun i hi => (om163 i hi).elim (fun q => om145 i q) (fun q => .inr (Nat.le_trans S147.size q))
        have S167 := S147.trans s158 (in_cons (.inl (by simp)) (in_own (fun i hi => (om145 i hi).elim (fun q => .inl (by simp only [List.mem_cons, List.mem_append]; simp [q])) .inr) in_nil))
        refine WL.nil ?_
        refine WQ.blockN ?_
        refine WQ.seqN ?_
        refine WC.region ?_
        refine WL.val rfl rfl rfl (ov_add rfl rfl) ?_
        refine WL.val rfl rfl rfl (ov_move rfl) ?_
        refine WL.nil ?_
        have ob169 := (ob159.step s158 (ni_cons ne40 (ni_own (fun hm => ow144.ne ob159 tn42 _ hm rfl) ni_nil)))
        have ob170 := (ob148.step s158 (ni_cons ne41 (ni_own (fun hm => ow144.ne ob148 tn43 _ hm rfl) ni_nil)))
        refine WQ.loopN ?_
        refine WP.to [1, 5, 6, 7] [(1, .pointer (some ⟨b26, 0, none⟩)), (5, .slice (some ⟨b87, o88, none⟩) (xs18).length c49), (6, .int .i64 (xs18.length : Int)), (7, .int .i64 (IntKind.i64.wrap (x55 + 1)))] rfl ?_
        exact IHL70 j69 (Nat.le_refl _) _ _ ⟨h157, IntKind.i64.wrap (x55 + 1), xs56, v57, r153.1, r153.2.1, v160, r153.2.2, HF, rfl, S167, (le53).trans ((le75).trans ((s98.le).trans ((s112.le).trans ((s120.le).trans ((s136.le).trans s158.le))))), (rs58.mono ((le75).trans ((s98.le).trans ((s112.le).trans ((s120.le).trans ((s136.le).trans s158.le)))))), rs161, ow164, om165, ob169, ob170, ob166⟩
    · intro J168
      refine WC.cond (b := decide ((x55 : Int) < (xs18.length : Int))) rfl (fun hb72 => ?_) (fun hb72 => ?_)
      · replace HF := bif_t hb72 HF
        refine WC.skip ?_
        refine WC.to [1, 5, 6, 7] [(1, .pointer (some ⟨b26, 0, none⟩)), (5, .slice A48 (xs18).length c49), (6, .int .i64 (xs18.length : Int)), (7, .int .i64 x55)] rfl ?_
        exact J168 ⟨h51, xs62, v63, HF, rfl, S54, Hle.refl _, rs64, ow65, om66, ob59, ob60, ob68⟩
      · replace HF := bif_f hb72 HF
        refine WC.exit ?_
        refine WQ.thenExit ?_
        refine WQ.thenExit ?_
        refine WQ.blockHit ?_
        refine WQ.end0 rfl ?_
        obtain rfl := Option.some.inj HF
        exact ⟨_, rfl, h51, S54, rfl, ⟨_, rs64, ow65, om66, ob68⟩⟩
  · exact ⟨h0, 0, xs18, .slice A48 (xs18).length c49, x29, xs30, .slice A31 xs30.length c32, x36, HF, rfl, S0, Hle.refl _, rs50, rs33, ow34, om35, ob25, ob38, ob37⟩
set_option maxRecDepth 20000 in
set_option maxHeartbeats 4000000 in
theorem s_print_printer_other (k : Nat) (IH : ∀ j, j ≤ k → C_print_printer_stmt (tie_print_printer_stmt j).print_printer_stmt ∧ C_print_printer_text (tie_print_printer_stmt j).print_printer_text ∧ C_print_lines_inside_v1 (tie_print_printer_stmt j).print_lines_inside_v1 ∧ C_print_printer_text_1 (tie_print_printer_stmt j).print_printer_text_1 ∧ C_print_printer_loop (tie_print_printer_stmt j).print_printer_loop ∧ C_print_lines_inside (tie_print_printer_stmt j).print_lines_inside ∧ C_print_printer_stmt_1 (tie_print_printer_stmt j).print_printer_stmt_1 ∧ C_print_printer_other (tie_print_printer_stmt j).print_printer_other) : C_print_printer_other (m_print_printer_other k (tie_print_printer_stmt k)) := by
  intro x2 xs3 x9 x11 r HF w0 h0 b1 A4 c5 cs12 hs0 rs6 ow7 r13 ob10 tn14
  have S0 : Stp (b1 :: ((Value.slice A4 xs3.length c5).ownBlock.toList ++ [])) w0 h0 w0 h0 := Stp.refl hs0 _
  have om8 : ∀ i ∈ (Value.slice A4 xs3.length c5).ownBlock.toList, i ∈ (Value.slice A4 xs3.length c5).ownBlock.toList ∨ w0.heap.size ≤ i := fun i hi => .inl hi
  have lt15 : b1 < w0.heap.size := OB.lt ob10
  refine enter (n := 14) Tryz.func42 rfl Tryz.ntmps42 rfl [(0, .pointer (some ⟨b1, 0, none⟩)), (1, .agg cs12.toArray)] rfl ?_
  refine WC.seq ?_
  refine WC.region ?_
  obtain ⟨v16, v18, v20, v22, v24, v26, rfl, rs17, rs19, rs21, rs23, rs25, rs27⟩ := rp_St.1 r13
  refine WL.box (cs := [.int .i64 x11.op, .string x11.name, v16, v18, v20, .int .i64 x11.n, v22, v24, v26, .bool x11.els]) rfl rfl rfl rfl S0.sub (fun w28 b29 hb30 s31 ob32 => ?_)
  have ne33 : b1 ≠ b29 := ob10.ne_new hb30
  have g34 : w0.heap.size ≤ b29 := by rw [hb30]; exact S0.size
  have S35 := S0.trans0 s31
  refine WL.nil ?_
  refine WQ.seqN ?_
  refine WC.seq ?_
  refine WC.region ?_
  refine WL.val rfl rfl rfl (ov_fieldAddr rfl t_field_44_9) ?_
  refine WL.val rfl rfl rfl (ov_load1 rfl t_agg_4 (OB.cell ob32 (j := 9) rfl)) ?_
  refine WL.nil ?_
  refine WQ.seqN ?_
  refine WC.cond (b := x11.els) rfl (fun hb36 => ?_) (fun hb36 => ?_)
  · replace HF := bif_t hb36 HF
    refine WC.seq ?_
    refine WC.region ?_
    refine WL.val rfl rfl rfl (ov_move rfl) ?_
    refine WL.val rfl rfl rfl (ov_nilCheck rfl) ?_
    refine WL.val rfl rfl rfl (ov_fieldAddr rfl t_field_55_0) ?_
    have ob37 := (ob10.step0 s31)
    obtain ⟨r38, hr39, HF⟩ := bind_some HF
    refine WL.call rfl rfl rfl (oc_func (vs := [.pointer (some ⟨b1, 0, none⟩), .string (⟨#[101, 108, 115, 101]⟩ : ByteArray)]) rfl t_ent_39) (ok_print_lines_line _ hr39 S35.sub (rs6.mono (s31.le)) (by rw [S35.eqb]; exact (ow7.step0 s31)) ob37 tn14) ?_
    rintro v40 w41 ⟨h42, s43, rfl, ⟨v44, rs45, ow46, om47, ob50⟩⟩
    have ow48 := Own.rb ow46 S35.eqb
    have om49 : ∀ i ∈ v44.ownBlock.toList, i ∈ (Value.slice A4 xs3.length c5).ownBlock.toList ∨ w0.heap.size ≤ i := fun i hi => (om47 i hi).elim (fun q => om8 i q) (fun q => .inr (Nat.le_trans S35.size q))
    have S51 := S35.trans s43 (in_cons (.inl (by simp)) (in_own (fun i hi => (om8 i hi).elim (fun q => .inl (by simp only [List.mem_cons, List.mem_append]; simp [q])) .inr) in_nil))
    refine WL.nil ?_
    refine WQ.seqN ?_
    refine WC.region ?_
    refine WL.val rfl rfl rfl (ov_move rfl) ?_
    refine WL.val rfl rfl rfl (ov_fieldAddr rfl t_field_44_8) ?_
    have ob52 := (ob32.step s43 (ni_cons (Ne.symm ne33) (ni_own (fun hm => (ow7.step0 s31).ne ob32 (by decide) _ hm rfl) ni_nil)))
    refine WL.val rfl rfl rfl (ov_load1 rfl t_agg_22 (OB.cell ob52 (j := 8) rfl)) ?_
    obtain ⟨A53, c54, rfl, rs55⟩ := RS.form rs45
    obtain ⟨r56, hr57, HF⟩ := bind_some HF
    refine WL.call rfl rfl rfl (oc_func (vs := [.pointer (some ⟨b1, 0, none⟩), v26]) rfl t_ent_41) ((IH _ (Nat.le_refl _)).2.1 hr57 S51.sub rs55 (by rw [S51.eqb]; exact ow48) (rs27.mono ((s31.le).trans s43.le)) ob50 tn14) ?_
    rintro v58 w59 ⟨h60, s61, rfl, ⟨v62, rs63, ow64, om65, ob68⟩⟩
    have ow66 := Own.rb ow64 S51.eqb
    have om67 : ∀ i ∈ v62.ownBlock.toList, i ∈ (Value.slice A4 xs3.length c5).ownBlock.toList ∨ w0.heap.size ≤ i := fun i hi => (om65 i hi).elim (fun q => om49 i q) (fun q => .inr (Nat.le_trans S51.size q))
    have S69 := S51.trans s61 (in_cons (.inl (by simp)) (in_own (fun i hi => (om49 i hi).elim (fun q => .inl (by simp only [List.mem_cons, List.mem_append]; simp [q])) .inr) in_nil))
    refine WL.nil ?_
    refine WQ.end0 rfl ?_
    obtain rfl := Option.some.inj HF
    exact ⟨_, rfl, h60, S69, rfl, ⟨_, rs63, ow66, om67, ob68⟩⟩
  · replace HF := bif_f hb36 HF
    refine WC.skip ?_
    have ob70 := (ob10.step0 s31)
    refine WQ.end0 rfl ?_
    obtain rfl := Option.some.inj HF
    exact ⟨_, rfl, h0, S35, rfl, ⟨_, (rs6.mono (s31.le)), (ow7.step0 s31), om8, ob70⟩⟩
theorem all_print_printer_stmt : ∀ k j, j ≤ k → C_print_printer_stmt (tie_print_printer_stmt j).print_printer_stmt ∧ C_print_printer_text (tie_print_printer_stmt j).print_printer_text ∧ C_print_lines_inside_v1 (tie_print_printer_stmt j).print_lines_inside_v1 ∧ C_print_printer_text_1 (tie_print_printer_stmt j).print_printer_text_1 ∧ C_print_printer_loop (tie_print_printer_stmt j).print_printer_loop ∧ C_print_lines_inside (tie_print_printer_stmt j).print_lines_inside ∧ C_print_printer_stmt_1 (tie_print_printer_stmt j).print_printer_stmt_1 ∧ C_print_printer_other (tie_print_printer_stmt j).print_printer_other := by
  intro k
  induction k with
  | zero =>
    intro j hj
    obtain rfl : j = 0 := by omega
    exact ⟨(fun _ _ _ _ _ => by intro h; cases h), (fun _ _ _ _ _ => by intro h; cases h), (fun _ _ _ _ _ => by intro h; cases h), (fun _ _ _ _ _ => by intro h; cases h), (fun _ _ _ _ _ => by intro h; cases h), (fun _ _ _ _ _ _ _ _ _ _ _ _ _ _ => by intro h; cases h), (fun _ _ _ _ _ _ _ _ _ _ _ _ _ _ => by intro h; cases h), (fun _ _ _ _ _ => by intro h; cases h)⟩
  | succ k ih =>
    intro j hj
    by_cases h : j ≤ k
    · exact ih j h
    · obtain rfl : j = k + 1 := by omega
      exact ⟨s_print_printer_stmt k ih, s_print_printer_text k ih, s_print_lines_inside_v1 k ih, s_print_printer_text_1 k ih, s_print_printer_loop k ih, s_print_lines_inside k ih, s_print_printer_stmt_1 k ih, s_print_printer_other k ih⟩
theorem ok_print_printer_stmt (k : Nat) : C_print_printer_stmt (F_print_printer_stmt k) := (all_print_printer_stmt k k (Nat.le_refl _)).1
theorem ok_print_printer_text (k : Nat) : C_print_printer_text (F_print_printer_text k) := (all_print_printer_stmt k k (Nat.le_refl _)).2.1
theorem ok_print_lines_inside_v1 (k : Nat) : C_print_lines_inside_v1 (F_print_lines_inside_v1 k) := (all_print_printer_stmt k k (Nat.le_refl _)).2.2.1
theorem ok_print_printer_text_1 (k : Nat) : C_print_printer_text_1 (F_print_printer_text_1 k) := (all_print_printer_stmt k k (Nat.le_refl _)).2.2.2.1
theorem ok_print_printer_loop (k : Nat) : C_print_printer_loop (F_print_printer_loop k) := (all_print_printer_stmt k k (Nat.le_refl _)).2.2.2.2.1
theorem ok_print_lines_inside (k : Nat) : C_print_lines_inside (F_print_lines_inside k) := (all_print_printer_stmt k k (Nat.le_refl _)).2.2.2.2.2.1
theorem ok_print_printer_stmt_1 (k : Nat) : C_print_printer_stmt_1 (F_print_printer_stmt_1 k) := (all_print_printer_stmt k k (Nat.le_refl _)).2.2.2.2.2.2.1
theorem ok_print_printer_other (k : Nat) : C_print_printer_other (F_print_printer_other k) := (all_print_printer_stmt k k (Nat.le_refl _)).2.2.2.2.2.2.2

def C_ast_Counter_Add (φ : Int → Int → Int → Option (Bool × Int × Int)) : Prop := ∀ ⦃x3 : Int⦄ ⦃x4 : Int⦄ ⦃x6 : Int⦄ ⦃r : Bool × Int × Int⦄, φ x3 x4 x6 = some r → ∀ ⦃w0 : World⦄ ⦃h0 : Hp⦄ ⦃b1 : Nat⦄ ⦃T2 : Nat⦄, Sub h0 w0 → OB w0 h0 b1 T2 [.int .i64 x3, .int .i64 x4] →
  Calls Tryz.prog 79 #[.pointer (some ⟨b1, 0, none⟩), .int .i64 x6] w0 fun e w1 => ∃ v, e = .returned v ∧ ∃ h1, Stp [b1] w0 h0 w1 h1 ∧ v = .bool r.1 ∧ (OB w1 h1 b1 T2 [.int .i64 r.2.1, .int .i64 r.2.2])
set_option maxRecDepth 20000 in
set_option maxHeartbeats 4000000 in
theorem s_ast_Counter_Add (k : Nat) : C_ast_Counter_Add (F_ast_Counter_Add k) := by
  intro x3 x4 x6 r HF w0 h0 b1 T2 hs0 ob5
  have S0 : Stp [b1] w0 h0 w0 h0 := Stp.refl hs0 _
  have lt7 : b1 < w0.heap.size := OB.lt ob5
  refine enter (n := 30) Tryz.func79 rfl Tryz.ntmps79 rfl [(0, .pointer (some ⟨b1, 0, none⟩)), (1, .int .i64 x6)] rfl ?_
  refine WC.seq ?_
  refine WC.region ?_
  refine WL.val rfl rfl rfl (ov_assign rfl) ?_
  refine WL.nil ?_
  refine WQ.seqN ?_
  refine WC.seq ?_
  refine WC.region ?_
  refine WL.val rfl rfl rfl (ov_move rfl) ?_
  refine WL.val rfl rfl rfl (ov_nilCheck rfl) ?_
  refine WL.val rfl rfl rfl (ov_fieldAddr rfl t_field_75_0) ?_
  refine WL.val rfl rfl rfl (ov_load1 rfl t_agg_3 (OB.cell ob5 (j := 0) rfl)) ?_
  refine WL.val rfl rfl rfl (ov_add rfl rfl) ?_
  refine WL.val rfl rfl rfl (ov_nilCheck rfl) ?_
  refine WL.val rfl rfl rfl (ov_fieldAddr rfl t_field_75_0) ?_
  refine WL.store (vs := [.int .i64 (IntKind.i64.wrap (x3 + 1))]) rfl rfl rfl rfl t_size_3 (one_cons rfl one_nil) ob5 S0.sub (by simp) (ds := [.int .i64 (IntKind.i64.wrap (x3 + 1)), .int .i64 x4]) rfl (fun w8 s9 ob10 => ?_)
  have S11 := S0.trans1 s9 (.inl (by simp))
  refine WL.nil ?_
  refine WQ.seqN ?_
  refine WC.seq ?_
  refine WC.region ?_
  refine WL.val rfl rfl rfl (ov_move rfl) ?_
  refine WL.val rfl rfl rfl (ov_move rfl) ?_
  refine WL.val rfl rfl rfl (ov_nilCheck rfl) ?_
  refine WL.val rfl rfl rfl (ov_fieldAddr rfl t_field_75_1) ?_
  refine WL.val rfl rfl rfl (ov_load1 rfl t_agg_3 (OB.cell ob10 (j := 1) rfl)) ?_
  refine WL.val rfl rfl rfl (ov_move rfl) ?_
  refine WL.val rfl rfl rfl (ov_max rfl rfl) ?_
  refine WL.val rfl rfl rfl (ov_nilCheck rfl) ?_
  refine WL.val rfl rfl rfl (ov_fieldAddr rfl t_field_75_1) ?_
  refine WL.store (vs := [.int .i64 (imax x4 x6)]) rfl rfl rfl rfl t_size_3 (one_cons rfl one_nil) ob10 S11.sub (by simp) (ds := [.int .i64 (IntKind.i64.wrap (x3 + 1)), .int .i64 (imax x4 x6)]) rfl (fun w12 s13 ob14 => ?_)
  have S15 := S11.trans1 s13 (.inl (by simp))
  refine WL.nil ?_
  refine WQ.seqN ?_
  refine WC.seq ?_
  refine WC.region ?_
  refine WL.val rfl rfl rfl (ov_move rfl) ?_
  refine WL.val rfl rfl rfl (ov_nilCheck rfl) ?_
  refine WL.val rfl rfl rfl (ov_fieldAddr rfl t_field_75_0) ?_
  refine WL.val rfl rfl rfl (ov_load1 rfl t_agg_3 (OB.cell ob14 (j := 0) rfl)) ?_
  refine WL.val rfl rfl rfl (ov_leq rfl rfl) ?_
  refine WL.val rfl rfl rfl (ov_move rfl) ?_
  refine WL.split 26 (b := decide (((IntKind.i64.wrap (x3 + 1)) : Int) ≤ 500)) rfl (fun hb16 => ?_) (fun hb16 => ?_)
  · replace HF := bif_t hb16 HF
    refine WL.val rfl rfl rfl (ov_move rfl) ?_
    refine WL.val rfl rfl rfl (ov_leq rfl rfl) ?_
    refine WL.val rfl rfl rfl (ov_pickT rfl rfl) ?_
    refine WL.val rfl rfl rfl (ov_assign rfl) ?_
    refine WL.nil ?_
    refine WQ.seqN ?_
    refine WC.ret ?_
    refine WQ.ret1 rfl rfl ?_
    obtain rfl := Option.some.inj HF
    exact ⟨_, rfl, h0, S15, rfl, ob14⟩
  · replace HF := bif_f hb16 HF
    refine WL.pass rfl rfl rfl ?_
    refine WL.pass rfl rfl rfl ?_
    refine WL.val rfl rfl rfl (ov_pickF rfl rfl) ?_
    refine WL.val rfl rfl rfl (ov_assign rfl) ?_
    refine WL.nil ?_
    refine WQ.seqN ?_
    refine WC.ret ?_
    refine WQ.ret1 rfl rfl ?_
    obtain rfl := Option.some.inj HF
    exact ⟨_, rfl, h0, S15, rfl, ob14⟩
theorem ok_ast_Counter_Add (k : Nat) : C_ast_Counter_Add (F_ast_Counter_Add k) := s_ast_Counter_Add k
end Go.Proofs.YtaknpdhmhifpeaaGreatDoor
