import Derived.Test.YtaknpdhmhifpeaaGreatDoorE0
import Derived.Test.YtaknpdhmhifpeaaGreatDoorGP1
set_option linter.unusedVariables false
set_option linter.unusedSimpArgs false
namespace Go.Proofs.YtaknpdhmhifpeaaGreatDoor
open Go
def C_print_printer_stmt (φ : Bool → (List UInt8) → ByteArray → St → Option (Bool × List UInt8 × ByteArray)) : Prop := ∀ ⦃x2 : Bool⦄ ⦃xs3 : List UInt8⦄ ⦃x9 : ByteArray⦄ ⦃x11 : St⦄ ⦃r : Bool × List UInt8 × ByteArray⦄, φ x2 xs3 x9 x11 = some r → ∀ ⦃w0 : World⦄ ⦃h0 : Hp⦄ ⦃b1 : Nat⦄ ⦃A4 : Option Addr⦄ ⦃c5 : Nat⦄ ⦃cs12 : List Value⦄, Sub h0 w0 → RS h0 (.slice A4 xs3.length c5) xs3 → Own w0 h0 h0.base 5 1 (.slice A4 xs3.length c5) xs3.length → Rp.R h0 x11 cs12 → OB w0 h0 b1 55 [.pointer (bif x2 then some ⟨b1, 0, none⟩ else none), .slice A4 xs3.length c5, .string x9] → (5 : Nat) ≠ 55 →
  Calls Tryz.prog 20 #[.pointer (some ⟨b1, 0, none⟩), .agg cs12.toArray] w0 fun e w1 => ∃ v, e = .returned v ∧ ∃ h1, Stp (b1 :: ((Value.slice A4 xs3.length c5).ownBlock.toList ++ [])) w0 h0 w1 h1 ∧ v = .tuple #[] ∧ (∃ y0 : Value, RS h1 y0 r.2.1 ∧ Own w1 h1 h0.base 5 1 y0 r.2.1.length ∧ (∀ i ∈ y0.ownBlock.toList, i ∈ (Value.slice A4 xs3.length c5).ownBlock.toList ∨ w0.heap.size ≤ i) ∧ OB w1 h1 b1 55 [.pointer (bif r.1 then some ⟨b1, 0, none⟩ else none), y0, .string r.2.2])
def C_print_printer_loop (φ : Bool → (List UInt8) → ByteArray → St → Option (Bool × List UInt8 × ByteArray)) : Prop := ∀ ⦃x2 : Bool⦄ ⦃xs3 : List UInt8⦄ ⦃x9 : ByteArray⦄ ⦃x11 : St⦄ ⦃r : Bool × List UInt8 × ByteArray⦄, φ x2 xs3 x9 x11 = some r → ∀ ⦃w0 : World⦄ ⦃h0 : Hp⦄ ⦃b1 : Nat⦄ ⦃A4 : Option Addr⦄ ⦃c5 : Nat⦄ ⦃cs12 : List Value⦄, Sub h0 w0 → RS h0 (.slice A4 xs3.length c5) xs3 → Own w0 h0 h0.base 5 1 (.slice A4 xs3.length c5) xs3.length → Rp.R h0 x11 cs12 → OB w0 h0 b1 55 [.pointer (bif x2 then some ⟨b1, 0, none⟩ else none), .slice A4 xs3.length c5, .string x9] → (5 : Nat) ≠ 55 →
  Calls Tryz.prog 46 #[.pointer (some ⟨b1, 0, none⟩), .agg cs12.toArray] w0 fun e w1 => ∃ v, e = .returned v ∧ ∃ h1, Stp (b1 :: ((Value.slice A4 xs3.length c5).ownBlock.toList ++ [])) w0 h0 w1 h1 ∧ v = .tuple #[] ∧ (∃ y0 : Value, RS h1 y0 r.2.1 ∧ Own w1 h1 h0.base 5 1 y0 r.2.1.length ∧ (∀ i ∈ y0.ownBlock.toList, i ∈ (Value.slice A4 xs3.length c5).ownBlock.toList ∨ w0.heap.size ≤ i) ∧ OB w1 h1 b1 55 [.pointer (bif r.1 then some ⟨b1, 0, none⟩ else none), y0, .string r.2.2])
def C_print_printer_text (φ : Bool → (List UInt8) → ByteArray → (List St) → Option (Bool × List UInt8 × ByteArray)) : Prop := ∀ ⦃x2 : Bool⦄ ⦃xs3 : List UInt8⦄ ⦃x9 : ByteArray⦄ ⦃xs11 : List St⦄ ⦃r : Bool × List UInt8 × ByteArray⦄, φ x2 xs3 x9 xs11 = some r → ∀ ⦃w0 : World⦄ ⦃h0 : Hp⦄ ⦃b1 : Nat⦄ ⦃A4 : Option Addr⦄ ⦃c5 : Nat⦄ ⦃v12 : Value⦄, Sub h0 w0 → RS h0 (.slice A4 xs3.length c5) xs3 → Own w0 h0 h0.base 5 1 (.slice A4 xs3.length c5) xs3.length → RS h0 v12 xs11 → OB w0 h0 b1 55 [.pointer (bif x2 then some ⟨b1, 0, none⟩ else none), .slice A4 xs3.length c5, .string x9] → (5 : Nat) ≠ 55 →
  Calls Tryz.prog 41 #[.pointer (some ⟨b1, 0, none⟩), v12] w0 fun e w1 => ∃ v, e = .returned v ∧ ∃ h1, Stp (b1 :: ((Value.slice A4 xs3.length c5).ownBlock.toList ++ [])) w0 h0 w1 h1 ∧ v = .tuple #[] ∧ (∃ y0 : Value, RS h1 y0 r.2.1 ∧ Own w1 h1 h0.base 5 1 y0 r.2.1.length ∧ (∀ i ∈ y0.ownBlock.toList, i ∈ (Value.slice A4 xs3.length c5).ownBlock.toList ∨ w0.heap.size ≤ i) ∧ OB w1 h1 b1 55 [.pointer (bif r.1 then some ⟨b1, 0, none⟩ else none), y0, .string r.2.2])
def C_print_lines_inside_v1 (φ : Bool → (List UInt8) → ByteArray → (List St) → Option (Bool × List UInt8 × ByteArray)) : Prop := ∀ ⦃x2 : Bool⦄ ⦃xs3 : List UInt8⦄ ⦃x9 : ByteArray⦄ ⦃xs13 : List St⦄ ⦃r : Bool × List UInt8 × ByteArray⦄, φ x2 xs3 x9 xs13 = some r → ∀ ⦃w0 : World⦄ ⦃h0 : Hp⦄ ⦃b1 : Nat⦄ ⦃A4 : Option Addr⦄ ⦃c5 : Nat⦄ ⦃b11 : Nat⦄ ⦃T12 : Nat⦄ ⦃v14 : Value⦄ ⦃b17 : Nat⦄ ⦃T18 : Nat⦄, Sub h0 w0 → RS h0 (.slice A4 xs3.length c5) xs3 → Own w0 h0 h0.base 5 1 (.slice A4 xs3.length c5) xs3.length → RS h0 v14 xs13 → OB w0 h0 b1 55 [.pointer (bif x2 then some ⟨b1, 0, none⟩ else none), .slice A4 xs3.length c5, .string x9] → OB w0 h0 b11 T12 [v14] → OB w0 h0 b17 T18 [.pointer (some ⟨b1, 0, none⟩)] → b1 ≠ b11 → b1 ≠ b17 → b11 ≠ b17 → (5 : Nat) ≠ 55 → (5 : Nat) ≠ T12 → (5 : Nat) ≠ T18 →
  Calls Tryz.prog 43 #[.pointer (some ⟨b1, 0, none⟩), .func (.func 68) #[] #[.pointer (some ⟨b11, 0, none⟩), .pointer (some ⟨b17, 0, none⟩)]] w0 fun e w1 => ∃ v, e = .returned v ∧ ∃ h1, Stp (b1 :: ((Value.slice A4 xs3.length c5).ownBlock.toList ++ [])) w0 h0 w1 h1 ∧ v = .tuple #[] ∧ (∃ y0 : Value, RS h1 y0 r.2.1 ∧ Own w1 h1 h0.base 5 1 y0 r.2.1.length ∧ (∀ i ∈ y0.ownBlock.toList, i ∈ (Value.slice A4 xs3.length c5).ownBlock.toList ∨ w0.heap.size ≤ i) ∧ OB w1 h1 b1 55 [.pointer (bif r.1 then some ⟨b1, 0, none⟩ else none), y0, .string r.2.2])
def C_print_printer_text_1 (φ : (List St) → Bool → (List UInt8) → ByteArray → Option (Bool × List UInt8 × ByteArray)) : Prop := ∀ ⦃xs3 : List St⦄ ⦃x10 : Bool⦄ ⦃xs11 : List UInt8⦄ ⦃x17 : ByteArray⦄ ⦃r : Bool × List UInt8 × ByteArray⦄, φ xs3 x10 xs11 x17 = some r → ∀ ⦃w0 : World⦄ ⦃h0 : Hp⦄ ⦃b1 : Nat⦄ ⦃T2 : Nat⦄ ⦃v4 : Value⦄ ⦃b7 : Nat⦄ ⦃T8 : Nat⦄ ⦃b9 : Nat⦄ ⦃A12 : Option Addr⦄ ⦃c13 : Nat⦄, Sub h0 w0 → RS h0 v4 xs3 → RS h0 (.slice A12 xs11.length c13) xs11 → Own w0 h0 h0.base 5 1 (.slice A12 xs11.length c13) xs11.length → OB w0 h0 b1 T2 [v4] → OB w0 h0 b7 T8 [.pointer (some ⟨b9, 0, none⟩)] → OB w0 h0 b9 55 [.pointer (bif x10 then some ⟨b9, 0, none⟩ else none), .slice A12 xs11.length c13, .string x17] → b1 ≠ b7 → b1 ≠ b9 → b7 ≠ b9 → (5 : Nat) ≠ T2 → (5 : Nat) ≠ T8 → (5 : Nat) ≠ 55 →
  Calls Tryz.prog 68 #[.pointer (some ⟨b1, 0, none⟩), .pointer (some ⟨b7, 0, none⟩)] w0 fun e w1 => ∃ v, e = .returned v ∧ ∃ h1, Stp (b9 :: ((Value.slice A12 xs11.length c13).ownBlock.toList ++ [])) w0 h0 w1 h1 ∧ v = .tuple #[] ∧ (∃ y0 : Value, RS h1 y0 r.2.1 ∧ Own w1 h1 h0.base 5 1 y0 r.2.1.length ∧ (∀ i ∈ y0.ownBlock.toList, i ∈ (Value.slice A12 xs11.length c13).ownBlock.toList ∨ w0.heap.size ≤ i) ∧ OB w1 h1 b9 55 [.pointer (bif r.1 then some ⟨b9, 0, none⟩ else none), y0, .string r.2.2])
def C_print_lines_inside (φ : Bool → (List UInt8) → ByteArray → Int → ByteArray → (List Ex) → (List ByteArray) → (List Ex) → Int → (List St) → (List Ar) → (List St) → Bool → Option (Bool × List UInt8 × ByteArray)) : Prop := ∀ ⦃x2 : Bool⦄ ⦃xs3 : List UInt8⦄ ⦃x9 : ByteArray⦄ ⦃x13 : Int⦄ ⦃x14 : ByteArray⦄ ⦃xs15 : List Ex⦄ ⦃xs18 : List ByteArray⦄ ⦃xs21 : List Ex⦄ ⦃x24 : Int⦄ ⦃xs25 : List St⦄ ⦃xs28 : List Ar⦄ ⦃xs31 : List St⦄ ⦃x34 : Bool⦄ ⦃r : Bool × List UInt8 × ByteArray⦄, φ x2 xs3 x9 x13 x14 xs15 xs18 xs21 x24 xs25 xs28 xs31 x34 = some r → ∀ ⦃w0 : World⦄ ⦃h0 : Hp⦄ ⦃b1 : Nat⦄ ⦃A4 : Option Addr⦄ ⦃c5 : Nat⦄ ⦃b11 : Nat⦄ ⦃T12 : Nat⦄ ⦃v16 : Value⦄ ⦃v19 : Value⦄ ⦃v22 : Value⦄ ⦃v26 : Value⦄ ⦃v29 : Value⦄ ⦃v32 : Value⦄ ⦃b36 : Nat⦄ ⦃T37 : Nat⦄, Sub h0 w0 → RS h0 (.slice A4 xs3.length c5) xs3 → Own w0 h0 h0.base 5 1 (.slice A4 xs3.length c5) xs3.length → RS h0 v16 xs15 → RS h0 v19 xs18 → RS h0 v22 xs21 → RS h0 v26 xs25 → RS h0 v29 xs28 → RS h0 v32 xs31 → OB w0 h0 b1 55 [.pointer (bif x2 then some ⟨b1, 0, none⟩ else none), .slice A4 xs3.length c5, .string x9] → OB w0 h0 b11 T12 [.int .i64 x13, .string x14, v16, v19, v22, .int .i64 x24, v26, v29, v32, .bool x34] → OB w0 h0 b36 T37 [.pointer (some ⟨b1, 0, none⟩)] → b1 ≠ b11 → b1 ≠ b36 → b11 ≠ b36 → (5 : Nat) ≠ 55 → (5 : Nat) ≠ T12 → (5 : Nat) ≠ T37 →
  Calls Tryz.prog 43 #[.pointer (some ⟨b1, 0, none⟩), .func (.func 44) #[] #[.pointer (some ⟨b11, 0, none⟩), .pointer (some ⟨b36, 0, none⟩)]] w0 fun e w1 => ∃ v, e = .returned v ∧ ∃ h1, Stp (b1 :: ((Value.slice A4 xs3.length c5).ownBlock.toList ++ [])) w0 h0 w1 h1 ∧ v = .tuple #[] ∧ (∃ y0 : Value, RS h1 y0 r.2.1 ∧ Own w1 h1 h0.base 5 1 y0 r.2.1.length ∧ (∀ i ∈ y0.ownBlock.toList, i ∈ (Value.slice A4 xs3.length c5).ownBlock.toList ∨ w0.heap.size ≤ i) ∧ OB w1 h1 b1 55 [.pointer (bif r.1 then some ⟨b1, 0, none⟩ else none), y0, .string r.2.2])
def C_print_printer_stmt_1 (φ : Int → ByteArray → (List Ex) → (List ByteArray) → (List Ex) → Int → (List St) → (List Ar) → (List St) → Bool → Bool → (List UInt8) → ByteArray → Option (Bool × List UInt8 × ByteArray)) : Prop := ∀ ⦃x3 : Int⦄ ⦃x4 : ByteArray⦄ ⦃xs5 : List Ex⦄ ⦃xs8 : List ByteArray⦄ ⦃xs11 : List Ex⦄ ⦃x14 : Int⦄ ⦃xs15 : List St⦄ ⦃xs18 : List Ar⦄ ⦃xs21 : List St⦄ ⦃x24 : Bool⦄ ⦃x29 : Bool⦄ ⦃xs30 : List UInt8⦄ ⦃x36 : ByteArray⦄ ⦃r : Bool × List UInt8 × ByteArray⦄, φ x3 x4 xs5 xs8 xs11 x14 xs15 xs18 xs21 x24 x29 xs30 x36 = some r → ∀ ⦃w0 : World⦄ ⦃h0 : Hp⦄ ⦃b1 : Nat⦄ ⦃T2 : Nat⦄ ⦃v6 : Value⦄ ⦃v9 : Value⦄ ⦃v12 : Value⦄ ⦃v16 : Value⦄ ⦃v19 : Value⦄ ⦃v22 : Value⦄ ⦃b26 : Nat⦄ ⦃T27 : Nat⦄ ⦃b28 : Nat⦄ ⦃A31 : Option Addr⦄ ⦃c32 : Nat⦄, Sub h0 w0 → RS h0 v6 xs5 → RS h0 v9 xs8 → RS h0 v12 xs11 → RS h0 v16 xs15 → RS h0 v19 xs18 → RS h0 v22 xs21 → RS h0 (.slice A31 xs30.length c32) xs30 → Own w0 h0 h0.base 5 1 (.slice A31 xs30.length c32) xs30.length → OB w0 h0 b1 T2 [.int .i64 x3, .string x4, v6, v9, v12, .int .i64 x14, v16, v19, v22, .bool x24] → OB w0 h0 b26 T27 [.pointer (some ⟨b28, 0, none⟩)] → OB w0 h0 b28 55 [.pointer (bif x29 then some ⟨b28, 0, none⟩ else none), .slice A31 xs30.length c32, .string x36] → b1 ≠ b26 → b1 ≠ b28 → b26 ≠ b28 → (5 : Nat) ≠ T2 → (5 : Nat) ≠ T27 → (5 : Nat) ≠ 55 →
  Calls Tryz.prog 44 #[.pointer (some ⟨b1, 0, none⟩), .pointer (some ⟨b26, 0, none⟩)] w0 fun e w1 => ∃ v, e = .returned v ∧ ∃ h1, Stp (b28 :: ((Value.slice A31 xs30.length c32).ownBlock.toList ++ [])) w0 h0 w1 h1 ∧ v = .tuple #[] ∧ (∃ y0 : Value, RS h1 y0 r.2.1 ∧ Own w1 h1 h0.base 5 1 y0 r.2.1.length ∧ (∀ i ∈ y0.ownBlock.toList, i ∈ (Value.slice A31 xs30.length c32).ownBlock.toList ∨ w0.heap.size ≤ i) ∧ OB w1 h1 b28 55 [.pointer (bif r.1 then some ⟨b28, 0, none⟩ else none), y0, .string r.2.2])
def C_print_printer_other (φ : Bool → (List UInt8) → ByteArray → St → Option (Bool × List UInt8 × ByteArray)) : Prop := ∀ ⦃x2 : Bool⦄ ⦃xs3 : List UInt8⦄ ⦃x9 : ByteArray⦄ ⦃x11 : St⦄ ⦃r : Bool × List UInt8 × ByteArray⦄, φ x2 xs3 x9 x11 = some r → ∀ ⦃w0 : World⦄ ⦃h0 : Hp⦄ ⦃b1 : Nat⦄ ⦃A4 : Option Addr⦄ ⦃c5 : Nat⦄ ⦃cs12 : List Value⦄, Sub h0 w0 → RS h0 (.slice A4 xs3.length c5) xs3 → Own w0 h0 h0.base 5 1 (.slice A4 xs3.length c5) xs3.length → Rp.R h0 x11 cs12 → OB w0 h0 b1 55 [.pointer (bif x2 then some ⟨b1, 0, none⟩ else none), .slice A4 xs3.length c5, .string x9] → (5 : Nat) ≠ 55 →
  Calls Tryz.prog 42 #[.pointer (some ⟨b1, 0, none⟩), .agg cs12.toArray] w0 fun e w1 => ∃ v, e = .returned v ∧ ∃ h1, Stp (b1 :: ((Value.slice A4 xs3.length c5).ownBlock.toList ++ [])) w0 h0 w1 h1 ∧ v = .tuple #[] ∧ (∃ y0 : Value, RS h1 y0 r.2.1 ∧ Own w1 h1 h0.base 5 1 y0 r.2.1.length ∧ (∀ i ∈ y0.ownBlock.toList, i ∈ (Value.slice A4 xs3.length c5).ownBlock.toList ∨ w0.heap.size ≤ i) ∧ OB w1 h1 b1 55 [.pointer (bif r.1 then some ⟨b1, 0, none⟩ else none), y0, .string r.2.2])
set_option maxRecDepth 20000 in
set_option maxHeartbeats 4000000 in
theorem s_print_printer_stmt (k : Nat) (IH : ∀ j, j ≤ k → C_print_printer_stmt (tie_print_printer_stmt j).print_printer_stmt ∧ C_print_printer_loop (tie_print_printer_stmt j).print_printer_loop ∧ C_print_printer_text (tie_print_printer_stmt j).print_printer_text ∧ C_print_lines_inside_v1 (tie_print_printer_stmt j).print_lines_inside_v1 ∧ C_print_printer_text_1 (tie_print_printer_stmt j).print_printer_text_1 ∧ C_print_lines_inside (tie_print_printer_stmt j).print_lines_inside ∧ C_print_printer_stmt_1 (tie_print_printer_stmt j).print_printer_stmt_1 ∧ C_print_printer_other (tie_print_printer_stmt j).print_printer_other) : C_print_printer_stmt (m_print_printer_stmt k (tie_print_printer_stmt k)) := by
 intro x2 xs3 x9 x11 r HF w0 h0 b1 A4 c5 cs12 hs0 rs6 ow7 r13 ob10 tn14
 have S0 : Stp (b1 :: ((Value.slice A4 xs3.length c5).ownBlock.toList ++ [])) w0 h0 w0 h0 := Stp.refl hs0 _
 have om8 : ∀ i ∈ (Value.slice A4 xs3.length c5).ownBlock.toList, i ∈ (Value.slice A4 xs3.length c5).ownBlock.toList ∨ w0.heap.size ≤ i := fun i hi => .inl hi
 have lt15 : b1 < w0.heap.size := OB.lt ob10
 refine enter (n := 142) Tryz.func20 rfl Tryz.ntmps20 rfl [(0, .pointer (some ⟨b1, 0, none⟩)), (1, .agg cs12.toArray)] rfl <| WC.seq <| WC.region <| WL.box (cs := [.pointer (some ⟨b1, 0, none⟩)]) rfl rfl rfl rfl S0.sub (fun w16 b17 hb18 s19 ob20 => ?_)
 have ne21 : b1 ≠ b17 := ob10.ne_new hb18
 have g22 : w0.heap.size ≤ b17 := by rw [hb18]; exact S0.size
 have S23 := S0.trans0 s19
 have ob24 := (ob10.step0 s19)
 obtain ⟨v25, v27, v29, v31, v33, v35, rfl, rs26, rs28, rs30, rs32, rs34, rs36⟩ := rp_St.1 (Rp.mono (s19.le) r13)
 refine WL.box (cs := [.int .i64 x11.op, .string x11.name, v25, v27, v29, .int .i64 x11.n, v31, v33, v35, .bool x11.els]) rfl rfl rfl rfl S23.sub (fun w37 b38 hb39 s40 ob41 => ?_)
 have ne42 : b1 ≠ b38 := ob24.ne_new hb39
 have ne43 : b17 ≠ b38 := ob20.ne_new hb39
 have g44 : w0.heap.size ≤ b38 := by rw [hb39]; exact S23.size
 have S45 := S23.trans0 s40
 refine WL.nil <| WQ.seqN <| WC.seq <| WC.region <| WL.val rfl rfl rfl (ov_fieldAddr rfl t_field_44_0) <| WL.val rfl rfl rfl (ov_load1 rfl t_agg_3 (OB.cell ob41 (j := 0) rfl)) <| WL.nil <| WQ.seqN <| WC.block <| WC.seq <| WC.region <| WL.val rfl rfl rfl (ov_eql rfl rfl) <| WL.val rfl rfl rfl (ov_assign rfl) <| WL.nil <| WQ.seqN <| WC.cond (b := (x11.op : Int) == 1) rfl (fun hb46 => ?_) (fun hb46 => ?_)
 ·replace HF := bif_t hb46 HF
  refine WC.seq <| WC.region <| WL.val rfl rfl rfl (ov_fieldAddr rfl t_field_44_1) <| WL.val rfl rfl rfl (ov_load1 rfl t_agg_9 (OB.cell ob41 (j := 1) rfl)) <| WL.val rfl rfl rfl (ov_assign rfl) <| WL.nil <| WQ.seqN <| WC.join (fun E w74 => ∃ (h73 : Hp) (x77 : ByteArray) (xs78 : List UInt8) (v79 : Value), print_printer_stmt_j1 k (tie_print_printer_stmt k) x2 x9 x11 x77 xs78 = some r ∧ E = [(2, .pointer (some ⟨b17, 0, none⟩)), (3, .pointer (some ⟨b38, 0, none⟩)), (4, .string x77)] ∧ Stp (b1 :: ((Value.slice A4 xs3.length c5).ownBlock.toList ++ [])) w0 h0 w74 h73 ∧ Hle h0 h73 ∧ RS h73 v79 xs78 ∧ Own w74 h73 h0.base 5 1 v79 xs78.length ∧ (∀ i ∈ v79.ownBlock.toList, i ∈ (Value.slice A4 xs3.length c5).ownBlock.toList ∨ w0.heap.size ≤ i) ∧ OB w74 h73 b1 55 [.pointer (bif x2 then some ⟨b1, 0, none⟩ else none), v79, .string x9] ∧ OB w74 h73 b17 77 [.pointer (some ⟨b1, 0, none⟩)] ∧ OB w74 h73 b38 44 [.int .i64 x11.op, .string x11.name, v25, v27, v29, .int .i64 x11.n, v31, v33, v35, .bool x11.els]) ?_ ?_
  ·rintro E w74 ⟨h73, x77, xs78, v79, HF, rfl, S76, le75, rs80, ow81, om82, ob83, ob84, ob85⟩
   obtain ⟨hl86, HF⟩ := ite_none HF
   obtain ⟨A87, c88, rfl, rs89⟩ := RS.form (rs30.mono ((s40.le).trans le75))
   obtain ⟨e90, he91, HF⟩ := bind_some HF
   obtain ⟨b92, o93, rfl, h95, h96, ra94⟩ := RS.atO rs89 he91
   obtain ⟨cs97, r98, hc99⟩ := ra94
   obtain ⟨r100, hr101, HF⟩ := bind_some HF
   obtain ⟨hl102, HF⟩ := ite_none HF
   obtain ⟨hl103, HF⟩ := ite_none HF
   refine WC.drawn (m := 12) [(2, .pointer (some ⟨b17, 0, none⟩)), (3, .pointer (some ⟨b38, 0, none⟩)), (4, .string x77)] [2, 3, 4] rfl (fun i v w h => match i with | 0 => v = .pointer (some ⟨b1, 0, none⟩) | 1 => v = .pointer (some ⟨b1, 0, none⟩) | 2 => v = .pointer (some ⟨b1, 0, none⟩) | 3 => v = .string x77 | 4 => v = .string (x77 ++ (⟨#[32, 58, 61, 32]⟩ : ByteArray)) | 5 => v = .pointer (some ⟨b38, 4, none⟩) | 6 => v = .slice (some ⟨b92, o93, none⟩) (x11.args).length c88 | 7 => v = .pointer (some ⟨b92, o93 + Int.toNat 0 * 6, none⟩) | 8 => v = .agg cs97.toArray | 9 => v = .string r100 | 10 => v = .string ((x77 ++ (⟨#[32, 58, 61, 32]⟩ : ByteArray)) ++ r100) | 11 => v = .string (((x77 ++ (⟨#[32, 58, 61, 32]⟩ : ByteArray)) ++ r100) ++ (⟨#[59]⟩ : ByteArray)) | _ => True) t_mixed S76.sub rfl rfl rfl rfl rfl ?_ ?_ ?_
   ·intro i v w h w2 h2 hΦ hst
    match i, hΦ with
    | 0, hΦ => exact hΦ
    | 1, hΦ => exact hΦ
    | 2, hΦ => exact hΦ
    | 3, hΦ => exact hΦ
    | 4, hΦ => exact hΦ
    | 5, hΦ => exact hΦ
    | 6, hΦ => exact hΦ
    | 7, hΦ => exact hΦ
    | 8, hΦ => exact hΦ
    | 9, hΦ => exact hΦ
    | 10, hΦ => exact hΦ
    | 11, hΦ => exact hΦ
    | i + 12, _ => exact trivial
   ·refine ⟨?_, ?_, ?_, ?_, ?_, ?_, ?_, ?_, ?_, ?_, ?_, ?_, trivial⟩
    ·intro a w104 h105 s106 hat hF
     have ob107 := (ob84.step0 s106)
     exact front_val (show At _ [(2, .pointer (some ⟨b17, 0, none⟩)), (3, .pointer (some ⟨b38, 0, none⟩)), (4, .string x77)] _ from hat) rfl (ov_load1 rfl t_agg_77 (OB.cell ob107 (j := 0) rfl)) s106.sub (by exact rfl)
    ·intro a w104 h105 s106 hat hF
     obtain hv0 := hF 0 29 rfl rfl
     exact front_val (show At _ [(29, .pointer (some ⟨b1, 0, none⟩)), (2, .pointer (some ⟨b17, 0, none⟩)), (3, .pointer (some ⟨b38, 0, none⟩)), (4, .string x77)] _ from (At.cons hat hv0)) rfl (ov_nilCheck rfl) s106.sub (by exact rfl)
    ·intro a w104 h105 s106 hat hF
     obtain hv1 := hF 1 30 rfl rfl
     exact front_val (show At _ [(30, .pointer (some ⟨b1, 0, none⟩)), (2, .pointer (some ⟨b17, 0, none⟩)), (3, .pointer (some ⟨b38, 0, none⟩)), (4, .string x77)] _ from (At.cons hat hv1)) rfl (ov_fieldAddr rfl t_field_55_0) s106.sub (by exact rfl)
    ·intro a w104 h105 s106 hat hF
     exact front_val (show At _ [(2, .pointer (some ⟨b17, 0, none⟩)), (3, .pointer (some ⟨b38, 0, none⟩)), (4, .string x77)] _ from hat) rfl (ov_move rfl) s106.sub (by exact rfl)
    ·intro a w104 h105 s106 hat hF
     obtain hv3 := hF 3 32 rfl rfl
     exact front_val (show At _ [(32, .string x77), (2, .pointer (some ⟨b17, 0, none⟩)), (3, .pointer (some ⟨b38, 0, none⟩)), (4, .string x77)] _ from (At.cons hat hv3)) rfl (ov_addS rfl rfl hl86) s106.sub (by exact rfl)
    ·intro a w104 h105 s106 hat hF
     exact front_val (show At _ [(2, .pointer (some ⟨b17, 0, none⟩)), (3, .pointer (some ⟨b38, 0, none⟩)), (4, .string x77)] _ from hat) rfl (ov_fieldAddr rfl t_field_44_4) s106.sub (by exact rfl)
    ·intro a w104 h105 s106 hat hF
     obtain hv5 := hF 5 34 rfl rfl
     have ob108 := (ob85.step0 s106)
     exact front_val (show At _ [(34, .pointer (some ⟨b38, 4, none⟩)), (2, .pointer (some ⟨b17, 0, none⟩)), (3, .pointer (some ⟨b38, 0, none⟩)), (4, .string x77)] _ from (At.cons hat hv5)) rfl (ov_load1 rfl t_agg_30 (OB.cell ob108 (j := 4) rfl)) s106.sub (by exact rfl)
    ·intro a w104 h105 s106 hat hF
     obtain hv6 := hF 6 35 rfl rfl
     exact front_val (show At _ [(35, .slice (some ⟨b92, o93, none⟩) (x11.args).length c88), (2, .pointer (some ⟨b17, 0, none⟩)), (3, .pointer (some ⟨b38, 0, none⟩)), (4, .string x77)] _ from (At.cons hat hv6)) rfl (ov_indexAddr rfl rfl t_slice_30 t_size_32 h95 h96) s106.sub (by exact rfl)
    ·intro a w104 h105 s106 hat hF
     obtain hv7 := hF 7 36 rfl rfl
     exact front_val (show At _ [(36, .pointer (some ⟨b92, o93 + Int.toNat 0 * 6, none⟩)), (2, .pointer (some ⟨b17, 0, none⟩)), (3, .pointer (some ⟨b38, 0, none⟩)), (4, .string x77)] _ from (At.cons hat hv7)) rfl (ov_loadN (cs := cs97) rfl t_agg_32 (by rw [Rp.len (Rp.mono (s106.le) r98)]; exact t_size_32) (fun j v hv => s106.sub.at_ _ _ _ ((fun i v hv => (s106.le).1 _ _ _ (hc99 i v hv)) j v hv))) s106.sub (by exact rfl)
    ·intro a w104 h105 s106 hat hF
     obtain hv8 := hF 8 37 rfl rfl
     refine front_call (show At _ [(37, .agg cs97.toArray), (2, .pointer (some ⟨b17, 0, none⟩)), (3, .pointer (some ⟨b38, 0, none⟩)), (4, .string x77)] _ from (At.cons hat hv8)) rfl (oc_func (vs := [.agg cs97.toArray]) rfl t_ent_27) (ok_print_Of _ hr101 s106.sub (Rp.mono (s106.le) r98)) ?_
     rintro _ w109 ⟨h110, s111, rfl⟩
     exact ⟨_, h110, rfl, s111, (by exact rfl)⟩
    ·intro a w104 h105 s106 hat hF
     obtain hv4 := hF 4 33 rfl rfl
     obtain hv9 := hF 9 38 rfl rfl
     exact front_val (show At _ [(38, .string r100), (33, .string (x77 ++ (⟨#[32, 58, 61, 32]⟩ : ByteArray))), (2, .pointer (some ⟨b17, 0, none⟩)), (3, .pointer (some ⟨b38, 0, none⟩)), (4, .string x77)] _ from (At.cons (At.cons hat hv4) hv9)) rfl (ov_addS rfl rfl hl102) s106.sub (by exact rfl)
    ·intro a w104 h105 s106 hat hF
     obtain hv10 := hF 10 39 rfl rfl
     exact front_val (show At _ [(39, .string ((x77 ++ (⟨#[32, 58, 61, 32]⟩ : ByteArray)) ++ r100)), (2, .pointer (some ⟨b17, 0, none⟩)), (3, .pointer (some ⟨b38, 0, none⟩)), (4, .string x77)] _ from (At.cons hat hv10)) rfl (ov_addS rfl rfl hl103) s106.sub (by exact rfl)
   ·intro a w104 h105 s106 hat hF
    obtain hv0 := hF 0 29 (by decide) rfl
    obtain hv1 := hF 1 30 (by decide) rfl
    obtain hv2 := hF 2 31 (by decide) rfl
    obtain hv3 := hF 3 32 (by decide) rfl
    obtain hv4 := hF 4 33 (by decide) rfl
    obtain hv5 := hF 5 34 (by decide) rfl
    obtain hv6 := hF 6 35 (by decide) rfl
    obtain hv7 := hF 7 36 (by decide) rfl
    obtain hv8 := hF 8 37 (by decide) rfl
    obtain hv9 := hF 9 38 (by decide) rfl
    obtain hv10 := hF 10 39 (by decide) rfl
    obtain hv11 := hF 11 40 (by decide) rfl
    refine WL.at_ [(40, .string (((x77 ++ (⟨#[32, 58, 61, 32]⟩ : ByteArray)) ++ r100) ++ (⟨#[59]⟩ : ByteArray))), (39, .string ((x77 ++ (⟨#[32, 58, 61, 32]⟩ : ByteArray)) ++ r100)), (38, .string r100), (37, .agg cs97.toArray), (36, .pointer (some ⟨b92, o93 + Int.toNat 0 * 6, none⟩)), (35, .slice (some ⟨b92, o93, none⟩) (x11.args).length c88), (34, .pointer (some ⟨b38, 4, none⟩)), (33, .string (x77 ++ (⟨#[32, 58, 61, 32]⟩ : ByteArray))), (32, .string x77), (31, .pointer (some ⟨b1, 0, none⟩)), (30, .pointer (some ⟨b1, 0, none⟩)), (29, .pointer (some ⟨b1, 0, none⟩)), (2, .pointer (some ⟨b17, 0, none⟩)), (3, .pointer (some ⟨b38, 0, none⟩)), (4, .string x77)] (At.cons (At.cons (At.cons (At.cons (At.cons (At.cons (At.cons (At.cons (At.cons (At.cons (At.cons (At.cons hat hv0) hv1) hv2) hv3) hv4) hv5) hv6) hv7) hv8) hv9) hv10) hv11) ?_
    have S112 := S76.trans0 s106
    obtain ⟨A113, c114, rfl, rs115⟩ := RS.form (rs80.mono (s106.le))
    have ob116 := (ob83.step0 s106)
    obtain ⟨r117, hr118, HF⟩ := bind_some HF
    refine WL.call rfl rfl rfl (oc_func (vs := [.pointer (some ⟨b1, 0, none⟩), .string (((x77 ++ (⟨#[32, 58, 61, 32]⟩ : ByteArray)) ++ r100) ++ (⟨#[59]⟩ : ByteArray))]) rfl t_ent_39) (ok_print_lines_line _ hr118 S112.sub rs115 (by rw [S112.eqb]; exact (ow81.step0 s106)) ob116 tn14) ?_
    have ob123 := (ob84.step0 s106)
    have ob124 := (ob85.step0 s106)
    rintro v119 w120 ⟨h121, s122, rfl, ⟨v125, rs126, ow127, om128, ob131⟩⟩
    have ow129 := Own.rb ow127 S112.eqb
    have om130 : ∀ i ∈ v125.ownBlock.toList, i ∈ (Value.slice A4 xs3.length c5).ownBlock.toList ∨ w0.heap.size ≤ i := fun i hi => (om128 i hi).elim (fun q => om82 i q) (fun q => .inr (Nat.le_trans S112.size q))
    have S132 := S112.trans s122 (in_cons (.inl (by simp)) (in_own (fun i hi => (om82 i hi).elim (fun q => .inl (by simp only [List.mem_cons, List.mem_append]; simp [q])) .inr) in_nil))
    refine WL.nil <| WQ.blockN <| WQ.end0 rfl ?_
    obtain rfl := Option.some.inj HF
    exact ⟨_, rfl, h121, S132, rfl, ⟨_, rs126, ow129, om130, ob131⟩⟩
  ·intro J133
   refine WC.seq <| WC.region <| WL.val rfl rfl rfl (ov_fieldAddr rfl t_field_44_2) <| WL.val rfl rfl rfl (ov_load1 rfl t_agg_30 (OB.cell ob41 (j := 2) rfl)) ?_
   obtain ⟨A47, c48, rfl, rs49⟩ := RS.form (rs26.mono (s40.le))
   refine WL.val rfl rfl rfl (ov_lenL rfl t_slice_30) <| WL.val rfl rfl rfl (ov_gtr rfl rfl) <| WL.nil <| WQ.seqN <| WC.cond (b := decide ((0 : Int) < (x11.index.length : Int))) rfl (fun hb50 => ?_) (fun hb50 => ?_)
   ·replace HF := bif_t hb50 HF
    refine WC.region <| WL.val rfl rfl rfl (ov_move rfl) <| WL.val rfl rfl rfl (ov_fieldAddr rfl t_field_44_2) <| WL.val rfl rfl rfl (ov_load1 rfl t_agg_30 (OB.cell ob41 (j := 2) rfl)) ?_
    obtain ⟨e51, he52, HF⟩ := bind_some HF
    obtain ⟨b53, o54, rfl, h56, h57, ra55⟩ := RS.atO rs49 he52
    obtain ⟨cs58, r59, hc60⟩ := ra55
    refine WL.val rfl rfl rfl (ov_indexAddr rfl rfl t_slice_30 t_size_32 h56 h57) <| WL.val rfl rfl rfl (ov_loadN (cs := cs58) rfl t_agg_32 (by rw [Rp.len r59]; exact t_size_32) (fun j v hv => S45.sub.at_ _ _ _ (hc60 j v hv))) ?_
    obtain ⟨r61, hr62, HF⟩ := bind_some HF
    refine WL.call rfl rfl rfl (oc_func (vs := [.agg cs58.toArray]) rfl t_ent_27) (ok_print_Of _ hr62 S45.sub r59) ?_
    have ob67 := (ob24.step0 s40)
    have ob68 := (ob20.step0 s40)
    rintro _ w64 ⟨h65, s66, rfl⟩
    have S69 := S45.trans0 s66
    obtain ⟨hl70, HF⟩ := ite_none HF
    refine WL.val rfl rfl rfl (ov_addS rfl rfl hl70) ?_
    obtain ⟨hl71, HF⟩ := ite_none HF
    refine WL.val rfl rfl rfl (ov_addS rfl rfl hl71) ?_
    obtain ⟨hl72, HF⟩ := ite_none HF
    refine WL.val rfl rfl rfl (ov_addS rfl rfl hl72) <| WL.val rfl rfl rfl (ov_assign rfl) <| WL.nil ?_
    have ob134 := (ob67.step0 s66)
    have ob135 := (ob68.step0 s66)
    have ob136 := (ob41.step0 s66)
    refine WC.to [2, 3, 4] [(2, .pointer (some ⟨b17, 0, none⟩)), (3, .pointer (some ⟨b38, 0, none⟩)), (4, .string (x11.name ++ (((⟨#[91]⟩ : ByteArray) ++ r61) ++ (⟨#[93]⟩ : ByteArray))))] rfl ?_
    exact J133 ⟨h65, x11.name ++ (((⟨#[91]⟩ : ByteArray) ++ r61) ++ (⟨#[93]⟩ : ByteArray)), xs3, .slice A4 xs3.length c5, HF, rfl, S69, s66.le, (rs6.mono ((s19.le).trans ((s40.le).trans s66.le))), (((ow7.step0 s19).step0 s40).step0 s66), om8, ob134, ob135, ob136⟩
   ·replace HF := bif_f hb50 HF
    refine WC.skip ?_
    have ob137 := (ob24.step0 s40)
    have ob138 := (ob20.step0 s40)
    refine WC.to [2, 3, 4] [(2, .pointer (some ⟨b17, 0, none⟩)), (3, .pointer (some ⟨b38, 0, none⟩)), (4, .string x11.name)] rfl ?_
    exact J133 ⟨h0, x11.name, xs3, .slice A4 xs3.length c5, HF, rfl, S45, Hle.refl _, (rs6.mono ((s19.le).trans s40.le)), ((ow7.step0 s19).step0 s40), om8, ob137, ob138, ob41⟩
 ·replace HF := bif_f hb46 HF
  refine WC.seq <| WC.region <| WL.val rfl rfl rfl (ov_eql rfl rfl) <| WL.val rfl rfl rfl (ov_assign rfl) <| WL.nil <| WQ.seqN <| WC.cond (b := (x11.op : Int) == 2) rfl (fun hb139 => ?_) (fun hb139 => ?_)
  ·replace HF := bif_t hb139 HF
   obtain ⟨hl140, HF⟩ := ite_none HF
   obtain ⟨r141, hr142, HF⟩ := bind_some HF
   obtain ⟨hl143, HF⟩ := ite_none HF
   obtain ⟨hl144, HF⟩ := ite_none HF
   refine WC.drawn (m := 13) [(2, .pointer (some ⟨b17, 0, none⟩)), (3, .pointer (some ⟨b38, 0, none⟩))] [2, 3] rfl (fun i v w h => match i with | 0 => v = .pointer (some ⟨b1, 0, none⟩) | 1 => v = .pointer (some ⟨b1, 0, none⟩) | 2 => v = .pointer (some ⟨b1, 0, none⟩) | 3 => v = .pointer (some ⟨b38, 1, none⟩) | 4 => v = .string x11.name | 5 => v = .string (x11.name ++ (⟨#[40]⟩ : ByteArray)) | 6 => v = .pointer (some ⟨b38, 3, none⟩) | 7 => v = v27 | 8 => v = .pointer (some ⟨b38, 4, none⟩) | 9 => v = v29 | 10 => v = .string r141 | 11 => v = .string ((x11.name ++ (⟨#[40]⟩ : ByteArray)) ++ r141) | 12 => v = .string (((x11.name ++ (⟨#[40]⟩ : ByteArray)) ++ r141) ++ (⟨#[41, 59]⟩ : ByteArray)) | _ => True) t_mixed S45.sub rfl rfl rfl rfl rfl ?_ ?_ ?_
   ·intro i v w h w2 h2 hΦ hst
    match i, hΦ with
    | 0, hΦ => exact hΦ
    | 1, hΦ => exact hΦ
    | 2, hΦ => exact hΦ
    | 3, hΦ => exact hΦ
    | 4, hΦ => exact hΦ
    | 5, hΦ => exact hΦ
    | 6, hΦ => exact hΦ
    | 7, hΦ => exact hΦ
    | 8, hΦ => exact hΦ
    | 9, hΦ => exact hΦ
    | 10, hΦ => exact hΦ
    | 11, hΦ => exact hΦ
    | 12, hΦ => exact hΦ
    | i + 13, _ => exact trivial
   ·refine ⟨?_, ?_, ?_, ?_, ?_, ?_, ?_, ?_, ?_, ?_, ?_, ?_, ?_, trivial⟩
    ·intro a w145 h146 s147 hat hF
     have ob148 := ((ob20.step0 s40).step0 s147)
     exact front_val (show At _ [(2, .pointer (some ⟨b17, 0, none⟩)), (3, .pointer (some ⟨b38, 0, none⟩))] _ from hat) rfl (ov_load1 rfl t_agg_77 (OB.cell ob148 (j := 0) rfl)) s147.sub (by exact rfl)
    ·intro a w145 h146 s147 hat hF
     obtain hv0 := hF 0 44 rfl rfl
     exact front_val (show At _ [(44, .pointer (some ⟨b1, 0, none⟩)), (2, .pointer (some ⟨b17, 0, none⟩)), (3, .pointer (some ⟨b38, 0, none⟩))] _ from (At.cons hat hv0)) rfl (ov_nilCheck rfl) s147.sub (by exact rfl)
    ·intro a w145 h146 s147 hat hF
     obtain hv1 := hF 1 45 rfl rfl
     exact front_val (show At _ [(45, .pointer (some ⟨b1, 0, none⟩)), (2, .pointer (some ⟨b17, 0, none⟩)), (3, .pointer (some ⟨b38, 0, none⟩))] _ from (At.cons hat hv1)) rfl (ov_fieldAddr rfl t_field_55_0) s147.sub (by exact rfl)
    ·intro a w145 h146 s147 hat hF
     exact front_val (show At _ [(2, .pointer (some ⟨b17, 0, none⟩)), (3, .pointer (some ⟨b38, 0, none⟩))] _ from hat) rfl (ov_fieldAddr rfl t_field_44_1) s147.sub (by exact rfl)
    ·intro a w145 h146 s147 hat hF
     obtain hv3 := hF 3 47 rfl rfl
     have ob149 := (ob41.step0 s147)
     exact front_val (show At _ [(47, .pointer (some ⟨b38, 1, none⟩)), (2, .pointer (some ⟨b17, 0, none⟩)), (3, .pointer (some ⟨b38, 0, none⟩))] _ from (At.cons hat hv3)) rfl (ov_load1 rfl t_agg_9 (OB.cell ob149 (j := 1) rfl)) s147.sub (by exact rfl)
    ·intro a w145 h146 s147 hat hF
     obtain hv4 := hF 4 48 rfl rfl
     exact front_val (show At _ [(48, .string x11.name), (2, .pointer (some ⟨b17, 0, none⟩)), (3, .pointer (some ⟨b38, 0, none⟩))] _ from (At.cons hat hv4)) rfl (ov_addS rfl rfl hl140) s147.sub (by exact rfl)
    ·intro a w145 h146 s147 hat hF
     exact front_val (show At _ [(2, .pointer (some ⟨b17, 0, none⟩)), (3, .pointer (some ⟨b38, 0, none⟩))] _ from hat) rfl (ov_fieldAddr rfl t_field_44_3) s147.sub (by exact rfl)
    ·intro a w145 h146 s147 hat hF
     obtain hv6 := hF 6 50 rfl rfl
     have ob150 := (ob41.step0 s147)
     exact front_val (show At _ [(50, .pointer (some ⟨b38, 3, none⟩)), (2, .pointer (some ⟨b17, 0, none⟩)), (3, .pointer (some ⟨b38, 0, none⟩))] _ from (At.cons hat hv6)) rfl (ov_load1 rfl t_agg_41 (OB.cell ob150 (j := 3) rfl)) s147.sub (by exact rfl)
    ·intro a w145 h146 s147 hat hF
     exact front_val (show At _ [(2, .pointer (some ⟨b17, 0, none⟩)), (3, .pointer (some ⟨b38, 0, none⟩))] _ from hat) rfl (ov_fieldAddr rfl t_field_44_4) s147.sub (by exact rfl)
    ·intro a w145 h146 s147 hat hF
     obtain hv8 := hF 8 52 rfl rfl
     have ob151 := (ob41.step0 s147)
     exact front_val (show At _ [(52, .pointer (some ⟨b38, 4, none⟩)), (2, .pointer (some ⟨b17, 0, none⟩)), (3, .pointer (some ⟨b38, 0, none⟩))] _ from (At.cons hat hv8)) rfl (ov_load1 rfl t_agg_30 (OB.cell ob151 (j := 4) rfl)) s147.sub (by exact rfl)
    ·intro a w145 h146 s147 hat hF
     obtain hv7 := hF 7 51 rfl rfl
     obtain hv9 := hF 9 53 rfl rfl
     refine front_call (show At _ [(53, v29), (51, v27), (2, .pointer (some ⟨b17, 0, none⟩)), (3, .pointer (some ⟨b38, 0, none⟩))] _ from (At.cons (At.cons hat hv7) hv9)) rfl (oc_func (vs := [v27, v29]) rfl t_ent_40) (ok_print_Inputs _ hr142 s147.sub (rs28.mono ((s40.le).trans s147.le)) (rs30.mono ((s40.le).trans s147.le))) ?_
     rintro _ w152 ⟨h153, s154, rfl⟩
     exact ⟨_, h153, rfl, s154, (by exact rfl)⟩
    ·intro a w145 h146 s147 hat hF
     obtain hv5 := hF 5 49 rfl rfl
     obtain hv10 := hF 10 54 rfl rfl
     exact front_val (show At _ [(54, .string r141), (49, .string (x11.name ++ (⟨#[40]⟩ : ByteArray))), (2, .pointer (some ⟨b17, 0, none⟩)), (3, .pointer (some ⟨b38, 0, none⟩))] _ from (At.cons (At.cons hat hv5) hv10)) rfl (ov_addS rfl rfl hl143) s147.sub (by exact rfl)
    ·intro a w145 h146 s147 hat hF
     obtain hv11 := hF 11 55 rfl rfl
     exact front_val (show At _ [(55, .string ((x11.name ++ (⟨#[40]⟩ : ByteArray)) ++ r141)), (2, .pointer (some ⟨b17, 0, none⟩)), (3, .pointer (some ⟨b38, 0, none⟩))] _ from (At.cons hat hv11)) rfl (ov_addS rfl rfl hl144) s147.sub (by exact rfl)
   ·intro a w145 h146 s147 hat hF
    obtain hv0 := hF 0 44 (by decide) rfl
    obtain hv1 := hF 1 45 (by decide) rfl
    obtain hv2 := hF 2 46 (by decide) rfl
    obtain hv3 := hF 3 47 (by decide) rfl
    obtain hv4 := hF 4 48 (by decide) rfl
    obtain hv5 := hF 5 49 (by decide) rfl
    obtain hv6 := hF 6 50 (by decide) rfl
    obtain hv7 := hF 7 51 (by decide) rfl
    obtain hv8 := hF 8 52 (by decide) rfl
    obtain hv9 := hF 9 53 (by decide) rfl
    obtain hv10 := hF 10 54 (by decide) rfl
    obtain hv11 := hF 11 55 (by decide) rfl
    obtain hv12 := hF 12 56 (by decide) rfl
    refine WL.at_ [(56, .string (((x11.name ++ (⟨#[40]⟩ : ByteArray)) ++ r141) ++ (⟨#[41, 59]⟩ : ByteArray))), (55, .string ((x11.name ++ (⟨#[40]⟩ : ByteArray)) ++ r141)), (54, .string r141), (53, v29), (52, .pointer (some ⟨b38, 4, none⟩)), (51, v27), (50, .pointer (some ⟨b38, 3, none⟩)), (49, .string (x11.name ++ (⟨#[40]⟩ : ByteArray))), (48, .string x11.name), (47, .pointer (some ⟨b38, 1, none⟩)), (46, .pointer (some ⟨b1, 0, none⟩)), (45, .pointer (some ⟨b1, 0, none⟩)), (44, .pointer (some ⟨b1, 0, none⟩)), (2, .pointer (some ⟨b17, 0, none⟩)), (3, .pointer (some ⟨b38, 0, none⟩))] (At.cons (At.cons (At.cons (At.cons (At.cons (At.cons (At.cons (At.cons (At.cons (At.cons (At.cons (At.cons (At.cons hat hv0) hv1) hv2) hv3) hv4) hv5) hv6) hv7) hv8) hv9) hv10) hv11) hv12) ?_
    have S155 := S45.trans0 s147
    have ob156 := ((ob24.step0 s40).step0 s147)
    obtain ⟨r157, hr158, HF⟩ := bind_some HF
    refine WL.call rfl rfl rfl (oc_func (vs := [.pointer (some ⟨b1, 0, none⟩), .string (((x11.name ++ (⟨#[40]⟩ : ByteArray)) ++ r141) ++ (⟨#[41, 59]⟩ : ByteArray))]) rfl t_ent_39) (ok_print_lines_line _ hr158 S155.sub (rs6.mono ((s19.le).trans ((s40.le).trans s147.le))) (by rw [S155.eqb]; exact (((ow7.step0 s19).step0 s40).step0 s147)) ob156 tn14) ?_
    have ob163 := ((ob20.step0 s40).step0 s147)
    have ob164 := (ob41.step0 s147)
    rintro v159 w160 ⟨h161, s162, rfl, ⟨v165, rs166, ow167, om168, ob171⟩⟩
    have ow169 := Own.rb ow167 S155.eqb
    have om170 : ∀ i ∈ v165.ownBlock.toList, i ∈ (Value.slice A4 xs3.length c5).ownBlock.toList ∨ w0.heap.size ≤ i := fun i hi => (om168 i hi).elim (fun q => om8 i q) (fun q => .inr (Nat.le_trans S155.size q))
    have S172 := S155.trans s162 (in_cons (.inl (by simp)) (in_own (fun i hi => (om8 i hi).elim (fun q => .inl (by simp only [List.mem_cons, List.mem_append]; simp [q])) .inr) in_nil))
    refine WL.nil <| WQ.blockN <| WQ.end0 rfl ?_
    obtain rfl := Option.some.inj HF
    exact ⟨_, rfl, h161, S172, rfl, ⟨_, rs166, ow169, om170, ob171⟩⟩
  ·replace HF := bif_f hb139 HF
   refine WC.seq <| WC.region <| WL.val rfl rfl rfl (ov_eql rfl rfl) <| WL.val rfl rfl rfl (ov_assign rfl) <| WL.nil <| WQ.seqN <| WC.cond (b := (x11.op : Int) == 8) rfl (fun hb173 => ?_) (fun hb173 => ?_)
   ·replace HF := bif_t hb173 HF
    refine WC.region ?_
    have ob174 := (ob20.step0 s40)
    refine WL.val rfl rfl rfl (ov_load1 rfl t_agg_77 (OB.cell ob174 (j := 0) rfl)) <| WL.val rfl rfl rfl (ov_nilCheck rfl) <| WL.val rfl rfl rfl (ov_fieldAddr rfl t_field_55_0) ?_
    have ob175 := (ob24.step0 s40)
    obtain ⟨r176, hr177, HF⟩ := bind_some HF
    refine WL.call rfl rfl rfl (oc_func (vs := [.pointer (some ⟨b1, 0, none⟩), .string (⟨#[101, 120, 105, 116, 59]⟩ : ByteArray)]) rfl t_ent_39) (ok_print_lines_line _ hr177 S45.sub (rs6.mono ((s19.le).trans s40.le)) (by rw [S45.eqb]; exact ((ow7.step0 s19).step0 s40)) ob175 tn14) ?_
    rintro v178 w179 ⟨h180, s181, rfl, ⟨v182, rs183, ow184, om185, ob188⟩⟩
    have ow186 := Own.rb ow184 S45.eqb
    have om187 : ∀ i ∈ v182.ownBlock.toList, i ∈ (Value.slice A4 xs3.length c5).ownBlock.toList ∨ w0.heap.size ≤ i := fun i hi => (om185 i hi).elim (fun q => om8 i q) (fun q => .inr (Nat.le_trans S45.size q))
    have S189 := S45.trans s181 (in_cons (.inl (by simp)) (in_own (fun i hi => (om8 i hi).elim (fun q => .inl (by simp only [List.mem_cons, List.mem_append]; simp [q])) .inr) in_nil))
    refine WL.nil <| WQ.blockN <| WQ.end0 rfl ?_
    obtain rfl := Option.some.inj HF
    exact ⟨_, rfl, h180, S189, rfl, ⟨_, rs183, ow186, om187, ob188⟩⟩
   ·replace HF := bif_f hb173 HF
    refine WC.seq <| WC.region <| WL.val rfl rfl rfl (ov_eql rfl rfl) <| WL.val rfl rfl rfl (ov_assign rfl) <| WL.nil <| WQ.seqN <| WC.cond (b := (x11.op : Int) == 9) rfl (fun hb190 => ?_) (fun hb190 => ?_)
    ·replace HF := bif_t hb190 HF
     refine WC.region ?_
     have ob191 := (ob20.step0 s40)
     refine WL.val rfl rfl rfl (ov_load1 rfl t_agg_77 (OB.cell ob191 (j := 0) rfl)) <| WL.val rfl rfl rfl (ov_nilCheck rfl) <| WL.val rfl rfl rfl (ov_fieldAddr rfl t_field_55_0) ?_
     have ob192 := (ob24.step0 s40)
     obtain ⟨r193, hr194, HF⟩ := bind_some HF
     refine WL.call rfl rfl rfl (oc_func (vs := [.pointer (some ⟨b1, 0, none⟩), .string (⟨#[114, 101, 116, 117, 114, 110, 59]⟩ : ByteArray)]) rfl t_ent_39) (ok_print_lines_line _ hr194 S45.sub (rs6.mono ((s19.le).trans s40.le)) (by rw [S45.eqb]; exact ((ow7.step0 s19).step0 s40)) ob192 tn14) ?_
     rintro v195 w196 ⟨h197, s198, rfl, ⟨v199, rs200, ow201, om202, ob205⟩⟩
     have ow203 := Own.rb ow201 S45.eqb
     have om204 : ∀ i ∈ v199.ownBlock.toList, i ∈ (Value.slice A4 xs3.length c5).ownBlock.toList ∨ w0.heap.size ≤ i := fun i hi => (om202 i hi).elim (fun q => om8 i q) (fun q => .inr (Nat.le_trans S45.size q))
     have S206 := S45.trans s198 (in_cons (.inl (by simp)) (in_own (fun i hi => (om8 i hi).elim (fun q => .inl (by simp only [List.mem_cons, List.mem_append]; simp [q])) .inr) in_nil))
     refine WL.nil <| WQ.blockN <| WQ.end0 rfl ?_
     obtain rfl := Option.some.inj HF
     exact ⟨_, rfl, h197, S206, rfl, ⟨_, rs200, ow203, om204, ob205⟩⟩
    ·replace HF := bif_f hb190 HF
     refine WC.seq <| WC.region <| WL.val rfl rfl rfl (ov_eql rfl rfl) <| WL.val rfl rfl rfl (ov_assign rfl) <| WL.nil <| WQ.seqN <| WC.cond (b := (x11.op : Int) == 3) rfl (fun hb207 => ?_) (fun hb207 => ?_)
     ·replace HF := bif_t hb207 HF
      refine WC.seq ?_
      obtain ⟨A208, c209, rfl, rs210⟩ := RS.form (rs30.mono (s40.le))
      obtain ⟨e211, he212, HF⟩ := bind_some HF
      obtain ⟨b213, o214, rfl, h216, h217, ra215⟩ := RS.atO rs210 he212
      obtain ⟨cs218, r219, hc220⟩ := ra215
      obtain ⟨r221, hr222, HF⟩ := bind_some HF
      obtain ⟨hl223, HF⟩ := ite_none HF
      obtain ⟨hl224, HF⟩ := ite_none HF
      refine WC.drawn (m := 10) [(2, .pointer (some ⟨b17, 0, none⟩)), (3, .pointer (some ⟨b38, 0, none⟩))] [2, 3] rfl (fun i v w h => match i with | 0 => v = .pointer (some ⟨b1, 0, none⟩) | 1 => v = .pointer (some ⟨b1, 0, none⟩) | 2 => v = .pointer (some ⟨b1, 0, none⟩) | 3 => v = .pointer (some ⟨b38, 4, none⟩) | 4 => v = .slice (some ⟨b213, o214, none⟩) (x11.args).length c209 | 5 => v = .pointer (some ⟨b213, o214 + Int.toNat 0 * 6, none⟩) | 6 => v = .agg cs218.toArray | 7 => v = .string r221 | 8 => v = .string ((⟨#[105, 102, 32]⟩ : ByteArray) ++ r221) | 9 => v = .string (((⟨#[105, 102, 32]⟩ : ByteArray) ++ r221) ++ (⟨#[32, 116, 104, 101, 110]⟩ : ByteArray)) | _ => True) t_mixed S45.sub rfl rfl rfl rfl rfl ?_ ?_ ?_
      ·intro i v w h w2 h2 hΦ hst
       match i, hΦ with
       | 0, hΦ => exact hΦ
       | 1, hΦ => exact hΦ
       | 2, hΦ => exact hΦ
       | 3, hΦ => exact hΦ
       | 4, hΦ => exact hΦ
       | 5, hΦ => exact hΦ
       | 6, hΦ => exact hΦ
       | 7, hΦ => exact hΦ
       | 8, hΦ => exact hΦ
       | 9, hΦ => exact hΦ
       | i + 10, _ => exact trivial
      ·refine ⟨?_, ?_, ?_, ?_, ?_, ?_, ?_, ?_, ?_, ?_, trivial⟩
       ·intro a w225 h226 s227 hat hF
        have ob228 := ((ob20.step0 s40).step0 s227)
        exact front_val (show At _ [(2, .pointer (some ⟨b17, 0, none⟩)), (3, .pointer (some ⟨b38, 0, none⟩))] _ from hat) rfl (ov_load1 rfl t_agg_77 (OB.cell ob228 (j := 0) rfl)) s227.sub (by exact rfl)
       ·intro a w225 h226 s227 hat hF
        obtain hv0 := hF 0 72 rfl rfl
        exact front_val (show At _ [(72, .pointer (some ⟨b1, 0, none⟩)), (2, .pointer (some ⟨b17, 0, none⟩)), (3, .pointer (some ⟨b38, 0, none⟩))] _ from (At.cons hat hv0)) rfl (ov_nilCheck rfl) s227.sub (by exact rfl)
       ·intro a w225 h226 s227 hat hF
        obtain hv1 := hF 1 73 rfl rfl
        exact front_val (show At _ [(73, .pointer (some ⟨b1, 0, none⟩)), (2, .pointer (some ⟨b17, 0, none⟩)), (3, .pointer (some ⟨b38, 0, none⟩))] _ from (At.cons hat hv1)) rfl (ov_fieldAddr rfl t_field_55_0) s227.sub (by exact rfl)
       ·intro a w225 h226 s227 hat hF
        exact front_val (show At _ [(2, .pointer (some ⟨b17, 0, none⟩)), (3, .pointer (some ⟨b38, 0, none⟩))] _ from hat) rfl (ov_fieldAddr rfl t_field_44_4) s227.sub (by exact rfl)
       ·intro a w225 h226 s227 hat hF
        obtain hv3 := hF 3 75 rfl rfl
        have ob229 := (ob41.step0 s227)
        exact front_val (show At _ [(75, .pointer (some ⟨b38, 4, none⟩)), (2, .pointer (some ⟨b17, 0, none⟩)), (3, .pointer (some ⟨b38, 0, none⟩))] _ from (At.cons hat hv3)) rfl (ov_load1 rfl t_agg_30 (OB.cell ob229 (j := 4) rfl)) s227.sub (by exact rfl)
       ·intro a w225 h226 s227 hat hF
        obtain hv4 := hF 4 76 rfl rfl
        exact front_val (show At _ [(76, .slice (some ⟨b213, o214, none⟩) (x11.args).length c209), (2, .pointer (some ⟨b17, 0, none⟩)), (3, .pointer (some ⟨b38, 0, none⟩))] _ from (At.cons hat hv4)) rfl (ov_indexAddr rfl rfl t_slice_30 t_size_32 h216 h217) s227.sub (by exact rfl)
       ·intro a w225 h226 s227 hat hF
        obtain hv5 := hF 5 77 rfl rfl
        exact front_val (show At _ [(77, .pointer (some ⟨b213, o214 + Int.toNat 0 * 6, none⟩)), (2, .pointer (some ⟨b17, 0, none⟩)), (3, .pointer (some ⟨b38, 0, none⟩))] _ from (At.cons hat hv5)) rfl (ov_loadN (cs := cs218) rfl t_agg_32 (by rw [Rp.len (Rp.mono (s227.le) r219)]; exact t_size_32) (fun j v hv => s227.sub.at_ _ _ _ ((fun i v hv => (s227.le).1 _ _ _ (hc220 i v hv)) j v hv))) s227.sub (by exact rfl)
       ·intro a w225 h226 s227 hat hF
        obtain hv6 := hF 6 78 rfl rfl
        refine front_call (show At _ [(78, .agg cs218.toArray), (2, .pointer (some ⟨b17, 0, none⟩)), (3, .pointer (some ⟨b38, 0, none⟩))] _ from (At.cons hat hv6)) rfl (oc_func (vs := [.agg cs218.toArray]) rfl t_ent_27) (ok_print_Of _ hr222 s227.sub (Rp.mono (s227.le) r219)) ?_
        rintro _ w230 ⟨h231, s232, rfl⟩
        exact ⟨_, h231, rfl, s232, (by exact rfl)⟩
       ·intro a w225 h226 s227 hat hF
        obtain hv7 := hF 7 79 rfl rfl
        exact front_val (show At _ [(79, .string r221), (2, .pointer (some ⟨b17, 0, none⟩)), (3, .pointer (some ⟨b38, 0, none⟩))] _ from (At.cons hat hv7)) rfl (ov_addS rfl rfl hl223) s227.sub (by exact rfl)
       ·intro a w225 h226 s227 hat hF
        obtain hv8 := hF 8 80 rfl rfl
        exact front_val (show At _ [(80, .string ((⟨#[105, 102, 32]⟩ : ByteArray) ++ r221)), (2, .pointer (some ⟨b17, 0, none⟩)), (3, .pointer (some ⟨b38, 0, none⟩))] _ from (At.cons hat hv8)) rfl (ov_addS rfl rfl hl224) s227.sub (by exact rfl)
      ·intro a w225 h226 s227 hat hF
       obtain hv0 := hF 0 72 (by decide) rfl
       obtain hv1 := hF 1 73 (by decide) rfl
       obtain hv2 := hF 2 74 (by decide) rfl
       obtain hv3 := hF 3 75 (by decide) rfl
       obtain hv4 := hF 4 76 (by decide) rfl
       obtain hv5 := hF 5 77 (by decide) rfl
       obtain hv6 := hF 6 78 (by decide) rfl
       obtain hv7 := hF 7 79 (by decide) rfl
       obtain hv8 := hF 8 80 (by decide) rfl
       obtain hv9 := hF 9 81 (by decide) rfl
       refine WL.at_ [(81, .string (((⟨#[105, 102, 32]⟩ : ByteArray) ++ r221) ++ (⟨#[32, 116, 104, 101, 110]⟩ : ByteArray))), (80, .string ((⟨#[105, 102, 32]⟩ : ByteArray) ++ r221)), (79, .string r221), (78, .agg cs218.toArray), (77, .pointer (some ⟨b213, o214 + Int.toNat 0 * 6, none⟩)), (76, .slice (some ⟨b213, o214, none⟩) (x11.args).length c209), (75, .pointer (some ⟨b38, 4, none⟩)), (74, .pointer (some ⟨b1, 0, none⟩)), (73, .pointer (some ⟨b1, 0, none⟩)), (72, .pointer (some ⟨b1, 0, none⟩)), (2, .pointer (some ⟨b17, 0, none⟩)), (3, .pointer (some ⟨b38, 0, none⟩))] (At.cons (At.cons (At.cons (At.cons (At.cons (At.cons (At.cons (At.cons (At.cons (At.cons hat hv0) hv1) hv2) hv3) hv4) hv5) hv6) hv7) hv8) hv9) ?_
       have S233 := S45.trans0 s227
       have ob234 := ((ob24.step0 s40).step0 s227)
       obtain ⟨r235, hr236, HF⟩ := bind_some HF
       refine WL.call rfl rfl rfl (oc_func (vs := [.pointer (some ⟨b1, 0, none⟩), .string (((⟨#[105, 102, 32]⟩ : ByteArray) ++ r221) ++ (⟨#[32, 116, 104, 101, 110]⟩ : ByteArray))]) rfl t_ent_39) (ok_print_lines_line _ hr236 S233.sub (rs6.mono ((s19.le).trans ((s40.le).trans s227.le))) (by rw [S233.eqb]; exact (((ow7.step0 s19).step0 s40).step0 s227)) ob234 tn14) ?_
       have ob241 := ((ob20.step0 s40).step0 s227)
       have ob242 := (ob41.step0 s227)
       rintro v237 w238 ⟨h239, s240, rfl, ⟨v243, rs244, ow245, om246, ob249⟩⟩
       have ow247 := Own.rb ow245 S233.eqb
       have om248 : ∀ i ∈ v243.ownBlock.toList, i ∈ (Value.slice A4 xs3.length c5).ownBlock.toList ∨ w0.heap.size ≤ i := fun i hi => (om246 i hi).elim (fun q => om8 i q) (fun q => .inr (Nat.le_trans S233.size q))
       have S250 := S233.trans s240 (in_cons (.inl (by simp)) (in_own (fun i hi => (om8 i hi).elim (fun q => .inl (by simp only [List.mem_cons, List.mem_append]; simp [q])) .inr) in_nil))
       refine WL.nil <| WQ.seqN <| WC.seq <| WC.region ?_
       have ob251 := (ob241.step s240 (ni_cons (Ne.symm ne21) (ni_own (fun hm => (((ow7.step0 s19).step0 s40).step0 s227).ne ob241 (by decide) _ hm rfl) ni_nil)))
       refine WL.val rfl rfl rfl (ov_load1 rfl t_agg_77 (OB.cell ob251 (j := 0) rfl)) <| WL.val rfl rfl rfl (ov_fieldAddr rfl t_field_44_6) ?_
       have ob252 := (ob242.step s240 (ni_cons (Ne.symm ne42) (ni_own (fun hm => (((ow7.step0 s19).step0 s40).step0 s227).ne ob242 (by decide) _ hm rfl) ni_nil)))
       refine WL.val rfl rfl rfl (ov_load1 rfl t_agg_22 (OB.cell ob252 (j := 6) rfl)) ?_
       obtain ⟨A253, c254, rfl, rs255⟩ := RS.form rs244
       obtain ⟨r256, hr257, HF⟩ := bind_some HF
       refine WL.call rfl rfl rfl (oc_func (vs := [.pointer (some ⟨b1, 0, none⟩), v31]) rfl t_ent_41) ((IH _ (Nat.le_refl _)).2.2.1 hr257 S250.sub rs255 (by rw [S250.eqb]; exact ow247) (rs32.mono ((s40.le).trans ((s227.le).trans s240.le))) ob249 tn14) ?_
       rintro v258 w259 ⟨h260, s261, rfl, ⟨v262, rs263, ow264, om265, ob268⟩⟩
       have ow266 := Own.rb ow264 S250.eqb
       have om267 : ∀ i ∈ v262.ownBlock.toList, i ∈ (Value.slice A4 xs3.length c5).ownBlock.toList ∨ w0.heap.size ≤ i := fun i hi => (om265 i hi).elim (fun q => om248 i q) (fun q => .inr (Nat.le_trans S250.size q))
       have S269 := S250.trans s261 (in_cons (.inl (by simp)) (in_own (fun i hi => (om248 i hi).elim (fun q => .inl (by simp only [List.mem_cons, List.mem_append]; simp [q])) .inr) in_nil))
       refine WL.nil <| WQ.seqN <| WC.seq <| WC.seq <| WC.region <| WL.val rfl rfl rfl (ov_fieldAddr rfl t_field_44_7) ?_
       have ob270 := (ob252.step s261 (ni_cons (Ne.symm ne42) (ni_own (fun hm => ow247.ne ob252 (by decide) _ hm rfl) ni_nil)))
       refine WL.val rfl rfl rfl (ov_load1 rfl t_agg_42 (OB.cell ob270 (j := 7) rfl)) ?_
       obtain ⟨A271, c272, rfl, rs273⟩ := RS.form (rs34.mono ((s40.le).trans ((s227.le).trans ((s240.le).trans s261.le))))
       refine WL.val rfl rfl rfl (ov_lenL rfl t_slice_42) <| WL.val rfl rfl rfl (ov_move rfl) <| WL.nil <| WQ.seqN <| WC.block <| WC.loop <| WP.to [2, 3, 88, 89, 90] [(2, .pointer (some ⟨b17, 0, none⟩)), (3, .pointer (some ⟨b38, 0, none⟩)), (88, .slice A271 (x11.arms).length c272), (89, .int .i64 (x11.arms.length : Int)), (90, .int .i64 0)] rfl <| WP_rule (K := k) (fun j E w275 => ∃ (h274 : Hp) (x278 : Int) (x279 : Bool) (xs280 : List UInt8) (v281 : Value) (x285 : ByteArray) (xs288 : List Ar) (v289 : Value), (tie_print_printer_stmt j).print_printer_stmt_l2 x11 x278 x279 xs280 x285 xs288 = some r ∧ E = [(2, .pointer (some ⟨b17, 0, none⟩)), (3, .pointer (some ⟨b38, 0, none⟩)), (88, .slice A271 (x11.arms).length c272), (89, .int .i64 (x11.arms.length : Int)), (90, .int .i64 x278)] ∧ Stp (b1 :: ((Value.slice A4 xs3.length c5).ownBlock.toList ++ [])) w0 h0 w275 h274 ∧ Hle h260 h274 ∧ RS h274 v281 xs280 ∧ Own w275 h274 h0.base 5 1 v281 xs280.length ∧ (∀ i ∈ v281.ownBlock.toList, i ∈ (Value.slice A4 xs3.length c5).ownBlock.toList ∨ w0.heap.size ≤ i) ∧ RS h274 v289 xs288 ∧ OB w275 h274 b1 55 [.pointer (bif x279 then some ⟨b1, 0, none⟩ else none), v281, .string x285] ∧ OB w275 h274 b17 77 [.pointer (some ⟨b1, 0, none⟩)] ∧ OB w275 h274 b38 44 [.int .i64 x11.op, .string x11.name, v25, v27, .slice (some ⟨b213, o214, none⟩) (x11.args).length c209, .int .i64 x11.n, v31, v289, v35, .bool x11.els]) ?_ ?_ (j := k) (Nat.le_refl _) ?_
       ·rintro E w275 ⟨_, _, _, _, _, _, _, _, HF, _⟩; cases HF
       ·rintro j292 hj294 IHL293 E w275 ⟨h274, x278, x279, xs280, v281, x285, xs288, v289, HF, rfl, S277, le276, rs282, ow283, om284, rs290, ob286, ob287, ob291⟩
        refine WC.seq <| WC.region <| WL.val rfl rfl rfl (ov_lss rfl rfl) <| WL.nil <| WQ.seqN <| WC.join (fun E w333 => ∃ (h332 : Hp) (xs336 : List UInt8) (v337 : Value), print_printer_stmt_j3 j292 (tie_print_printer_stmt j292) x11 x278 x279 x285 xs288 xs336 = some r ∧ E = [(2, .pointer (some ⟨b17, 0, none⟩)), (3, .pointer (some ⟨b38, 0, none⟩)), (88, .slice A271 (x11.arms).length c272), (89, .int .i64 (x11.arms.length : Int)), (90, .int .i64 x278)] ∧ Stp (b1 :: ((Value.slice A4 xs3.length c5).ownBlock.toList ++ [])) w0 h0 w333 h332 ∧ Hle h274 h332 ∧ RS h332 v337 xs336 ∧ Own w333 h332 h0.base 5 1 v337 xs336.length ∧ (∀ i ∈ v337.ownBlock.toList, i ∈ (Value.slice A4 xs3.length c5).ownBlock.toList ∨ w0.heap.size ≤ i) ∧ OB w333 h332 b1 55 [.pointer (bif x279 then some ⟨b1, 0, none⟩ else none), v337, .string x285] ∧ OB w333 h332 b17 77 [.pointer (some ⟨b1, 0, none⟩)] ∧ OB w333 h332 b38 44 [.int .i64 x11.op, .string x11.name, v25, v27, .slice (some ⟨b213, o214, none⟩) (x11.args).length c209, .int .i64 x11.n, v31, v289, v35, .bool x11.els]) ?_ ?_
        ·rintro E w333 ⟨h332, xs336, v337, HF, rfl, S335, le334, rs338, ow339, om340, ob341, ob342, ob343⟩
         refine WC.seq <| WC.block <| WC.seq <| WC.region ?_
         obtain ⟨e344, he345, HF⟩ := bind_some HF
         obtain ⟨b346, o347, rfl, h349, h350, ra348⟩ := RS.atO (rs273.mono ((le276).trans le334)) he345
         obtain ⟨cs351, r352, hc353⟩ := ra348
         refine WL.val rfl rfl rfl (ov_indexAddr rfl rfl t_slice_42 t_size_47 h349 h350) <| WL.val rfl rfl rfl (ov_loadN (cs := cs351) rfl t_agg_47 (by rw [Rp.len r352]; exact t_size_47) (fun j v hv => S335.sub.at_ _ _ _ (hc353 j v hv))) <| WL.alloc (zs := [.slice none 0 0, .slice none 0 0, .slice none 0 0]) rfl rfl t_zero_47 rfl S335.sub (fun w354 b355 hb356 s357 ob358 => ?_)
         have ne359 : b1 ≠ b355 := ob341.ne_new hb356
         have ne360 : b17 ≠ b355 := ob342.ne_new hb356
         have ne361 : b38 ≠ b355 := ob343.ne_new hb356
         have g362 : w0.heap.size ≤ b355 := by rw [hb356]; exact S335.size
         have S363 := S335.trans0 s357
         obtain ⟨v364, v366, v368, rfl, rs365, rs367, rs369⟩ := rp_Ar.1 (Rp.mono (s357.le) r352)
         refine WL.store (vs := [v364, v366, v368]) rfl rfl rfl rfl t_size_47 (one_cons (RS.one rs365) (one_cons (RS.one rs367) (one_cons (RS.one rs369) one_nil))) ob358 S363.sub (by simp) (ds := [v364, v366, v368]) rfl (fun w370 s371 ob372 => ?_)
         have S373 := S363.trans1 s371 (.inr g362)
         refine WL.nil <| WQ.seqN <| WC.seq ?_
         obtain ⟨A374, c375, rfl, rs376⟩ := RS.form (rs365.mono (s371.le))
         obtain ⟨e377, he378, HF⟩ := bind_some HF
         obtain ⟨b379, o380, rfl, h382, h383, ra381⟩ := RS.atO rs376 he378
         obtain ⟨cs384, r385, hc386⟩ := ra381
         obtain ⟨r387, hr388, HF⟩ := bind_some HF
         obtain ⟨hl389, HF⟩ := ite_none HF
         obtain ⟨hl390, HF⟩ := ite_none HF
         refine WC.drawn (m := 10) [(2, .pointer (some ⟨b17, 0, none⟩)), (3, .pointer (some ⟨b38, 0, none⟩)), (6, .pointer (some ⟨b355, 0, none⟩)), (88, .slice (some ⟨b346, o347, none⟩) (x11.arms).length c272), (89, .int .i64 (x11.arms.length : Int)), (90, .int .i64 x278)] [2, 3, 6, 88, 89, 90] rfl (fun i v w h => match i with | 0 => v = .pointer (some ⟨b1, 0, none⟩) | 1 => v = .pointer (some ⟨b1, 0, none⟩) | 2 => v = .pointer (some ⟨b1, 0, none⟩) | 3 => v = .pointer (some ⟨b355, 0, none⟩) | 4 => v = .slice (some ⟨b379, o380, none⟩) (e344.cond).length c375 | 5 => v = .pointer (some ⟨b379, o380 + Int.toNat 0 * 6, none⟩) | 6 => v = .agg cs384.toArray | 7 => v = .string r387 | 8 => v = .string ((⟨#[101, 108, 115, 105, 102, 32]⟩ : ByteArray) ++ r387) | 9 => v = .string (((⟨#[101, 108, 115, 105, 102, 32]⟩ : ByteArray) ++ r387) ++ (⟨#[32, 116, 104, 101, 110]⟩ : ByteArray)) | _ => True) t_mixed S373.sub rfl rfl rfl rfl rfl ?_ ?_ ?_
         ·intro i v w h w2 h2 hΦ hst
          match i, hΦ with
          | 0, hΦ => exact hΦ
          | 1, hΦ => exact hΦ
          | 2, hΦ => exact hΦ
          | 3, hΦ => exact hΦ
          | 4, hΦ => exact hΦ
          | 5, hΦ => exact hΦ
          | 6, hΦ => exact hΦ
          | 7, hΦ => exact hΦ
          | 8, hΦ => exact hΦ
          | 9, hΦ => exact hΦ
          | i + 10, _ => exact trivial
         ·refine ⟨?_, ?_, ?_, ?_, ?_, ?_, ?_, ?_, ?_, ?_, trivial⟩
          ·intro a w391 h392 s393 hat hF
           have ob394 := (((ob342.step0 s357).step1 s371 ne360).step0 s393)
           exact front_val (show At _ [(2, .pointer (some ⟨b17, 0, none⟩)), (3, .pointer (some ⟨b38, 0, none⟩)), (6, .pointer (some ⟨b355, 0, none⟩)), (88, .slice (some ⟨b346, o347, none⟩) (x11.arms).length c272), (89, .int .i64 (x11.arms.length : Int)), (90, .int .i64 x278)] _ from hat) rfl (ov_load1 rfl t_agg_77 (OB.cell ob394 (j := 0) rfl)) s393.sub (by exact rfl)
          ·intro a w391 h392 s393 hat hF
           obtain hv0 := hF 0 94 rfl rfl
           exact front_val (show At _ [(94, .pointer (some ⟨b1, 0, none⟩)), (2, .pointer (some ⟨b17, 0, none⟩)), (3, .pointer (some ⟨b38, 0, none⟩)), (6, .pointer (some ⟨b355, 0, none⟩)), (88, .slice (some ⟨b346, o347, none⟩) (x11.arms).length c272), (89, .int .i64 (x11.arms.length : Int)), (90, .int .i64 x278)] _ from (At.cons hat hv0)) rfl (ov_nilCheck rfl) s393.sub (by exact rfl)
          ·intro a w391 h392 s393 hat hF
           obtain hv1 := hF 1 95 rfl rfl
           exact front_val (show At _ [(95, .pointer (some ⟨b1, 0, none⟩)), (2, .pointer (some ⟨b17, 0, none⟩)), (3, .pointer (some ⟨b38, 0, none⟩)), (6, .pointer (some ⟨b355, 0, none⟩)), (88, .slice (some ⟨b346, o347, none⟩) (x11.arms).length c272), (89, .int .i64 (x11.arms.length : Int)), (90, .int .i64 x278)] _ from (At.cons hat hv1)) rfl (ov_fieldAddr rfl t_field_55_0) s393.sub (by exact rfl)
          ·intro a w391 h392 s393 hat hF
           exact front_val (show At _ [(2, .pointer (some ⟨b17, 0, none⟩)), (3, .pointer (some ⟨b38, 0, none⟩)), (6, .pointer (some ⟨b355, 0, none⟩)), (88, .slice (some ⟨b346, o347, none⟩) (x11.arms).length c272), (89, .int .i64 (x11.arms.length : Int)), (90, .int .i64 x278)] _ from hat) rfl (ov_fieldAddr rfl t_field_47_0) s393.sub (by exact rfl)
          ·intro a w391 h392 s393 hat hF
           obtain hv3 := hF 3 97 rfl rfl
           have ob395 := (ob372.step0 s393)
           exact front_val (show At _ [(97, .pointer (some ⟨b355, 0, none⟩)), (2, .pointer (some ⟨b17, 0, none⟩)), (3, .pointer (some ⟨b38, 0, none⟩)), (6, .pointer (some ⟨b355, 0, none⟩)), (88, .slice (some ⟨b346, o347, none⟩) (x11.arms).length c272), (89, .int .i64 (x11.arms.length : Int)), (90, .int .i64 x278)] _ from (At.cons hat hv3)) rfl (ov_load1 rfl t_agg_30 (OB.cell ob395 (j := 0) rfl)) s393.sub (by exact rfl)
          ·intro a w391 h392 s393 hat hF
           obtain hv4 := hF 4 98 rfl rfl
           exact front_val (show At _ [(98, .slice (some ⟨b379, o380, none⟩) (e344.cond).length c375), (2, .pointer (some ⟨b17, 0, none⟩)), (3, .pointer (some ⟨b38, 0, none⟩)), (6, .pointer (some ⟨b355, 0, none⟩)), (88, .slice (some ⟨b346, o347, none⟩) (x11.arms).length c272), (89, .int .i64 (x11.arms.length : Int)), (90, .int .i64 x278)] _ from (At.cons hat hv4)) rfl (ov_indexAddr rfl rfl t_slice_30 t_size_32 h382 h383) s393.sub (by exact rfl)
          ·intro a w391 h392 s393 hat hF
           obtain hv5 := hF 5 99 rfl rfl
           exact front_val (show At _ [(99, .pointer (some ⟨b379, o380 + Int.toNat 0 * 6, none⟩)), (2, .pointer (some ⟨b17, 0, none⟩)), (3, .pointer (some ⟨b38, 0, none⟩)), (6, .pointer (some ⟨b355, 0, none⟩)), (88, .slice (some ⟨b346, o347, none⟩) (x11.arms).length c272), (89, .int .i64 (x11.arms.length : Int)), (90, .int .i64 x278)] _ from (At.cons hat hv5)) rfl (ov_loadN (cs := cs384) rfl t_agg_32 (by rw [Rp.len (Rp.mono (s393.le) r385)]; exact t_size_32) (fun j v hv => s393.sub.at_ _ _ _ ((fun i v hv => (s393.le).1 _ _ _ (hc386 i v hv)) j v hv))) s393.sub (by exact rfl)
          ·intro a w391 h392 s393 hat hF
           obtain hv6 := hF 6 100 rfl rfl
           refine front_call (show At _ [(100, .agg cs384.toArray), (2, .pointer (some ⟨b17, 0, none⟩)), (3, .pointer (some ⟨b38, 0, none⟩)), (6, .pointer (some ⟨b355, 0, none⟩)), (88, .slice (some ⟨b346, o347, none⟩) (x11.arms).length c272), (89, .int .i64 (x11.arms.length : Int)), (90, .int .i64 x278)] _ from (At.cons hat hv6)) rfl (oc_func (vs := [.agg cs384.toArray]) rfl t_ent_27) (ok_print_Of _ hr388 s393.sub (Rp.mono (s393.le) r385)) ?_
           rintro _ w396 ⟨h397, s398, rfl⟩
           exact ⟨_, h397, rfl, s398, (by exact rfl)⟩
          ·intro a w391 h392 s393 hat hF
           obtain hv7 := hF 7 101 rfl rfl
           exact front_val (show At _ [(101, .string r387), (2, .pointer (some ⟨b17, 0, none⟩)), (3, .pointer (some ⟨b38, 0, none⟩)), (6, .pointer (some ⟨b355, 0, none⟩)), (88, .slice (some ⟨b346, o347, none⟩) (x11.arms).length c272), (89, .int .i64 (x11.arms.length : Int)), (90, .int .i64 x278)] _ from (At.cons hat hv7)) rfl (ov_addS rfl rfl hl389) s393.sub (by exact rfl)
          ·intro a w391 h392 s393 hat hF
           obtain hv8 := hF 8 102 rfl rfl
           exact front_val (show At _ [(102, .string ((⟨#[101, 108, 115, 105, 102, 32]⟩ : ByteArray) ++ r387)), (2, .pointer (some ⟨b17, 0, none⟩)), (3, .pointer (some ⟨b38, 0, none⟩)), (6, .pointer (some ⟨b355, 0, none⟩)), (88, .slice (some ⟨b346, o347, none⟩) (x11.arms).length c272), (89, .int .i64 (x11.arms.length : Int)), (90, .int .i64 x278)] _ from (At.cons hat hv8)) rfl (ov_addS rfl rfl hl390) s393.sub (by exact rfl)
         ·intro a w391 h392 s393 hat hF
          obtain hv0 := hF 0 94 (by decide) rfl
          obtain hv1 := hF 1 95 (by decide) rfl
          obtain hv2 := hF 2 96 (by decide) rfl
          obtain hv3 := hF 3 97 (by decide) rfl
          obtain hv4 := hF 4 98 (by decide) rfl
          obtain hv5 := hF 5 99 (by decide) rfl
          obtain hv6 := hF 6 100 (by decide) rfl
          obtain hv7 := hF 7 101 (by decide) rfl
          obtain hv8 := hF 8 102 (by decide) rfl
          obtain hv9 := hF 9 103 (by decide) rfl
          refine WL.at_ [(103, .string (((⟨#[101, 108, 115, 105, 102, 32]⟩ : ByteArray) ++ r387) ++ (⟨#[32, 116, 104, 101, 110]⟩ : ByteArray))), (102, .string ((⟨#[101, 108, 115, 105, 102, 32]⟩ : ByteArray) ++ r387)), (101, .string r387), (100, .agg cs384.toArray), (99, .pointer (some ⟨b379, o380 + Int.toNat 0 * 6, none⟩)), (98, .slice (some ⟨b379, o380, none⟩) (e344.cond).length c375), (97, .pointer (some ⟨b355, 0, none⟩)), (96, .pointer (some ⟨b1, 0, none⟩)), (95, .pointer (some ⟨b1, 0, none⟩)), (94, .pointer (some ⟨b1, 0, none⟩)), (2, .pointer (some ⟨b17, 0, none⟩)), (3, .pointer (some ⟨b38, 0, none⟩)), (6, .pointer (some ⟨b355, 0, none⟩)), (88, .slice (some ⟨b346, o347, none⟩) (x11.arms).length c272), (89, .int .i64 (x11.arms.length : Int)), (90, .int .i64 x278)] (At.cons (At.cons (At.cons (At.cons (At.cons (At.cons (At.cons (At.cons (At.cons (At.cons hat hv0) hv1) hv2) hv3) hv4) hv5) hv6) hv7) hv8) hv9) ?_
          have S399 := S373.trans0 s393
          obtain ⟨A400, c401, rfl, rs402⟩ := RS.form (rs338.mono ((s357.le).trans ((s371.le).trans s393.le)))
          have ob403 := (((ob341.step0 s357).step1 s371 ne359).step0 s393)
          obtain ⟨r404, hr405, HF⟩ := bind_some HF
          refine WL.call rfl rfl rfl (oc_func (vs := [.pointer (some ⟨b1, 0, none⟩), .string (((⟨#[101, 108, 115, 105, 102, 32]⟩ : ByteArray) ++ r387) ++ (⟨#[32, 116, 104, 101, 110]⟩ : ByteArray))]) rfl t_ent_39) (ok_print_lines_line _ hr405 S399.sub rs402 (by rw [S399.eqb]; exact (((ow339.step0 s357).step s371 (on_cons ((ow339.step0 s357).ne_ob ob358 (by decide)) on_nil)).step0 s393)) ob403 tn14) ?_
          have ob410 := (((ob342.step0 s357).step1 s371 ne360).step0 s393)
          have ob411 := (((ob343.step0 s357).step1 s371 ne361).step0 s393)
          have ob412 := (ob372.step0 s393)
          rintro v406 w407 ⟨h408, s409, rfl, ⟨v413, rs414, ow415, om416, ob419⟩⟩
          have ow417 := Own.rb ow415 S399.eqb
          have om418 : ∀ i ∈ v413.ownBlock.toList, i ∈ (Value.slice A4 xs3.length c5).ownBlock.toList ∨ w0.heap.size ≤ i := fun i hi => (om416 i hi).elim (fun q => om340 i q) (fun q => .inr (Nat.le_trans S399.size q))
          have S420 := S399.trans s409 (in_cons (.inl (by simp)) (in_own (fun i hi => (om340 i hi).elim (fun q => .inl (by simp only [List.mem_cons, List.mem_append]; simp [q])) .inr) in_nil))
          refine WL.nil <| WQ.seqN <| WC.region ?_
          have ob421 := (ob410.step s409 (ni_cons (Ne.symm ne21) (ni_own (fun hm => (((ow339.step0 s357).step s371 (on_cons ((ow339.step0 s357).ne_ob ob358 (by decide)) on_nil)).step0 s393).ne ob410 (by decide) _ hm rfl) ni_nil)))
          refine WL.val rfl rfl rfl (ov_load1 rfl t_agg_77 (OB.cell ob421 (j := 0) rfl)) <| WL.val rfl rfl rfl (ov_fieldAddr rfl t_field_47_2) ?_
          have ob422 := (ob412.step s409 (ni_cons (Ne.symm ne359) (ni_own (fun hm => (((ow339.step0 s357).step s371 (on_cons ((ow339.step0 s357).ne_ob ob358 (by decide)) on_nil)).step0 s393).ne ob412 (by decide) _ hm rfl) ni_nil)))
          refine WL.val rfl rfl rfl (ov_load1 rfl t_agg_22 (OB.cell ob422 (j := 2) rfl)) ?_
          obtain ⟨A423, c424, rfl, rs425⟩ := RS.form rs414
          obtain ⟨r426, hr427, HF⟩ := bind_some HF
          refine WL.call rfl rfl rfl (oc_func (vs := [.pointer (some ⟨b1, 0, none⟩), v368]) rfl t_ent_41) ((IH _ (Nat.le_trans (Nat.le_of_succ_le hj294) (Nat.le_refl _))).2.2.1 hr427 S420.sub rs425 (by rw [S420.eqb]; exact ow417) (rs369.mono ((s371.le).trans ((s393.le).trans s409.le))) ob419 tn14) ?_
          have ob432 := (ob411.step s409 (ni_cons (Ne.symm ne42) (ni_own (fun hm => (((ow339.step0 s357).step s371 (on_cons ((ow339.step0 s357).ne_ob ob358 (by decide)) on_nil)).step0 s393).ne ob411 (by decide) _ hm rfl) ni_nil)))
          rintro v428 w429 ⟨h430, s431, rfl, ⟨v433, rs434, ow435, om436, ob439⟩⟩
          have ow437 := Own.rb ow435 S420.eqb
          have om438 : ∀ i ∈ v433.ownBlock.toList, i ∈ (Value.slice A4 xs3.length c5).ownBlock.toList ∨ w0.heap.size ≤ i := fun i hi => (om436 i hi).elim (fun q => om418 i q) (fun q => .inr (Nat.le_trans S420.size q))
          have S440 := S420.trans s431 (in_cons (.inl (by simp)) (in_own (fun i hi => (om418 i hi).elim (fun q => .inl (by simp only [List.mem_cons, List.mem_append]; simp [q])) .inr) in_nil))
          refine WL.nil <| WQ.blockN <| WQ.seqN <| WC.region <| WL.val rfl rfl rfl (ov_add rfl rfl) <| WL.val rfl rfl rfl (ov_move rfl) <| WL.nil ?_
          have ob442 := (ob421.step s431 (ni_cons (Ne.symm ne21) (ni_own (fun hm => ow417.ne ob421 (by decide) _ hm rfl) ni_nil)))
          have ob443 := (ob432.step s431 (ni_cons (Ne.symm ne42) (ni_own (fun hm => ow417.ne ob432 (by decide) _ hm rfl) ni_nil)))
          refine WQ.loopN <| WP.to [2, 3, 88, 89, 90] [(2, .pointer (some ⟨b17, 0, none⟩)), (3, .pointer (some ⟨b38, 0, none⟩)), (88, .slice (some ⟨b346, o347, none⟩) (x11.arms).length c272), (89, .int .i64 (x11.arms.length : Int)), (90, .int .i64 (IntKind.i64.wrap (x278 + 1)))] rfl ?_
          exact IHL293 j292 (Nat.le_refl _) _ _ ⟨h430, IntKind.i64.wrap (x278 + 1), r426.1, r426.2.1, v433, r426.2.2, xs288, v289, HF, rfl, S440, (le276).trans ((le334).trans ((s357.le).trans ((s371.le).trans ((s393.le).trans ((s409.le).trans s431.le))))), rs434, ow437, om438, (rs290.mono ((le334).trans ((s357.le).trans ((s371.le).trans ((s393.le).trans ((s409.le).trans s431.le)))))), ob439, ob442, ob443⟩
        ·intro J441
         refine WC.cond (b := decide ((x278 : Int) < (x11.arms.length : Int))) rfl (fun hb295 => ?_) (fun hb295 => ?_)
         ·replace HF := bif_t hb295 HF
          refine WC.skip <| WC.to [2, 3, 88, 89, 90] [(2, .pointer (some ⟨b17, 0, none⟩)), (3, .pointer (some ⟨b38, 0, none⟩)), (88, .slice A271 (x11.arms).length c272), (89, .int .i64 (x11.arms.length : Int)), (90, .int .i64 x278)] rfl ?_
          exact J441 ⟨h274, xs280, v281, HF, rfl, S277, Hle.refl _, rs282, ow283, om284, ob286, ob287, ob291⟩
         ·replace HF := bif_f hb295 HF
          refine WC.exit <| WQ.thenExit <| WQ.thenExit <| WQ.blockHit <| WQ.seqN <| WC.seq <| WC.region <| WL.val rfl rfl rfl (ov_load1 rfl t_agg_77 (OB.cell ob287 (j := 0) rfl)) <| WL.val rfl rfl rfl (ov_loadN (cs := [.int .i64 x11.op, .string x11.name, v25, v27, .slice (some ⟨b213, o214, none⟩) (x11.args).length c209, .int .i64 x11.n, v31, v289, v35, .bool x11.els]) rfl t_agg_44 t_size_44 (OB.cells ob291 0 rfl)) ?_
          obtain ⟨A296, c297, rfl, rs298⟩ := RS.form rs282
          obtain ⟨r299, hr300, HF⟩ := bind_some HF
          refine WL.call rfl rfl rfl (oc_func (vs := [.pointer (some ⟨b1, 0, none⟩), .agg #[.int .i64 x11.op, .string x11.name, v25, v27, .slice (some ⟨b213, o214, none⟩) (x11.args).length c209, .int .i64 x11.n, v31, v289, v35, .bool x11.els]]) rfl t_ent_42) ((IH _ (Nat.le_trans (Nat.le_of_succ_le hj294) (Nat.le_refl _))).2.2.2.2.2.2.2 hr300 S277.sub rs298 (by rw [S277.eqb]; exact ow283) (rp_St.2 ⟨_, _, _, _, _, _, rfl, (rs26.mono ((s40.le).trans ((s227.le).trans ((s240.le).trans ((s261.le).trans le276))))), (rs28.mono ((s40.le).trans ((s227.le).trans ((s240.le).trans ((s261.le).trans le276))))), (rs210.mono ((s227.le).trans ((s240.le).trans ((s261.le).trans le276)))), (rs32.mono ((s40.le).trans ((s227.le).trans ((s240.le).trans ((s261.le).trans le276))))), rs290, (rs36.mono ((s40.le).trans ((s227.le).trans ((s240.le).trans ((s261.le).trans le276)))))⟩) ob286 tn14) ?_
          rintro v301 w302 ⟨h303, s304, rfl, ⟨v305, rs306, ow307, om308, ob311⟩⟩
          have ow309 := Own.rb ow307 S277.eqb
          have om310 : ∀ i ∈ v305.ownBlock.toList, i ∈ (Value.slice A4 xs3.length c5).ownBlock.toList ∨ w0.heap.size ≤ i := fun i hi => (om308 i hi).elim (fun q => om284 i q) (fun q => .inr (Nat.le_trans S277.size q))
          have S312 := S277.trans s304 (in_cons (.inl (by simp)) (in_own (fun i hi => (om284 i hi).elim (fun q => .inl (by simp only [List.mem_cons, List.mem_append]; simp [q])) .inr) in_nil))
          refine WL.nil <| WQ.seqN <| WC.region ?_
          have ob313 := (ob287.step s304 (ni_cons (Ne.symm ne21) (ni_own (fun hm => ow283.ne ob287 (by decide) _ hm rfl) ni_nil)))
          refine WL.val rfl rfl rfl (ov_load1 rfl t_agg_77 (OB.cell ob313 (j := 0) rfl)) <| WL.val rfl rfl rfl (ov_nilCheck rfl) <| WL.val rfl rfl rfl (ov_fieldAddr rfl t_field_55_0) ?_
          obtain ⟨A314, c315, rfl, rs316⟩ := RS.form rs306
          obtain ⟨r317, hr318, HF⟩ := bind_some HF
          refine WL.call rfl rfl rfl (oc_func (vs := [.pointer (some ⟨b1, 0, none⟩), .string (⟨#[101, 110, 100, 95, 105, 102, 59]⟩ : ByteArray)]) rfl t_ent_39) (ok_print_lines_line _ hr318 S312.sub rs316 (by rw [S312.eqb]; exact ow309) ob311 tn14) ?_
          have ob323 := (ob291.step s304 (ni_cons (Ne.symm ne42) (ni_own (fun hm => ow283.ne ob291 (by decide) _ hm rfl) ni_nil)))
          rintro v319 w320 ⟨h321, s322, rfl, ⟨v324, rs325, ow326, om327, ob330⟩⟩
          have ow328 := Own.rb ow326 S312.eqb
          have om329 : ∀ i ∈ v324.ownBlock.toList, i ∈ (Value.slice A4 xs3.length c5).ownBlock.toList ∨ w0.heap.size ≤ i := fun i hi => (om327 i hi).elim (fun q => om310 i q) (fun q => .inr (Nat.le_trans S312.size q))
          have S331 := S312.trans s322 (in_cons (.inl (by simp)) (in_own (fun i hi => (om310 i hi).elim (fun q => .inl (by simp only [List.mem_cons, List.mem_append]; simp [q])) .inr) in_nil))
          refine WL.nil <| WQ.blockN <| WQ.end0 rfl ?_
          obtain rfl := Option.some.inj HF
          exact ⟨_, rfl, h321, S331, rfl, ⟨_, rs325, ow328, om329, ob330⟩⟩
       have ob444 := (ob251.step s261 (ni_cons (Ne.symm ne21) (ni_own (fun hm => ow247.ne ob251 (by decide) _ hm rfl) ni_nil)))
       ·exact ⟨h260, 0, r256.1, r256.2.1, v262, r256.2.2, x11.arms, .slice A271 (x11.arms).length c272, HF, rfl, S269, Hle.refl _, rs263, ow266, om267, rs273, ob268, ob444, ob270⟩
     ·replace HF := bif_f hb207 HF
      refine WC.seq <| WC.region <| WL.val rfl rfl rfl (ov_eql rfl rfl) <| WL.val rfl rfl rfl (ov_assign rfl) <| WL.nil <| WQ.seqN <| WC.cond (b := (x11.op : Int) == 4) rfl (fun hb445 => ?_) (fun hb445 => ?_)
      ·replace HF := bif_t hb445 HF
       refine WC.seq ?_
       obtain ⟨A446, c447, rfl, rs448⟩ := RS.form (rs30.mono (s40.le))
       obtain ⟨e449, he450, HF⟩ := bind_some HF
       obtain ⟨b451, o452, rfl, h454, h455, ra453⟩ := RS.atO rs448 he450
       obtain ⟨cs456, r457, hc458⟩ := ra453
       obtain ⟨r459, hr460, HF⟩ := bind_some HF
       obtain ⟨hl461, HF⟩ := ite_none HF
       obtain ⟨hl462, HF⟩ := ite_none HF
       refine WC.drawn (m := 10) [(2, .pointer (some ⟨b17, 0, none⟩)), (3, .pointer (some ⟨b38, 0, none⟩))] [2, 3] rfl (fun i v w h => match i with | 0 => v = .pointer (some ⟨b1, 0, none⟩) | 1 => v = .pointer (some ⟨b1, 0, none⟩) | 2 => v = .pointer (some ⟨b1, 0, none⟩) | 3 => v = .pointer (some ⟨b38, 4, none⟩) | 4 => v = .slice (some ⟨b451, o452, none⟩) (x11.args).length c447 | 5 => v = .pointer (some ⟨b451, o452 + Int.toNat 0 * 6, none⟩) | 6 => v = .agg cs456.toArray | 7 => v = .string r459 | 8 => v = .string ((⟨#[99, 97, 115, 101, 32]⟩ : ByteArray) ++ r459) | 9 => v = .string (((⟨#[99, 97, 115, 101, 32]⟩ : ByteArray) ++ r459) ++ (⟨#[32, 111, 102]⟩ : ByteArray)) | _ => True) t_mixed S45.sub rfl rfl rfl rfl rfl ?_ ?_ ?_
       ·intro i v w h w2 h2 hΦ hst
        match i, hΦ with
        | 0, hΦ => exact hΦ
        | 1, hΦ => exact hΦ
        | 2, hΦ => exact hΦ
        | 3, hΦ => exact hΦ
        | 4, hΦ => exact hΦ
        | 5, hΦ => exact hΦ
        | 6, hΦ => exact hΦ
        | 7, hΦ => exact hΦ
        | 8, hΦ => exact hΦ
        | 9, hΦ => exact hΦ
        | i + 10, _ => exact trivial
       ·refine ⟨?_, ?_, ?_, ?_, ?_, ?_, ?_, ?_, ?_, ?_, trivial⟩
        ·intro a w463 h464 s465 hat hF
         have ob466 := ((ob20.step0 s40).step0 s465)
         exact front_val (show At _ [(2, .pointer (some ⟨b17, 0, none⟩)), (3, .pointer (some ⟨b38, 0, none⟩))] _ from hat) rfl (ov_load1 rfl t_agg_77 (OB.cell ob466 (j := 0) rfl)) s465.sub (by exact rfl)
        ·intro a w463 h464 s465 hat hF
         obtain hv0 := hF 0 119 rfl rfl
         exact front_val (show At _ [(119, .pointer (some ⟨b1, 0, none⟩)), (2, .pointer (some ⟨b17, 0, none⟩)), (3, .pointer (some ⟨b38, 0, none⟩))] _ from (At.cons hat hv0)) rfl (ov_nilCheck rfl) s465.sub (by exact rfl)
        ·intro a w463 h464 s465 hat hF
         obtain hv1 := hF 1 120 rfl rfl
         exact front_val (show At _ [(120, .pointer (some ⟨b1, 0, none⟩)), (2, .pointer (some ⟨b17, 0, none⟩)), (3, .pointer (some ⟨b38, 0, none⟩))] _ from (At.cons hat hv1)) rfl (ov_fieldAddr rfl t_field_55_0) s465.sub (by exact rfl)
        ·intro a w463 h464 s465 hat hF
         exact front_val (show At _ [(2, .pointer (some ⟨b17, 0, none⟩)), (3, .pointer (some ⟨b38, 0, none⟩))] _ from hat) rfl (ov_fieldAddr rfl t_field_44_4) s465.sub (by exact rfl)
        ·intro a w463 h464 s465 hat hF
         obtain hv3 := hF 3 122 rfl rfl
         have ob467 := (ob41.step0 s465)
         exact front_val (show At _ [(122, .pointer (some ⟨b38, 4, none⟩)), (2, .pointer (some ⟨b17, 0, none⟩)), (3, .pointer (some ⟨b38, 0, none⟩))] _ from (At.cons hat hv3)) rfl (ov_load1 rfl t_agg_30 (OB.cell ob467 (j := 4) rfl)) s465.sub (by exact rfl)
        ·intro a w463 h464 s465 hat hF
         obtain hv4 := hF 4 123 rfl rfl
         exact front_val (show At _ [(123, .slice (some ⟨b451, o452, none⟩) (x11.args).length c447), (2, .pointer (some ⟨b17, 0, none⟩)), (3, .pointer (some ⟨b38, 0, none⟩))] _ from (At.cons hat hv4)) rfl (ov_indexAddr rfl rfl t_slice_30 t_size_32 h454 h455) s465.sub (by exact rfl)
        ·intro a w463 h464 s465 hat hF
         obtain hv5 := hF 5 124 rfl rfl
         exact front_val (show At _ [(124, .pointer (some ⟨b451, o452 + Int.toNat 0 * 6, none⟩)), (2, .pointer (some ⟨b17, 0, none⟩)), (3, .pointer (some ⟨b38, 0, none⟩))] _ from (At.cons hat hv5)) rfl (ov_loadN (cs := cs456) rfl t_agg_32 (by rw [Rp.len (Rp.mono (s465.le) r457)]; exact t_size_32) (fun j v hv => s465.sub.at_ _ _ _ ((fun i v hv => (s465.le).1 _ _ _ (hc458 i v hv)) j v hv))) s465.sub (by exact rfl)
        ·intro a w463 h464 s465 hat hF
         obtain hv6 := hF 6 125 rfl rfl
         refine front_call (show At _ [(125, .agg cs456.toArray), (2, .pointer (some ⟨b17, 0, none⟩)), (3, .pointer (some ⟨b38, 0, none⟩))] _ from (At.cons hat hv6)) rfl (oc_func (vs := [.agg cs456.toArray]) rfl t_ent_27) (ok_print_Of _ hr460 s465.sub (Rp.mono (s465.le) r457)) ?_
         rintro _ w468 ⟨h469, s470, rfl⟩
         exact ⟨_, h469, rfl, s470, (by exact rfl)⟩
        ·intro a w463 h464 s465 hat hF
         obtain hv7 := hF 7 126 rfl rfl
         exact front_val (show At _ [(126, .string r459), (2, .pointer (some ⟨b17, 0, none⟩)), (3, .pointer (some ⟨b38, 0, none⟩))] _ from (At.cons hat hv7)) rfl (ov_addS rfl rfl hl461) s465.sub (by exact rfl)
        ·intro a w463 h464 s465 hat hF
         obtain hv8 := hF 8 127 rfl rfl
         exact front_val (show At _ [(127, .string ((⟨#[99, 97, 115, 101, 32]⟩ : ByteArray) ++ r459)), (2, .pointer (some ⟨b17, 0, none⟩)), (3, .pointer (some ⟨b38, 0, none⟩))] _ from (At.cons hat hv8)) rfl (ov_addS rfl rfl hl462) s465.sub (by exact rfl)
       ·intro a w463 h464 s465 hat hF
        obtain hv0 := hF 0 119 (by decide) rfl
        obtain hv1 := hF 1 120 (by decide) rfl
        obtain hv2 := hF 2 121 (by decide) rfl
        obtain hv3 := hF 3 122 (by decide) rfl
        obtain hv4 := hF 4 123 (by decide) rfl
        obtain hv5 := hF 5 124 (by decide) rfl
        obtain hv6 := hF 6 125 (by decide) rfl
        obtain hv7 := hF 7 126 (by decide) rfl
        obtain hv8 := hF 8 127 (by decide) rfl
        obtain hv9 := hF 9 128 (by decide) rfl
        refine WL.at_ [(128, .string (((⟨#[99, 97, 115, 101, 32]⟩ : ByteArray) ++ r459) ++ (⟨#[32, 111, 102]⟩ : ByteArray))), (127, .string ((⟨#[99, 97, 115, 101, 32]⟩ : ByteArray) ++ r459)), (126, .string r459), (125, .agg cs456.toArray), (124, .pointer (some ⟨b451, o452 + Int.toNat 0 * 6, none⟩)), (123, .slice (some ⟨b451, o452, none⟩) (x11.args).length c447), (122, .pointer (some ⟨b38, 4, none⟩)), (121, .pointer (some ⟨b1, 0, none⟩)), (120, .pointer (some ⟨b1, 0, none⟩)), (119, .pointer (some ⟨b1, 0, none⟩)), (2, .pointer (some ⟨b17, 0, none⟩)), (3, .pointer (some ⟨b38, 0, none⟩))] (At.cons (At.cons (At.cons (At.cons (At.cons (At.cons (At.cons (At.cons (At.cons (At.cons hat hv0) hv1) hv2) hv3) hv4) hv5) hv6) hv7) hv8) hv9) ?_
        have S471 := S45.trans0 s465
        have ob472 := ((ob24.step0 s40).step0 s465)
        obtain ⟨r473, hr474, HF⟩ := bind_some HF
        refine WL.call rfl rfl rfl (oc_func (vs := [.pointer (some ⟨b1, 0, none⟩), .string (((⟨#[99, 97, 115, 101, 32]⟩ : ByteArray) ++ r459) ++ (⟨#[32, 111, 102]⟩ : ByteArray))]) rfl t_ent_39) (ok_print_lines_line _ hr474 S471.sub (rs6.mono ((s19.le).trans ((s40.le).trans s465.le))) (by rw [S471.eqb]; exact (((ow7.step0 s19).step0 s40).step0 s465)) ob472 tn14) ?_
        have ob479 := ((ob20.step0 s40).step0 s465)
        have ob480 := (ob41.step0 s465)
        rintro v475 w476 ⟨h477, s478, rfl, ⟨v481, rs482, ow483, om484, ob487⟩⟩
        have ow485 := Own.rb ow483 S471.eqb
        have om486 : ∀ i ∈ v481.ownBlock.toList, i ∈ (Value.slice A4 xs3.length c5).ownBlock.toList ∨ w0.heap.size ≤ i := fun i hi => (om484 i hi).elim (fun q => om8 i q) (fun q => .inr (Nat.le_trans S471.size q))
        have S488 := S471.trans s478 (in_cons (.inl (by simp)) (in_own (fun i hi => (om8 i hi).elim (fun q => .inl (by simp only [List.mem_cons, List.mem_append]; simp [q])) .inr) in_nil))
        refine WL.nil <| WQ.seqN <| WC.seq <| WC.region ?_
        have ob489 := (ob479.step s478 (ni_cons (Ne.symm ne21) (ni_own (fun hm => (((ow7.step0 s19).step0 s40).step0 s465).ne ob479 (by decide) _ hm rfl) ni_nil)))
        refine WL.val rfl rfl rfl (ov_load1 rfl t_agg_77 (OB.cell ob489 (j := 0) rfl)) <| WL.val rfl rfl rfl (ov_nilCheck rfl) <| WL.val rfl rfl rfl (ov_fieldAddr rfl t_field_55_0) <| WL.val rfl rfl rfl (ov_makeFunc (vs := [.pointer (some ⟨b38, 0, none⟩), .pointer (some ⟨b17, 0, none⟩)]) rfl) ?_
        obtain ⟨A490, c491, rfl, rs492⟩ := RS.form rs482
        have ob493 := (ob480.step s478 (ni_cons (Ne.symm ne42) (ni_own (fun hm => (((ow7.step0 s19).step0 s40).step0 s465).ne ob480 (by decide) _ hm rfl) ni_nil)))
        obtain ⟨r494, hr495, HF⟩ := bind_some HF
        refine WL.call rfl rfl rfl (oc_func (vs := [.pointer (some ⟨b1, 0, none⟩), .func (.func 44) #[] #[.pointer (some ⟨b38, 0, none⟩), .pointer (some ⟨b17, 0, none⟩)]]) rfl t_ent_43) ((IH _ (Nat.le_refl _)).2.2.2.2.2.1 hr495 S488.sub rs492 (by rw [S488.eqb]; exact ow485) (rs26.mono ((s40.le).trans ((s465.le).trans s478.le))) (rs28.mono ((s40.le).trans ((s465.le).trans s478.le))) (rs448.mono ((s465.le).trans s478.le)) (rs32.mono ((s40.le).trans ((s465.le).trans s478.le))) (rs34.mono ((s40.le).trans ((s465.le).trans s478.le))) (rs36.mono ((s40.le).trans ((s465.le).trans s478.le))) ob487 ob493 ob489 ne42 ne21 (Ne.symm ne43) tn14 (by decide) (by decide)) ?_
        rintro v496 w497 ⟨h498, s499, rfl, ⟨v500, rs501, ow502, om503, ob506⟩⟩
        have ow504 := Own.rb ow502 S488.eqb
        have om505 : ∀ i ∈ v500.ownBlock.toList, i ∈ (Value.slice A4 xs3.length c5).ownBlock.toList ∨ w0.heap.size ≤ i := fun i hi => (om503 i hi).elim (fun q => om486 i q) (fun q => .inr (Nat.le_trans S488.size q))
        have S507 := S488.trans s499 (in_cons (.inl (by simp)) (in_own (fun i hi => (om486 i hi).elim (fun q => .inl (by simp only [List.mem_cons, List.mem_append]; simp [q])) .inr) in_nil))
        refine WL.nil <| WQ.seqN <| WC.seq <| WC.region ?_
        have ob508 := (ob489.step s499 (ni_cons (Ne.symm ne21) (ni_own (fun hm => ow485.ne ob489 (by decide) _ hm rfl) ni_nil)))
        refine WL.val rfl rfl rfl (ov_load1 rfl t_agg_77 (OB.cell ob508 (j := 0) rfl)) ?_
        have ob509 := (ob493.step s499 (ni_cons (Ne.symm ne42) (ni_own (fun hm => ow485.ne ob493 (by decide) _ hm rfl) ni_nil)))
        refine WL.val rfl rfl rfl (ov_loadN (cs := [.int .i64 x11.op, .string x11.name, v25, v27, .slice (some ⟨b451, o452, none⟩) (x11.args).length c447, .int .i64 x11.n, v31, v33, v35, .bool x11.els]) rfl t_agg_44 t_size_44 (OB.cells ob509 0 rfl)) ?_
        obtain ⟨A510, c511, rfl, rs512⟩ := RS.form rs501
        obtain ⟨r513, hr514, HF⟩ := bind_some HF
        refine WL.call rfl rfl rfl (oc_func (vs := [.pointer (some ⟨b1, 0, none⟩), .agg #[.int .i64 x11.op, .string x11.name, v25, v27, .slice (some ⟨b451, o452, none⟩) (x11.args).length c447, .int .i64 x11.n, v31, v33, v35, .bool x11.els]]) rfl t_ent_42) ((IH _ (Nat.le_refl _)).2.2.2.2.2.2.2 hr514 S507.sub rs512 (by rw [S507.eqb]; exact ow504) (rp_St.2 ⟨_, _, _, _, _, _, rfl, (rs26.mono ((s40.le).trans ((s465.le).trans ((s478.le).trans s499.le)))), (rs28.mono ((s40.le).trans ((s465.le).trans ((s478.le).trans s499.le)))), (rs448.mono ((s465.le).trans ((s478.le).trans s499.le))), (rs32.mono ((s40.le).trans ((s465.le).trans ((s478.le).trans s499.le)))), (rs34.mono ((s40.le).trans ((s465.le).trans ((s478.le).trans s499.le)))), (rs36.mono ((s40.le).trans ((s465.le).trans ((s478.le).trans s499.le))))⟩) ob506 tn14) ?_
        rintro v515 w516 ⟨h517, s518, rfl, ⟨v519, rs520, ow521, om522, ob525⟩⟩
        have ow523 := Own.rb ow521 S507.eqb
        have om524 : ∀ i ∈ v519.ownBlock.toList, i ∈ (Value.slice A4 xs3.length c5).ownBlock.toList ∨ w0.heap.size ≤ i := fun i hi => (om522 i hi).elim (fun q => om505 i q) (fun q => .inr (Nat.le_trans S507.size q))
        have S526 := S507.trans s518 (in_cons (.inl (by simp)) (in_own (fun i hi => (om505 i hi).elim (fun q => .inl (by simp only [List.mem_cons, List.mem_append]; simp [q])) .inr) in_nil))
        refine WL.nil <| WQ.seqN <| WC.region ?_
        have ob527 := (ob508.step s518 (ni_cons (Ne.symm ne21) (ni_own (fun hm => ow504.ne ob508 (by decide) _ hm rfl) ni_nil)))
        refine WL.val rfl rfl rfl (ov_load1 rfl t_agg_77 (OB.cell ob527 (j := 0) rfl)) <| WL.val rfl rfl rfl (ov_nilCheck rfl) <| WL.val rfl rfl rfl (ov_fieldAddr rfl t_field_55_0) ?_
        obtain ⟨A528, c529, rfl, rs530⟩ := RS.form rs520
        obtain ⟨r531, hr532, HF⟩ := bind_some HF
        refine WL.call rfl rfl rfl (oc_func (vs := [.pointer (some ⟨b1, 0, none⟩), .string (⟨#[101, 110, 100, 95, 99, 97, 115, 101, 59]⟩ : ByteArray)]) rfl t_ent_39) (ok_print_lines_line _ hr532 S526.sub rs530 (by rw [S526.eqb]; exact ow523) ob525 tn14) ?_
        have ob537 := (ob509.step s518 (ni_cons (Ne.symm ne42) (ni_own (fun hm => ow504.ne ob509 (by decide) _ hm rfl) ni_nil)))
        rintro v533 w534 ⟨h535, s536, rfl, ⟨v538, rs539, ow540, om541, ob544⟩⟩
        have ow542 := Own.rb ow540 S526.eqb
        have om543 : ∀ i ∈ v538.ownBlock.toList, i ∈ (Value.slice A4 xs3.length c5).ownBlock.toList ∨ w0.heap.size ≤ i := fun i hi => (om541 i hi).elim (fun q => om524 i q) (fun q => .inr (Nat.le_trans S526.size q))
        have S545 := S526.trans s536 (in_cons (.inl (by simp)) (in_own (fun i hi => (om524 i hi).elim (fun q => .inl (by simp only [List.mem_cons, List.mem_append]; simp [q])) .inr) in_nil))
        refine WL.nil <| WQ.blockN <| WQ.end0 rfl ?_
        obtain rfl := Option.some.inj HF
        exact ⟨_, rfl, h535, S545, rfl, ⟨_, rs539, ow542, om543, ob544⟩⟩
      ·replace HF := bif_f hb445 HF
       refine WC.region ?_
       have ob546 := (ob20.step0 s40)
       refine WL.val rfl rfl rfl (ov_load1 rfl t_agg_77 (OB.cell ob546 (j := 0) rfl)) <| WL.val rfl rfl rfl (ov_loadN (cs := [.int .i64 x11.op, .string x11.name, v25, v27, v29, .int .i64 x11.n, v31, v33, v35, .bool x11.els]) rfl t_agg_44 t_size_44 (OB.cells ob41 0 rfl)) ?_
       have ob547 := (ob24.step0 s40)
       obtain ⟨r548, hr549, HF⟩ := bind_some HF
       refine WL.call rfl rfl rfl (oc_func (vs := [.pointer (some ⟨b1, 0, none⟩), .agg #[.int .i64 x11.op, .string x11.name, v25, v27, v29, .int .i64 x11.n, v31, v33, v35, .bool x11.els]]) rfl t_ent_46) ((IH _ (Nat.le_refl _)).2.1 hr549 S45.sub (rs6.mono ((s19.le).trans s40.le)) (by rw [S45.eqb]; exact ((ow7.step0 s19).step0 s40)) (rp_St.2 ⟨_, _, _, _, _, _, rfl, (rs26.mono (s40.le)), (rs28.mono (s40.le)), (rs30.mono (s40.le)), (rs32.mono (s40.le)), (rs34.mono (s40.le)), (rs36.mono (s40.le))⟩) ob547 tn14) ?_
       rintro v550 w551 ⟨h552, s553, rfl, ⟨v554, rs555, ow556, om557, ob560⟩⟩
       have ow558 := Own.rb ow556 S45.eqb
       have om559 : ∀ i ∈ v554.ownBlock.toList, i ∈ (Value.slice A4 xs3.length c5).ownBlock.toList ∨ w0.heap.size ≤ i := fun i hi => (om557 i hi).elim (fun q => om8 i q) (fun q => .inr (Nat.le_trans S45.size q))
       have S561 := S45.trans s553 (in_cons (.inl (by simp)) (in_own (fun i hi => (om8 i hi).elim (fun q => .inl (by simp only [List.mem_cons, List.mem_append]; simp [q])) .inr) in_nil))
       refine WL.nil <| WQ.blockN <| WQ.end0 rfl ?_
       obtain rfl := Option.some.inj HF
       exact ⟨_, rfl, h552, S561, rfl, ⟨_, rs555, ow558, om559, ob560⟩⟩
set_option maxRecDepth 20000 in
set_option maxHeartbeats 4000000 in
theorem s_print_printer_loop (k : Nat) (IH : ∀ j, j ≤ k → C_print_printer_stmt (tie_print_printer_stmt j).print_printer_stmt ∧ C_print_printer_loop (tie_print_printer_stmt j).print_printer_loop ∧ C_print_printer_text (tie_print_printer_stmt j).print_printer_text ∧ C_print_lines_inside_v1 (tie_print_printer_stmt j).print_lines_inside_v1 ∧ C_print_printer_text_1 (tie_print_printer_stmt j).print_printer_text_1 ∧ C_print_lines_inside (tie_print_printer_stmt j).print_lines_inside ∧ C_print_printer_stmt_1 (tie_print_printer_stmt j).print_printer_stmt_1 ∧ C_print_printer_other (tie_print_printer_stmt j).print_printer_other) : C_print_printer_loop (m_print_printer_loop k (tie_print_printer_stmt k)) := by
 intro x2 xs3 x9 x11 r HF w0 h0 b1 A4 c5 cs12 hs0 rs6 ow7 r13 ob10 tn14
 have S0 : Stp (b1 :: ((Value.slice A4 xs3.length c5).ownBlock.toList ++ [])) w0 h0 w0 h0 := Stp.refl hs0 _
 have om8 : ∀ i ∈ (Value.slice A4 xs3.length c5).ownBlock.toList, i ∈ (Value.slice A4 xs3.length c5).ownBlock.toList ∨ w0.heap.size ≤ i := fun i hi => .inl hi
 have lt15 : b1 < w0.heap.size := OB.lt ob10
 refine enter (n := 93) Tryz.func46 rfl Tryz.ntmps46 rfl [(0, .pointer (some ⟨b1, 0, none⟩)), (1, .agg cs12.toArray)] rfl <| WC.seq <| WC.region ?_
 obtain ⟨v16, v18, v20, v22, v24, v26, rfl, rs17, rs19, rs21, rs23, rs25, rs27⟩ := rp_St.1 r13
 refine WL.box (cs := [.int .i64 x11.op, .string x11.name, v16, v18, v20, .int .i64 x11.n, v22, v24, v26, .bool x11.els]) rfl rfl rfl rfl S0.sub (fun w28 b29 hb30 s31 ob32 => ?_)
 have ne33 : b1 ≠ b29 := ob10.ne_new hb30
 have g34 : w0.heap.size ≤ b29 := by rw [hb30]; exact S0.size
 have S35 := S0.trans0 s31
 refine WL.nil <| WQ.seqN <| WC.seq <| WC.region <| WL.val rfl rfl rfl (ov_fieldAddr rfl t_field_44_0) <| WL.val rfl rfl rfl (ov_load1 rfl t_agg_3 (OB.cell ob32 (j := 0) rfl)) <| WL.nil <| WQ.seqN <| WC.block <| WC.seq <| WC.region <| WL.val rfl rfl rfl (ov_eql rfl rfl) <| WL.val rfl rfl rfl (ov_assign rfl) <| WL.nil <| WQ.seqN <| WC.cond (b := (x11.op : Int) == 5) rfl (fun hb36 => ?_) (fun hb36 => ?_)
 ·replace HF := bif_t hb36 HF
  refine WC.seq <| WC.region <| WL.val rfl rfl rfl (ov_assign rfl) <| WL.nil <| WQ.seqN <| WC.join (fun E w48 => ∃ (h47 : Hp) (x51 : ByteArray) (xs52 : List UInt8) (v53 : Value), print_printer_loop_j1 k (tie_print_printer_stmt k) x2 x9 x11 x51 xs52 = some r ∧ E = [(0, .pointer (some ⟨b1, 0, none⟩)), (3, .pointer (some ⟨b29, 0, none⟩)), (4, .string x51)] ∧ Stp (b1 :: ((Value.slice A4 xs3.length c5).ownBlock.toList ++ [])) w0 h0 w48 h47 ∧ Hle h0 h47 ∧ RS h47 v53 xs52 ∧ Own w48 h47 h0.base 5 1 v53 xs52.length ∧ (∀ i ∈ v53.ownBlock.toList, i ∈ (Value.slice A4 xs3.length c5).ownBlock.toList ∨ w0.heap.size ≤ i) ∧ OB w48 h47 b1 55 [.pointer (bif x2 then some ⟨b1, 0, none⟩ else none), v53, .string x9] ∧ OB w48 h47 b29 44 [.int .i64 x11.op, .string x11.name, v16, v18, v20, .int .i64 x11.n, v22, v24, v26, .bool x11.els]) ?_ ?_
  ·rintro E w48 ⟨h47, x51, xs52, v53, HF, rfl, S50, le49, rs54, ow55, om56, ob57, ob58⟩
   refine WC.seq ?_
   obtain ⟨hl59, HF⟩ := ite_none HF
   obtain ⟨hl60, HF⟩ := ite_none HF
   obtain ⟨A61, c62, rfl, rs63⟩ := RS.form (rs21.mono ((s31.le).trans le49))
   obtain ⟨e64, he65, HF⟩ := bind_some HF
   obtain ⟨b66, o67, rfl, h69, h70, ra68⟩ := RS.atO rs63 he65
   obtain ⟨cs71, r72, hc73⟩ := ra68
   obtain ⟨r74, hr75, HF⟩ := bind_some HF
   obtain ⟨hl76, HF⟩ := ite_none HF
   obtain ⟨hl77, HF⟩ := ite_none HF
   obtain ⟨e78, he79, HF⟩ := bind_some HF
   obtain ⟨b80, o81, hA, h83, h84, ra82⟩ := RS.atO rs63 he79
   obtain ⟨rfl, rfl⟩ := some_addr hA
   obtain ⟨cs85, r86, hc87⟩ := ra82
   obtain ⟨r88, hr89, HF⟩ := bind_some HF
   obtain ⟨hl90, HF⟩ := ite_none HF
   obtain ⟨hl91, HF⟩ := ite_none HF
   obtain ⟨hl92, HF⟩ := ite_none HF
   refine WC.drawn (m := 23) [(0, .pointer (some ⟨b1, 0, none⟩)), (3, .pointer (some ⟨b29, 0, none⟩)), (4, .string x51)] [0, 3, 4] rfl (fun i v w h => match i with | 0 => v = .pointer (some ⟨b1, 0, none⟩) | 1 => v = .pointer (some ⟨b1, 0, none⟩) | 2 => v = .pointer (some ⟨b1, 0, none⟩) | 3 => v = .pointer (some ⟨b29, 1, none⟩) | 4 => v = .string x11.name | 5 => v = .string ((⟨#[102, 111, 114, 32]⟩ : ByteArray) ++ x11.name) | 6 => v = .string (((⟨#[102, 111, 114, 32]⟩ : ByteArray) ++ x11.name) ++ (⟨#[32, 58, 61, 32]⟩ : ByteArray)) | 7 => v = .pointer (some ⟨b29, 4, none⟩) | 8 => v = .slice (some ⟨b66, o67, none⟩) (x11.args).length c62 | 9 => v = .pointer (some ⟨b66, o67 + Int.toNat 0 * 6, none⟩) | 10 => v = .agg cs71.toArray | 11 => v = .string r74 | 12 => v = .string ((((⟨#[102, 111, 114, 32]⟩ : ByteArray) ++ x11.name) ++ (⟨#[32, 58, 61, 32]⟩ : ByteArray)) ++ r74) | 13 => v = .string (((((⟨#[102, 111, 114, 32]⟩ : ByteArray) ++ x11.name) ++ (⟨#[32, 58, 61, 32]⟩ : ByteArray)) ++ r74) ++ (⟨#[32, 116, 111, 32]⟩ : ByteArray)) | 14 => v = .pointer (some ⟨b29, 4, none⟩) | 15 => v = .slice (some ⟨b66, o67, none⟩) (x11.args).length c62 | 16 => v = .pointer (some ⟨b66, o67 + Int.toNat 1 * 6, none⟩) | 17 => v = .agg cs85.toArray | 18 => v = .string r88 | 19 => v = .string ((((((⟨#[102, 111, 114, 32]⟩ : ByteArray) ++ x11.name) ++ (⟨#[32, 58, 61, 32]⟩ : ByteArray)) ++ r74) ++ (⟨#[32, 116, 111, 32]⟩ : ByteArray)) ++ r88) | 20 => v = .string x51 | 21 => v = .string (((((((⟨#[102, 111, 114, 32]⟩ : ByteArray) ++ x11.name) ++ (⟨#[32, 58, 61, 32]⟩ : ByteArray)) ++ r74) ++ (⟨#[32, 116, 111, 32]⟩ : ByteArray)) ++ r88) ++ x51) | 22 => v = .string ((((((((⟨#[102, 111, 114, 32]⟩ : ByteArray) ++ x11.name) ++ (⟨#[32, 58, 61, 32]⟩ : ByteArray)) ++ r74) ++ (⟨#[32, 116, 111, 32]⟩ : ByteArray)) ++ r88) ++ x51) ++ (⟨#[32, 100, 111]⟩ : ByteArray)) | _ => True) t_mixed S50.sub rfl rfl rfl rfl rfl ?_ ?_ ?_
   ·intro i v w h w2 h2 hΦ hst
    match i, hΦ with
    | 0, hΦ => exact hΦ
    | 1, hΦ => exact hΦ
    | 2, hΦ => exact hΦ
    | 3, hΦ => exact hΦ
    | 4, hΦ => exact hΦ
    | 5, hΦ => exact hΦ
    | 6, hΦ => exact hΦ
    | 7, hΦ => exact hΦ
    | 8, hΦ => exact hΦ
    | 9, hΦ => exact hΦ
    | 10, hΦ => exact hΦ
    | 11, hΦ => exact hΦ
    | 12, hΦ => exact hΦ
    | 13, hΦ => exact hΦ
    | 14, hΦ => exact hΦ
    | 15, hΦ => exact hΦ
    | 16, hΦ => exact hΦ
    | 17, hΦ => exact hΦ
    | 18, hΦ => exact hΦ
    | 19, hΦ => exact hΦ
    | 20, hΦ => exact hΦ
    | 21, hΦ => exact hΦ
    | 22, hΦ => exact hΦ
    | i + 23, _ => exact trivial
   ·refine ⟨?_, ?_, ?_, ?_, ?_, ?_, ?_, ?_, ?_, ?_, ?_, ?_, ?_, ?_, ?_, ?_, ?_, ?_, ?_, ?_, ?_, ?_, ?_, trivial⟩
    ·intro a w93 h94 s95 hat hF
     exact front_val (show At _ [(0, .pointer (some ⟨b1, 0, none⟩)), (3, .pointer (some ⟨b29, 0, none⟩)), (4, .string x51)] _ from hat) rfl (ov_move rfl) s95.sub (by exact rfl)
    ·intro a w93 h94 s95 hat hF
     obtain hv0 := hF 0 16 rfl rfl
     exact front_val (show At _ [(16, .pointer (some ⟨b1, 0, none⟩)), (0, .pointer (some ⟨b1, 0, none⟩)), (3, .pointer (some ⟨b29, 0, none⟩)), (4, .string x51)] _ from (At.cons hat hv0)) rfl (ov_nilCheck rfl) s95.sub (by exact rfl)
    ·intro a w93 h94 s95 hat hF
     obtain hv1 := hF 1 17 rfl rfl
     exact front_val (show At _ [(17, .pointer (some ⟨b1, 0, none⟩)), (0, .pointer (some ⟨b1, 0, none⟩)), (3, .pointer (some ⟨b29, 0, none⟩)), (4, .string x51)] _ from (At.cons hat hv1)) rfl (ov_fieldAddr rfl t_field_55_0) s95.sub (by exact rfl)
    ·intro a w93 h94 s95 hat hF
     exact front_val (show At _ [(0, .pointer (some ⟨b1, 0, none⟩)), (3, .pointer (some ⟨b29, 0, none⟩)), (4, .string x51)] _ from hat) rfl (ov_fieldAddr rfl t_field_44_1) s95.sub (by exact rfl)
    ·intro a w93 h94 s95 hat hF
     obtain hv3 := hF 3 19 rfl rfl
     have ob96 := (ob58.step0 s95)
     exact front_val (show At _ [(19, .pointer (some ⟨b29, 1, none⟩)), (0, .pointer (some ⟨b1, 0, none⟩)), (3, .pointer (some ⟨b29, 0, none⟩)), (4, .string x51)] _ from (At.cons hat hv3)) rfl (ov_load1 rfl t_agg_9 (OB.cell ob96 (j := 1) rfl)) s95.sub (by exact rfl)
    ·intro a w93 h94 s95 hat hF
     obtain hv4 := hF 4 20 rfl rfl
     exact front_val (show At _ [(20, .string x11.name), (0, .pointer (some ⟨b1, 0, none⟩)), (3, .pointer (some ⟨b29, 0, none⟩)), (4, .string x51)] _ from (At.cons hat hv4)) rfl (ov_addS rfl rfl hl59) s95.sub (by exact rfl)
    ·intro a w93 h94 s95 hat hF
     obtain hv5 := hF 5 21 rfl rfl
     exact front_val (show At _ [(21, .string ((⟨#[102, 111, 114, 32]⟩ : ByteArray) ++ x11.name)), (0, .pointer (some ⟨b1, 0, none⟩)), (3, .pointer (some ⟨b29, 0, none⟩)), (4, .string x51)] _ from (At.cons hat hv5)) rfl (ov_addS rfl rfl hl60) s95.sub (by exact rfl)
    ·intro a w93 h94 s95 hat hF
     exact front_val (show At _ [(0, .pointer (some ⟨b1, 0, none⟩)), (3, .pointer (some ⟨b29, 0, none⟩)), (4, .string x51)] _ from hat) rfl (ov_fieldAddr rfl t_field_44_4) s95.sub (by exact rfl)
    ·intro a w93 h94 s95 hat hF
     obtain hv7 := hF 7 23 rfl rfl
     have ob97 := (ob58.step0 s95)
     exact front_val (show At _ [(23, .pointer (some ⟨b29, 4, none⟩)), (0, .pointer (some ⟨b1, 0, none⟩)), (3, .pointer (some ⟨b29, 0, none⟩)), (4, .string x51)] _ from (At.cons hat hv7)) rfl (ov_load1 rfl t_agg_30 (OB.cell ob97 (j := 4) rfl)) s95.sub (by exact rfl)
    ·intro a w93 h94 s95 hat hF
     obtain hv8 := hF 8 24 rfl rfl
     exact front_val (show At _ [(24, .slice (some ⟨b66, o67, none⟩) (x11.args).length c62), (0, .pointer (some ⟨b1, 0, none⟩)), (3, .pointer (some ⟨b29, 0, none⟩)), (4, .string x51)] _ from (At.cons hat hv8)) rfl (ov_indexAddr rfl rfl t_slice_30 t_size_32 h69 h70) s95.sub (by exact rfl)
    ·intro a w93 h94 s95 hat hF
     obtain hv9 := hF 9 25 rfl rfl
     exact front_val (show At _ [(25, .pointer (some ⟨b66, o67 + Int.toNat 0 * 6, none⟩)), (0, .pointer (some ⟨b1, 0, none⟩)), (3, .pointer (some ⟨b29, 0, none⟩)), (4, .string x51)] _ from (At.cons hat hv9)) rfl (ov_loadN (cs := cs71) rfl t_agg_32 (by rw [Rp.len (Rp.mono (s95.le) r72)]; exact t_size_32) (fun j v hv => s95.sub.at_ _ _ _ ((fun i v hv => (s95.le).1 _ _ _ (hc73 i v hv)) j v hv))) s95.sub (by exact rfl)
    ·intro a w93 h94 s95 hat hF
     obtain hv10 := hF 10 26 rfl rfl
     refine front_call (show At _ [(26, .agg cs71.toArray), (0, .pointer (some ⟨b1, 0, none⟩)), (3, .pointer (some ⟨b29, 0, none⟩)), (4, .string x51)] _ from (At.cons hat hv10)) rfl (oc_func (vs := [.agg cs71.toArray]) rfl t_ent_27) (ok_print_Of _ hr75 s95.sub (Rp.mono (s95.le) r72)) ?_
     rintro _ w98 ⟨h99, s100, rfl⟩
     exact ⟨_, h99, rfl, s100, (by exact rfl)⟩
    ·intro a w93 h94 s95 hat hF
     obtain hv6 := hF 6 22 rfl rfl
     obtain hv11 := hF 11 27 rfl rfl
     exact front_val (show At _ [(27, .string r74), (22, .string (((⟨#[102, 111, 114, 32]⟩ : ByteArray) ++ x11.name) ++ (⟨#[32, 58, 61, 32]⟩ : ByteArray))), (0, .pointer (some ⟨b1, 0, none⟩)), (3, .pointer (some ⟨b29, 0, none⟩)), (4, .string x51)] _ from (At.cons (At.cons hat hv6) hv11)) rfl (ov_addS rfl rfl hl76) s95.sub (by exact rfl)
    ·intro a w93 h94 s95 hat hF
     obtain hv12 := hF 12 28 rfl rfl
     exact front_val (show At _ [(28, .string ((((⟨#[102, 111, 114, 32]⟩ : ByteArray) ++ x11.name) ++ (⟨#[32, 58, 61, 32]⟩ : ByteArray)) ++ r74)), (0, .pointer (some ⟨b1, 0, none⟩)), (3, .pointer (some ⟨b29, 0, none⟩)), (4, .string x51)] _ from (At.cons hat hv12)) rfl (ov_addS rfl rfl hl77) s95.sub (by exact rfl)
    ·intro a w93 h94 s95 hat hF
     exact front_val (show At _ [(0, .pointer (some ⟨b1, 0, none⟩)), (3, .pointer (some ⟨b29, 0, none⟩)), (4, .string x51)] _ from hat) rfl (ov_fieldAddr rfl t_field_44_4) s95.sub (by exact rfl)
    ·intro a w93 h94 s95 hat hF
     obtain hv14 := hF 14 30 rfl rfl
     have ob101 := (ob58.step0 s95)
     exact front_val (show At _ [(30, .pointer (some ⟨b29, 4, none⟩)), (0, .pointer (some ⟨b1, 0, none⟩)), (3, .pointer (some ⟨b29, 0, none⟩)), (4, .string x51)] _ from (At.cons hat hv14)) rfl (ov_load1 rfl t_agg_30 (OB.cell ob101 (j := 4) rfl)) s95.sub (by exact rfl)
    ·intro a w93 h94 s95 hat hF
     obtain hv15 := hF 15 31 rfl rfl
     exact front_val (show At _ [(31, .slice (some ⟨b66, o67, none⟩) (x11.args).length c62), (0, .pointer (some ⟨b1, 0, none⟩)), (3, .pointer (some ⟨b29, 0, none⟩)), (4, .string x51)] _ from (At.cons hat hv15)) rfl (ov_indexAddr rfl rfl t_slice_30 t_size_32 h83 h84) s95.sub (by exact rfl)
    ·intro a w93 h94 s95 hat hF
     obtain hv16 := hF 16 32 rfl rfl
     exact front_val (show At _ [(32, .pointer (some ⟨b66, o67 + Int.toNat 1 * 6, none⟩)), (0, .pointer (some ⟨b1, 0, none⟩)), (3, .pointer (some ⟨b29, 0, none⟩)), (4, .string x51)] _ from (At.cons hat hv16)) rfl (ov_loadN (cs := cs85) rfl t_agg_32 (by rw [Rp.len (Rp.mono (s95.le) r86)]; exact t_size_32) (fun j v hv => s95.sub.at_ _ _ _ ((fun i v hv => (s95.le).1 _ _ _ (hc87 i v hv)) j v hv))) s95.sub (by exact rfl)
    ·intro a w93 h94 s95 hat hF
     obtain hv17 := hF 17 33 rfl rfl
     refine front_call (show At _ [(33, .agg cs85.toArray), (0, .pointer (some ⟨b1, 0, none⟩)), (3, .pointer (some ⟨b29, 0, none⟩)), (4, .string x51)] _ from (At.cons hat hv17)) rfl (oc_func (vs := [.agg cs85.toArray]) rfl t_ent_27) (ok_print_Of _ hr89 s95.sub (Rp.mono (s95.le) r86)) ?_
     rintro _ w102 ⟨h103, s104, rfl⟩
     exact ⟨_, h103, rfl, s104, (by exact rfl)⟩
    ·intro a w93 h94 s95 hat hF
     obtain hv13 := hF 13 29 rfl rfl
     obtain hv18 := hF 18 34 rfl rfl
     exact front_val (show At _ [(34, .string r88), (29, .string (((((⟨#[102, 111, 114, 32]⟩ : ByteArray) ++ x11.name) ++ (⟨#[32, 58, 61, 32]⟩ : ByteArray)) ++ r74) ++ (⟨#[32, 116, 111, 32]⟩ : ByteArray))), (0, .pointer (some ⟨b1, 0, none⟩)), (3, .pointer (some ⟨b29, 0, none⟩)), (4, .string x51)] _ from (At.cons (At.cons hat hv13) hv18)) rfl (ov_addS rfl rfl hl90) s95.sub (by exact rfl)
    ·intro a w93 h94 s95 hat hF
     exact front_val (show At _ [(0, .pointer (some ⟨b1, 0, none⟩)), (3, .pointer (some ⟨b29, 0, none⟩)), (4, .string x51)] _ from hat) rfl (ov_move rfl) s95.sub (by exact rfl)
    ·intro a w93 h94 s95 hat hF
     obtain hv19 := hF 19 35 rfl rfl
     obtain hv20 := hF 20 36 rfl rfl
     exact front_val (show At _ [(36, .string x51), (35, .string ((((((⟨#[102, 111, 114, 32]⟩ : ByteArray) ++ x11.name) ++ (⟨#[32, 58, 61, 32]⟩ : ByteArray)) ++ r74) ++ (⟨#[32, 116, 111, 32]⟩ : ByteArray)) ++ r88)), (0, .pointer (some ⟨b1, 0, none⟩)), (3, .pointer (some ⟨b29, 0, none⟩)), (4, .string x51)] _ from (At.cons (At.cons hat hv19) hv20)) rfl (ov_addS rfl rfl hl91) s95.sub (by exact rfl)
    ·intro a w93 h94 s95 hat hF
     obtain hv21 := hF 21 37 rfl rfl
     exact front_val (show At _ [(37, .string (((((((⟨#[102, 111, 114, 32]⟩ : ByteArray) ++ x11.name) ++ (⟨#[32, 58, 61, 32]⟩ : ByteArray)) ++ r74) ++ (⟨#[32, 116, 111, 32]⟩ : ByteArray)) ++ r88) ++ x51)), (0, .pointer (some ⟨b1, 0, none⟩)), (3, .pointer (some ⟨b29, 0, none⟩)), (4, .string x51)] _ from (At.cons hat hv21)) rfl (ov_addS rfl rfl hl92) s95.sub (by exact rfl)
   ·intro a w93 h94 s95 hat hF
    obtain hv0 := hF 0 16 (by decide) rfl
    obtain hv1 := hF 1 17 (by decide) rfl
    obtain hv2 := hF 2 18 (by decide) rfl
    obtain hv3 := hF 3 19 (by decide) rfl
    obtain hv4 := hF 4 20 (by decide) rfl
    obtain hv5 := hF 5 21 (by decide) rfl
    obtain hv6 := hF 6 22 (by decide) rfl
    obtain hv7 := hF 7 23 (by decide) rfl
    obtain hv8 := hF 8 24 (by decide) rfl
    obtain hv9 := hF 9 25 (by decide) rfl
    obtain hv10 := hF 10 26 (by decide) rfl
    obtain hv11 := hF 11 27 (by decide) rfl
    obtain hv12 := hF 12 28 (by decide) rfl
    obtain hv13 := hF 13 29 (by decide) rfl
    obtain hv14 := hF 14 30 (by decide) rfl
    obtain hv15 := hF 15 31 (by decide) rfl
    obtain hv16 := hF 16 32 (by decide) rfl
    obtain hv17 := hF 17 33 (by decide) rfl
    obtain hv18 := hF 18 34 (by decide) rfl
    obtain hv19 := hF 19 35 (by decide) rfl
    obtain hv20 := hF 20 36 (by decide) rfl
    obtain hv21 := hF 21 37 (by decide) rfl
    obtain hv22 := hF 22 38 (by decide) rfl
    refine WL.at_ [(38, .string ((((((((⟨#[102, 111, 114, 32]⟩ : ByteArray) ++ x11.name) ++ (⟨#[32, 58, 61, 32]⟩ : ByteArray)) ++ r74) ++ (⟨#[32, 116, 111, 32]⟩ : ByteArray)) ++ r88) ++ x51) ++ (⟨#[32, 100, 111]⟩ : ByteArray))), (37, .string (((((((⟨#[102, 111, 114, 32]⟩ : ByteArray) ++ x11.name) ++ (⟨#[32, 58, 61, 32]⟩ : ByteArray)) ++ r74) ++ (⟨#[32, 116, 111, 32]⟩ : ByteArray)) ++ r88) ++ x51)), (36, .string x51), (35, .string ((((((⟨#[102, 111, 114, 32]⟩ : ByteArray) ++ x11.name) ++ (⟨#[32, 58, 61, 32]⟩ : ByteArray)) ++ r74) ++ (⟨#[32, 116, 111, 32]⟩ : ByteArray)) ++ r88)), (34, .string r88), (33, .agg cs85.toArray), (32, .pointer (some ⟨b66, o67 + Int.toNat 1 * 6, none⟩)), (31, .slice (some ⟨b66, o67, none⟩) (x11.args).length c62), (30, .pointer (some ⟨b29, 4, none⟩)), (29, .string (((((⟨#[102, 111, 114, 32]⟩ : ByteArray) ++ x11.name) ++ (⟨#[32, 58, 61, 32]⟩ : ByteArray)) ++ r74) ++ (⟨#[32, 116, 111, 32]⟩ : ByteArray))), (28, .string ((((⟨#[102, 111, 114, 32]⟩ : ByteArray) ++ x11.name) ++ (⟨#[32, 58, 61, 32]⟩ : ByteArray)) ++ r74)), (27, .string r74), (26, .agg cs71.toArray), (25, .pointer (some ⟨b66, o67 + Int.toNat 0 * 6, none⟩)), (24, .slice (some ⟨b66, o67, none⟩) (x11.args).length c62), (23, .pointer (some ⟨b29, 4, none⟩)), (22, .string (((⟨#[102, 111, 114, 32]⟩ : ByteArray) ++ x11.name) ++ (⟨#[32, 58, 61, 32]⟩ : ByteArray))), (21, .string ((⟨#[102, 111, 114, 32]⟩ : ByteArray) ++ x11.name)), (20, .string x11.name), (19, .pointer (some ⟨b29, 1, none⟩)), (18, .pointer (some ⟨b1, 0, none⟩)), (17, .pointer (some ⟨b1, 0, none⟩)), (16, .pointer (some ⟨b1, 0, none⟩)), (0, .pointer (some ⟨b1, 0, none⟩)), (3, .pointer (some ⟨b29, 0, none⟩)), (4, .string x51)] (At.cons (At.cons (At.cons (At.cons (At.cons (At.cons (At.cons (At.cons (At.cons (At.cons (At.cons (At.cons (At.cons (At.cons (At.cons (At.cons (At.cons (At.cons (At.cons (At.cons (At.cons (At.cons (At.cons hat hv0) hv1) hv2) hv3) hv4) hv5) hv6) hv7) hv8) hv9) hv10) hv11) hv12) hv13) hv14) hv15) hv16) hv17) hv18) hv19) hv20) hv21) hv22) ?_
    have S105 := S50.trans0 s95
    obtain ⟨A106, c107, rfl, rs108⟩ := RS.form (rs54.mono (s95.le))
    have ob109 := (ob57.step0 s95)
    obtain ⟨r110, hr111, HF⟩ := bind_some HF
    refine WL.call rfl rfl rfl (oc_func (vs := [.pointer (some ⟨b1, 0, none⟩), .string ((((((((⟨#[102, 111, 114, 32]⟩ : ByteArray) ++ x11.name) ++ (⟨#[32, 58, 61, 32]⟩ : ByteArray)) ++ r74) ++ (⟨#[32, 116, 111, 32]⟩ : ByteArray)) ++ r88) ++ x51) ++ (⟨#[32, 100, 111]⟩ : ByteArray))]) rfl t_ent_39) (ok_print_lines_line _ hr111 S105.sub rs108 (by rw [S105.eqb]; exact (ow55.step0 s95)) ob109 tn14) ?_
    have ob116 := (ob58.step0 s95)
    rintro v112 w113 ⟨h114, s115, rfl, ⟨v117, rs118, ow119, om120, ob123⟩⟩
    have ow121 := Own.rb ow119 S105.eqb
    have om122 : ∀ i ∈ v117.ownBlock.toList, i ∈ (Value.slice A4 xs3.length c5).ownBlock.toList ∨ w0.heap.size ≤ i := fun i hi => (om120 i hi).elim (fun q => om56 i q) (fun q => .inr (Nat.le_trans S105.size q))
    have S124 := S105.trans s115 (in_cons (.inl (by simp)) (in_own (fun i hi => (om56 i hi).elim (fun q => .inl (by simp only [List.mem_cons, List.mem_append]; simp [q])) .inr) in_nil))
    refine WL.nil <| WQ.seqN <| WC.seq <| WC.region <| WL.val rfl rfl rfl (ov_move rfl) <| WL.val rfl rfl rfl (ov_fieldAddr rfl t_field_44_6) ?_
    have ob125 := (ob116.step s115 (ni_cons (Ne.symm ne33) (ni_own (fun hm => (ow55.step0 s95).ne ob116 (by decide) _ hm rfl) ni_nil)))
    refine WL.val rfl rfl rfl (ov_load1 rfl t_agg_22 (OB.cell ob125 (j := 6) rfl)) ?_
    obtain ⟨A126, c127, rfl, rs128⟩ := RS.form rs118
    obtain ⟨r129, hr130, HF⟩ := bind_some HF
    refine WL.call rfl rfl rfl (oc_func (vs := [.pointer (some ⟨b1, 0, none⟩), v22]) rfl t_ent_41) ((IH _ (Nat.le_refl _)).2.2.1 hr130 S124.sub rs128 (by rw [S124.eqb]; exact ow121) (rs23.mono ((s31.le).trans ((le49).trans ((s95.le).trans s115.le)))) ob123 tn14) ?_
    rintro v131 w132 ⟨h133, s134, rfl, ⟨v135, rs136, ow137, om138, ob141⟩⟩
    have ow139 := Own.rb ow137 S124.eqb
    have om140 : ∀ i ∈ v135.ownBlock.toList, i ∈ (Value.slice A4 xs3.length c5).ownBlock.toList ∨ w0.heap.size ≤ i := fun i hi => (om138 i hi).elim (fun q => om122 i q) (fun q => .inr (Nat.le_trans S124.size q))
    have S142 := S124.trans s134 (in_cons (.inl (by simp)) (in_own (fun i hi => (om122 i hi).elim (fun q => .inl (by simp only [List.mem_cons, List.mem_append]; simp [q])) .inr) in_nil))
    refine WL.nil <| WQ.seqN <| WC.region <| WL.val rfl rfl rfl (ov_move rfl) <| WL.val rfl rfl rfl (ov_nilCheck rfl) <| WL.val rfl rfl rfl (ov_fieldAddr rfl t_field_55_0) ?_
    obtain ⟨A143, c144, rfl, rs145⟩ := RS.form rs136
    obtain ⟨r146, hr147, HF⟩ := bind_some HF
    refine WL.call rfl rfl rfl (oc_func (vs := [.pointer (some ⟨b1, 0, none⟩), .string (⟨#[101, 110, 100, 95, 102, 111, 114, 59]⟩ : ByteArray)]) rfl t_ent_39) (ok_print_lines_line _ hr147 S142.sub rs145 (by rw [S142.eqb]; exact ow139) ob141 tn14) ?_
    have ob152 := (ob125.step s134 (ni_cons (Ne.symm ne33) (ni_own (fun hm => ow121.ne ob125 (by decide) _ hm rfl) ni_nil)))
    rintro v148 w149 ⟨h150, s151, rfl, ⟨v153, rs154, ow155, om156, ob159⟩⟩
    have ow157 := Own.rb ow155 S142.eqb
    have om158 : ∀ i ∈ v153.ownBlock.toList, i ∈ (Value.slice A4 xs3.length c5).ownBlock.toList ∨ w0.heap.size ≤ i := fun i hi => (om156 i hi).elim (fun q => om140 i q) (fun q => .inr (Nat.le_trans S142.size q))
    have S160 := S142.trans s151 (in_cons (.inl (by simp)) (in_own (fun i hi => (om140 i hi).elim (fun q => .inl (by simp only [List.mem_cons, List.mem_append]; simp [q])) .inr) in_nil))
    refine WL.nil <| WQ.blockN <| WQ.end0 rfl ?_
    obtain rfl := Option.some.inj HF
    exact ⟨_, rfl, h150, S160, rfl, ⟨_, rs154, ow157, om158, ob159⟩⟩
  ·intro J161
   refine WC.seq <| WC.region <| WL.val rfl rfl rfl (ov_fieldAddr rfl t_field_44_5) <| WL.val rfl rfl rfl (ov_load1 rfl t_agg_3 (OB.cell ob32 (j := 5) rfl)) <| WL.val rfl rfl rfl (ov_neq rfl rfl) <| WL.nil <| WQ.seqN <| WC.cond (b := (x11.n : Int) != 1) rfl (fun hb37 => ?_) (fun hb37 => ?_)
   ·replace HF := bif_t hb37 HF
    refine WC.region <| WL.val rfl rfl rfl (ov_fieldAddr rfl t_field_44_5) <| WL.val rfl rfl rfl (ov_load1 rfl t_agg_3 (OB.cell ob32 (j := 5) rfl)) ?_
    obtain ⟨r38, hr39, HF⟩ := bind_some HF
    refine WL.call rfl rfl rfl (oc_func (vs := [.int .i64 x11.n]) rfl t_ent_36) (ok_strconv_Itoa _ hr39 S35.sub) ?_
    have ob44 := (ob10.step0 s31)
    rintro _ w41 ⟨h42, s43, rfl⟩
    have S45 := S35.trans0 s43
    obtain ⟨hl46, HF⟩ := ite_none HF
    refine WL.val rfl rfl rfl (ov_addS rfl rfl hl46) <| WL.val rfl rfl rfl (ov_assign rfl) <| WL.nil ?_
    have ob162 := (ob44.step0 s43)
    have ob163 := (ob32.step0 s43)
    refine WC.to [0, 3, 4] [(0, .pointer (some ⟨b1, 0, none⟩)), (3, .pointer (some ⟨b29, 0, none⟩)), (4, .string ((⟨#[32, 98, 121, 32]⟩ : ByteArray) ++ r38))] rfl ?_
    exact J161 ⟨h42, (⟨#[32, 98, 121, 32]⟩ : ByteArray) ++ r38, xs3, .slice A4 xs3.length c5, HF, rfl, S45, s43.le, (rs6.mono ((s31.le).trans s43.le)), ((ow7.step0 s31).step0 s43), om8, ob162, ob163⟩
   ·replace HF := bif_f hb37 HF
    refine WC.skip ?_
    have ob164 := (ob10.step0 s31)
    refine WC.to [0, 3, 4] [(0, .pointer (some ⟨b1, 0, none⟩)), (3, .pointer (some ⟨b29, 0, none⟩)), (4, .string (⟨#[]⟩ : ByteArray))] rfl ?_
    exact J161 ⟨h0, (⟨#[]⟩ : ByteArray), xs3, .slice A4 xs3.length c5, HF, rfl, S35, Hle.refl _, (rs6.mono (s31.le)), (ow7.step0 s31), om8, ob164, ob32⟩
 ·replace HF := bif_f hb36 HF
  refine WC.seq <| WC.region <| WL.val rfl rfl rfl (ov_eql rfl rfl) <| WL.val rfl rfl rfl (ov_assign rfl) <| WL.nil <| WQ.seqN <| WC.cond (b := (x11.op : Int) == 6) rfl (fun hb165 => ?_) (fun hb165 => ?_)
  ·replace HF := bif_t hb165 HF
   refine WC.seq ?_
   obtain ⟨A166, c167, rfl, rs168⟩ := RS.form (rs21.mono (s31.le))
   obtain ⟨e169, he170, HF⟩ := bind_some HF
   obtain ⟨b171, o172, rfl, h174, h175, ra173⟩ := RS.atO rs168 he170
   obtain ⟨cs176, r177, hc178⟩ := ra173
   obtain ⟨r179, hr180, HF⟩ := bind_some HF
   obtain ⟨hl181, HF⟩ := ite_none HF
   obtain ⟨hl182, HF⟩ := ite_none HF
   refine WC.drawn (m := 10) [(0, .pointer (some ⟨b1, 0, none⟩)), (3, .pointer (some ⟨b29, 0, none⟩))] [0, 3] rfl (fun i v w h => match i with | 0 => v = .pointer (some ⟨b1, 0, none⟩) | 1 => v = .pointer (some ⟨b1, 0, none⟩) | 2 => v = .pointer (some ⟨b1, 0, none⟩) | 3 => v = .pointer (some ⟨b29, 4, none⟩) | 4 => v = .slice (some ⟨b171, o172, none⟩) (x11.args).length c167 | 5 => v = .pointer (some ⟨b171, o172 + Int.toNat 0 * 6, none⟩) | 6 => v = .agg cs176.toArray | 7 => v = .string r179 | 8 => v = .string ((⟨#[119, 104, 105, 108, 101, 32]⟩ : ByteArray) ++ r179) | 9 => v = .string (((⟨#[119, 104, 105, 108, 101, 32]⟩ : ByteArray) ++ r179) ++ (⟨#[32, 100, 111]⟩ : ByteArray)) | _ => True) t_mixed S35.sub rfl rfl rfl rfl rfl ?_ ?_ ?_
   ·intro i v w h w2 h2 hΦ hst
    match i, hΦ with
    | 0, hΦ => exact hΦ
    | 1, hΦ => exact hΦ
    | 2, hΦ => exact hΦ
    | 3, hΦ => exact hΦ
    | 4, hΦ => exact hΦ
    | 5, hΦ => exact hΦ
    | 6, hΦ => exact hΦ
    | 7, hΦ => exact hΦ
    | 8, hΦ => exact hΦ
    | 9, hΦ => exact hΦ
    | i + 10, _ => exact trivial
   ·refine ⟨?_, ?_, ?_, ?_, ?_, ?_, ?_, ?_, ?_, ?_, trivial⟩
    ·intro a w183 h184 s185 hat hF
     exact front_val (show At _ [(0, .pointer (some ⟨b1, 0, none⟩)), (3, .pointer (some ⟨b29, 0, none⟩))] _ from hat) rfl (ov_move rfl) s185.sub (by exact rfl)
    ·intro a w183 h184 s185 hat hF
     obtain hv0 := hF 0 50 rfl rfl
     exact front_val (show At _ [(50, .pointer (some ⟨b1, 0, none⟩)), (0, .pointer (some ⟨b1, 0, none⟩)), (3, .pointer (some ⟨b29, 0, none⟩))] _ from (At.cons hat hv0)) rfl (ov_nilCheck rfl) s185.sub (by exact rfl)
    ·intro a w183 h184 s185 hat hF
     obtain hv1 := hF 1 51 rfl rfl
     exact front_val (show At _ [(51, .pointer (some ⟨b1, 0, none⟩)), (0, .pointer (some ⟨b1, 0, none⟩)), (3, .pointer (some ⟨b29, 0, none⟩))] _ from (At.cons hat hv1)) rfl (ov_fieldAddr rfl t_field_55_0) s185.sub (by exact rfl)
    ·intro a w183 h184 s185 hat hF
     exact front_val (show At _ [(0, .pointer (some ⟨b1, 0, none⟩)), (3, .pointer (some ⟨b29, 0, none⟩))] _ from hat) rfl (ov_fieldAddr rfl t_field_44_4) s185.sub (by exact rfl)
    ·intro a w183 h184 s185 hat hF
     obtain hv3 := hF 3 53 rfl rfl
     have ob186 := (ob32.step0 s185)
     exact front_val (show At _ [(53, .pointer (some ⟨b29, 4, none⟩)), (0, .pointer (some ⟨b1, 0, none⟩)), (3, .pointer (some ⟨b29, 0, none⟩))] _ from (At.cons hat hv3)) rfl (ov_load1 rfl t_agg_30 (OB.cell ob186 (j := 4) rfl)) s185.sub (by exact rfl)
    ·intro a w183 h184 s185 hat hF
     obtain hv4 := hF 4 54 rfl rfl
     exact front_val (show At _ [(54, .slice (some ⟨b171, o172, none⟩) (x11.args).length c167), (0, .pointer (some ⟨b1, 0, none⟩)), (3, .pointer (some ⟨b29, 0, none⟩))] _ from (At.cons hat hv4)) rfl (ov_indexAddr rfl rfl t_slice_30 t_size_32 h174 h175) s185.sub (by exact rfl)
    ·intro a w183 h184 s185 hat hF
     obtain hv5 := hF 5 55 rfl rfl
     exact front_val (show At _ [(55, .pointer (some ⟨b171, o172 + Int.toNat 0 * 6, none⟩)), (0, .pointer (some ⟨b1, 0, none⟩)), (3, .pointer (some ⟨b29, 0, none⟩))] _ from (At.cons hat hv5)) rfl (ov_loadN (cs := cs176) rfl t_agg_32 (by rw [Rp.len (Rp.mono (s185.le) r177)]; exact t_size_32) (fun j v hv => s185.sub.at_ _ _ _ ((fun i v hv => (s185.le).1 _ _ _ (hc178 i v hv)) j v hv))) s185.sub (by exact rfl)
    ·intro a w183 h184 s185 hat hF
     obtain hv6 := hF 6 56 rfl rfl
     refine front_call (show At _ [(56, .agg cs176.toArray), (0, .pointer (some ⟨b1, 0, none⟩)), (3, .pointer (some ⟨b29, 0, none⟩))] _ from (At.cons hat hv6)) rfl (oc_func (vs := [.agg cs176.toArray]) rfl t_ent_27) (ok_print_Of _ hr180 s185.sub (Rp.mono (s185.le) r177)) ?_
     rintro _ w187 ⟨h188, s189, rfl⟩
     exact ⟨_, h188, rfl, s189, (by exact rfl)⟩
    ·intro a w183 h184 s185 hat hF
     obtain hv7 := hF 7 57 rfl rfl
     exact front_val (show At _ [(57, .string r179), (0, .pointer (some ⟨b1, 0, none⟩)), (3, .pointer (some ⟨b29, 0, none⟩))] _ from (At.cons hat hv7)) rfl (ov_addS rfl rfl hl181) s185.sub (by exact rfl)
    ·intro a w183 h184 s185 hat hF
     obtain hv8 := hF 8 58 rfl rfl
     exact front_val (show At _ [(58, .string ((⟨#[119, 104, 105, 108, 101, 32]⟩ : ByteArray) ++ r179)), (0, .pointer (some ⟨b1, 0, none⟩)), (3, .pointer (some ⟨b29, 0, none⟩))] _ from (At.cons hat hv8)) rfl (ov_addS rfl rfl hl182) s185.sub (by exact rfl)
   ·intro a w183 h184 s185 hat hF
    obtain hv0 := hF 0 50 (by decide) rfl
    obtain hv1 := hF 1 51 (by decide) rfl
    obtain hv2 := hF 2 52 (by decide) rfl
    obtain hv3 := hF 3 53 (by decide) rfl
    obtain hv4 := hF 4 54 (by decide) rfl
    obtain hv5 := hF 5 55 (by decide) rfl
    obtain hv6 := hF 6 56 (by decide) rfl
    obtain hv7 := hF 7 57 (by decide) rfl
    obtain hv8 := hF 8 58 (by decide) rfl
    obtain hv9 := hF 9 59 (by decide) rfl
    refine WL.at_ [(59, .string (((⟨#[119, 104, 105, 108, 101, 32]⟩ : ByteArray) ++ r179) ++ (⟨#[32, 100, 111]⟩ : ByteArray))), (58, .string ((⟨#[119, 104, 105, 108, 101, 32]⟩ : ByteArray) ++ r179)), (57, .string r179), (56, .agg cs176.toArray), (55, .pointer (some ⟨b171, o172 + Int.toNat 0 * 6, none⟩)), (54, .slice (some ⟨b171, o172, none⟩) (x11.args).length c167), (53, .pointer (some ⟨b29, 4, none⟩)), (52, .pointer (some ⟨b1, 0, none⟩)), (51, .pointer (some ⟨b1, 0, none⟩)), (50, .pointer (some ⟨b1, 0, none⟩)), (0, .pointer (some ⟨b1, 0, none⟩)), (3, .pointer (some ⟨b29, 0, none⟩))] (At.cons (At.cons (At.cons (At.cons (At.cons (At.cons (At.cons (At.cons (At.cons (At.cons hat hv0) hv1) hv2) hv3) hv4) hv5) hv6) hv7) hv8) hv9) ?_
    have S190 := S35.trans0 s185
    have ob191 := ((ob10.step0 s31).step0 s185)
    obtain ⟨r192, hr193, HF⟩ := bind_some HF
    refine WL.call rfl rfl rfl (oc_func (vs := [.pointer (some ⟨b1, 0, none⟩), .string (((⟨#[119, 104, 105, 108, 101, 32]⟩ : ByteArray) ++ r179) ++ (⟨#[32, 100, 111]⟩ : ByteArray))]) rfl t_ent_39) (ok_print_lines_line _ hr193 S190.sub (rs6.mono ((s31.le).trans s185.le)) (by rw [S190.eqb]; exact ((ow7.step0 s31).step0 s185)) ob191 tn14) ?_
    have ob198 := (ob32.step0 s185)
    rintro v194 w195 ⟨h196, s197, rfl, ⟨v199, rs200, ow201, om202, ob205⟩⟩
    have ow203 := Own.rb ow201 S190.eqb
    have om204 : ∀ i ∈ v199.ownBlock.toList, i ∈ (Value.slice A4 xs3.length c5).ownBlock.toList ∨ w0.heap.size ≤ i := fun i hi => (om202 i hi).elim (fun q => om8 i q) (fun q => .inr (Nat.le_trans S190.size q))
    have S206 := S190.trans s197 (in_cons (.inl (by simp)) (in_own (fun i hi => (om8 i hi).elim (fun q => .inl (by simp only [List.mem_cons, List.mem_append]; simp [q])) .inr) in_nil))
    refine WL.nil <| WQ.seqN <| WC.seq <| WC.region <| WL.val rfl rfl rfl (ov_move rfl) <| WL.val rfl rfl rfl (ov_fieldAddr rfl t_field_44_6) ?_
    have ob207 := (ob198.step s197 (ni_cons (Ne.symm ne33) (ni_own (fun hm => ((ow7.step0 s31).step0 s185).ne ob198 (by decide) _ hm rfl) ni_nil)))
    refine WL.val rfl rfl rfl (ov_load1 rfl t_agg_22 (OB.cell ob207 (j := 6) rfl)) ?_
    obtain ⟨A208, c209, rfl, rs210⟩ := RS.form rs200
    obtain ⟨r211, hr212, HF⟩ := bind_some HF
    refine WL.call rfl rfl rfl (oc_func (vs := [.pointer (some ⟨b1, 0, none⟩), v22]) rfl t_ent_41) ((IH _ (Nat.le_refl _)).2.2.1 hr212 S206.sub rs210 (by rw [S206.eqb]; exact ow203) (rs23.mono ((s31.le).trans ((s185.le).trans s197.le))) ob205 tn14) ?_
    rintro v213 w214 ⟨h215, s216, rfl, ⟨v217, rs218, ow219, om220, ob223⟩⟩
    have ow221 := Own.rb ow219 S206.eqb
    have om222 : ∀ i ∈ v217.ownBlock.toList, i ∈ (Value.slice A4 xs3.length c5).ownBlock.toList ∨ w0.heap.size ≤ i := fun i hi => (om220 i hi).elim (fun q => om204 i q) (fun q => .inr (Nat.le_trans S206.size q))
    have S224 := S206.trans s216 (in_cons (.inl (by simp)) (in_own (fun i hi => (om204 i hi).elim (fun q => .inl (by simp only [List.mem_cons, List.mem_append]; simp [q])) .inr) in_nil))
    refine WL.nil <| WQ.seqN <| WC.region <| WL.val rfl rfl rfl (ov_move rfl) <| WL.val rfl rfl rfl (ov_nilCheck rfl) <| WL.val rfl rfl rfl (ov_fieldAddr rfl t_field_55_0) ?_
    obtain ⟨A225, c226, rfl, rs227⟩ := RS.form rs218
    obtain ⟨r228, hr229, HF⟩ := bind_some HF
    refine WL.call rfl rfl rfl (oc_func (vs := [.pointer (some ⟨b1, 0, none⟩), .string (⟨#[101, 110, 100, 95, 119, 104, 105, 108, 101, 59]⟩ : ByteArray)]) rfl t_ent_39) (ok_print_lines_line _ hr229 S224.sub rs227 (by rw [S224.eqb]; exact ow221) ob223 tn14) ?_
    have ob234 := (ob207.step s216 (ni_cons (Ne.symm ne33) (ni_own (fun hm => ow203.ne ob207 (by decide) _ hm rfl) ni_nil)))
    rintro v230 w231 ⟨h232, s233, rfl, ⟨v235, rs236, ow237, om238, ob241⟩⟩
    have ow239 := Own.rb ow237 S224.eqb
    have om240 : ∀ i ∈ v235.ownBlock.toList, i ∈ (Value.slice A4 xs3.length c5).ownBlock.toList ∨ w0.heap.size ≤ i := fun i hi => (om238 i hi).elim (fun q => om222 i q) (fun q => .inr (Nat.le_trans S224.size q))
    have S242 := S224.trans s233 (in_cons (.inl (by simp)) (in_own (fun i hi => (om222 i hi).elim (fun q => .inl (by simp only [List.mem_cons, List.mem_append]; simp [q])) .inr) in_nil))
    refine WL.nil <| WQ.blockN <| WQ.end0 rfl ?_
    obtain rfl := Option.some.inj HF
    exact ⟨_, rfl, h232, S242, rfl, ⟨_, rs236, ow239, om240, ob241⟩⟩
  ·replace HF := bif_f hb165 HF
   refine WC.seq <| WC.region <| WL.val rfl rfl rfl (ov_eql rfl rfl) <| WL.val rfl rfl rfl (ov_assign rfl) <| WL.nil <| WQ.seqN <| WC.cond (b := (x11.op : Int) == 7) rfl (fun hb243 => ?_) (fun hb243 => ?_)
   ·replace HF := bif_t hb243 HF
    refine WC.seq <| WC.region <| WL.val rfl rfl rfl (ov_move rfl) <| WL.val rfl rfl rfl (ov_nilCheck rfl) <| WL.val rfl rfl rfl (ov_fieldAddr rfl t_field_55_0) ?_
    have ob244 := (ob10.step0 s31)
    obtain ⟨r245, hr246, HF⟩ := bind_some HF
    refine WL.call rfl rfl rfl (oc_func (vs := [.pointer (some ⟨b1, 0, none⟩), .string (⟨#[114, 101, 112, 101, 97, 116]⟩ : ByteArray)]) rfl t_ent_39) (ok_print_lines_line _ hr246 S35.sub (rs6.mono (s31.le)) (by rw [S35.eqb]; exact (ow7.step0 s31)) ob244 tn14) ?_
    rintro v247 w248 ⟨h249, s250, rfl, ⟨v251, rs252, ow253, om254, ob257⟩⟩
    have ow255 := Own.rb ow253 S35.eqb
    have om256 : ∀ i ∈ v251.ownBlock.toList, i ∈ (Value.slice A4 xs3.length c5).ownBlock.toList ∨ w0.heap.size ≤ i := fun i hi => (om254 i hi).elim (fun q => om8 i q) (fun q => .inr (Nat.le_trans S35.size q))
    have S258 := S35.trans s250 (in_cons (.inl (by simp)) (in_own (fun i hi => (om8 i hi).elim (fun q => .inl (by simp only [List.mem_cons, List.mem_append]; simp [q])) .inr) in_nil))
    refine WL.nil <| WQ.seqN <| WC.seq <| WC.region <| WL.val rfl rfl rfl (ov_move rfl) <| WL.val rfl rfl rfl (ov_fieldAddr rfl t_field_44_6) ?_
    have ob259 := (ob32.step s250 (ni_cons (Ne.symm ne33) (ni_own (fun hm => (ow7.step0 s31).ne ob32 (by decide) _ hm rfl) ni_nil)))
    refine WL.val rfl rfl rfl (ov_load1 rfl t_agg_22 (OB.cell ob259 (j := 6) rfl)) ?_
    obtain ⟨A260, c261, rfl, rs262⟩ := RS.form rs252
    obtain ⟨r263, hr264, HF⟩ := bind_some HF
    refine WL.call rfl rfl rfl (oc_func (vs := [.pointer (some ⟨b1, 0, none⟩), v22]) rfl t_ent_41) ((IH _ (Nat.le_refl _)).2.2.1 hr264 S258.sub rs262 (by rw [S258.eqb]; exact ow255) (rs23.mono ((s31.le).trans s250.le)) ob257 tn14) ?_
    rintro v265 w266 ⟨h267, s268, rfl, ⟨v269, rs270, ow271, om272, ob275⟩⟩
    have ow273 := Own.rb ow271 S258.eqb
    have om274 : ∀ i ∈ v269.ownBlock.toList, i ∈ (Value.slice A4 xs3.length c5).ownBlock.toList ∨ w0.heap.size ≤ i := fun i hi => (om272 i hi).elim (fun q => om256 i q) (fun q => .inr (Nat.le_trans S258.size q))
    have S276 := S258.trans s268 (in_cons (.inl (by simp)) (in_own (fun i hi => (om256 i hi).elim (fun q => .inl (by simp only [List.mem_cons, List.mem_append]; simp [q])) .inr) in_nil))
    refine WL.nil <| WQ.seqN <| WC.seq ?_
    obtain ⟨A277, c278, rfl, rs279⟩ := RS.form (rs21.mono ((s31.le).trans ((s250.le).trans s268.le)))
    obtain ⟨e280, he281, HF⟩ := bind_some HF
    obtain ⟨b282, o283, rfl, h285, h286, ra284⟩ := RS.atO rs279 he281
    obtain ⟨cs287, r288, hc289⟩ := ra284
    obtain ⟨r290, hr291, HF⟩ := bind_some HF
    obtain ⟨hl292, HF⟩ := ite_none HF
    refine WC.drawn (m := 9) [(0, .pointer (some ⟨b1, 0, none⟩)), (3, .pointer (some ⟨b29, 0, none⟩))] [0, 3] rfl (fun i v w h => match i with | 0 => v = .pointer (some ⟨b1, 0, none⟩) | 1 => v = .pointer (some ⟨b1, 0, none⟩) | 2 => v = .pointer (some ⟨b1, 0, none⟩) | 3 => v = .pointer (some ⟨b29, 4, none⟩) | 4 => v = .slice (some ⟨b282, o283, none⟩) (x11.args).length c278 | 5 => v = .pointer (some ⟨b282, o283 + Int.toNat 0 * 6, none⟩) | 6 => v = .agg cs287.toArray | 7 => v = .string r290 | 8 => v = .string ((⟨#[117, 110, 116, 105, 108, 32]⟩ : ByteArray) ++ r290) | _ => True) t_mixed S276.sub rfl rfl rfl rfl rfl ?_ ?_ ?_
    ·intro i v w h w2 h2 hΦ hst
     match i, hΦ with
     | 0, hΦ => exact hΦ
     | 1, hΦ => exact hΦ
     | 2, hΦ => exact hΦ
     | 3, hΦ => exact hΦ
     | 4, hΦ => exact hΦ
     | 5, hΦ => exact hΦ
     | 6, hΦ => exact hΦ
     | 7, hΦ => exact hΦ
     | 8, hΦ => exact hΦ
     | i + 9, _ => exact trivial
    ·refine ⟨?_, ?_, ?_, ?_, ?_, ?_, ?_, ?_, ?_, trivial⟩
     ·intro a w293 h294 s295 hat hF
      exact front_val (show At _ [(0, .pointer (some ⟨b1, 0, none⟩)), (3, .pointer (some ⟨b29, 0, none⟩))] _ from hat) rfl (ov_move rfl) s295.sub (by exact rfl)
     ·intro a w293 h294 s295 hat hF
      obtain hv0 := hF 0 79 rfl rfl
      exact front_val (show At _ [(79, .pointer (some ⟨b1, 0, none⟩)), (0, .pointer (some ⟨b1, 0, none⟩)), (3, .pointer (some ⟨b29, 0, none⟩))] _ from (At.cons hat hv0)) rfl (ov_nilCheck rfl) s295.sub (by exact rfl)
     ·intro a w293 h294 s295 hat hF
      obtain hv1 := hF 1 80 rfl rfl
      exact front_val (show At _ [(80, .pointer (some ⟨b1, 0, none⟩)), (0, .pointer (some ⟨b1, 0, none⟩)), (3, .pointer (some ⟨b29, 0, none⟩))] _ from (At.cons hat hv1)) rfl (ov_fieldAddr rfl t_field_55_0) s295.sub (by exact rfl)
     ·intro a w293 h294 s295 hat hF
      exact front_val (show At _ [(0, .pointer (some ⟨b1, 0, none⟩)), (3, .pointer (some ⟨b29, 0, none⟩))] _ from hat) rfl (ov_fieldAddr rfl t_field_44_4) s295.sub (by exact rfl)
     ·intro a w293 h294 s295 hat hF
      obtain hv3 := hF 3 82 rfl rfl
      have ob296 := ((ob259.step s268 (ni_cons (Ne.symm ne33) (ni_own (fun hm => ow255.ne ob259 (by decide) _ hm rfl) ni_nil))).step0 s295)
      exact front_val (show At _ [(82, .pointer (some ⟨b29, 4, none⟩)), (0, .pointer (some ⟨b1, 0, none⟩)), (3, .pointer (some ⟨b29, 0, none⟩))] _ from (At.cons hat hv3)) rfl (ov_load1 rfl t_agg_30 (OB.cell ob296 (j := 4) rfl)) s295.sub (by exact rfl)
     ·intro a w293 h294 s295 hat hF
      obtain hv4 := hF 4 83 rfl rfl
      exact front_val (show At _ [(83, .slice (some ⟨b282, o283, none⟩) (x11.args).length c278), (0, .pointer (some ⟨b1, 0, none⟩)), (3, .pointer (some ⟨b29, 0, none⟩))] _ from (At.cons hat hv4)) rfl (ov_indexAddr rfl rfl t_slice_30 t_size_32 h285 h286) s295.sub (by exact rfl)
     ·intro a w293 h294 s295 hat hF
      obtain hv5 := hF 5 84 rfl rfl
      exact front_val (show At _ [(84, .pointer (some ⟨b282, o283 + Int.toNat 0 * 6, none⟩)), (0, .pointer (some ⟨b1, 0, none⟩)), (3, .pointer (some ⟨b29, 0, none⟩))] _ from (At.cons hat hv5)) rfl (ov_loadN (cs := cs287) rfl t_agg_32 (by rw [Rp.len (Rp.mono (s295.le) r288)]; exact t_size_32) (fun j v hv => s295.sub.at_ _ _ _ ((fun i v hv => (s295.le).1 _ _ _ (hc289 i v hv)) j v hv))) s295.sub (by exact rfl)
     ·intro a w293 h294 s295 hat hF
      obtain hv6 := hF 6 85 rfl rfl
      refine front_call (show At _ [(85, .agg cs287.toArray), (0, .pointer (some ⟨b1, 0, none⟩)), (3, .pointer (some ⟨b29, 0, none⟩))] _ from (At.cons hat hv6)) rfl (oc_func (vs := [.agg cs287.toArray]) rfl t_ent_27) (ok_print_Of _ hr291 s295.sub (Rp.mono (s295.le) r288)) ?_
      rintro _ w297 ⟨h298, s299, rfl⟩
      exact ⟨_, h298, rfl, s299, (by exact rfl)⟩
     ·intro a w293 h294 s295 hat hF
      obtain hv7 := hF 7 86 rfl rfl
      exact front_val (show At _ [(86, .string r290), (0, .pointer (some ⟨b1, 0, none⟩)), (3, .pointer (some ⟨b29, 0, none⟩))] _ from (At.cons hat hv7)) rfl (ov_addS rfl rfl hl292) s295.sub (by exact rfl)
    ·intro a w293 h294 s295 hat hF
     obtain hv0 := hF 0 79 (by decide) rfl
     obtain hv1 := hF 1 80 (by decide) rfl
     obtain hv2 := hF 2 81 (by decide) rfl
     obtain hv3 := hF 3 82 (by decide) rfl
     obtain hv4 := hF 4 83 (by decide) rfl
     obtain hv5 := hF 5 84 (by decide) rfl
     obtain hv6 := hF 6 85 (by decide) rfl
     obtain hv7 := hF 7 86 (by decide) rfl
     obtain hv8 := hF 8 87 (by decide) rfl
     refine WL.at_ [(87, .string ((⟨#[117, 110, 116, 105, 108, 32]⟩ : ByteArray) ++ r290)), (86, .string r290), (85, .agg cs287.toArray), (84, .pointer (some ⟨b282, o283 + Int.toNat 0 * 6, none⟩)), (83, .slice (some ⟨b282, o283, none⟩) (x11.args).length c278), (82, .pointer (some ⟨b29, 4, none⟩)), (81, .pointer (some ⟨b1, 0, none⟩)), (80, .pointer (some ⟨b1, 0, none⟩)), (79, .pointer (some ⟨b1, 0, none⟩)), (0, .pointer (some ⟨b1, 0, none⟩)), (3, .pointer (some ⟨b29, 0, none⟩))] (At.cons (At.cons (At.cons (At.cons (At.cons (At.cons (At.cons (At.cons (At.cons hat hv0) hv1) hv2) hv3) hv4) hv5) hv6) hv7) hv8) ?_
     have S300 := S276.trans0 s295
     obtain ⟨A301, c302, rfl, rs303⟩ := RS.form (rs270.mono (s295.le))
     have ob304 := (ob275.step0 s295)
     obtain ⟨r305, hr306, HF⟩ := bind_some HF
     refine WL.call rfl rfl rfl (oc_func (vs := [.pointer (some ⟨b1, 0, none⟩), .string ((⟨#[117, 110, 116, 105, 108, 32]⟩ : ByteArray) ++ r290)]) rfl t_ent_39) (ok_print_lines_line _ hr306 S300.sub rs303 (by rw [S300.eqb]; exact (ow273.step0 s295)) ob304 tn14) ?_
     have ob311 := ((ob259.step s268 (ni_cons (Ne.symm ne33) (ni_own (fun hm => ow255.ne ob259 (by decide) _ hm rfl) ni_nil))).step0 s295)
     rintro v307 w308 ⟨h309, s310, rfl, ⟨v312, rs313, ow314, om315, ob318⟩⟩
     have ow316 := Own.rb ow314 S300.eqb
     have om317 : ∀ i ∈ v312.ownBlock.toList, i ∈ (Value.slice A4 xs3.length c5).ownBlock.toList ∨ w0.heap.size ≤ i := fun i hi => (om315 i hi).elim (fun q => om274 i q) (fun q => .inr (Nat.le_trans S300.size q))
     have S319 := S300.trans s310 (in_cons (.inl (by simp)) (in_own (fun i hi => (om274 i hi).elim (fun q => .inl (by simp only [List.mem_cons, List.mem_append]; simp [q])) .inr) in_nil))
     refine WL.nil <| WQ.seqN <| WC.region <| WL.val rfl rfl rfl (ov_move rfl) <| WL.val rfl rfl rfl (ov_nilCheck rfl) <| WL.val rfl rfl rfl (ov_fieldAddr rfl t_field_55_0) ?_
     obtain ⟨A320, c321, rfl, rs322⟩ := RS.form rs313
     obtain ⟨r323, hr324, HF⟩ := bind_some HF
     refine WL.call rfl rfl rfl (oc_func (vs := [.pointer (some ⟨b1, 0, none⟩), .string (⟨#[101, 110, 100, 95, 114, 101, 112, 101, 97, 116, 59]⟩ : ByteArray)]) rfl t_ent_39) (ok_print_lines_line _ hr324 S319.sub rs322 (by rw [S319.eqb]; exact ow316) ob318 tn14) ?_
     have ob329 := (ob311.step s310 (ni_cons (Ne.symm ne33) (ni_own (fun hm => (ow273.step0 s295).ne ob311 (by decide) _ hm rfl) ni_nil)))
     rintro v325 w326 ⟨h327, s328, rfl, ⟨v330, rs331, ow332, om333, ob336⟩⟩
     have ow334 := Own.rb ow332 S319.eqb
     have om335 : ∀ i ∈ v330.ownBlock.toList, i ∈ (Value.slice A4 xs3.length c5).ownBlock.toList ∨ w0.heap.size ≤ i := fun i hi => (om333 i hi).elim (fun q => om317 i q) (fun q => .inr (Nat.le_trans S319.size q))
     have S337 := S319.trans s328 (in_cons (.inl (by simp)) (in_own (fun i hi => (om317 i hi).elim (fun q => .inl (by simp only [List.mem_cons, List.mem_append]; simp [q])) .inr) in_nil))
     refine WL.nil <| WQ.blockN <| WQ.end0 rfl ?_
     obtain rfl := Option.some.inj HF
     exact ⟨_, rfl, h327, S337, rfl, ⟨_, rs331, ow334, om335, ob336⟩⟩
   ·replace HF := bif_f hb243 HF
    refine WC.skip <| WQ.blockN ?_
    have ob338 := (ob10.step0 s31)
    refine WQ.end0 rfl ?_
    obtain rfl := Option.some.inj HF
    exact ⟨_, rfl, h0, S35, rfl, ⟨_, (rs6.mono (s31.le)), (ow7.step0 s31), om8, ob338⟩⟩
set_option maxRecDepth 20000 in
set_option maxHeartbeats 4000000 in
theorem s_print_printer_text (k : Nat) (IH : ∀ j, j ≤ k → C_print_printer_stmt (tie_print_printer_stmt j).print_printer_stmt ∧ C_print_printer_loop (tie_print_printer_stmt j).print_printer_loop ∧ C_print_printer_text (tie_print_printer_stmt j).print_printer_text ∧ C_print_lines_inside_v1 (tie_print_printer_stmt j).print_lines_inside_v1 ∧ C_print_printer_text_1 (tie_print_printer_stmt j).print_printer_text_1 ∧ C_print_lines_inside (tie_print_printer_stmt j).print_lines_inside ∧ C_print_printer_stmt_1 (tie_print_printer_stmt j).print_printer_stmt_1 ∧ C_print_printer_other (tie_print_printer_stmt j).print_printer_other) : C_print_printer_text (m_print_printer_text k (tie_print_printer_stmt k)) := by
 intro x2 xs3 x9 xs11 r HF w0 h0 b1 A4 c5 v12 hs0 rs6 ow7 rs13 ob10 tn14
 have S0 : Stp (b1 :: ((Value.slice A4 xs3.length c5).ownBlock.toList ++ [])) w0 h0 w0 h0 := Stp.refl hs0 _
 have om8 : ∀ i ∈ (Value.slice A4 xs3.length c5).ownBlock.toList, i ∈ (Value.slice A4 xs3.length c5).ownBlock.toList ∨ w0.heap.size ≤ i := fun i hi => .inl hi
 have lt15 : b1 < w0.heap.size := OB.lt ob10
 refine enter (n := 9) Tryz.func41 rfl Tryz.ntmps41 rfl [(0, .pointer (some ⟨b1, 0, none⟩)), (1, v12)] rfl <| WC.seq <| WC.region <| WL.box (cs := [.pointer (some ⟨b1, 0, none⟩)]) rfl rfl rfl rfl S0.sub (fun w16 b17 hb18 s19 ob20 => ?_)
 have ne21 : b1 ≠ b17 := ob10.ne_new hb18
 have g22 : w0.heap.size ≤ b17 := by rw [hb18]; exact S0.size
 have S23 := S0.trans0 s19
 have ob24 := (ob10.step0 s19)
 refine WL.box (cs := [v12]) rfl rfl rfl (RS.cellsL (rs13.mono (s19.le))) S23.sub (fun w25 b26 hb27 s28 ob29 => ?_)
 have ne30 : b1 ≠ b26 := ob24.ne_new hb27
 have ne31 : b17 ≠ b26 := ob20.ne_new hb27
 have g32 : w0.heap.size ≤ b26 := by rw [hb27]; exact S23.size
 have S33 := S23.trans0 s28
 refine WL.nil <| WQ.seqN <| WC.region ?_
 have ob34 := (ob20.step0 s28)
 refine WL.val rfl rfl rfl (ov_load1 rfl t_agg_77 (OB.cell ob34 (j := 0) rfl)) <| WL.val rfl rfl rfl (ov_nilCheck rfl) <| WL.val rfl rfl rfl (ov_fieldAddr rfl t_field_55_0) <| WL.val rfl rfl rfl (ov_makeFunc (vs := [.pointer (some ⟨b26, 0, none⟩), .pointer (some ⟨b17, 0, none⟩)]) rfl) ?_
 have ob35 := (ob24.step0 s28)
 obtain ⟨r36, hr37, HF⟩ := bind_some HF
 refine WL.call rfl rfl rfl (oc_func (vs := [.pointer (some ⟨b1, 0, none⟩), .func (.func 68) #[] #[.pointer (some ⟨b26, 0, none⟩), .pointer (some ⟨b17, 0, none⟩)]]) rfl t_ent_43) ((IH _ (Nat.le_refl _)).2.2.2.1 hr37 S33.sub (rs6.mono ((s19.le).trans s28.le)) (by rw [S33.eqb]; exact ((ow7.step0 s19).step0 s28)) (rs13.mono ((s19.le).trans s28.le)) ob35 ob29 ob34 ne30 ne21 (Ne.symm ne31) tn14 (by decide) (by decide)) ?_
 rintro v38 w39 ⟨h40, s41, rfl, ⟨v42, rs43, ow44, om45, ob48⟩⟩
 have ow46 := Own.rb ow44 S33.eqb
 have om47 : ∀ i ∈ v42.ownBlock.toList, i ∈ (Value.slice A4 xs3.length c5).ownBlock.toList ∨ w0.heap.size ≤ i := fun i hi => (om45 i hi).elim (fun q => om8 i q) (fun q => .inr (Nat.le_trans S33.size q))
 have S49 := S33.trans s41 (in_cons (.inl (by simp)) (in_own (fun i hi => (om8 i hi).elim (fun q => .inl (by simp only [List.mem_cons, List.mem_append]; simp [q])) .inr) in_nil))
 refine WL.nil <| WQ.end0 rfl ?_
 obtain rfl := Option.some.inj HF
 exact ⟨_, rfl, h40, S49, rfl, ⟨_, rs43, ow46, om47, ob48⟩⟩
set_option maxRecDepth 20000 in
set_option maxHeartbeats 4000000 in
theorem s_print_lines_inside_v1 (k : Nat) (IH : ∀ j, j ≤ k → C_print_printer_stmt (tie_print_printer_stmt j).print_printer_stmt ∧ C_print_printer_loop (tie_print_printer_stmt j).print_printer_loop ∧ C_print_printer_text (tie_print_printer_stmt j).print_printer_text ∧ C_print_lines_inside_v1 (tie_print_printer_stmt j).print_lines_inside_v1 ∧ C_print_printer_text_1 (tie_print_printer_stmt j).print_printer_text_1 ∧ C_print_lines_inside (tie_print_printer_stmt j).print_lines_inside ∧ C_print_printer_stmt_1 (tie_print_printer_stmt j).print_printer_stmt_1 ∧ C_print_printer_other (tie_print_printer_stmt j).print_printer_other) : C_print_lines_inside_v1 (m_print_lines_inside_v1 k (tie_print_printer_stmt k)) := by
 intro x2 xs3 x9 xs13 r HF w0 h0 b1 A4 c5 b11 T12 v14 b17 T18 hs0 rs6 ow7 rs15 ob10 ob16 ob19 ne20 ne21 ne22 tn23 tn24 tn25
 have S0 : Stp (b1 :: ((Value.slice A4 xs3.length c5).ownBlock.toList ++ [])) w0 h0 w0 h0 := Stp.refl hs0 _
 have om8 : ∀ i ∈ (Value.slice A4 xs3.length c5).ownBlock.toList, i ∈ (Value.slice A4 xs3.length c5).ownBlock.toList ∨ w0.heap.size ≤ i := fun i hi => .inl hi
 have lt26 : b1 < w0.heap.size := OB.lt ob10
 have lt27 : b11 < w0.heap.size := OB.lt ob16
 have lt28 : b17 < w0.heap.size := OB.lt ob19
 refine enter (n := 20) Tryz.func43 rfl Tryz.ntmps43 rfl [(0, .pointer (some ⟨b1, 0, none⟩)), (1, .func (.func 68) #[] #[.pointer (some ⟨b11, 0, none⟩), .pointer (some ⟨b17, 0, none⟩)])] rfl <| WC.seq <| WC.region <| WL.val rfl rfl rfl (ov_move rfl) <| WL.val rfl rfl rfl (ov_nilCheck rfl) <| WL.val rfl rfl rfl (ov_fieldAddr rfl t_field_53_1) <| WL.val rfl rfl rfl (ov_load1 rfl t_agg_9 (OB.cell ob10 (j := 2) rfl)) <| WL.val rfl rfl rfl (ov_assign rfl) <| WL.nil <| WQ.seqN <| WC.seq <| WC.region <| WL.val rfl rfl rfl (ov_move rfl) <| WL.val rfl rfl rfl (ov_move rfl) ?_
 obtain ⟨hl29, HF⟩ := ite_none HF
 refine WL.val rfl rfl rfl (ov_addS rfl rfl hl29) <| WL.val rfl rfl rfl (ov_nilCheck rfl) <| WL.val rfl rfl rfl (ov_fieldAddr rfl t_field_53_1) <| WL.store (vs := [.string (x9 ++ (⟨#[32, 32]⟩ : ByteArray))]) rfl rfl rfl rfl t_size_9 (one_cons rfl one_nil) ob10 S0.sub (by simp) (ds := [.pointer (bif x2 then some ⟨b1, 0, none⟩ else none), .slice A4 xs3.length c5, .string (x9 ++ (⟨#[32, 32]⟩ : ByteArray))]) rfl (fun w30 s31 ob32 => ?_)
 have S33 := S0.trans1 s31 (.inl (by simp))
 refine WL.nil <| WQ.seqN <| WC.seq <| WC.region <| WL.val rfl rfl rfl (ov_move rfl) ?_
 have ob34 := (ob16.step1 s31 (Ne.symm ne20))
 have ob35 := (ob19.step1 s31 (Ne.symm ne21))
 obtain ⟨r36, hr37, HF⟩ := bind_some HF
 refine WL.call rfl rfl rfl (oc_val (vs := []) (caps := [.pointer (some ⟨b11, 0, none⟩), .pointer (some ⟨b17, 0, none⟩)]) rfl rfl t_ent_68) ((IH _ (Nat.le_refl _)).2.2.2.2.1 hr37 S33.sub (rs15.mono (s31.le)) (rs6.mono (s31.le)) (by rw [S33.eqb]; exact (ow7.step s31 (on_cons (ow7.ne_ob ob10 tn23) on_nil))) ob34 ob35 ob32 ne22 (Ne.symm ne20) (Ne.symm ne21) tn24 tn25 tn23) ?_
 rintro v38 w39 ⟨h40, s41, rfl, ⟨v42, rs43, ow44, om45, ob48⟩⟩
 have ow46 := Own.rb ow44 S33.eqb
 have om47 : ∀ i ∈ v42.ownBlock.toList, i ∈ (Value.slice A4 xs3.length c5).ownBlock.toList ∨ w0.heap.size ≤ i := fun i hi => (om45 i hi).elim (fun q => om8 i q) (fun q => .inr (Nat.le_trans S33.size q))
 have S49 := S33.trans s41 (in_cons (.inl (by simp)) (in_own (fun i hi => (om8 i hi).elim (fun q => .inl (by simp only [List.mem_cons, List.mem_append]; simp [q])) .inr) in_nil))
 refine WL.nil <| WQ.seqN <| WC.region <| WL.val rfl rfl rfl (ov_move rfl) <| WL.val rfl rfl rfl (ov_move rfl) <| WL.val rfl rfl rfl (ov_nilCheck rfl) <| WL.val rfl rfl rfl (ov_fieldAddr rfl t_field_53_1) <| WL.store (vs := [.string x9]) rfl rfl rfl rfl t_size_9 (one_cons rfl one_nil) ob48 S49.sub (by simp) (ds := [.pointer (bif r36.1 then some ⟨b1, 0, none⟩ else none), v42, .string x9]) rfl (fun w50 s51 ob52 => ?_)
 have S53 := S49.trans1 s51 (.inl (by simp))
 refine WL.nil <| WQ.end0 rfl ?_
 obtain rfl := Option.some.inj HF
 exact ⟨_, rfl, h40, S53, rfl, ⟨_, (rs43.mono (s51.le)), (ow46.step s51 (on_cons (ow46.ne_ob ob48 tn23) on_nil)), om47, ob52⟩⟩
set_option maxRecDepth 20000 in
set_option maxHeartbeats 4000000 in
theorem s_print_printer_text_1 (k : Nat) (IH : ∀ j, j ≤ k → C_print_printer_stmt (tie_print_printer_stmt j).print_printer_stmt ∧ C_print_printer_loop (tie_print_printer_stmt j).print_printer_loop ∧ C_print_printer_text (tie_print_printer_stmt j).print_printer_text ∧ C_print_lines_inside_v1 (tie_print_printer_stmt j).print_lines_inside_v1 ∧ C_print_printer_text_1 (tie_print_printer_stmt j).print_printer_text_1 ∧ C_print_lines_inside (tie_print_printer_stmt j).print_lines_inside ∧ C_print_printer_stmt_1 (tie_print_printer_stmt j).print_printer_stmt_1 ∧ C_print_printer_other (tie_print_printer_stmt j).print_printer_other) : C_print_printer_text_1 (m_print_printer_text_1 k (tie_print_printer_stmt k)) := by
 intro xs3 x10 xs11 x17 r HF w0 h0 b1 T2 v4 b7 T8 b9 A12 c13 hs0 rs5 rs14 ow15 ob6 ob19 ob18 ne20 ne21 ne22 tn23 tn24 tn25
 have S0 : Stp (b9 :: ((Value.slice A12 xs11.length c13).ownBlock.toList ++ [])) w0 h0 w0 h0 := Stp.refl hs0 _
 have om16 : ∀ i ∈ (Value.slice A12 xs11.length c13).ownBlock.toList, i ∈ (Value.slice A12 xs11.length c13).ownBlock.toList ∨ w0.heap.size ≤ i := fun i hi => .inl hi
 have lt26 : b1 < w0.heap.size := OB.lt ob6
 have lt27 : b7 < w0.heap.size := OB.lt ob19
 have lt28 : b9 < w0.heap.size := OB.lt ob18
 refine enter (n := 14) Tryz.func68 rfl Tryz.ntmps68 rfl [(0, .pointer (some ⟨b1, 0, none⟩)), (1, .pointer (some ⟨b7, 0, none⟩))] rfl <| WC.seq <| WC.region <| WL.val rfl rfl rfl (ov_load1 rfl t_agg_22 (OB.cell ob6 (j := 0) rfl)) ?_
 obtain ⟨A29, c30, rfl, rs31⟩ := RS.form rs5
 refine WL.val rfl rfl rfl (ov_lenL rfl t_slice_22) <| WL.val rfl rfl rfl (ov_move rfl) <| WL.nil <| WQ.seqN <| WC.block <| WC.loop <| WP.to [1, 4, 5, 6] [(1, .pointer (some ⟨b7, 0, none⟩)), (4, .slice A29 (xs3).length c30), (5, .int .i64 (xs3.length : Int)), (6, .int .i64 0)] rfl <| WP_rule (K := k) (fun j E w33 => ∃ (h32 : Hp) (x36 : Int) (xs37 : List St) (v38 : Value) (x42 : Bool) (xs43 : List UInt8) (v44 : Value) (x48 : ByteArray), (tie_print_printer_stmt j).print_printer_text_1_l1 xs3 x36 xs37 x42 xs43 x48 = some r ∧ E = [(1, .pointer (some ⟨b7, 0, none⟩)), (4, .slice A29 (xs3).length c30), (5, .int .i64 (xs3.length : Int)), (6, .int .i64 x36)] ∧ Stp (b9 :: ((Value.slice A12 xs11.length c13).ownBlock.toList ++ [])) w0 h0 w33 h32 ∧ Hle h0 h32 ∧ RS h32 v38 xs37 ∧ RS h32 v44 xs43 ∧ Own w33 h32 h0.base 5 1 v44 xs43.length ∧ (∀ i ∈ v44.ownBlock.toList, i ∈ (Value.slice A12 xs11.length c13).ownBlock.toList ∨ w0.heap.size ≤ i) ∧ OB w33 h32 b1 T2 [v38] ∧ OB w33 h32 b7 T8 [.pointer (some ⟨b9, 0, none⟩)] ∧ OB w33 h32 b9 55 [.pointer (bif x42 then some ⟨b9, 0, none⟩ else none), v44, .string x48]) ?_ ?_ (j := k) (Nat.le_refl _) ?_
 ·rintro E w33 ⟨_, _, _, _, _, _, _, _, HF, _⟩; cases HF
 ·rintro j50 hj52 IHL51 E w33 ⟨h32, x36, xs37, v38, x42, xs43, v44, x48, HF, rfl, S35, le34, rs39, rs45, ow46, om47, ob40, ob41, ob49⟩
  refine WC.seq <| WC.region <| WL.val rfl rfl rfl (ov_lss rfl rfl) <| WL.nil <| WQ.seqN <| WC.join (fun E w55 => ∃ (h54 : Hp) (xs60 : List UInt8) (v61 : Value), print_printer_text_1_j2 j50 (tie_print_printer_stmt j50) xs3 x36 xs37 x42 x48 xs60 = some r ∧ E = [(1, .pointer (some ⟨b7, 0, none⟩)), (4, .slice A29 (xs3).length c30), (5, .int .i64 (xs3.length : Int)), (6, .int .i64 x36)] ∧ Stp (b9 :: ((Value.slice A12 xs11.length c13).ownBlock.toList ++ [])) w0 h0 w55 h54 ∧ Hle h32 h54 ∧ RS h54 v61 xs60 ∧ Own w55 h54 h0.base 5 1 v61 xs60.length ∧ (∀ i ∈ v61.ownBlock.toList, i ∈ (Value.slice A12 xs11.length c13).ownBlock.toList ∨ w0.heap.size ≤ i) ∧ OB w55 h54 b1 T2 [v38] ∧ OB w55 h54 b7 T8 [.pointer (some ⟨b9, 0, none⟩)] ∧ OB w55 h54 b9 55 [.pointer (bif x42 then some ⟨b9, 0, none⟩ else none), v61, .string x48]) ?_ ?_
  ·rintro E w55 ⟨h54, xs60, v61, HF, rfl, S57, le56, rs62, ow63, om64, ob58, ob59, ob65⟩
   refine WC.seq <| WC.block <| WC.seq <| WC.region ?_
   obtain ⟨e66, he67, HF⟩ := bind_some HF
   obtain ⟨b68, o69, rfl, h71, h72, ra70⟩ := RS.atO (rs31.mono ((le34).trans le56)) he67
   obtain ⟨cs73, r74, hc75⟩ := ra70
   refine WL.val rfl rfl rfl (ov_indexAddr rfl rfl t_slice_22 t_size_44 h71 h72) <| WL.val rfl rfl rfl (ov_loadN (cs := cs73) rfl t_agg_44 (by rw [Rp.len r74]; exact t_size_44) (fun j v hv => S57.sub.at_ _ _ _ (hc75 j v hv))) <| WL.alloc (zs := [.int .i64 0, .string (⟨#[]⟩ : ByteArray), .slice none 0 0, .slice none 0 0, .slice none 0 0, .int .i64 0, .slice none 0 0, .slice none 0 0, .slice none 0 0, .bool false]) rfl rfl t_zero_44 rfl S57.sub (fun w76 b77 hb78 s79 ob80 => ?_)
   have ne81 : b1 ≠ b77 := ob58.ne_new hb78
   have ne82 : b7 ≠ b77 := ob59.ne_new hb78
   have ne83 : b9 ≠ b77 := ob65.ne_new hb78
   have g84 : w0.heap.size ≤ b77 := by rw [hb78]; exact S57.size
   have S85 := S57.trans0 s79
   obtain ⟨v86, v88, v90, v92, v94, v96, rfl, rs87, rs89, rs91, rs93, rs95, rs97⟩ := rp_St.1 (Rp.mono (s79.le) r74)
   refine WL.store (vs := [.int .i64 e66.op, .string e66.name, v86, v88, v90, .int .i64 e66.n, v92, v94, v96, .bool e66.els]) rfl rfl rfl rfl t_size_44 (one_cons rfl (one_cons rfl (one_cons (RS.one rs87) (one_cons (RS.one rs89) (one_cons (RS.one rs91) (one_cons rfl (one_cons (RS.one rs93) (one_cons (RS.one rs95) (one_cons (RS.one rs97) (one_cons rfl one_nil)))))))))) ob80 S85.sub (by simp) (ds := [.int .i64 e66.op, .string e66.name, v86, v88, v90, .int .i64 e66.n, v92, v94, v96, .bool e66.els]) rfl (fun w98 s99 ob100 => ?_)
   have S101 := S85.trans1 s99 (.inr g84)
   refine WL.nil <| WQ.seqN <| WC.region ?_
   have ob102 := ((ob59.step0 s79).step1 s99 ne82)
   refine WL.val rfl rfl rfl (ov_load1 rfl t_agg_77 (OB.cell ob102 (j := 0) rfl)) <| WL.val rfl rfl rfl (ov_loadN (cs := [.int .i64 e66.op, .string e66.name, v86, v88, v90, .int .i64 e66.n, v92, v94, v96, .bool e66.els]) rfl t_agg_44 t_size_44 (OB.cells ob100 0 rfl)) ?_
   obtain ⟨A103, c104, rfl, rs105⟩ := RS.form (rs62.mono ((s79.le).trans s99.le))
   have ob106 := ((ob65.step0 s79).step1 s99 ne83)
   obtain ⟨r107, hr108, HF⟩ := bind_some HF
   refine WL.call rfl rfl rfl (oc_func (vs := [.pointer (some ⟨b9, 0, none⟩), .agg #[.int .i64 e66.op, .string e66.name, v86, v88, v90, .int .i64 e66.n, v92, v94, v96, .bool e66.els]]) rfl t_ent_20) ((IH _ (Nat.le_trans (Nat.le_of_succ_le hj52) (Nat.le_refl _))).1 hr108 S101.sub rs105 (by rw [S101.eqb]; exact ((ow63.step0 s79).step s99 (on_cons ((ow63.step0 s79).ne_ob ob80 (by decide)) on_nil))) (rp_St.2 ⟨_, _, _, _, _, _, rfl, (rs87.mono (s99.le)), (rs89.mono (s99.le)), (rs91.mono (s99.le)), (rs93.mono (s99.le)), (rs95.mono (s99.le)), (rs97.mono (s99.le))⟩) ob106 tn25) ?_
   have ob113 := ((ob58.step0 s79).step1 s99 ne81)
   rintro v109 w110 ⟨h111, s112, rfl, ⟨v114, rs115, ow116, om117, ob120⟩⟩
   have ow118 := Own.rb ow116 S101.eqb
   have om119 : ∀ i ∈ v114.ownBlock.toList, i ∈ (Value.slice A12 xs11.length c13).ownBlock.toList ∨ w0.heap.size ≤ i := fun i hi => (om117 i hi).elim (fun q => om64 i q) (fun q => .inr (Nat.le_trans S101.size q))
   have S121 := S101.trans s112 (in_cons (.inl (by simp)) (in_own (fun i hi => (om64 i hi).elim (fun q => .inl (by simp only [List.mem_cons, List.mem_append]; simp [q])) .inr) in_nil))
   refine WL.nil <| WQ.blockN <| WQ.seqN <| WC.region <| WL.val rfl rfl rfl (ov_add rfl rfl) <| WL.val rfl rfl rfl (ov_move rfl) <| WL.nil ?_
   have ob123 := (ob113.step s112 (ni_cons ne21 (ni_own (fun hm => ((ow63.step0 s79).step s99 (on_cons ((ow63.step0 s79).ne_ob ob80 (by decide)) on_nil)).ne ob113 tn23 _ hm rfl) ni_nil)))
   have ob124 := (ob102.step s112 (ni_cons ne22 (ni_own (fun hm => ((ow63.step0 s79).step s99 (on_cons ((ow63.step0 s79).ne_ob ob80 (by decide)) on_nil)).ne ob102 tn24 _ hm rfl) ni_nil)))
   refine WQ.loopN <| WP.to [1, 4, 5, 6] [(1, .pointer (some ⟨b7, 0, none⟩)), (4, .slice (some ⟨b68, o69, none⟩) (xs3).length c30), (5, .int .i64 (xs3.length : Int)), (6, .int .i64 (IntKind.i64.wrap (x36 + 1)))] rfl ?_
   exact IHL51 j50 (Nat.le_refl _) _ _ ⟨h111, IntKind.i64.wrap (x36 + 1), xs37, v38, r107.1, r107.2.1, v114, r107.2.2, HF, rfl, S121, (le34).trans ((le56).trans ((s79.le).trans ((s99.le).trans s112.le))), (rs39.mono ((le56).trans ((s79.le).trans ((s99.le).trans s112.le)))), rs115, ow118, om119, ob123, ob124, ob120⟩
  ·intro J122
   refine WC.cond (b := decide ((x36 : Int) < (xs3.length : Int))) rfl (fun hb53 => ?_) (fun hb53 => ?_)
   ·replace HF := bif_t hb53 HF
    refine WC.skip <| WC.to [1, 4, 5, 6] [(1, .pointer (some ⟨b7, 0, none⟩)), (4, .slice A29 (xs3).length c30), (5, .int .i64 (xs3.length : Int)), (6, .int .i64 x36)] rfl ?_
    exact J122 ⟨h32, xs43, v44, HF, rfl, S35, Hle.refl _, rs45, ow46, om47, ob40, ob41, ob49⟩
   ·replace HF := bif_f hb53 HF
    refine WC.exit <| WQ.thenExit <| WQ.thenExit <| WQ.blockHit <| WQ.end0 rfl ?_
    obtain rfl := Option.some.inj HF
    exact ⟨_, rfl, h32, S35, rfl, ⟨_, rs45, ow46, om47, ob49⟩⟩
 ·exact ⟨h0, 0, xs3, .slice A29 (xs3).length c30, x10, xs11, .slice A12 xs11.length c13, x17, HF, rfl, S0, Hle.refl _, rs31, rs14, ow15, om16, ob6, ob19, ob18⟩
set_option maxRecDepth 20000 in
set_option maxHeartbeats 4000000 in
theorem s_print_lines_inside (k : Nat) (IH : ∀ j, j ≤ k → C_print_printer_stmt (tie_print_printer_stmt j).print_printer_stmt ∧ C_print_printer_loop (tie_print_printer_stmt j).print_printer_loop ∧ C_print_printer_text (tie_print_printer_stmt j).print_printer_text ∧ C_print_lines_inside_v1 (tie_print_printer_stmt j).print_lines_inside_v1 ∧ C_print_printer_text_1 (tie_print_printer_stmt j).print_printer_text_1 ∧ C_print_lines_inside (tie_print_printer_stmt j).print_lines_inside ∧ C_print_printer_stmt_1 (tie_print_printer_stmt j).print_printer_stmt_1 ∧ C_print_printer_other (tie_print_printer_stmt j).print_printer_other) : C_print_lines_inside (m_print_lines_inside k (tie_print_printer_stmt k)) := by
 intro x2 xs3 x9 x13 x14 xs15 xs18 xs21 x24 xs25 xs28 xs31 x34 r HF w0 h0 b1 A4 c5 b11 T12 v16 v19 v22 v26 v29 v32 b36 T37 hs0 rs6 ow7 rs17 rs20 rs23 rs27 rs30 rs33 ob10 ob35 ob38 ne39 ne40 ne41 tn42 tn43 tn44
 have S0 : Stp (b1 :: ((Value.slice A4 xs3.length c5).ownBlock.toList ++ [])) w0 h0 w0 h0 := Stp.refl hs0 _
 have om8 : ∀ i ∈ (Value.slice A4 xs3.length c5).ownBlock.toList, i ∈ (Value.slice A4 xs3.length c5).ownBlock.toList ∨ w0.heap.size ≤ i := fun i hi => .inl hi
 have lt45 : b1 < w0.heap.size := OB.lt ob10
 have lt46 : b11 < w0.heap.size := OB.lt ob35
 have lt47 : b36 < w0.heap.size := OB.lt ob38
 refine enter (n := 20) Tryz.func43 rfl Tryz.ntmps43 rfl [(0, .pointer (some ⟨b1, 0, none⟩)), (1, .func (.func 44) #[] #[.pointer (some ⟨b11, 0, none⟩), .pointer (some ⟨b36, 0, none⟩)])] rfl <| WC.seq <| WC.region <| WL.val rfl rfl rfl (ov_move rfl) <| WL.val rfl rfl rfl (ov_nilCheck rfl) <| WL.val rfl rfl rfl (ov_fieldAddr rfl t_field_53_1) <| WL.val rfl rfl rfl (ov_load1 rfl t_agg_9 (OB.cell ob10 (j := 2) rfl)) <| WL.val rfl rfl rfl (ov_assign rfl) <| WL.nil <| WQ.seqN <| WC.seq <| WC.region <| WL.val rfl rfl rfl (ov_move rfl) <| WL.val rfl rfl rfl (ov_move rfl) ?_
 obtain ⟨hl48, HF⟩ := ite_none HF
 refine WL.val rfl rfl rfl (ov_addS rfl rfl hl48) <| WL.val rfl rfl rfl (ov_nilCheck rfl) <| WL.val rfl rfl rfl (ov_fieldAddr rfl t_field_53_1) <| WL.store (vs := [.string (x9 ++ (⟨#[32, 32]⟩ : ByteArray))]) rfl rfl rfl rfl t_size_9 (one_cons rfl one_nil) ob10 S0.sub (by simp) (ds := [.pointer (bif x2 then some ⟨b1, 0, none⟩ else none), .slice A4 xs3.length c5, .string (x9 ++ (⟨#[32, 32]⟩ : ByteArray))]) rfl (fun w49 s50 ob51 => ?_)
 have S52 := S0.trans1 s50 (.inl (by simp))
 refine WL.nil <| WQ.seqN <| WC.seq <| WC.region <| WL.val rfl rfl rfl (ov_move rfl) ?_
 have ob53 := (ob35.step1 s50 (Ne.symm ne39))
 have ob54 := (ob38.step1 s50 (Ne.symm ne40))
 obtain ⟨r55, hr56, HF⟩ := bind_some HF
 refine WL.call rfl rfl rfl (oc_val (vs := []) (caps := [.pointer (some ⟨b11, 0, none⟩), .pointer (some ⟨b36, 0, none⟩)]) rfl rfl t_ent_44) ((IH _ (Nat.le_refl _)).2.2.2.2.2.2.1 hr56 S52.sub (rs17.mono (s50.le)) (rs20.mono (s50.le)) (rs23.mono (s50.le)) (rs27.mono (s50.le)) (rs30.mono (s50.le)) (rs33.mono (s50.le)) (rs6.mono (s50.le)) (by rw [S52.eqb]; exact (ow7.step s50 (on_cons (ow7.ne_ob ob10 tn42) on_nil))) ob53 ob54 ob51 ne41 (Ne.symm ne39) (Ne.symm ne40) tn43 tn44 tn42) ?_
 rintro v57 w58 ⟨h59, s60, rfl, ⟨v61, rs62, ow63, om64, ob67⟩⟩
 have ow65 := Own.rb ow63 S52.eqb
 have om66 : ∀ i ∈ v61.ownBlock.toList, i ∈ (Value.slice A4 xs3.length c5).ownBlock.toList ∨ w0.heap.size ≤ i := fun i hi => (om64 i hi).elim (fun q => om8 i q) (fun q => .inr (Nat.le_trans S52.size q))
 have S68 := S52.trans s60 (in_cons (.inl (by simp)) (in_own (fun i hi => (om8 i hi).elim (fun q => .inl (by simp only [List.mem_cons, List.mem_append]; simp [q])) .inr) in_nil))
 refine WL.nil <| WQ.seqN <| WC.region <| WL.val rfl rfl rfl (ov_move rfl) <| WL.val rfl rfl rfl (ov_move rfl) <| WL.val rfl rfl rfl (ov_nilCheck rfl) <| WL.val rfl rfl rfl (ov_fieldAddr rfl t_field_53_1) <| WL.store (vs := [.string x9]) rfl rfl rfl rfl t_size_9 (one_cons rfl one_nil) ob67 S68.sub (by simp) (ds := [.pointer (bif r55.1 then some ⟨b1, 0, none⟩ else none), v61, .string x9]) rfl (fun w69 s70 ob71 => ?_)
 have S72 := S68.trans1 s70 (.inl (by simp))
 refine WL.nil <| WQ.end0 rfl ?_
 obtain rfl := Option.some.inj HF
 exact ⟨_, rfl, h59, S72, rfl, ⟨_, (rs62.mono (s70.le)), (ow65.step s70 (on_cons (ow65.ne_ob ob67 tn42) on_nil)), om66, ob71⟩⟩
set_option maxRecDepth 20000 in
set_option maxHeartbeats 4000000 in
theorem s_print_printer_stmt_1 (k : Nat) (IH : ∀ j, j ≤ k → C_print_printer_stmt (tie_print_printer_stmt j).print_printer_stmt ∧ C_print_printer_loop (tie_print_printer_stmt j).print_printer_loop ∧ C_print_printer_text (tie_print_printer_stmt j).print_printer_text ∧ C_print_lines_inside_v1 (tie_print_printer_stmt j).print_lines_inside_v1 ∧ C_print_printer_text_1 (tie_print_printer_stmt j).print_printer_text_1 ∧ C_print_lines_inside (tie_print_printer_stmt j).print_lines_inside ∧ C_print_printer_stmt_1 (tie_print_printer_stmt j).print_printer_stmt_1 ∧ C_print_printer_other (tie_print_printer_stmt j).print_printer_other) : C_print_printer_stmt_1 (m_print_printer_stmt_1 k (tie_print_printer_stmt k)) := by
 intro x3 x4 xs5 xs8 xs11 x14 xs15 xs18 xs21 x24 x29 xs30 x36 r HF w0 h0 b1 T2 v6 v9 v12 v16 v19 v22 b26 T27 b28 A31 c32 hs0 rs7 rs10 rs13 rs17 rs20 rs23 rs33 ow34 ob25 ob38 ob37 ne39 ne40 ne41 tn42 tn43 tn44
 have S0 : Stp (b28 :: ((Value.slice A31 xs30.length c32).ownBlock.toList ++ [])) w0 h0 w0 h0 := Stp.refl hs0 _
 have om35 : ∀ i ∈ (Value.slice A31 xs30.length c32).ownBlock.toList, i ∈ (Value.slice A31 xs30.length c32).ownBlock.toList ∨ w0.heap.size ≤ i := fun i hi => .inl hi
 have lt45 : b1 < w0.heap.size := OB.lt ob25
 have lt46 : b26 < w0.heap.size := OB.lt ob38
 have lt47 : b28 < w0.heap.size := OB.lt ob37
 refine enter (n := 24) Tryz.func44 rfl Tryz.ntmps44 rfl [(0, .pointer (some ⟨b1, 0, none⟩)), (1, .pointer (some ⟨b26, 0, none⟩))] rfl <| WC.seq <| WC.region <| WL.val rfl rfl rfl (ov_fieldAddr rfl t_field_44_7) <| WL.val rfl rfl rfl (ov_load1 rfl t_agg_42 (OB.cell ob25 (j := 7) rfl)) ?_
 obtain ⟨A48, c49, rfl, rs50⟩ := RS.form rs20
 refine WL.val rfl rfl rfl (ov_lenL rfl t_slice_42) <| WL.val rfl rfl rfl (ov_move rfl) <| WL.nil <| WQ.seqN <| WC.block <| WC.loop <| WP.to [1, 5, 6, 7] [(1, .pointer (some ⟨b26, 0, none⟩)), (5, .slice A48 (xs18).length c49), (6, .int .i64 (xs18.length : Int)), (7, .int .i64 0)] rfl <| WP_rule (K := k) (fun j E w52 => ∃ (h51 : Hp) (x55 : Int) (xs56 : List Ar) (v57 : Value) (x61 : Bool) (xs62 : List UInt8) (v63 : Value) (x67 : ByteArray), (tie_print_printer_stmt j).print_printer_stmt_1_l1 xs18 x55 xs56 x61 xs62 x67 = some r ∧ E = [(1, .pointer (some ⟨b26, 0, none⟩)), (5, .slice A48 (xs18).length c49), (6, .int .i64 (xs18.length : Int)), (7, .int .i64 x55)] ∧ Stp (b28 :: ((Value.slice A31 xs30.length c32).ownBlock.toList ++ [])) w0 h0 w52 h51 ∧ Hle h0 h51 ∧ RS h51 v57 xs56 ∧ RS h51 v63 xs62 ∧ Own w52 h51 h0.base 5 1 v63 xs62.length ∧ (∀ i ∈ v63.ownBlock.toList, i ∈ (Value.slice A31 xs30.length c32).ownBlock.toList ∨ w0.heap.size ≤ i) ∧ OB w52 h51 b1 T2 [.int .i64 x3, .string x4, v6, v9, v12, .int .i64 x14, v16, v57, v22, .bool x24] ∧ OB w52 h51 b26 T27 [.pointer (some ⟨b28, 0, none⟩)] ∧ OB w52 h51 b28 55 [.pointer (bif x61 then some ⟨b28, 0, none⟩ else none), v63, .string x67]) ?_ ?_ (j := k) (Nat.le_refl _) ?_
 ·rintro E w52 ⟨_, _, _, _, _, _, _, _, HF, _⟩; cases HF
 ·rintro j69 hj71 IHL70 E w52 ⟨h51, x55, xs56, v57, x61, xs62, v63, x67, HF, rfl, S54, le53, rs58, rs64, ow65, om66, ob59, ob60, ob68⟩
  refine WC.seq <| WC.region <| WL.val rfl rfl rfl (ov_lss rfl rfl) <| WL.nil <| WQ.seqN <| WC.join (fun E w74 => ∃ (h73 : Hp) (xs79 : List UInt8) (v80 : Value), print_printer_stmt_1_j2 j69 (tie_print_printer_stmt j69) xs18 x55 xs56 x61 x67 xs79 = some r ∧ E = [(1, .pointer (some ⟨b26, 0, none⟩)), (5, .slice A48 (xs18).length c49), (6, .int .i64 (xs18.length : Int)), (7, .int .i64 x55)] ∧ Stp (b28 :: ((Value.slice A31 xs30.length c32).ownBlock.toList ++ [])) w0 h0 w74 h73 ∧ Hle h51 h73 ∧ RS h73 v80 xs79 ∧ Own w74 h73 h0.base 5 1 v80 xs79.length ∧ (∀ i ∈ v80.ownBlock.toList, i ∈ (Value.slice A31 xs30.length c32).ownBlock.toList ∨ w0.heap.size ≤ i) ∧ OB w74 h73 b1 T2 [.int .i64 x3, .string x4, v6, v9, v12, .int .i64 x14, v16, v57, v22, .bool x24] ∧ OB w74 h73 b26 T27 [.pointer (some ⟨b28, 0, none⟩)] ∧ OB w74 h73 b28 55 [.pointer (bif x61 then some ⟨b28, 0, none⟩ else none), v80, .string x67]) ?_ ?_
  ·rintro E w74 ⟨h73, xs79, v80, HF, rfl, S76, le75, rs81, ow82, om83, ob77, ob78, ob84⟩
   refine WC.seq <| WC.block <| WC.seq <| WC.region ?_
   obtain ⟨e85, he86, HF⟩ := bind_some HF
   obtain ⟨b87, o88, rfl, h90, h91, ra89⟩ := RS.atO (rs50.mono ((le53).trans le75)) he86
   obtain ⟨cs92, r93, hc94⟩ := ra89
   refine WL.val rfl rfl rfl (ov_indexAddr rfl rfl t_slice_42 t_size_47 h90 h91) <| WL.val rfl rfl rfl (ov_loadN (cs := cs92) rfl t_agg_47 (by rw [Rp.len r93]; exact t_size_47) (fun j v hv => S76.sub.at_ _ _ _ (hc94 j v hv))) <| WL.alloc (zs := [.slice none 0 0, .slice none 0 0, .slice none 0 0]) rfl rfl t_zero_47 rfl S76.sub (fun w95 b96 hb97 s98 ob99 => ?_)
   have ne100 : b1 ≠ b96 := ob77.ne_new hb97
   have ne101 : b26 ≠ b96 := ob78.ne_new hb97
   have ne102 : b28 ≠ b96 := ob84.ne_new hb97
   have g103 : w0.heap.size ≤ b96 := by rw [hb97]; exact S76.size
   have S104 := S76.trans0 s98
   obtain ⟨v105, v107, v109, rfl, rs106, rs108, rs110⟩ := rp_Ar.1 (Rp.mono (s98.le) r93)
   refine WL.store (vs := [v105, v107, v109]) rfl rfl rfl rfl t_size_47 (one_cons (RS.one rs106) (one_cons (RS.one rs108) (one_cons (RS.one rs110) one_nil))) ob99 S104.sub (by simp) (ds := [v105, v107, v109]) rfl (fun w111 s112 ob113 => ?_)
   have S114 := S104.trans1 s112 (.inr g103)
   refine WL.nil <| WQ.seqN <| WC.seq ?_
   obtain ⟨r115, hr116, HF⟩ := bind_some HF
   obtain ⟨hl117, HF⟩ := ite_none HF
   refine WC.drawn (m := 7) [(1, .pointer (some ⟨b26, 0, none⟩)), (3, .pointer (some ⟨b96, 0, none⟩)), (5, .slice (some ⟨b87, o88, none⟩) (xs18).length c49), (6, .int .i64 (xs18.length : Int)), (7, .int .i64 x55)] [1, 3, 5, 6, 7] rfl (fun i v w h => match i with | 0 => v = .pointer (some ⟨b28, 0, none⟩) | 1 => v = .pointer (some ⟨b28, 0, none⟩) | 2 => v = .pointer (some ⟨b28, 0, none⟩) | 3 => v = .pointer (some ⟨b96, 1, none⟩) | 4 => v = v107 | 5 => v = .string r115 | 6 => v = .string (r115 ++ (⟨#[58]⟩ : ByteArray)) | _ => True) t_mixed S114.sub rfl rfl rfl rfl rfl ?_ ?_ ?_
   ·intro i v w h w2 h2 hΦ hst
    match i, hΦ with
    | 0, hΦ => exact hΦ
    | 1, hΦ => exact hΦ
    | 2, hΦ => exact hΦ
    | 3, hΦ => exact hΦ
    | 4, hΦ => exact hΦ
    | 5, hΦ => exact hΦ
    | 6, hΦ => exact hΦ
    | i + 7, _ => exact trivial
   ·refine ⟨?_, ?_, ?_, ?_, ?_, ?_, ?_, trivial⟩
    ·intro a w118 h119 s120 hat hF
     have ob121 := (((ob78.step0 s98).step1 s112 ne101).step0 s120)
     exact front_val (show At _ [(1, .pointer (some ⟨b26, 0, none⟩)), (3, .pointer (some ⟨b96, 0, none⟩)), (5, .slice (some ⟨b87, o88, none⟩) (xs18).length c49), (6, .int .i64 (xs18.length : Int)), (7, .int .i64 x55)] _ from hat) rfl (ov_load1 rfl t_agg_77 (OB.cell ob121 (j := 0) rfl)) s120.sub (by exact rfl)
    ·intro a w118 h119 s120 hat hF
     obtain hv0 := hF 0 11 rfl rfl
     exact front_val (show At _ [(11, .pointer (some ⟨b28, 0, none⟩)), (1, .pointer (some ⟨b26, 0, none⟩)), (3, .pointer (some ⟨b96, 0, none⟩)), (5, .slice (some ⟨b87, o88, none⟩) (xs18).length c49), (6, .int .i64 (xs18.length : Int)), (7, .int .i64 x55)] _ from (At.cons hat hv0)) rfl (ov_nilCheck rfl) s120.sub (by exact rfl)
    ·intro a w118 h119 s120 hat hF
     obtain hv1 := hF 1 12 rfl rfl
     exact front_val (show At _ [(12, .pointer (some ⟨b28, 0, none⟩)), (1, .pointer (some ⟨b26, 0, none⟩)), (3, .pointer (some ⟨b96, 0, none⟩)), (5, .slice (some ⟨b87, o88, none⟩) (xs18).length c49), (6, .int .i64 (xs18.length : Int)), (7, .int .i64 x55)] _ from (At.cons hat hv1)) rfl (ov_fieldAddr rfl t_field_55_0) s120.sub (by exact rfl)
    ·intro a w118 h119 s120 hat hF
     exact front_val (show At _ [(1, .pointer (some ⟨b26, 0, none⟩)), (3, .pointer (some ⟨b96, 0, none⟩)), (5, .slice (some ⟨b87, o88, none⟩) (xs18).length c49), (6, .int .i64 (xs18.length : Int)), (7, .int .i64 x55)] _ from hat) rfl (ov_fieldAddr rfl t_field_47_1) s120.sub (by exact rfl)
    ·intro a w118 h119 s120 hat hF
     obtain hv3 := hF 3 14 rfl rfl
     have ob122 := (ob113.step0 s120)
     exact front_val (show At _ [(14, .pointer (some ⟨b96, 1, none⟩)), (1, .pointer (some ⟨b26, 0, none⟩)), (3, .pointer (some ⟨b96, 0, none⟩)), (5, .slice (some ⟨b87, o88, none⟩) (xs18).length c49), (6, .int .i64 (xs18.length : Int)), (7, .int .i64 x55)] _ from (At.cons hat hv3)) rfl (ov_load1 rfl t_agg_45 (OB.cell ob122 (j := 1) rfl)) s120.sub (by exact rfl)
    ·intro a w118 h119 s120 hat hF
     obtain hv4 := hF 4 15 rfl rfl
     refine front_call (show At _ [(15, v107), (1, .pointer (some ⟨b26, 0, none⟩)), (3, .pointer (some ⟨b96, 0, none⟩)), (5, .slice (some ⟨b87, o88, none⟩) (xs18).length c49), (6, .int .i64 (xs18.length : Int)), (7, .int .i64 x55)] _ from (At.cons hat hv4)) rfl (oc_func (vs := [v107, .string (⟨#[44, 32]⟩ : ByteArray), .func (.func 36) #[] #[]]) rfl t_ent_45) (ok_print_Joined_int _ hr116 s120.sub (rs108.mono ((s112.le).trans s120.le))) ?_
     rintro _ w123 ⟨h124, s125, rfl⟩
     exact ⟨_, h124, rfl, s125, (by exact rfl)⟩
    ·intro a w118 h119 s120 hat hF
     obtain hv5 := hF 5 16 rfl rfl
     exact front_val (show At _ [(16, .string r115), (1, .pointer (some ⟨b26, 0, none⟩)), (3, .pointer (some ⟨b96, 0, none⟩)), (5, .slice (some ⟨b87, o88, none⟩) (xs18).length c49), (6, .int .i64 (xs18.length : Int)), (7, .int .i64 x55)] _ from (At.cons hat hv5)) rfl (ov_addS rfl rfl hl117) s120.sub (by exact rfl)
   ·intro a w118 h119 s120 hat hF
    obtain hv0 := hF 0 11 (by decide) rfl
    obtain hv1 := hF 1 12 (by decide) rfl
    obtain hv2 := hF 2 13 (by decide) rfl
    obtain hv3 := hF 3 14 (by decide) rfl
    obtain hv4 := hF 4 15 (by decide) rfl
    obtain hv5 := hF 5 16 (by decide) rfl
    obtain hv6 := hF 6 17 (by decide) rfl
    refine WL.at_ [(17, .string (r115 ++ (⟨#[58]⟩ : ByteArray))), (16, .string r115), (15, v107), (14, .pointer (some ⟨b96, 1, none⟩)), (13, .pointer (some ⟨b28, 0, none⟩)), (12, .pointer (some ⟨b28, 0, none⟩)), (11, .pointer (some ⟨b28, 0, none⟩)), (1, .pointer (some ⟨b26, 0, none⟩)), (3, .pointer (some ⟨b96, 0, none⟩)), (5, .slice (some ⟨b87, o88, none⟩) (xs18).length c49), (6, .int .i64 (xs18.length : Int)), (7, .int .i64 x55)] (At.cons (At.cons (At.cons (At.cons (At.cons (At.cons (At.cons hat hv0) hv1) hv2) hv3) hv4) hv5) hv6) ?_
    have S126 := S114.trans0 s120
    obtain ⟨A127, c128, rfl, rs129⟩ := RS.form (rs81.mono ((s98.le).trans ((s112.le).trans s120.le)))
    have ob130 := (((ob84.step0 s98).step1 s112 ne102).step0 s120)
    obtain ⟨r131, hr132, HF⟩ := bind_some HF
    refine WL.call rfl rfl rfl (oc_func (vs := [.pointer (some ⟨b28, 0, none⟩), .string (r115 ++ (⟨#[58]⟩ : ByteArray))]) rfl t_ent_39) (ok_print_lines_line _ hr132 S126.sub rs129 (by rw [S126.eqb]; exact (((ow82.step0 s98).step s112 (on_cons ((ow82.step0 s98).ne_ob ob99 (by decide)) on_nil)).step0 s120)) ob130 tn44) ?_
    have ob137 := (((ob77.step0 s98).step1 s112 ne100).step0 s120)
    have ob138 := (((ob78.step0 s98).step1 s112 ne101).step0 s120)
    have ob139 := (ob113.step0 s120)
    rintro v133 w134 ⟨h135, s136, rfl, ⟨v140, rs141, ow142, om143, ob146⟩⟩
    have ow144 := Own.rb ow142 S126.eqb
    have om145 : ∀ i ∈ v140.ownBlock.toList, i ∈ (Value.slice A31 xs30.length c32).ownBlock.toList ∨ w0.heap.size ≤ i := fun i hi => (om143 i hi).elim (fun q => om83 i q) (fun q => .inr (Nat.le_trans S126.size q))
    have S147 := S126.trans s136 (in_cons (.inl (by simp)) (in_own (fun i hi => (om83 i hi).elim (fun q => .inl (by simp only [List.mem_cons, List.mem_append]; simp [q])) .inr) in_nil))
    refine WL.nil <| WQ.seqN <| WC.region ?_
    have ob148 := (ob138.step s136 (ni_cons ne41 (ni_own (fun hm => (((ow82.step0 s98).step s112 (on_cons ((ow82.step0 s98).ne_ob ob99 (by decide)) on_nil)).step0 s120).ne ob138 tn43 _ hm rfl) ni_nil)))
    refine WL.val rfl rfl rfl (ov_load1 rfl t_agg_77 (OB.cell ob148 (j := 0) rfl)) <| WL.val rfl rfl rfl (ov_fieldAddr rfl t_field_47_2) ?_
    have ob149 := (ob139.step s136 (ni_cons (Ne.symm ne102) (ni_own (fun hm => (((ow82.step0 s98).step s112 (on_cons ((ow82.step0 s98).ne_ob ob99 (by decide)) on_nil)).step0 s120).ne ob139 (by decide) _ hm rfl) ni_nil)))
    refine WL.val rfl rfl rfl (ov_load1 rfl t_agg_22 (OB.cell ob149 (j := 2) rfl)) ?_
    obtain ⟨A150, c151, rfl, rs152⟩ := RS.form rs141
    obtain ⟨r153, hr154, HF⟩ := bind_some HF
    refine WL.call rfl rfl rfl (oc_func (vs := [.pointer (some ⟨b28, 0, none⟩), v109]) rfl t_ent_41) ((IH _ (Nat.le_trans (Nat.le_of_succ_le hj71) (Nat.le_refl _))).2.2.1 hr154 S147.sub rs152 (by rw [S147.eqb]; exact ow144) (rs110.mono ((s112.le).trans ((s120.le).trans s136.le))) ob146 tn44) ?_
    have ob159 := (ob137.step s136 (ni_cons ne40 (ni_own (fun hm => (((ow82.step0 s98).step s112 (on_cons ((ow82.step0 s98).ne_ob ob99 (by decide)) on_nil)).step0 s120).ne ob137 tn42 _ hm rfl) ni_nil)))
    rintro v155 w156 ⟨h157, s158, rfl, ⟨v160, rs161, ow162, om163, ob166⟩⟩
    have ow164 := Own.rb ow162 S147.eqb
    have om165 : ∀ i ∈ v160.ownBlock.toList, i ∈ (Value.slice A31 xs30.length c32).ownBlock.toList ∨ w0.heap.size ≤ i := fun i hi => (om163 i hi).elim (fun q => om145 i q) (fun q => .inr (Nat.le_trans S147.size q))
    have S167 := S147.trans s158 (in_cons (.inl (by simp)) (in_own (fun i hi => (om145 i hi).elim (fun q => .inl (by simp only [List.mem_cons, List.mem_append]; simp [q])) .inr) in_nil))
    refine WL.nil <| WQ.blockN <| WQ.seqN <| WC.region <| WL.val rfl rfl rfl (ov_add rfl rfl) <| WL.val rfl rfl rfl (ov_move rfl) <| WL.nil ?_
    have ob169 := (ob159.step s158 (ni_cons ne40 (ni_own (fun hm => ow144.ne ob159 tn42 _ hm rfl) ni_nil)))
    have ob170 := (ob148.step s158 (ni_cons ne41 (ni_own (fun hm => ow144.ne ob148 tn43 _ hm rfl) ni_nil)))
    refine WQ.loopN <| WP.to [1, 5, 6, 7] [(1, .pointer (some ⟨b26, 0, none⟩)), (5, .slice (some ⟨b87, o88, none⟩) (xs18).length c49), (6, .int .i64 (xs18.length : Int)), (7, .int .i64 (IntKind.i64.wrap (x55 + 1)))] rfl ?_
    exact IHL70 j69 (Nat.le_refl _) _ _ ⟨h157, IntKind.i64.wrap (x55 + 1), xs56, v57, r153.1, r153.2.1, v160, r153.2.2, HF, rfl, S167, (le53).trans ((le75).trans ((s98.le).trans ((s112.le).trans ((s120.le).trans ((s136.le).trans s158.le))))), (rs58.mono ((le75).trans ((s98.le).trans ((s112.le).trans ((s120.le).trans ((s136.le).trans s158.le)))))), rs161, ow164, om165, ob169, ob170, ob166⟩
  ·intro J168
   refine WC.cond (b := decide ((x55 : Int) < (xs18.length : Int))) rfl (fun hb72 => ?_) (fun hb72 => ?_)
   ·replace HF := bif_t hb72 HF
    refine WC.skip <| WC.to [1, 5, 6, 7] [(1, .pointer (some ⟨b26, 0, none⟩)), (5, .slice A48 (xs18).length c49), (6, .int .i64 (xs18.length : Int)), (7, .int .i64 x55)] rfl ?_
    exact J168 ⟨h51, xs62, v63, HF, rfl, S54, Hle.refl _, rs64, ow65, om66, ob59, ob60, ob68⟩
   ·replace HF := bif_f hb72 HF
    refine WC.exit <| WQ.thenExit <| WQ.thenExit <| WQ.blockHit <| WQ.end0 rfl ?_
    obtain rfl := Option.some.inj HF
    exact ⟨_, rfl, h51, S54, rfl, ⟨_, rs64, ow65, om66, ob68⟩⟩
 ·exact ⟨h0, 0, xs18, .slice A48 (xs18).length c49, x29, xs30, .slice A31 xs30.length c32, x36, HF, rfl, S0, Hle.refl _, rs50, rs33, ow34, om35, ob25, ob38, ob37⟩
set_option maxRecDepth 20000 in
set_option maxHeartbeats 4000000 in
theorem s_print_printer_other (k : Nat) (IH : ∀ j, j ≤ k → C_print_printer_stmt (tie_print_printer_stmt j).print_printer_stmt ∧ C_print_printer_loop (tie_print_printer_stmt j).print_printer_loop ∧ C_print_printer_text (tie_print_printer_stmt j).print_printer_text ∧ C_print_lines_inside_v1 (tie_print_printer_stmt j).print_lines_inside_v1 ∧ C_print_printer_text_1 (tie_print_printer_stmt j).print_printer_text_1 ∧ C_print_lines_inside (tie_print_printer_stmt j).print_lines_inside ∧ C_print_printer_stmt_1 (tie_print_printer_stmt j).print_printer_stmt_1 ∧ C_print_printer_other (tie_print_printer_stmt j).print_printer_other) : C_print_printer_other (m_print_printer_other k (tie_print_printer_stmt k)) := by
 intro x2 xs3 x9 x11 r HF w0 h0 b1 A4 c5 cs12 hs0 rs6 ow7 r13 ob10 tn14
 have S0 : Stp (b1 :: ((Value.slice A4 xs3.length c5).ownBlock.toList ++ [])) w0 h0 w0 h0 := Stp.refl hs0 _
 have om8 : ∀ i ∈ (Value.slice A4 xs3.length c5).ownBlock.toList, i ∈ (Value.slice A4 xs3.length c5).ownBlock.toList ∨ w0.heap.size ≤ i := fun i hi => .inl hi
 have lt15 : b1 < w0.heap.size := OB.lt ob10
 refine enter (n := 14) Tryz.func42 rfl Tryz.ntmps42 rfl [(0, .pointer (some ⟨b1, 0, none⟩)), (1, .agg cs12.toArray)] rfl <| WC.seq <| WC.region ?_
 obtain ⟨v16, v18, v20, v22, v24, v26, rfl, rs17, rs19, rs21, rs23, rs25, rs27⟩ := rp_St.1 r13
 refine WL.box (cs := [.int .i64 x11.op, .string x11.name, v16, v18, v20, .int .i64 x11.n, v22, v24, v26, .bool x11.els]) rfl rfl rfl rfl S0.sub (fun w28 b29 hb30 s31 ob32 => ?_)
 have ne33 : b1 ≠ b29 := ob10.ne_new hb30
 have g34 : w0.heap.size ≤ b29 := by rw [hb30]; exact S0.size
 have S35 := S0.trans0 s31
 refine WL.nil <| WQ.seqN <| WC.seq <| WC.region <| WL.val rfl rfl rfl (ov_fieldAddr rfl t_field_44_9) <| WL.val rfl rfl rfl (ov_load1 rfl t_agg_4 (OB.cell ob32 (j := 9) rfl)) <| WL.nil <| WQ.seqN <| WC.cond (b := x11.els) rfl (fun hb36 => ?_) (fun hb36 => ?_)
 ·replace HF := bif_t hb36 HF
  refine WC.seq <| WC.region <| WL.val rfl rfl rfl (ov_move rfl) <| WL.val rfl rfl rfl (ov_nilCheck rfl) <| WL.val rfl rfl rfl (ov_fieldAddr rfl t_field_55_0) ?_
  have ob37 := (ob10.step0 s31)
  obtain ⟨r38, hr39, HF⟩ := bind_some HF
  refine WL.call rfl rfl rfl (oc_func (vs := [.pointer (some ⟨b1, 0, none⟩), .string (⟨#[101, 108, 115, 101]⟩ : ByteArray)]) rfl t_ent_39) (ok_print_lines_line _ hr39 S35.sub (rs6.mono (s31.le)) (by rw [S35.eqb]; exact (ow7.step0 s31)) ob37 tn14) ?_
  rintro v40 w41 ⟨h42, s43, rfl, ⟨v44, rs45, ow46, om47, ob50⟩⟩
  have ow48 := Own.rb ow46 S35.eqb
  have om49 : ∀ i ∈ v44.ownBlock.toList, i ∈ (Value.slice A4 xs3.length c5).ownBlock.toList ∨ w0.heap.size ≤ i := fun i hi => (om47 i hi).elim (fun q => om8 i q) (fun q => .inr (Nat.le_trans S35.size q))
  have S51 := S35.trans s43 (in_cons (.inl (by simp)) (in_own (fun i hi => (om8 i hi).elim (fun q => .inl (by simp only [List.mem_cons, List.mem_append]; simp [q])) .inr) in_nil))
  refine WL.nil <| WQ.seqN <| WC.region <| WL.val rfl rfl rfl (ov_move rfl) <| WL.val rfl rfl rfl (ov_fieldAddr rfl t_field_44_8) ?_
  have ob52 := (ob32.step s43 (ni_cons (Ne.symm ne33) (ni_own (fun hm => (ow7.step0 s31).ne ob32 (by decide) _ hm rfl) ni_nil)))
  refine WL.val rfl rfl rfl (ov_load1 rfl t_agg_22 (OB.cell ob52 (j := 8) rfl)) ?_
  obtain ⟨A53, c54, rfl, rs55⟩ := RS.form rs45
  obtain ⟨r56, hr57, HF⟩ := bind_some HF
  refine WL.call rfl rfl rfl (oc_func (vs := [.pointer (some ⟨b1, 0, none⟩), v26]) rfl t_ent_41) ((IH _ (Nat.le_refl _)).2.2.1 hr57 S51.sub rs55 (by rw [S51.eqb]; exact ow48) (rs27.mono ((s31.le).trans s43.le)) ob50 tn14) ?_
  rintro v58 w59 ⟨h60, s61, rfl, ⟨v62, rs63, ow64, om65, ob68⟩⟩
  have ow66 := Own.rb ow64 S51.eqb
  have om67 : ∀ i ∈ v62.ownBlock.toList, i ∈ (Value.slice A4 xs3.length c5).ownBlock.toList ∨ w0.heap.size ≤ i := fun i hi => (om65 i hi).elim (fun q => om49 i q) (fun q => .inr (Nat.le_trans S51.size q))
  have S69 := S51.trans s61 (in_cons (.inl (by simp)) (in_own (fun i hi => (om49 i hi).elim (fun q => .inl (by simp only [List.mem_cons, List.mem_append]; simp [q])) .inr) in_nil))
  refine WL.nil <| WQ.end0 rfl ?_
  obtain rfl := Option.some.inj HF
  exact ⟨_, rfl, h60, S69, rfl, ⟨_, rs63, ow66, om67, ob68⟩⟩
 ·replace HF := bif_f hb36 HF
  refine WC.skip ?_
  have ob70 := (ob10.step0 s31)
  refine WQ.end0 rfl ?_
  obtain rfl := Option.some.inj HF
  exact ⟨_, rfl, h0, S35, rfl, ⟨_, (rs6.mono (s31.le)), (ow7.step0 s31), om8, ob70⟩⟩
theorem all_print_printer_stmt : ∀ k j, j ≤ k → C_print_printer_stmt (tie_print_printer_stmt j).print_printer_stmt ∧ C_print_printer_loop (tie_print_printer_stmt j).print_printer_loop ∧ C_print_printer_text (tie_print_printer_stmt j).print_printer_text ∧ C_print_lines_inside_v1 (tie_print_printer_stmt j).print_lines_inside_v1 ∧ C_print_printer_text_1 (tie_print_printer_stmt j).print_printer_text_1 ∧ C_print_lines_inside (tie_print_printer_stmt j).print_lines_inside ∧ C_print_printer_stmt_1 (tie_print_printer_stmt j).print_printer_stmt_1 ∧ C_print_printer_other (tie_print_printer_stmt j).print_printer_other := by
  intro k
  induction k with
  | zero =>
    intro j hj
    obtain rfl : j = 0 := by omega
    exact ⟨(fun _ _ _ _ _ => by intro h; cases h), (fun _ _ _ _ _ => by intro h; cases h), (fun _ _ _ _ _ => by intro h; cases h), (fun _ _ _ _ _ => by intro h; cases h), (fun _ _ _ _ _ => by intro h; cases h), (fun _ _ _ _ _ _ _ _ _ _ _ _ _ _ => by intro h; cases h), (fun _ _ _ _ _ _ _ _ _ _ _ _ _ _ => by intro h; cases h), (fun _ _ _ _ _ => by intro h; cases h)⟩
  | succ k ih =>
    intro j hj
    by_cases h : j ≤ k
    · exact ih j h
    · obtain rfl : j = k + 1 := by omega
      exact ⟨s_print_printer_stmt k ih, s_print_printer_loop k ih, s_print_printer_text k ih, s_print_lines_inside_v1 k ih, s_print_printer_text_1 k ih, s_print_lines_inside k ih, s_print_printer_stmt_1 k ih, s_print_printer_other k ih⟩
theorem ok_print_printer_stmt (k : Nat) : C_print_printer_stmt (F_print_printer_stmt k) := (all_print_printer_stmt k k (Nat.le_refl _)).1
theorem ok_print_printer_loop (k : Nat) : C_print_printer_loop (F_print_printer_loop k) := (all_print_printer_stmt k k (Nat.le_refl _)).2.1
theorem ok_print_printer_text (k : Nat) : C_print_printer_text (F_print_printer_text k) := (all_print_printer_stmt k k (Nat.le_refl _)).2.2.1
theorem ok_print_lines_inside_v1 (k : Nat) : C_print_lines_inside_v1 (F_print_lines_inside_v1 k) := (all_print_printer_stmt k k (Nat.le_refl _)).2.2.2.1
theorem ok_print_printer_text_1 (k : Nat) : C_print_printer_text_1 (F_print_printer_text_1 k) := (all_print_printer_stmt k k (Nat.le_refl _)).2.2.2.2.1
theorem ok_print_lines_inside (k : Nat) : C_print_lines_inside (F_print_lines_inside k) := (all_print_printer_stmt k k (Nat.le_refl _)).2.2.2.2.2.1
theorem ok_print_printer_stmt_1 (k : Nat) : C_print_printer_stmt_1 (F_print_printer_stmt_1 k) := (all_print_printer_stmt k k (Nat.le_refl _)).2.2.2.2.2.2.1
theorem ok_print_printer_other (k : Nat) : C_print_printer_other (F_print_printer_other k) := (all_print_printer_stmt k k (Nat.le_refl _)).2.2.2.2.2.2.2

def C_strings_Builder_String (φ : Bool → (List UInt8) → ByteArray → Option ByteArray) : Prop := ∀ ⦃x2 : Bool⦄ ⦃xs3 : List UInt8⦄ ⦃x9 : ByteArray⦄ ⦃r : ByteArray⦄, φ x2 xs3 x9 = some r → ∀ ⦃w0 : World⦄ ⦃h0 : Hp⦄ ⦃b1 : Nat⦄ ⦃A4 : Option Addr⦄ ⦃c5 : Nat⦄, Sub h0 w0 → RS h0 (.slice A4 xs3.length c5) xs3 → Own w0 h0 h0.base 5 1 (.slice A4 xs3.length c5) xs3.length → OB w0 h0 b1 55 [.pointer (bif x2 then some ⟨b1, 0, none⟩ else none), .slice A4 xs3.length c5, .string x9] → (5 : Nat) ≠ 55 →
  Calls Tryz.prog 21 #[.pointer (some ⟨b1, 0, none⟩)] w0 fun e w1 => ∃ v, e = .returned v ∧ ∃ h1, Stp ((Value.slice A4 xs3.length c5).ownBlock.toList ++ []) w0 h0 w1 h1 ∧ v = .string r
set_option maxRecDepth 20000 in
set_option maxHeartbeats 4000000 in
theorem s_strings_Builder_String (k : Nat) : C_strings_Builder_String (F_strings_Builder_String k) := by
 intro x2 xs3 x9 r HF w0 h0 b1 A4 c5 hs0 rs6 ow7 ob10 tn11
 have S0 : Stp ((Value.slice A4 xs3.length c5).ownBlock.toList ++ []) w0 h0 w0 h0 := Stp.refl hs0 _
 have om8 : ∀ i ∈ (Value.slice A4 xs3.length c5).ownBlock.toList, i ∈ (Value.slice A4 xs3.length c5).ownBlock.toList ∨ w0.heap.size ≤ i := fun i hi => .inl hi
 have lt12 : b1 < w0.heap.size := OB.lt ob10
 refine enter (n := 14) Tryz.func21 rfl Tryz.ntmps21 rfl [(0, .pointer (some ⟨b1, 0, none⟩))] rfl <| WC.seq <| WC.region <| WL.val rfl rfl rfl (ov_assign rfl) <| WL.nil <| WQ.seqN <| WC.seq <| WC.drawn (m := 10) [(0, .pointer (some ⟨b1, 0, none⟩)), (2, .string (⟨#[]⟩ : ByteArray))] [0, 2] rfl (fun i v w h => match i with | 0 => v = .pointer (some ⟨b1, 0, none⟩) | 1 => v = .pointer (some ⟨b1, 0, none⟩) | 2 => v = .pointer (some ⟨b1, 1, none⟩) | 3 => v = .slice A4 xs3.length c5 | 4 => v = .pointer A4 | 5 => v = .pointer (some ⟨b1, 0, none⟩) | 6 => v = .pointer (some ⟨b1, 0, none⟩) | 7 => v = .pointer (some ⟨b1, 1, none⟩) | 8 => v = .slice A4 xs3.length c5 | 9 => v = .int .i64 (xs3.length : Int) | _ => True) t_mixed S0.sub rfl rfl rfl rfl rfl ?_ ?_ ?_
 ·intro i v w h w2 h2 hΦ hst
  match i, hΦ with
  | 0, hΦ => exact hΦ
  | 1, hΦ => exact hΦ
  | 2, hΦ => exact hΦ
  | 3, hΦ => exact hΦ
  | 4, hΦ => exact hΦ
  | 5, hΦ => exact hΦ
  | 6, hΦ => exact hΦ
  | 7, hΦ => exact hΦ
  | 8, hΦ => exact hΦ
  | 9, hΦ => exact hΦ
  | i + 10, _ => exact trivial
 ·refine ⟨?_, ?_, ?_, ?_, ?_, ?_, ?_, ?_, ?_, ?_, trivial⟩
  ·intro a w13 h14 s15 hat hF
   exact front_val (show At _ [(0, .pointer (some ⟨b1, 0, none⟩)), (2, .string (⟨#[]⟩ : ByteArray))] _ from hat) rfl (ov_move rfl) s15.sub (by exact rfl)
  ·intro a w13 h14 s15 hat hF
   obtain hv0 := hF 0 3 rfl rfl
   exact front_val (show At _ [(3, .pointer (some ⟨b1, 0, none⟩)), (0, .pointer (some ⟨b1, 0, none⟩)), (2, .string (⟨#[]⟩ : ByteArray))] _ from (At.cons hat hv0)) rfl (ov_nilCheck rfl) s15.sub (by exact rfl)
  ·intro a w13 h14 s15 hat hF
   obtain hv1 := hF 1 4 rfl rfl
   exact front_val (show At _ [(4, .pointer (some ⟨b1, 0, none⟩)), (0, .pointer (some ⟨b1, 0, none⟩)), (2, .string (⟨#[]⟩ : ByteArray))] _ from (At.cons hat hv1)) rfl (ov_fieldAddr rfl t_field_51_1) s15.sub (by exact rfl)
  ·intro a w13 h14 s15 hat hF
   obtain hv2 := hF 2 5 rfl rfl
   have ob16 := (ob10.step0 s15)
   exact front_val (show At _ [(5, .pointer (some ⟨b1, 1, none⟩)), (0, .pointer (some ⟨b1, 0, none⟩)), (2, .string (⟨#[]⟩ : ByteArray))] _ from (At.cons hat hv2)) rfl (ov_load1 rfl t_agg_49 (OB.cell ob16 (j := 1) rfl)) s15.sub (by exact rfl)
  ·intro a w13 h14 s15 hat hF
   obtain hv3 := hF 3 6 rfl rfl
   exact front_val (show At _ [(6, .slice A4 xs3.length c5), (0, .pointer (some ⟨b1, 0, none⟩)), (2, .string (⟨#[]⟩ : ByteArray))] _ from (At.cons hat hv3)) rfl (ov_sliceData rfl (ow7.step0 s15)) s15.sub (by exact rfl)
  ·intro a w13 h14 s15 hat hF
   exact front_val (show At _ [(0, .pointer (some ⟨b1, 0, none⟩)), (2, .string (⟨#[]⟩ : ByteArray))] _ from hat) rfl (ov_move rfl) s15.sub (by exact rfl)
  ·intro a w13 h14 s15 hat hF
   obtain hv5 := hF 5 8 rfl rfl
   exact front_val (show At _ [(8, .pointer (some ⟨b1, 0, none⟩)), (0, .pointer (some ⟨b1, 0, none⟩)), (2, .string (⟨#[]⟩ : ByteArray))] _ from (At.cons hat hv5)) rfl (ov_nilCheck rfl) s15.sub (by exact rfl)
  ·intro a w13 h14 s15 hat hF
   obtain hv6 := hF 6 9 rfl rfl
   exact front_val (show At _ [(9, .pointer (some ⟨b1, 0, none⟩)), (0, .pointer (some ⟨b1, 0, none⟩)), (2, .string (⟨#[]⟩ : ByteArray))] _ from (At.cons hat hv6)) rfl (ov_fieldAddr rfl t_field_51_1) s15.sub (by exact rfl)
  ·intro a w13 h14 s15 hat hF
   obtain hv7 := hF 7 10 rfl rfl
   have ob17 := (ob10.step0 s15)
   exact front_val (show At _ [(10, .pointer (some ⟨b1, 1, none⟩)), (0, .pointer (some ⟨b1, 0, none⟩)), (2, .string (⟨#[]⟩ : ByteArray))] _ from (At.cons hat hv7)) rfl (ov_load1 rfl t_agg_49 (OB.cell ob17 (j := 1) rfl)) s15.sub (by exact rfl)
  ·intro a w13 h14 s15 hat hF
   obtain hv8 := hF 8 11 rfl rfl
   exact front_val (show At _ [(11, .slice A4 xs3.length c5), (0, .pointer (some ⟨b1, 0, none⟩)), (2, .string (⟨#[]⟩ : ByteArray))] _ from (At.cons hat hv8)) rfl (ov_lenL rfl t_slice_49) s15.sub (by exact rfl)
 ·intro a w13 h14 s15 hat hF
  obtain hv0 := hF 0 3 (by decide) rfl
  obtain hv1 := hF 1 4 (by decide) rfl
  obtain hv2 := hF 2 5 (by decide) rfl
  obtain hv3 := hF 3 6 (by decide) rfl
  obtain hv4 := hF 4 7 (by decide) rfl
  obtain hv5 := hF 5 8 (by decide) rfl
  obtain hv6 := hF 6 9 (by decide) rfl
  obtain hv7 := hF 7 10 (by decide) rfl
  obtain hv8 := hF 8 11 (by decide) rfl
  obtain hv9 := hF 9 12 (by decide) rfl
  refine WL.at_ [(12, .int .i64 (xs3.length : Int)), (11, .slice A4 xs3.length c5), (10, .pointer (some ⟨b1, 1, none⟩)), (9, .pointer (some ⟨b1, 0, none⟩)), (8, .pointer (some ⟨b1, 0, none⟩)), (7, .pointer A4), (6, .slice A4 xs3.length c5), (5, .pointer (some ⟨b1, 1, none⟩)), (4, .pointer (some ⟨b1, 0, none⟩)), (3, .pointer (some ⟨b1, 0, none⟩)), (0, .pointer (some ⟨b1, 0, none⟩)), (2, .string (⟨#[]⟩ : ByteArray))] (At.cons (At.cons (At.cons (At.cons (At.cons (At.cons (At.cons (At.cons (At.cons (At.cons hat hv0) hv1) hv2) hv3) hv4) hv5) hv6) hv7) hv8) hv9) ?_
  have S18 := S0.trans0 s15
  have ob21 := (ob10.step0 s15)
  refine WL.unsafeString (xs := xs3) rfl rfl rfl rfl t_ptr_83 t_cellsof_5 (ow7.step0 s15) (rs6.mono (s15.le)) S18.sub (by rw [S18.eqb]; exact Nat.le_refl _) (fun w19 s20 => ?_)
  have S22 := S18.trans s20 (fun i hi => (om8 i hi).elim (fun q => .inl (by simp only [List.mem_cons, List.mem_append]; simp [q])) .inr)
  refine WL.val rfl rfl rfl (ov_assign rfl) <| WL.nil <| WQ.seqN <| WC.ret <| WQ.ret1 rfl rfl ?_
  obtain rfl := Option.some.inj HF
  exact ⟨_, rfl, h14, S22, rfl⟩
theorem ok_strings_Builder_String (k : Nat) : C_strings_Builder_String (F_strings_Builder_String k) := s_strings_Builder_String k

def C_print_Text (φ : (List St) → Option (ByteArray × Int)) : Prop := ∀ ⦃xs1 : List St⦄ ⦃r : ByteArray × Int⦄, φ xs1 = some r → ∀ ⦃w0 : World⦄ ⦃h0 : Hp⦄ ⦃v2 : Value⦄, Sub h0 w0 → RS h0 v2 xs1 →
  Calls Tryz.prog 8 #[v2] w0 fun e w1 => ∃ v, e = .returned v ∧ ∃ h1, Stp [] w0 h0 w1 h1 ∧ (∃ u0 u1 : Value, v = .tuple #[u0, u1] ∧ (u0 = .string r.1) ∧ (u1 = .int .i64 r.2))
set_option maxRecDepth 20000 in
set_option maxHeartbeats 4000000 in
theorem s_print_Text (k : Nat) (IH : ∀ j, j ≤ k → C_print_Text (tie_print_Text j).print_Text) : C_print_Text (m_print_Text k (tie_print_Text k)) := by
 intro xs1 r HF w0 h0 v2 hs0 rs3
 have S0 : Stp [] w0 h0 w0 h0 := Stp.refl hs0 _
 refine enter (n := 22) Tryz.func8 rfl Tryz.ntmps8 rfl [(0, v2)] rfl <| WC.seq <| WC.region <| WL.val rfl rfl rfl (ov_assign rfl) <| WL.val rfl rfl rfl (ov_assign rfl) <| WL.nil <| WQ.seqN <| WC.join (fun E w13 => ∃ (h12 : Hp), print_Text_j1 k (tie_print_Text k) xs1 = some r ∧ E = [(0, v2)] ∧ Stp [] w0 h0 w13 h12 ∧ Hle h0 h12) ?_ ?_
 ·rintro E w13 ⟨h12, HF, rfl, S15, le14⟩
  refine WC.seq <| WC.region <| WL.alloc (zs := [.pointer none, .slice none 0 0, .string (⟨#[]⟩ : ByteArray)]) rfl rfl t_zero_55 rfl S15.sub (fun w16 b17 hb18 s19 ob20 => ?_)
  have g21 : w0.heap.size ≤ b17 := by rw [hb18]; exact S15.size
  have S22 := S15.trans0 s19
  refine WL.nil <| WQ.seqN <| WC.seq <| WC.seq <| WC.region <| WL.val rfl rfl rfl (ov_move rfl) ?_
  obtain ⟨A23, c24, rfl, rs25⟩ := RS.form (rs3.mono ((le14).trans s19.le))
  refine WL.val rfl rfl rfl (ov_lenL rfl t_slice_22) <| WL.val rfl rfl rfl (ov_move rfl) <| WL.nil <| WQ.seqN <| WC.block <| WC.loop <| WP.to [4, 10, 11, 12] [(4, .pointer (some ⟨b17, 0, none⟩)), (10, .slice A23 (xs1).length c24), (11, .int .i64 (xs1.length : Int)), (12, .int .i64 0)] rfl <| WP_rule (K := k) (fun j E w27 => ∃ (h26 : Hp) (x30 : Int) (x31 : Bool) (xs32 : List UInt8) (v33 : Value) (x36 : ByteArray), (tie_print_Text j).print_Text_l2 xs1 x30 x31 xs32 x36 = some r ∧ E = [(4, .pointer (some ⟨b17, 0, none⟩)), (10, .slice A23 (xs1).length c24), (11, .int .i64 (xs1.length : Int)), (12, .int .i64 x30)] ∧ Stp [] w0 h0 w27 h26 ∧ Hle h12 h26 ∧ RS h26 v33 xs32 ∧ Own w27 h26 w0.heap.size 5 1 v33 xs32.length ∧ OB w27 h26 b17 55 [.pointer (bif x31 then some ⟨b17, 0, none⟩ else none), v33, .string x36]) ?_ ?_ (j := k) (Nat.le_refl _) ?_
  ·rintro E w27 ⟨_, _, _, _, _, _, HF, _⟩; cases HF
  ·rintro j38 hj40 IHL39 E w27 ⟨h26, x30, x31, xs32, v33, x36, HF, rfl, S29, le28, rs34, ow35, ob37⟩
   refine WC.seq <| WC.region <| WL.val rfl rfl rfl (ov_lss rfl rfl) <| WL.nil <| WQ.seqN <| WC.join (fun E w53 => ∃ (h52 : Hp) (xs56 : List UInt8) (v57 : Value), print_Text_j3 j38 (tie_print_Text j38) xs1 x30 x31 x36 xs56 = some r ∧ E = [(4, .pointer (some ⟨b17, 0, none⟩)), (10, .slice A23 (xs1).length c24), (11, .int .i64 (xs1.length : Int)), (12, .int .i64 x30)] ∧ Stp [] w0 h0 w53 h52 ∧ Hle h26 h52 ∧ RS h52 v57 xs56 ∧ Own w53 h52 w0.heap.size 5 1 v57 xs56.length ∧ OB w53 h52 b17 55 [.pointer (bif x31 then some ⟨b17, 0, none⟩ else none), v57, .string x36]) ?_ ?_
   ·rintro E w53 ⟨h52, xs56, v57, HF, rfl, S55, le54, rs58, ow59, ob60⟩
    refine WC.seq <| WC.block <| WC.seq <| WC.region ?_
    obtain ⟨e61, he62, HF⟩ := bind_some HF
    obtain ⟨b63, o64, rfl, h66, h67, ra65⟩ := RS.atO (rs25.mono ((le28).trans le54)) he62
    obtain ⟨cs68, r69, hc70⟩ := ra65
    refine WL.val rfl rfl rfl (ov_indexAddr rfl rfl t_slice_22 t_size_44 h66 h67) <| WL.val rfl rfl rfl (ov_loadN (cs := cs68) rfl t_agg_44 (by rw [Rp.len r69]; exact t_size_44) (fun j v hv => S55.sub.at_ _ _ _ (hc70 j v hv))) <| WL.alloc (zs := [.int .i64 0, .string (⟨#[]⟩ : ByteArray), .slice none 0 0, .slice none 0 0, .slice none 0 0, .int .i64 0, .slice none 0 0, .slice none 0 0, .slice none 0 0, .bool false]) rfl rfl t_zero_44 rfl S55.sub (fun w71 b72 hb73 s74 ob75 => ?_)
    have ne76 : b17 ≠ b72 := ob60.ne_new hb73
    have g77 : w0.heap.size ≤ b72 := by rw [hb73]; exact S55.size
    have S78 := S55.trans0 s74
    obtain ⟨v79, v81, v83, v85, v87, v89, rfl, rs80, rs82, rs84, rs86, rs88, rs90⟩ := rp_St.1 (Rp.mono (s74.le) r69)
    refine WL.store (vs := [.int .i64 e61.op, .string e61.name, v79, v81, v83, .int .i64 e61.n, v85, v87, v89, .bool e61.els]) rfl rfl rfl rfl t_size_44 (one_cons rfl (one_cons rfl (one_cons (RS.one rs80) (one_cons (RS.one rs82) (one_cons (RS.one rs84) (one_cons rfl (one_cons (RS.one rs86) (one_cons (RS.one rs88) (one_cons (RS.one rs90) (one_cons rfl one_nil)))))))))) ob75 S78.sub (by simp) (ds := [.int .i64 e61.op, .string e61.name, v79, v81, v83, .int .i64 e61.n, v85, v87, v89, .bool e61.els]) rfl (fun w91 s92 ob93 => ?_)
    have S94 := S78.trans1 s92 (.inr g77)
    refine WL.nil <| WQ.seqN <| WC.region <| WL.val rfl rfl rfl (ov_loadN (cs := [.int .i64 e61.op, .string e61.name, v79, v81, v83, .int .i64 e61.n, v85, v87, v89, .bool e61.els]) rfl t_agg_44 t_size_44 (OB.cells ob93 0 rfl)) ?_
    obtain ⟨A95, c96, rfl, rs97⟩ := RS.form (rs58.mono ((s74.le).trans s92.le))
    have ob98 := ((ob60.step0 s74).step1 s92 ne76)
    obtain ⟨r99, hr100, HF⟩ := bind_some HF
    refine WL.call rfl rfl rfl (oc_func (vs := [.pointer (some ⟨b17, 0, none⟩), .agg #[.int .i64 e61.op, .string e61.name, v79, v81, v83, .int .i64 e61.n, v85, v87, v89, .bool e61.els]]) rfl t_ent_20) (ok_print_printer_stmt _ hr100 S94.sub rs97 (((ow59.step0 s74).step s92 (on_cons ((ow59.step0 s74).ne_ob ob75 (by decide)) on_nil)).weak (by rw [S94.eqb]; exact hs0.big)) (rp_St.2 ⟨_, _, _, _, _, _, rfl, (rs80.mono (s92.le)), (rs82.mono (s92.le)), (rs84.mono (s92.le)), (rs86.mono (s92.le)), (rs88.mono (s92.le)), (rs90.mono (s92.le))⟩) ob98 (by decide)) ?_
    rintro v101 w102 ⟨h103, s104, rfl, ⟨v105, rs106, ow107, om108, ob110⟩⟩
    have ow109 := Own.rebase (B := w0.heap.size) ow107 (fun i hi => (om108 i hi).elim (fun q => ((fun i hi => (Or.inr (((ow59.step0 s74).step s92 (on_cons ((ow59.step0 s74).ne_ob ob75 (by decide)) on_nil)).base_le i hi) : i ∈ ([] : List Nat) ∨ w0.heap.size ≤ i)) i q).elim (fun q2 => absurd q2 (by simp)) id) (fun q => Nat.le_trans S94.size q))
    have S111 := S94.trans s104 (in_cons (.inr g21) (in_own (fun i hi => .inr (((ow59.step0 s74).step s92 (on_cons ((ow59.step0 s74).ne_ob ob75 (by decide)) on_nil)).base_le i hi)) in_nil))
    refine WL.nil <| WQ.blockN <| WQ.seqN <| WC.region <| WL.val rfl rfl rfl (ov_add rfl rfl) <| WL.val rfl rfl rfl (ov_move rfl) <| WL.nil <| WQ.loopN <| WP.to [4, 10, 11, 12] [(4, .pointer (some ⟨b17, 0, none⟩)), (10, .slice (some ⟨b63, o64, none⟩) (xs1).length c24), (11, .int .i64 (xs1.length : Int)), (12, .int .i64 (IntKind.i64.wrap (x30 + 1)))] rfl ?_
    exact IHL39 j38 (Nat.le_refl _) _ _ ⟨h103, IntKind.i64.wrap (x30 + 1), r99.1, r99.2.1, v105, r99.2.2, HF, rfl, S111, (le28).trans ((le54).trans ((s74.le).trans ((s92.le).trans s104.le))), rs106, ow109, ob110⟩
   ·intro J112
    refine WC.cond (b := decide ((x30 : Int) < (xs1.length : Int))) rfl (fun hb41 => ?_) (fun hb41 => ?_)
    ·replace HF := bif_t hb41 HF
     refine WC.skip <| WC.to [4, 10, 11, 12] [(4, .pointer (some ⟨b17, 0, none⟩)), (10, .slice A23 (xs1).length c24), (11, .int .i64 (xs1.length : Int)), (12, .int .i64 x30)] rfl ?_
     exact J112 ⟨h26, xs32, v33, HF, rfl, S29, Hle.refl _, rs34, ow35, ob37⟩
    ·replace HF := bif_f hb41 HF
     refine WC.exit <| WQ.thenExit <| WQ.thenExit <| WQ.blockHit <| WQ.seqN <| WC.seq <| WC.region <| WL.val rfl rfl rfl (ov_fieldAddr rfl t_field_55_0) <| WL.val rfl rfl rfl (ov_fieldAddr rfl t_field_53_0) ?_
     obtain ⟨A42, c43, rfl, rs44⟩ := RS.form rs34
     obtain ⟨r45, hr46, HF⟩ := bind_some HF
     refine WL.call rfl rfl rfl (oc_func (vs := [.pointer (some ⟨b17, 0, none⟩)]) rfl t_ent_21) (ok_strings_Builder_String _ hr46 S29.sub rs44 (ow35.weak (by rw [S29.eqb]; exact hs0.big)) ob37 (by decide)) ?_
     rintro _ w48 ⟨h49, s50, rfl⟩
     have S51 := S29.trans s50 (in_own (fun i hi => .inr (ow35.base_le i hi)) in_nil)
     refine WL.val rfl rfl rfl (ov_assign rfl) <| WL.val rfl rfl rfl (ov_assign rfl) <| WL.nil <| WQ.seqN <| WC.ret <| WQ.ret2 rfl rfl rfl ?_
     obtain rfl := Option.some.inj HF
     exact ⟨_, rfl, h49, S51, _, _, rfl, rfl, rfl⟩
  ·exact ⟨h12, 0, false, ([] : List UInt8), .slice none 0 0, (⟨#[]⟩ : ByteArray), HF, rfl, S22, Hle.refl _, (RS.nil _), (Own.nil _ _ _ _ _), ob20⟩
 ·intro J113
  refine WC.seq <| WC.region <| WL.val rfl rfl rfl (ov_move rfl) ?_
  obtain ⟨r4, hr5, HF⟩ := bind_some HF
  refine WL.call rfl rfl rfl (oc_func (vs := [v2]) rfl t_ent_19) (ok_ast_IsText _ hr5 S0.sub rs3) ?_
  rintro _ w7 ⟨h8, s9, rfl⟩
  have S10 := S0.trans0 s9
  refine WL.val rfl rfl rfl (ov_not rfl) <| WL.nil <| WQ.seqN <| WC.cond (b := !r4) rfl (fun hb11 => ?_) (fun hb11 => ?_)
  ·replace HF := bif_t hb11 HF
   refine WC.seq <| WC.region <| WL.val rfl rfl rfl (ov_assign rfl) <| WL.val rfl rfl rfl (ov_assign rfl) <| WL.nil <| WQ.seqN <| WC.ret <| WQ.thenRet <| WQ.ret2 rfl rfl rfl ?_
   obtain rfl := Option.some.inj HF
   exact ⟨_, rfl, h8, S10, _, _, rfl, rfl, rfl⟩
  ·replace HF := bif_f hb11 HF
   refine WC.skip <| WC.to [0] [(0, v2)] rfl ?_
   exact J113 ⟨h8, HF, rfl, S10, s9.le⟩
theorem all_print_Text : ∀ k j, j ≤ k → C_print_Text (tie_print_Text j).print_Text := by
  intro k
  induction k with
  | zero =>
    intro j hj
    obtain rfl : j = 0 := by omega
    exact (fun _ _ => by intro h; cases h)
  | succ k ih =>
    intro j hj
    by_cases h : j ≤ k
    · exact ih j h
    · obtain rfl : j = k + 1 := by omega
      exact s_print_Text k ih
theorem ok_print_Text (k : Nat) : C_print_Text (F_print_Text k) := (all_print_Text k k (Nat.le_refl _))

def C_print_Short (φ : (List St) → Option (ByteArray × Int)) : Prop := ∀ ⦃xs1 : List St⦄ ⦃r : ByteArray × Int⦄, φ xs1 = some r → ∀ ⦃w0 : World⦄ ⦃h0 : Hp⦄ ⦃v2 : Value⦄, Sub h0 w0 → RS h0 v2 xs1 →
  Calls Tryz.prog 9 #[v2] w0 fun e w1 => ∃ v, e = .returned v ∧ ∃ h1, Stp [] w0 h0 w1 h1 ∧ (∃ u0 u1 : Value, v = .tuple #[u0, u1] ∧ (u0 = .string r.1) ∧ (u1 = .int .i64 r.2))
set_option maxRecDepth 20000 in
set_option maxHeartbeats 4000000 in
theorem s_print_Short (k : Nat) : C_print_Short (F_print_Short k) := by
 intro xs1 r HF w0 h0 v2 hs0 rs3
 have S0 : Stp [] w0 h0 w0 h0 := Stp.refl hs0 _
 refine enter (n := 16) Tryz.func9 rfl Tryz.ntmps9 rfl [(0, v2)] rfl <| WC.seq <| WC.region <| WL.val rfl rfl rfl (ov_assign rfl) <| WL.val rfl rfl rfl (ov_assign rfl) <| WL.nil <| WQ.seqN <| WC.seq <| WC.region <| WL.val rfl rfl rfl (ov_move rfl) ?_
 obtain ⟨r4, hr5, HF⟩ := bind_some HF
 refine WL.call rfl rfl rfl (oc_func (vs := [v2]) rfl t_ent_8) (ok_print_Text _ hr5 S0.sub rs3) ?_
 rintro _ w7 ⟨h8, s9, _, _, rfl, rfl, rfl⟩
 have S10 := S0.trans0 s9
 refine WL.val rfl rfl rfl (ov_move rfl) <| WL.val rfl rfl rfl (ov_extract rfl rfl) <| WL.val rfl rfl rfl (ov_extract rfl rfl) <| WL.val rfl rfl rfl (ov_assign rfl) <| WL.val rfl rfl rfl (ov_assign rfl) <| WL.nil <| WQ.seqN <| WC.join (fun E w13 => ∃ (h12 : Hp), print_Short_j1 k r4 = some r ∧ E = [(4, .string r4.1)] ∧ Stp [] w0 h0 w13 h12 ∧ Hle h8 h12) ?_ ?_
 ·rintro E w13 ⟨h12, HF, rfl, S15, le14⟩
  refine WC.seq <| WC.region <| WL.val rfl rfl rfl (ov_move rfl) ?_
  obtain ⟨r16, hr17, HF⟩ := bind_some HF
  refine WL.call rfl rfl rfl (oc_func (vs := [.string r4.1]) rfl t_ent_22) (ok_print_Line _ hr17 S15.sub) ?_
  rintro _ w19 ⟨h20, s21, rfl⟩
  have S22 := S15.trans0 s21
  refine WL.val rfl rfl rfl (ov_assign rfl) <| WL.val rfl rfl rfl (ov_assign rfl) <| WL.nil <| WQ.seqN <| WC.ret <| WQ.ret2 rfl rfl rfl ?_
  obtain rfl := Option.some.inj HF
  exact ⟨_, rfl, h20, S22, _, _, rfl, rfl, rfl⟩
 ·intro J23
  refine WC.seq <| WC.region <| WL.val rfl rfl rfl (ov_move rfl) <| WL.val rfl rfl rfl (ov_neq rfl rfl) <| WL.nil <| WQ.seqN <| WC.cond (b := (r4.2 : Int) != 0) rfl (fun hb11 => ?_) (fun hb11 => ?_)
  ·replace HF := bif_t hb11 HF
   refine WC.seq <| WC.region <| WL.val rfl rfl rfl (ov_move rfl) <| WL.val rfl rfl rfl (ov_assign rfl) <| WL.val rfl rfl rfl (ov_assign rfl) <| WL.nil <| WQ.seqN <| WC.ret <| WQ.thenRet <| WQ.ret2 rfl rfl rfl ?_
   obtain rfl := Option.some.inj HF
   exact ⟨_, rfl, h8, S10, _, _, rfl, rfl, rfl⟩
  ·replace HF := bif_f hb11 HF
   refine WC.skip <| WC.to [4] [(4, .string r4.1)] rfl ?_
   exact J23 ⟨h8, HF, rfl, S10, Hle.refl _⟩
theorem ok_print_Short (k : Nat) : C_print_Short (F_print_Short k) := s_print_Short k

def C_law03_awake (φ : Option Bool) : Prop := ∀ ⦃r : Bool⦄, φ  = some r → ∀ ⦃w0 : World⦄ ⦃h0 : Hp⦄, Sub h0 w0 →
  Calls Tryz.prog 7 #[] w0 fun e w1 => ∃ v, e = .returned v ∧ ∃ h1, Stp [] w0 h0 w1 h1 ∧ v = .bool r
set_option maxRecDepth 20000 in
set_option maxHeartbeats 4000000 in
theorem s_law03_awake (k : Nat) : C_law03_awake (F_law03_awake k) := by
 intro  r HF w0 h0  hs0 
 have S0 : Stp [] w0 h0 w0 h0 := Stp.refl hs0 _
 refine enter (n := 54) Tryz.func7 rfl Tryz.ntmps7 rfl [] rfl <| WC.seq <| WC.region <| WL.val rfl rfl rfl (ov_assign rfl) <| WL.nil <| WQ.seqN <| WC.seq <| WC.region <| WL.val rfl rfl rfl (ov_buildP (vs := [(0, .int .i64 1), (1, .int .i64 3), (2, .int .i64 500)]) (cs := [.int .i64 1, .int .i64 3, .int .i64 500, .string (⟨#[]⟩ : ByteArray), .string (⟨#[]⟩ : ByteArray), .slice none 0 0]) rfl t_places_32 t_zero_32 rfl) <| WL.alloc (zs := [.int .i64 0, .int .i64 0, .int .i64 0, .string (⟨#[]⟩ : ByteArray), .string (⟨#[]⟩ : ByteArray), .slice none 0 0]) rfl rfl t_zero_32 rfl S0.sub (fun w1 b2 hb3 s4 ob5 => ?_)
 have g6 : w0.heap.size ≤ b2 := by rw [hb3]; exact S0.size
 have S7 := S0.trans0 s4
 refine WL.store (vs := [.int .i64 1, .int .i64 3, .int .i64 500, .string (⟨#[]⟩ : ByteArray), .string (⟨#[]⟩ : ByteArray), .slice none 0 0]) rfl rfl rfl rfl t_size_32 (one_cons rfl (one_cons rfl (one_cons rfl (one_cons rfl (one_cons rfl (one_cons rfl one_nil)))))) ob5 S7.sub (by simp) (ds := [.int .i64 1, .int .i64 3, .int .i64 500, .string (⟨#[]⟩ : ByteArray), .string (⟨#[]⟩ : ByteArray), .slice none 0 0]) rfl (fun w8 s9 ob10 => ?_)
 have S11 := S7.trans1 s9 (.inr g6)
 refine WL.nil <| WQ.seqN <| WC.seq <| WC.region <| WL.val rfl rfl rfl (ov_loadN (cs := [.int .i64 1, .int .i64 3, .int .i64 500, .string (⟨#[]⟩ : ByteArray), .string (⟨#[]⟩ : ByteArray), .slice none 0 0]) rfl t_agg_32 t_size_32 (OB.cells ob10 0 rfl)) <| WL.val rfl rfl rfl (ov_buildP (vs := [(0, .int .i64 2), (3, .string (⟨#[120]⟩ : ByteArray))]) (cs := [.int .i64 2, .int .i64 0, .int .i64 0, .string (⟨#[120]⟩ : ByteArray), .string (⟨#[]⟩ : ByteArray), .slice none 0 0]) rfl t_places_32 t_zero_32 rfl) <| WL.buildSliceD (us := [.agg #[.int .i64 1, .int .i64 3, .int .i64 500, .string (⟨#[]⟩ : ByteArray), .string (⟨#[]⟩ : ByteArray), .slice none 0 0], .agg #[.int .i64 2, .int .i64 0, .int .i64 0, .string (⟨#[120]⟩ : ByteArray), .string (⟨#[]⟩ : ByteArray), .slice none 0 0]]) (cs := [.int .i64 1, .int .i64 3, .int .i64 500, .string (⟨#[]⟩ : ByteArray), .string (⟨#[]⟩ : ByteArray), .slice none 0 0, .int .i64 2, .int .i64 0, .int .i64 0, .string (⟨#[120]⟩ : ByteArray), .string (⟨#[]⟩ : ByteArray), .slice none 0 0]) rfl rfl rfl t_slice_30 t_size_32 t_zero_32 rfl (cl_cons rfl (cl_cons rfl cl_nil)) rfl rfl rfl S11.sub (fun w12 h13 b14 hb15 s16 hk17 hc18 => ?_)
 have S19 := S11.trans0 s16
 have rs20 : RS h13 (.slice (some ⟨b14, 0, none⟩) 2 2) ([(Ex.mk 1 3 500 (⟨#[]⟩ : ByteArray) (⟨#[]⟩ : ByteArray) []), (Ex.mk 2 0 0 (⟨#[120]⟩ : ByteArray) (⟨#[]⟩ : ByteArray) [])] : List Ex) := RS.litL _ [[.int .i64 1, .int .i64 3, .int .i64 500, .string (⟨#[]⟩ : ByteArray), .string (⟨#[]⟩ : ByteArray), .slice none 0 0], [.int .i64 2, .int .i64 0, .int .i64 0, .string (⟨#[120]⟩ : ByteArray), .string (⟨#[]⟩ : ByteArray), .slice none 0 0]] rfl rfl hc18 ⟨(rp_Ex.2 ⟨_, rfl, (RS.nil _)⟩), (rp_Ex.2 ⟨_, rfl, (RS.nil _)⟩), trivial⟩
 have ow21 := Own.lit (base := w0.heap.size) (sz := 6) (m := 2) hk17 hc18 (by rw [hb15]; exact S11.size) rfl (by decide)
 refine WL.val rfl rfl rfl (ov_buildP (vs := [(0, .int .i64 17), (5, .slice (some ⟨b14, 0, none⟩) 2 2)]) (cs := [.int .i64 17, .int .i64 0, .int .i64 0, .string (⟨#[]⟩ : ByteArray), .string (⟨#[]⟩ : ByteArray), .slice (some ⟨b14, 0, none⟩) 2 2]) rfl t_places_32 t_zero_32 rfl) ?_
 have ob29 := (ob10.step0 s16)
 refine WL.buildSliceD (us := [.agg #[.int .i64 17, .int .i64 0, .int .i64 0, .string (⟨#[]⟩ : ByteArray), .string (⟨#[]⟩ : ByteArray), .slice (some ⟨b14, 0, none⟩) 2 2]]) (cs := [.int .i64 17, .int .i64 0, .int .i64 0, .string (⟨#[]⟩ : ByteArray), .string (⟨#[]⟩ : ByteArray), .slice (some ⟨b14, 0, none⟩) 2 2]) rfl rfl rfl t_slice_30 t_size_32 t_zero_32 rfl (cl_cons rfl cl_nil) rfl rfl rfl S19.sub (fun w22 h23 b24 hb25 s26 hk27 hc28 => ?_)
 have S30 := S19.trans0 s26
 have rs31 : RS h23 (.slice (some ⟨b24, 0, none⟩) 1 1) ([(Ex.mk 17 0 0 (⟨#[]⟩ : ByteArray) (⟨#[]⟩ : ByteArray) [(Ex.mk 1 3 500 (⟨#[]⟩ : ByteArray) (⟨#[]⟩ : ByteArray) []), (Ex.mk 2 0 0 (⟨#[120]⟩ : ByteArray) (⟨#[]⟩ : ByteArray) [])])] : List Ex) := RS.litL _ [[.int .i64 17, .int .i64 0, .int .i64 0, .string (⟨#[]⟩ : ByteArray), .string (⟨#[]⟩ : ByteArray), .slice (some ⟨b14, 0, none⟩) 2 2]] rfl rfl hc28 ⟨(rp_Ex.2 ⟨_, rfl, (rs20.mono (s26.le))⟩), trivial⟩
 have ow32 := Own.lit (base := w0.heap.size) (sz := 6) (m := 1) hk27 hc28 (by rw [hb25]; exact S19.size) rfl (by decide)
 refine WL.val rfl rfl rfl (ov_buildP (vs := [(0, .int .i64 6), (5, .slice (some ⟨b24, 0, none⟩) 1 1)]) (cs := [.int .i64 6, .int .i64 0, .int .i64 0, .string (⟨#[]⟩ : ByteArray), .string (⟨#[]⟩ : ByteArray), .slice (some ⟨b24, 0, none⟩) 1 1]) rfl t_places_32 t_zero_32 rfl) ?_
 obtain ⟨r33, hr34, HF⟩ := bind_some HF
 refine WL.call rfl rfl rfl (oc_func (vs := [.agg #[.int .i64 6, .int .i64 0, .int .i64 0, .string (⟨#[]⟩ : ByteArray), .string (⟨#[]⟩ : ByteArray), .slice (some ⟨b24, 0, none⟩) 1 1]]) rfl t_ent_14) (ok_print_Expr _ hr34 S30.sub (rp_Ex.2 ⟨_, rfl, rs31⟩)) ?_
 have ob39 := (ob29.step0 s26)
 rintro _ w36 ⟨h37, s38, _, _, rfl, rfl, rfl⟩
 have S40 := S30.trans0 s38
 refine WL.val rfl rfl rfl (ov_move rfl) <| WL.val rfl rfl rfl (ov_extract rfl rfl) <| WL.val rfl rfl rfl (ov_extract rfl rfl) <| WL.val rfl rfl rfl (ov_assign rfl) <| WL.val rfl rfl rfl (ov_assign rfl) <| WL.nil <| WQ.seqN <| WC.seq <| WC.region ?_
 obtain ⟨r41, hr42, HF⟩ := bind_some HF
 refine WL.call rfl rfl rfl (oc_func (vs := [.int .i64 2, .int .i64 (-5)]) rfl t_ent_17) (ok_print_Const _ hr42 S40.sub) ?_
 have ob47 := (ob39.step0 s38)
 rintro _ w44 ⟨h45, s46, _, _, rfl, rfl, rfl⟩
 have S48 := S40.trans0 s46
 refine WL.val rfl rfl rfl (ov_move rfl) <| WL.val rfl rfl rfl (ov_extract rfl rfl) <| WL.val rfl rfl rfl (ov_extract rfl rfl) <| WL.val rfl rfl rfl (ov_assign rfl) <| WL.val rfl rfl rfl (ov_assign rfl) <| WL.nil <| WQ.seqN <| WC.seq <| WC.region <| WL.val rfl rfl rfl (ov_buildP (vs := [(0, .int .i64 8)]) (cs := [.int .i64 8, .string (⟨#[]⟩ : ByteArray), .slice none 0 0, .slice none 0 0, .slice none 0 0, .int .i64 0, .slice none 0 0, .slice none 0 0, .slice none 0 0, .bool false]) rfl t_places_44 t_zero_44 rfl) <| WL.val rfl rfl rfl (ov_buildP (vs := [(0, .int .i64 9)]) (cs := [.int .i64 9, .string (⟨#[]⟩ : ByteArray), .slice none 0 0, .slice none 0 0, .slice none 0 0, .int .i64 0, .slice none 0 0, .slice none 0 0, .slice none 0 0, .bool false]) rfl t_places_44 t_zero_44 rfl) ?_
 have ob56 := (ob47.step0 s46)
 refine WL.buildSliceD (us := [.agg #[.int .i64 8, .string (⟨#[]⟩ : ByteArray), .slice none 0 0, .slice none 0 0, .slice none 0 0, .int .i64 0, .slice none 0 0, .slice none 0 0, .slice none 0 0, .bool false], .agg #[.int .i64 9, .string (⟨#[]⟩ : ByteArray), .slice none 0 0, .slice none 0 0, .slice none 0 0, .int .i64 0, .slice none 0 0, .slice none 0 0, .slice none 0 0, .bool false]]) (cs := [.int .i64 8, .string (⟨#[]⟩ : ByteArray), .slice none 0 0, .slice none 0 0, .slice none 0 0, .int .i64 0, .slice none 0 0, .slice none 0 0, .slice none 0 0, .bool false, .int .i64 9, .string (⟨#[]⟩ : ByteArray), .slice none 0 0, .slice none 0 0, .slice none 0 0, .int .i64 0, .slice none 0 0, .slice none 0 0, .slice none 0 0, .bool false]) rfl rfl rfl t_slice_22 t_size_44 t_zero_44 rfl (cl_cons rfl (cl_cons rfl cl_nil)) rfl rfl rfl S48.sub (fun w49 h50 b51 hb52 s53 hk54 hc55 => ?_)
 have S57 := S48.trans0 s53
 have rs58 : RS h50 (.slice (some ⟨b51, 0, none⟩) 2 2) ([(St.mk 8 (⟨#[]⟩ : ByteArray) [] [] [] 0 [] [] [] false), (St.mk 9 (⟨#[]⟩ : ByteArray) [] [] [] 0 [] [] [] false)] : List St) := RS.litL _ [[.int .i64 8, .string (⟨#[]⟩ : ByteArray), .slice none 0 0, .slice none 0 0, .slice none 0 0, .int .i64 0, .slice none 0 0, .slice none 0 0, .slice none 0 0, .bool false], [.int .i64 9, .string (⟨#[]⟩ : ByteArray), .slice none 0 0, .slice none 0 0, .slice none 0 0, .int .i64 0, .slice none 0 0, .slice none 0 0, .slice none 0 0, .bool false]] rfl rfl hc55 ⟨(rp_St.2 ⟨_, _, _, _, _, _, rfl, (RS.nil _), (RS.nil _), (RS.nil _), (RS.nil _), (RS.nil _), (RS.nil _)⟩), (rp_St.2 ⟨_, _, _, _, _, _, rfl, (RS.nil _), (RS.nil _), (RS.nil _), (RS.nil _), (RS.nil _), (RS.nil _)⟩), trivial⟩
 have ow59 := Own.lit (base := w0.heap.size) (sz := 10) (m := 2) hk54 hc55 (by rw [hb52]; exact S48.size) rfl (by decide)
 obtain ⟨r60, hr61, HF⟩ := bind_some HF
 refine WL.call rfl rfl rfl (oc_func (vs := [.slice (some ⟨b51, 0, none⟩) 2 2]) rfl t_ent_9) (ok_print_Short _ hr61 S57.sub rs58) ?_
 have ob66 := (ob56.step0 s53)
 rintro _ w63 ⟨h64, s65, _, _, rfl, rfl, rfl⟩
 have S67 := S57.trans0 s65
 refine WL.val rfl rfl rfl (ov_move rfl) <| WL.val rfl rfl rfl (ov_extract rfl rfl) <| WL.val rfl rfl rfl (ov_extract rfl rfl) <| WL.val rfl rfl rfl (ov_assign rfl) <| WL.val rfl rfl rfl (ov_assign rfl) <| WL.nil <| WQ.seqN <| WC.seq <| WC.region <| WL.val rfl rfl rfl (ov_move rfl) <| WL.val rfl rfl rfl (ov_eql rfl rfl) <| WL.val rfl rfl rfl (ov_move rfl) <| WL.split 32 (b := (r33.2 : Int) == 0) rfl (fun hb68 => ?_) (fun hb68 => ?_)
 ·replace HF := bif_t hb68 HF
  refine WL.val rfl rfl rfl (ov_move rfl) <| WL.val rfl rfl rfl (ov_eqlS rfl rfl) <| WL.val rfl rfl rfl (ov_pickT rfl rfl) <| WL.val rfl rfl rfl (ov_move rfl) <| WL.split 36 (b := bEq r33.1 (⟨#[110, 111, 116, 32, 40, 116, 35, 53, 48, 48, 32, 43, 32, 120, 41]⟩ : ByteArray)) rfl (fun hb69 => ?_) (fun hb69 => ?_)
  ·replace HF := bif_t hb69 HF
   refine WL.val rfl rfl rfl (ov_move rfl) <| WL.val rfl rfl rfl (ov_eql rfl rfl) <| WL.val rfl rfl rfl (ov_pickT rfl rfl) <| WL.val rfl rfl rfl (ov_move rfl) <| WL.split 40 (b := (r41.2 : Int) == 0) rfl (fun hb70 => ?_) (fun hb70 => ?_)
   ·replace HF := bif_t hb70 HF
    refine WL.val rfl rfl rfl (ov_move rfl) <| WL.val rfl rfl rfl (ov_eqlS rfl rfl) <| WL.val rfl rfl rfl (ov_pickT rfl rfl) <| WL.val rfl rfl rfl (ov_move rfl) <| WL.split 44 (b := bEq r41.1 (⟨#[45, 53]⟩ : ByteArray)) rfl (fun hb71 => ?_) (fun hb71 => ?_)
    ·replace HF := bif_t hb71 HF
     refine WL.val rfl rfl rfl (ov_move rfl) <| WL.val rfl rfl rfl (ov_eql rfl rfl) <| WL.val rfl rfl rfl (ov_pickT rfl rfl) <| WL.val rfl rfl rfl (ov_move rfl) <| WL.split 48 (b := (r60.2 : Int) == 0) rfl (fun hb72 => ?_) (fun hb72 => ?_)
     ·replace HF := bif_t hb72 HF
      refine WL.val rfl rfl rfl (ov_move rfl) <| WL.val rfl rfl rfl (ov_eqlS rfl rfl) <| WL.val rfl rfl rfl (ov_pickT rfl rfl) <| WL.val rfl rfl rfl (ov_move rfl) <| WL.split 52 (b := bEq r60.1 (⟨#[101, 120, 105, 116, 59, 32, 114, 101, 116, 117, 114, 110, 59]⟩ : ByteArray)) rfl (fun hb73 => ?_) (fun hb73 => ?_)
      ·replace HF := bif_t hb73 HF
       refine WL.val rfl rfl rfl (ov_pickT rfl rfl) <| WL.val rfl rfl rfl (ov_assign rfl) <| WL.nil <| WQ.seqN <| WC.ret <| WQ.ret1 rfl rfl ?_
       obtain rfl := Option.some.inj HF
       exact ⟨_, rfl, h64, S67, rfl⟩
      ·replace HF := bif_f hb73 HF
       refine WL.val rfl rfl rfl (ov_pickF rfl rfl) <| WL.val rfl rfl rfl (ov_assign rfl) <| WL.nil <| WQ.seqN <| WC.ret <| WQ.ret1 rfl rfl ?_
       obtain rfl := Option.some.inj HF
       exact ⟨_, rfl, h64, S67, rfl⟩
     ·replace HF := bif_f hb72 HF
      refine WL.pass rfl rfl rfl <| WL.pass rfl rfl rfl <| WL.val rfl rfl rfl (ov_pickF rfl rfl) <| WL.val rfl rfl rfl (ov_move rfl) <| WL.val rfl rfl rfl (ov_pickF rfl rfl) <| WL.val rfl rfl rfl (ov_assign rfl) <| WL.nil <| WQ.seqN <| WC.ret <| WQ.ret1 rfl rfl ?_
      obtain rfl := Option.some.inj HF
      exact ⟨_, rfl, h64, S67, rfl⟩
    ·replace HF := bif_f hb71 HF
     refine WL.pass rfl rfl rfl <| WL.pass rfl rfl rfl <| WL.val rfl rfl rfl (ov_pickF rfl rfl) <| WL.val rfl rfl rfl (ov_move rfl) <| WL.pass rfl rfl rfl <| WL.pass rfl rfl rfl <| WL.val rfl rfl rfl (ov_pickF rfl rfl) <| WL.val rfl rfl rfl (ov_move rfl) <| WL.val rfl rfl rfl (ov_pickF rfl rfl) <| WL.val rfl rfl rfl (ov_assign rfl) <| WL.nil <| WQ.seqN <| WC.ret <| WQ.ret1 rfl rfl ?_
     obtain rfl := Option.some.inj HF
     exact ⟨_, rfl, h64, S67, rfl⟩
   ·replace HF := bif_f hb70 HF
    refine WL.pass rfl rfl rfl <| WL.pass rfl rfl rfl <| WL.val rfl rfl rfl (ov_pickF rfl rfl) <| WL.val rfl rfl rfl (ov_move rfl) <| WL.pass rfl rfl rfl <| WL.pass rfl rfl rfl <| WL.val rfl rfl rfl (ov_pickF rfl rfl) <| WL.val rfl rfl rfl (ov_move rfl) <| WL.pass rfl rfl rfl <| WL.pass rfl rfl rfl <| WL.val rfl rfl rfl (ov_pickF rfl rfl) <| WL.val rfl rfl rfl (ov_move rfl) <| WL.val rfl rfl rfl (ov_pickF rfl rfl) <| WL.val rfl rfl rfl (ov_assign rfl) <| WL.nil <| WQ.seqN <| WC.ret <| WQ.ret1 rfl rfl ?_
    obtain rfl := Option.some.inj HF
    exact ⟨_, rfl, h64, S67, rfl⟩
  ·replace HF := bif_f hb69 HF
   refine WL.pass rfl rfl rfl <| WL.pass rfl rfl rfl <| WL.val rfl rfl rfl (ov_pickF rfl rfl) <| WL.val rfl rfl rfl (ov_move rfl) <| WL.pass rfl rfl rfl <| WL.pass rfl rfl rfl <| WL.val rfl rfl rfl (ov_pickF rfl rfl) <| WL.val rfl rfl rfl (ov_move rfl) <| WL.pass rfl rfl rfl <| WL.pass rfl rfl rfl <| WL.val rfl rfl rfl (ov_pickF rfl rfl) <| WL.val rfl rfl rfl (ov_move rfl) <| WL.pass rfl rfl rfl <| WL.pass rfl rfl rfl <| WL.val rfl rfl rfl (ov_pickF rfl rfl) <| WL.val rfl rfl rfl (ov_move rfl) <| WL.val rfl rfl rfl (ov_pickF rfl rfl) <| WL.val rfl rfl rfl (ov_assign rfl) <| WL.nil <| WQ.seqN <| WC.ret <| WQ.ret1 rfl rfl ?_
   obtain rfl := Option.some.inj HF
   exact ⟨_, rfl, h64, S67, rfl⟩
 ·replace HF := bif_f hb68 HF
  refine WL.pass rfl rfl rfl <| WL.pass rfl rfl rfl <| WL.val rfl rfl rfl (ov_pickF rfl rfl) <| WL.val rfl rfl rfl (ov_move rfl) <| WL.pass rfl rfl rfl <| WL.pass rfl rfl rfl <| WL.val rfl rfl rfl (ov_pickF rfl rfl) <| WL.val rfl rfl rfl (ov_move rfl) <| WL.pass rfl rfl rfl <| WL.pass rfl rfl rfl <| WL.val rfl rfl rfl (ov_pickF rfl rfl) <| WL.val rfl rfl rfl (ov_move rfl) <| WL.pass rfl rfl rfl <| WL.pass rfl rfl rfl <| WL.val rfl rfl rfl (ov_pickF rfl rfl) <| WL.val rfl rfl rfl (ov_move rfl) <| WL.pass rfl rfl rfl <| WL.pass rfl rfl rfl <| WL.val rfl rfl rfl (ov_pickF rfl rfl) <| WL.val rfl rfl rfl (ov_move rfl) <| WL.val rfl rfl rfl (ov_pickF rfl rfl) <| WL.val rfl rfl rfl (ov_assign rfl) <| WL.nil <| WQ.seqN <| WC.ret <| WQ.ret1 rfl rfl ?_
  obtain rfl := Option.some.inj HF
  exact ⟨_, rfl, h64, S67, rfl⟩
theorem ok_law03_awake (k : Nat) : C_law03_awake (F_law03_awake k) := s_law03_awake k

def C_ref01_has (φ : (List ByteArray) → ByteArray → Option Bool) : Prop := ∀ ⦃xs1 : List ByteArray⦄ ⦃x4 : ByteArray⦄ ⦃r : Bool⦄, φ xs1 x4 = some r → ∀ ⦃w0 : World⦄ ⦃h0 : Hp⦄ ⦃v2 : Value⦄, Sub h0 w0 → RS h0 v2 xs1 →
  Calls Tryz.prog 101 #[v2, .string x4] w0 fun e w1 => ∃ v, e = .returned v ∧ ∃ h1, Stp [] w0 h0 w1 h1 ∧ v = .bool r
set_option maxRecDepth 20000 in
set_option maxHeartbeats 4000000 in
theorem s_ref01_has (k : Nat) (IH : ∀ j, j ≤ k → C_ref01_has (tie_ref01_has j).ref01_has) : C_ref01_has (m_ref01_has k (tie_ref01_has k)) := by
 intro xs1 x4 r HF w0 h0 v2 hs0 rs3
 have S0 : Stp [] w0 h0 w0 h0 := Stp.refl hs0 _
 refine enter (n := 18) Tryz.func101 rfl Tryz.ntmps101 rfl [(0, v2), (1, .string x4)] rfl <| WC.seq <| WC.region <| WL.val rfl rfl rfl (ov_assign rfl) <| WL.nil <| WQ.seqN <| WC.seq <| WC.seq <| WC.region <| WL.val rfl rfl rfl (ov_assign rfl) <| WL.nil <| WQ.seqN <| WC.block <| WC.loop <| WP.to [0, 1, 5] [(0, v2), (1, .string x4), (5, .int .i64 0)] rfl <| WP_rule (K := k) (fun j E w6 => ∃ (h5 : Hp) (x9 : Int), (tie_ref01_has j).ref01_has_l1 xs1 x4 x9 = some r ∧ E = [(0, v2), (1, .string x4), (5, .int .i64 x9)] ∧ Stp [] w0 h0 w6 h5 ∧ Hle h0 h5) ?_ ?_ (j := k) (Nat.le_refl _) ?_
 ·rintro E w6 ⟨_, _, HF, _⟩; cases HF
 ·rintro j10 hj12 IHL11 E w6 ⟨h5, x9, HF, rfl, S8, le7⟩
  refine WC.join (fun E w18 => ∃ (h17 : Hp), ref01_has_j2 j10 (tie_ref01_has j10) xs1 x4 x9 = some r ∧ E = [(0, v2), (1, .string x4), (5, .int .i64 x9)] ∧ Stp [] w0 h0 w18 h17 ∧ Hle h5 h17) ?_ ?_
  ·rintro E w18 ⟨h17, HF, rfl, S20, le19⟩
   refine WC.join (fun E w36 => ∃ (h35 : Hp), ref01_has_j3 j10 (tie_ref01_has j10) xs1 x4 x9 = some r ∧ E = [(0, v2), (1, .string x4), (5, .int .i64 x9)] ∧ Stp [] w0 h0 w36 h35 ∧ Hle h17 h35) ?_ ?_
   ·rintro E w36 ⟨h35, HF, rfl, S38, le37⟩
    refine WC.region <| WL.val rfl rfl rfl (ov_move rfl) <| WL.val rfl rfl rfl (ov_add rfl rfl) <| WL.val rfl rfl rfl (ov_assign rfl) <| WL.nil <| WQ.loopN <| WP.to [0, 1, 5] [(0, v2), (1, .string x4), (5, .int .i64 (IntKind.i64.wrap (x9 + 1)))] rfl ?_
    exact IHL11 j10 (Nat.le_refl _) _ _ ⟨h35, IntKind.i64.wrap (x9 + 1), HF, rfl, S38, (le7).trans ((le19).trans le37)⟩
   ·intro J39
    refine WC.block <| WC.seq <| WC.region <| WL.val rfl rfl rfl (ov_move rfl) <| WL.val rfl rfl rfl (ov_move rfl) ?_
    obtain ⟨A21, c22, rfl, rs23⟩ := RS.form (rs3.mono ((le7).trans le19))
    obtain ⟨e24, he25, HF⟩ := bind_some HF
    obtain ⟨b26, o27, rfl, h29, h30, ra28⟩ := RS.atO rs23 he25
    obtain ⟨cs31, r32, hc33⟩ := ra28
    obtain rfl := (show cs31 = _ from r32)
    refine WL.val rfl rfl rfl (ov_indexAddr rfl rfl t_slice_41 t_size_9 h29 h30) <| WL.val rfl rfl rfl (ov_load1 rfl t_agg_9 (S20.sub.at_ _ _ _ (hc33 0 _ rfl))) <| WL.val rfl rfl rfl (ov_move rfl) <| WL.val rfl rfl rfl (ov_eqlS rfl rfl) <| WL.nil <| WQ.seqN <| WC.cond (b := bEq e24 x4) rfl (fun hb34 => ?_) (fun hb34 => ?_)
    ·replace HF := bif_t hb34 HF
     refine WC.seq <| WC.region <| WL.val rfl rfl rfl (ov_assign rfl) <| WL.nil <| WQ.seqN <| WC.ret <| WQ.blockRet <| WQ.thenRet <| WQ.thenRet <| WQ.blockRet <| WQ.thenRet <| WQ.ret1 rfl rfl ?_
     obtain rfl := Option.some.inj HF
     exact ⟨_, rfl, h17, S20, rfl⟩
    ·replace HF := bif_f hb34 HF
     refine WC.skip <| WQ.blockN <| WC.to [0, 1, 5] [(0, .slice (some ⟨b26, o27, none⟩) (xs1).length c22), (1, .string x4), (5, .int .i64 x9)] rfl ?_
     exact J39 ⟨h17, HF, rfl, S20, Hle.refl _⟩
  ·intro J40
   refine WC.seq <| WC.region <| WL.val rfl rfl rfl (ov_move rfl) <| WL.val rfl rfl rfl (ov_move rfl) ?_
   obtain ⟨A13, c14, rfl, rs15⟩ := RS.form (rs3.mono (le7))
   refine WL.val rfl rfl rfl (ov_lenL rfl t_slice_41) <| WL.val rfl rfl rfl (ov_lss rfl rfl) <| WL.nil <| WQ.seqN <| WC.cond (b := decide ((x9 : Int) < (xs1.length : Int))) rfl (fun hb16 => ?_) (fun hb16 => ?_)
   ·replace HF := bif_t hb16 HF
    refine WC.skip <| WC.to [0, 1, 5] [(0, .slice A13 (xs1).length c14), (1, .string x4), (5, .int .i64 x9)] rfl ?_
    exact J40 ⟨h5, HF, rfl, S8, Hle.refl _⟩
   ·replace HF := bif_f hb16 HF
    refine WC.exit <| WQ.thenExit <| WQ.thenExit <| WQ.blockHit <| WQ.seqN <| WC.seq <| WC.region <| WL.val rfl rfl rfl (ov_assign rfl) <| WL.nil <| WQ.seqN <| WC.ret <| WQ.ret1 rfl rfl ?_
    obtain rfl := Option.some.inj HF
    exact ⟨_, rfl, h5, S8, rfl⟩
 ·exact ⟨h0, 0, HF, rfl, S0, Hle.refl _⟩
theorem all_ref01_has : ∀ k j, j ≤ k → C_ref01_has (tie_ref01_has j).ref01_has := by
  intro k
  induction k with
  | zero =>
    intro j hj
    obtain rfl : j = 0 := by omega
    exact (fun _ _ _ => by intro h; cases h)
  | succ k ih =>
    intro j hj
    by_cases h : j ≤ k
    · exact ih j h
    · obtain rfl : j = k + 1 := by omega
      exact s_ref01_has k ih
theorem ok_ref01_has (k : Nat) : C_ref01_has (F_ref01_has k) := (all_ref01_has k k (Nat.le_refl _))

def C_ref01_Words (φ : Option (List ByteArray)) : Prop := ∀ ⦃r : List ByteArray⦄, φ  = some r → ∀ ⦃w0 : World⦄ ⦃h0 : Hp⦄, Sub h0 w0 →
  Calls Tryz.prog 102 #[] w0 fun e w1 => ∃ v, e = .returned v ∧ ∃ h1, Stp [] w0 h0 w1 h1 ∧ RS h1 v r
set_option maxRecDepth 20000 in
set_option maxHeartbeats 4000000 in
theorem s_ref01_Words (k : Nat) : C_ref01_Words (F_ref01_Words k) := by
 intro  r HF w0 h0  hs0 
 have S0 : Stp [] w0 h0 w0 h0 := Stp.refl hs0 _
 refine enter (n := 2) Tryz.func102 rfl Tryz.ntmps102 rfl [] rfl <| WC.seq <| WC.region <| WL.val rfl rfl rfl (ov_assign rfl) <| WL.nil <| WQ.seqN <| WC.seq <| WC.region <| WL.buildSliceD (us := ((.string (⟨#[97, 100, 100]⟩ : ByteArray)) :: (.string (⟨#[97, 110, 100]⟩ : ByteArray)) :: (.string (⟨#[97, 110, 100, 110]⟩ : ByteArray)) :: (.string (⟨#[97, 116]⟩ : ByteArray)) :: (.string (⟨#[98, 108, 111, 99, 107]⟩ : ByteArray)) :: (.string (⟨#[98, 111, 111, 108]⟩ : ByteArray)) :: (.string (⟨#[98, 111, 120]⟩ : ByteArray)) :: (.string (⟨#[98, 121]⟩ : ByteArray)) :: (.string (⟨#[99, 97, 108]⟩ : ByteArray)) :: (.string (⟨#[99, 97, 108, 99]⟩ : ByteArray)) :: (.string (⟨#[99, 97, 108, 99, 110]⟩ : ByteArray)) :: (.string (⟨#[99, 97, 115, 101]⟩ : ByteArray)) :: (.string (⟨#[100, 101, 108, 97, 121]⟩ : ByteArray)) :: (.string (⟨#[100, 105, 118]⟩ : ByteArray)) :: (.string (⟨#[100, 111]⟩ : ByteArray)) :: (.string (⟨#[101, 108, 115, 101]⟩ : ByteArray)) :: (.string (⟨#[101, 108, 115, 105, 102]⟩ : ByteArray)) :: (.string (⟨#[101, 110, 100]⟩ : ByteArray)) :: (.string (⟨#[101, 110, 100, 95, 99, 97, 115, 101]⟩ : ByteArray)) :: (.string (⟨#[101, 110, 100, 95, 102, 111, 114]⟩ : ByteArray)) :: (.string (⟨#[101, 110, 100, 95, 105, 102]⟩ : ByteArray)) :: (.string (⟨#[101, 110, 100, 95, 114, 101, 112, 101, 97, 116]⟩ : ByteArray)) :: (.string (⟨#[101, 110, 100, 95, 119, 104, 105, 108, 101]⟩ : ByteArray)) :: (.string (⟨#[101, 110, 116, 101, 114]⟩ : ByteArray)) :: (.string (⟨#[101, 113]⟩ : ByteArray)) :: (.string (⟨#[101, 118, 101, 114, 121]⟩ : ByteArray)) :: (.string (⟨#[101, 120, 105, 116]⟩ : ByteArray)) :: (.string (⟨#[102, 97, 108, 108]⟩ : ByteArray)) :: (.string (⟨#[102, 97, 108, 115, 101]⟩ : ByteArray)) :: (.string (⟨#[102, 98, 100]⟩ : ByteArray)) :: (.string (⟨#[102, 111, 114]⟩ : ByteArray)) :: (.string (⟨#[102, 114, 111, 109]⟩ : ByteArray)) :: (.string (⟨#[102, 117, 110, 99, 116, 105, 111, 110]⟩ : ByteArray)) :: (.string (⟨#[103, 101]⟩ : ByteArray)) :: (.string (⟨#[103, 116]⟩ : ByteArray)) :: (.string (⟨#[105, 102]⟩ : ByteArray)) :: (.string (⟨#[105, 108]⟩ : ByteArray)) :: (.string (⟨#[105, 110, 105, 116, 105, 97, 108]⟩ : ByteArray)) :: (.string (⟨#[105, 110, 112, 117, 116]⟩ : ByteArray)) :: (.string (⟨#[105, 110, 116]⟩ : ByteArray)) :: (.string (⟨#[106, 109, 112]⟩ : ByteArray)) :: (.string (⟨#[106, 109, 112, 99]⟩ : ByteArray)) :: (.string (⟨#[106, 109, 112, 99, 110]⟩ : ByteArray)) :: (.string (⟨#[106, 117, 109, 112]⟩ : ByteArray)) :: (.string (⟨#[108, 100]⟩ : ByteArray)) :: (.string (⟨#[108, 100, 110]⟩ : ByteArray)) :: (.string (⟨#[108, 101]⟩ : ByteArray)) :: (.string (⟨#[108, 101, 97, 118, 101]⟩ : ByteArray)) :: (.string (⟨#[108, 105, 109, 105, 116, 95]⟩ : ByteArray)) :: (.string (⟨#[108, 111, 99, 97, 108]⟩ : ByteArray)) :: (.string (⟨#[108, 116]⟩ : ByteArray)) :: (.string (⟨#[109, 97, 99, 114, 111]⟩ : ByteArray)) :: (.string (⟨#[109, 111, 100]⟩ : ByteArray)) :: (.string (⟨#[109, 117, 108]⟩ : ByteArray)) :: (.string (⟨#[110, 101]⟩ : ByteArray)) :: (.string (⟨#[110, 111, 116]⟩ : ByteArray)) :: (.string (⟨#[111, 102]⟩ : ByteArray)) :: (.string (⟨#[111, 114]⟩ : ByteArray)) :: (.string (⟨#[111, 114, 110]⟩ : ByteArray)) :: (.string (⟨#[111, 117, 116, 112, 117, 116]⟩ : ByteArray)) :: (.string (⟨#[112, 104, 97, 115, 101]⟩ : ByteArray)) :: (.string (⟨#[112, 114, 105, 111, 114, 105, 116, 121]⟩ : ByteArray)) :: (.string (⟨#[112, 114, 111, 103, 114, 97, 109]⟩ : ByteArray)) :: (.string (⟨#[114, 101, 112, 101, 97, 116]⟩ : ByteArray)) :: (.string (⟨#[114, 101, 115, 101, 116]⟩ : ByteArray)) :: (.string (⟨#[114, 101, 116]⟩ : ByteArray)) :: (.string (⟨#[114, 101, 116, 97, 105, 110]⟩ : ByteArray)) :: (.string (⟨#[114, 101, 116, 99]⟩ : ByteArray)) :: (.string (⟨#[114, 101, 116, 99, 110]⟩ : ByteArray)) :: (.string (⟨#[114, 101, 116, 117, 114, 110]⟩ : ByteArray)) :: (.string (⟨#[114, 105, 115, 101]⟩ : ByteArray)) :: (.string (⟨#[114, 117, 110]⟩ : ByteArray)) :: (.string (⟨#[114, 117, 110, 103]⟩ : ByteArray)) :: (.string (⟨#[115, 101, 116]⟩ : ByteArray)) :: (.string (⟨#[115, 102, 99]⟩ : ByteArray)) :: (.string (⟨#[115, 116]⟩ : ByteArray)) :: (.string (⟨#[115, 116, 101, 112]⟩ : ByteArray)) :: (.string (⟨#[115, 116, 110]⟩ : ByteArray)) :: (.string (⟨#[115, 117, 98]⟩ : ByteArray)) :: (.string (⟨#[116, 97, 115, 107]⟩ : ByteArray)) :: (.string (⟨#[116, 104, 101, 110]⟩ : ByteArray)) :: (.string (⟨#[116, 105, 109, 101]⟩ : ByteArray)) :: (.string (⟨#[116, 111]⟩ : ByteArray)) :: (.string (⟨#[116, 114, 97, 110, 115, 105, 116, 105, 111, 110]⟩ : ByteArray)) :: (.string (⟨#[116, 114, 117, 101]⟩ : ByteArray)) :: (.string (⟨#[117, 110, 116, 105, 108]⟩ : ByteArray)) :: (.string (⟨#[119, 104, 101, 110]⟩ : ByteArray)) :: (.string (⟨#[119, 104, 105, 108, 101]⟩ : ByteArray)) :: (.string (⟨#[120, 111, 114]⟩ : ByteArray)) :: (.string (⟨#[120, 111, 114, 110]⟩ : ByteArray)) :: [])) (cs := ((.string (⟨#[97, 100, 100]⟩ : ByteArray)) :: (.string (⟨#[97, 110, 100]⟩ : ByteArray)) :: (.string (⟨#[97, 110, 100, 110]⟩ : ByteArray)) :: (.string (⟨#[97, 116]⟩ : ByteArray)) :: (.string (⟨#[98, 108, 111, 99, 107]⟩ : ByteArray)) :: (.string (⟨#[98, 111, 111, 108]⟩ : ByteArray)) :: (.string (⟨#[98, 111, 120]⟩ : ByteArray)) :: (.string (⟨#[98, 121]⟩ : ByteArray)) :: (.string (⟨#[99, 97, 108]⟩ : ByteArray)) :: (.string (⟨#[99, 97, 108, 99]⟩ : ByteArray)) :: (.string (⟨#[99, 97, 108, 99, 110]⟩ : ByteArray)) :: (.string (⟨#[99, 97, 115, 101]⟩ : ByteArray)) :: (.string (⟨#[100, 101, 108, 97, 121]⟩ : ByteArray)) :: (.string (⟨#[100, 105, 118]⟩ : ByteArray)) :: (.string (⟨#[100, 111]⟩ : ByteArray)) :: (.string (⟨#[101, 108, 115, 101]⟩ : ByteArray)) :: (.string (⟨#[101, 108, 115, 105, 102]⟩ : ByteArray)) :: (.string (⟨#[101, 110, 100]⟩ : ByteArray)) :: (.string (⟨#[101, 110, 100, 95, 99, 97, 115, 101]⟩ : ByteArray)) :: (.string (⟨#[101, 110, 100, 95, 102, 111, 114]⟩ : ByteArray)) :: (.string (⟨#[101, 110, 100, 95, 105, 102]⟩ : ByteArray)) :: (.string (⟨#[101, 110, 100, 95, 114, 101, 112, 101, 97, 116]⟩ : ByteArray)) :: (.string (⟨#[101, 110, 100, 95, 119, 104, 105, 108, 101]⟩ : ByteArray)) :: (.string (⟨#[101, 110, 116, 101, 114]⟩ : ByteArray)) :: (.string (⟨#[101, 113]⟩ : ByteArray)) :: (.string (⟨#[101, 118, 101, 114, 121]⟩ : ByteArray)) :: (.string (⟨#[101, 120, 105, 116]⟩ : ByteArray)) :: (.string (⟨#[102, 97, 108, 108]⟩ : ByteArray)) :: (.string (⟨#[102, 97, 108, 115, 101]⟩ : ByteArray)) :: (.string (⟨#[102, 98, 100]⟩ : ByteArray)) :: (.string (⟨#[102, 111, 114]⟩ : ByteArray)) :: (.string (⟨#[102, 114, 111, 109]⟩ : ByteArray)) :: (.string (⟨#[102, 117, 110, 99, 116, 105, 111, 110]⟩ : ByteArray)) :: (.string (⟨#[103, 101]⟩ : ByteArray)) :: (.string (⟨#[103, 116]⟩ : ByteArray)) :: (.string (⟨#[105, 102]⟩ : ByteArray)) :: (.string (⟨#[105, 108]⟩ : ByteArray)) :: (.string (⟨#[105, 110, 105, 116, 105, 97, 108]⟩ : ByteArray)) :: (.string (⟨#[105, 110, 112, 117, 116]⟩ : ByteArray)) :: (.string (⟨#[105, 110, 116]⟩ : ByteArray)) :: (.string (⟨#[106, 109, 112]⟩ : ByteArray)) :: (.string (⟨#[106, 109, 112, 99]⟩ : ByteArray)) :: (.string (⟨#[106, 109, 112, 99, 110]⟩ : ByteArray)) :: (.string (⟨#[106, 117, 109, 112]⟩ : ByteArray)) :: (.string (⟨#[108, 100]⟩ : ByteArray)) :: (.string (⟨#[108, 100, 110]⟩ : ByteArray)) :: (.string (⟨#[108, 101]⟩ : ByteArray)) :: (.string (⟨#[108, 101, 97, 118, 101]⟩ : ByteArray)) :: (.string (⟨#[108, 105, 109, 105, 116, 95]⟩ : ByteArray)) :: (.string (⟨#[108, 111, 99, 97, 108]⟩ : ByteArray)) :: (.string (⟨#[108, 116]⟩ : ByteArray)) :: (.string (⟨#[109, 97, 99, 114, 111]⟩ : ByteArray)) :: (.string (⟨#[109, 111, 100]⟩ : ByteArray)) :: (.string (⟨#[109, 117, 108]⟩ : ByteArray)) :: (.string (⟨#[110, 101]⟩ : ByteArray)) :: (.string (⟨#[110, 111, 116]⟩ : ByteArray)) :: (.string (⟨#[111, 102]⟩ : ByteArray)) :: (.string (⟨#[111, 114]⟩ : ByteArray)) :: (.string (⟨#[111, 114, 110]⟩ : ByteArray)) :: (.string (⟨#[111, 117, 116, 112, 117, 116]⟩ : ByteArray)) :: (.string (⟨#[112, 104, 97, 115, 101]⟩ : ByteArray)) :: (.string (⟨#[112, 114, 105, 111, 114, 105, 116, 121]⟩ : ByteArray)) :: (.string (⟨#[112, 114, 111, 103, 114, 97, 109]⟩ : ByteArray)) :: (.string (⟨#[114, 101, 112, 101, 97, 116]⟩ : ByteArray)) :: (.string (⟨#[114, 101, 115, 101, 116]⟩ : ByteArray)) :: (.string (⟨#[114, 101, 116]⟩ : ByteArray)) :: (.string (⟨#[114, 101, 116, 97, 105, 110]⟩ : ByteArray)) :: (.string (⟨#[114, 101, 116, 99]⟩ : ByteArray)) :: (.string (⟨#[114, 101, 116, 99, 110]⟩ : ByteArray)) :: (.string (⟨#[114, 101, 116, 117, 114, 110]⟩ : ByteArray)) :: (.string (⟨#[114, 105, 115, 101]⟩ : ByteArray)) :: (.string (⟨#[114, 117, 110]⟩ : ByteArray)) :: (.string (⟨#[114, 117, 110, 103]⟩ : ByteArray)) :: (.string (⟨#[115, 101, 116]⟩ : ByteArray)) :: (.string (⟨#[115, 102, 99]⟩ : ByteArray)) :: (.string (⟨#[115, 116]⟩ : ByteArray)) :: (.string (⟨#[115, 116, 101, 112]⟩ : ByteArray)) :: (.string (⟨#[115, 116, 110]⟩ : ByteArray)) :: (.string (⟨#[115, 117, 98]⟩ : ByteArray)) :: (.string (⟨#[116, 97, 115, 107]⟩ : ByteArray)) :: (.string (⟨#[116, 104, 101, 110]⟩ : ByteArray)) :: (.string (⟨#[116, 105, 109, 101]⟩ : ByteArray)) :: (.string (⟨#[116, 111]⟩ : ByteArray)) :: (.string (⟨#[116, 114, 97, 110, 115, 105, 116, 105, 111, 110]⟩ : ByteArray)) :: (.string (⟨#[116, 114, 117, 101]⟩ : ByteArray)) :: (.string (⟨#[117, 110, 116, 105, 108]⟩ : ByteArray)) :: (.string (⟨#[119, 104, 101, 110]⟩ : ByteArray)) :: (.string (⟨#[119, 104, 105, 108, 101]⟩ : ByteArray)) :: (.string (⟨#[120, 111, 114]⟩ : ByteArray)) :: (.string (⟨#[120, 111, 114, 110]⟩ : ByteArray)) :: [])) rfl rfl rfl t_slice_41 t_size_9 t_zero_9 rfl (cl_cons rfl (cl_cons rfl (cl_cons rfl (cl_cons rfl (cl_cons rfl (cl_cons rfl (cl_cons rfl (cl_cons rfl (cl_cons rfl (cl_cons rfl (cl_cons rfl (cl_cons rfl (cl_cons rfl (cl_cons rfl (cl_cons rfl (cl_cons rfl (cl_cons rfl (cl_cons rfl (cl_cons rfl (cl_cons rfl (cl_cons rfl (cl_cons rfl (cl_cons rfl (cl_cons rfl (cl_cons rfl (cl_cons rfl (cl_cons rfl (cl_cons rfl (cl_cons rfl (cl_cons rfl (cl_cons rfl (cl_cons rfl (cl_cons rfl (cl_cons rfl (cl_cons rfl (cl_cons rfl (cl_cons rfl (cl_cons rfl (cl_cons rfl (cl_cons rfl (cl_cons rfl (cl_cons rfl (cl_cons rfl (cl_cons rfl (cl_cons rfl (cl_cons rfl (cl_cons rfl (cl_cons rfl (cl_cons rfl (cl_cons rfl (cl_cons rfl (cl_cons rfl (cl_cons rfl (cl_cons rfl (cl_cons rfl (cl_cons rfl (cl_cons rfl (cl_cons rfl (cl_cons rfl (cl_cons rfl (cl_cons rfl (cl_cons rfl (cl_cons rfl (cl_cons rfl (cl_cons rfl (cl_cons rfl (cl_cons rfl (cl_cons rfl (cl_cons rfl (cl_cons rfl (cl_cons rfl (cl_cons rfl (cl_cons rfl (cl_cons rfl (cl_cons rfl (cl_cons rfl (cl_cons rfl (cl_cons rfl (cl_cons rfl (cl_cons rfl (cl_cons rfl (cl_cons rfl (cl_cons rfl (cl_cons rfl (cl_cons rfl (cl_cons rfl (cl_cons rfl (cl_cons rfl (cl_cons rfl (cl_cons rfl cl_nil)))))))))))))))))))))))))))))))))))))))))))))))))))))))))))))))))))))))))))))))))))))))))) rfl rfl rfl S0.sub (fun w1 h2 b3 hb4 s5 hk6 hc7 => ?_)
 have S8 := S0.trans0 s5
 have rs9 : RS h2 (.slice (some ⟨b3, 0, none⟩) 90 90) (((⟨#[97, 100, 100]⟩ : ByteArray) :: (⟨#[97, 110, 100]⟩ : ByteArray) :: (⟨#[97, 110, 100, 110]⟩ : ByteArray) :: (⟨#[97, 116]⟩ : ByteArray) :: (⟨#[98, 108, 111, 99, 107]⟩ : ByteArray) :: (⟨#[98, 111, 111, 108]⟩ : ByteArray) :: (⟨#[98, 111, 120]⟩ : ByteArray) :: (⟨#[98, 121]⟩ : ByteArray) :: (⟨#[99, 97, 108]⟩ : ByteArray) :: (⟨#[99, 97, 108, 99]⟩ : ByteArray) :: (⟨#[99, 97, 108, 99, 110]⟩ : ByteArray) :: (⟨#[99, 97, 115, 101]⟩ : ByteArray) :: (⟨#[100, 101, 108, 97, 121]⟩ : ByteArray) :: (⟨#[100, 105, 118]⟩ : ByteArray) :: (⟨#[100, 111]⟩ : ByteArray) :: (⟨#[101, 108, 115, 101]⟩ : ByteArray) :: (⟨#[101, 108, 115, 105, 102]⟩ : ByteArray) :: (⟨#[101, 110, 100]⟩ : ByteArray) :: (⟨#[101, 110, 100, 95, 99, 97, 115, 101]⟩ : ByteArray) :: (⟨#[101, 110, 100, 95, 102, 111, 114]⟩ : ByteArray) :: (⟨#[101, 110, 100, 95, 105, 102]⟩ : ByteArray) :: (⟨#[101, 110, 100, 95, 114, 101, 112, 101, 97, 116]⟩ : ByteArray) :: (⟨#[101, 110, 100, 95, 119, 104, 105, 108, 101]⟩ : ByteArray) :: (⟨#[101, 110, 116, 101, 114]⟩ : ByteArray) :: (⟨#[101, 113]⟩ : ByteArray) :: (⟨#[101, 118, 101, 114, 121]⟩ : ByteArray) :: (⟨#[101, 120, 105, 116]⟩ : ByteArray) :: (⟨#[102, 97, 108, 108]⟩ : ByteArray) :: (⟨#[102, 97, 108, 115, 101]⟩ : ByteArray) :: (⟨#[102, 98, 100]⟩ : ByteArray) :: (⟨#[102, 111, 114]⟩ : ByteArray) :: (⟨#[102, 114, 111, 109]⟩ : ByteArray) :: (⟨#[102, 117, 110, 99, 116, 105, 111, 110]⟩ : ByteArray) :: (⟨#[103, 101]⟩ : ByteArray) :: (⟨#[103, 116]⟩ : ByteArray) :: (⟨#[105, 102]⟩ : ByteArray) :: (⟨#[105, 108]⟩ : ByteArray) :: (⟨#[105, 110, 105, 116, 105, 97, 108]⟩ : ByteArray) :: (⟨#[105, 110, 112, 117, 116]⟩ : ByteArray) :: (⟨#[105, 110, 116]⟩ : ByteArray) :: (⟨#[106, 109, 112]⟩ : ByteArray) :: (⟨#[106, 109, 112, 99]⟩ : ByteArray) :: (⟨#[106, 109, 112, 99, 110]⟩ : ByteArray) :: (⟨#[106, 117, 109, 112]⟩ : ByteArray) :: (⟨#[108, 100]⟩ : ByteArray) :: (⟨#[108, 100, 110]⟩ : ByteArray) :: (⟨#[108, 101]⟩ : ByteArray) :: (⟨#[108, 101, 97, 118, 101]⟩ : ByteArray) :: (⟨#[108, 105, 109, 105, 116, 95]⟩ : ByteArray) :: (⟨#[108, 111, 99, 97, 108]⟩ : ByteArray) :: (⟨#[108, 116]⟩ : ByteArray) :: (⟨#[109, 97, 99, 114, 111]⟩ : ByteArray) :: (⟨#[109, 111, 100]⟩ : ByteArray) :: (⟨#[109, 117, 108]⟩ : ByteArray) :: (⟨#[110, 101]⟩ : ByteArray) :: (⟨#[110, 111, 116]⟩ : ByteArray) :: (⟨#[111, 102]⟩ : ByteArray) :: (⟨#[111, 114]⟩ : ByteArray) :: (⟨#[111, 114, 110]⟩ : ByteArray) :: (⟨#[111, 117, 116, 112, 117, 116]⟩ : ByteArray) :: (⟨#[112, 104, 97, 115, 101]⟩ : ByteArray) :: (⟨#[112, 114, 105, 111, 114, 105, 116, 121]⟩ : ByteArray) :: (⟨#[112, 114, 111, 103, 114, 97, 109]⟩ : ByteArray) :: (⟨#[114, 101, 112, 101, 97, 116]⟩ : ByteArray) :: (⟨#[114, 101, 115, 101, 116]⟩ : ByteArray) :: (⟨#[114, 101, 116]⟩ : ByteArray) :: (⟨#[114, 101, 116, 97, 105, 110]⟩ : ByteArray) :: (⟨#[114, 101, 116, 99]⟩ : ByteArray) :: (⟨#[114, 101, 116, 99, 110]⟩ : ByteArray) :: (⟨#[114, 101, 116, 117, 114, 110]⟩ : ByteArray) :: (⟨#[114, 105, 115, 101]⟩ : ByteArray) :: (⟨#[114, 117, 110]⟩ : ByteArray) :: (⟨#[114, 117, 110, 103]⟩ : ByteArray) :: (⟨#[115, 101, 116]⟩ : ByteArray) :: (⟨#[115, 102, 99]⟩ : ByteArray) :: (⟨#[115, 116]⟩ : ByteArray) :: (⟨#[115, 116, 101, 112]⟩ : ByteArray) :: (⟨#[115, 116, 110]⟩ : ByteArray) :: (⟨#[115, 117, 98]⟩ : ByteArray) :: (⟨#[116, 97, 115, 107]⟩ : ByteArray) :: (⟨#[116, 104, 101, 110]⟩ : ByteArray) :: (⟨#[116, 105, 109, 101]⟩ : ByteArray) :: (⟨#[116, 111]⟩ : ByteArray) :: (⟨#[116, 114, 97, 110, 115, 105, 116, 105, 111, 110]⟩ : ByteArray) :: (⟨#[116, 114, 117, 101]⟩ : ByteArray) :: (⟨#[117, 110, 116, 105, 108]⟩ : ByteArray) :: (⟨#[119, 104, 101, 110]⟩ : ByteArray) :: (⟨#[119, 104, 105, 108, 101]⟩ : ByteArray) :: (⟨#[120, 111, 114]⟩ : ByteArray) :: (⟨#[120, 111, 114, 110]⟩ : ByteArray) :: []) : List ByteArray) := RS.litL _ ([.string (⟨#[97, 100, 100]⟩ : ByteArray)] :: [.string (⟨#[97, 110, 100]⟩ : ByteArray)] :: [.string (⟨#[97, 110, 100, 110]⟩ : ByteArray)] :: [.string (⟨#[97, 116]⟩ : ByteArray)] :: [.string (⟨#[98, 108, 111, 99, 107]⟩ : ByteArray)] :: [.string (⟨#[98, 111, 111, 108]⟩ : ByteArray)] :: [.string (⟨#[98, 111, 120]⟩ : ByteArray)] :: [.string (⟨#[98, 121]⟩ : ByteArray)] :: [.string (⟨#[99, 97, 108]⟩ : ByteArray)] :: [.string (⟨#[99, 97, 108, 99]⟩ : ByteArray)] :: [.string (⟨#[99, 97, 108, 99, 110]⟩ : ByteArray)] :: [.string (⟨#[99, 97, 115, 101]⟩ : ByteArray)] :: [.string (⟨#[100, 101, 108, 97, 121]⟩ : ByteArray)] :: [.string (⟨#[100, 105, 118]⟩ : ByteArray)] :: [.string (⟨#[100, 111]⟩ : ByteArray)] :: [.string (⟨#[101, 108, 115, 101]⟩ : ByteArray)] :: [.string (⟨#[101, 108, 115, 105, 102]⟩ : ByteArray)] :: [.string (⟨#[101, 110, 100]⟩ : ByteArray)] :: [.string (⟨#[101, 110, 100, 95, 99, 97, 115, 101]⟩ : ByteArray)] :: [.string (⟨#[101, 110, 100, 95, 102, 111, 114]⟩ : ByteArray)] :: [.string (⟨#[101, 110, 100, 95, 105, 102]⟩ : ByteArray)] :: [.string (⟨#[101, 110, 100, 95, 114, 101, 112, 101, 97, 116]⟩ : ByteArray)] :: [.string (⟨#[101, 110, 100, 95, 119, 104, 105, 108, 101]⟩ : ByteArray)] :: [.string (⟨#[101, 110, 116, 101, 114]⟩ : ByteArray)] :: [.string (⟨#[101, 113]⟩ : ByteArray)] :: [.string (⟨#[101, 118, 101, 114, 121]⟩ : ByteArray)] :: [.string (⟨#[101, 120, 105, 116]⟩ : ByteArray)] :: [.string (⟨#[102, 97, 108, 108]⟩ : ByteArray)] :: [.string (⟨#[102, 97, 108, 115, 101]⟩ : ByteArray)] :: [.string (⟨#[102, 98, 100]⟩ : ByteArray)] :: [.string (⟨#[102, 111, 114]⟩ : ByteArray)] :: [.string (⟨#[102, 114, 111, 109]⟩ : ByteArray)] :: [.string (⟨#[102, 117, 110, 99, 116, 105, 111, 110]⟩ : ByteArray)] :: [.string (⟨#[103, 101]⟩ : ByteArray)] :: [.string (⟨#[103, 116]⟩ : ByteArray)] :: [.string (⟨#[105, 102]⟩ : ByteArray)] :: [.string (⟨#[105, 108]⟩ : ByteArray)] :: [.string (⟨#[105, 110, 105, 116, 105, 97, 108]⟩ : ByteArray)] :: [.string (⟨#[105, 110, 112, 117, 116]⟩ : ByteArray)] :: [.string (⟨#[105, 110, 116]⟩ : ByteArray)] :: [.string (⟨#[106, 109, 112]⟩ : ByteArray)] :: [.string (⟨#[106, 109, 112, 99]⟩ : ByteArray)] :: [.string (⟨#[106, 109, 112, 99, 110]⟩ : ByteArray)] :: [.string (⟨#[106, 117, 109, 112]⟩ : ByteArray)] :: [.string (⟨#[108, 100]⟩ : ByteArray)] :: [.string (⟨#[108, 100, 110]⟩ : ByteArray)] :: [.string (⟨#[108, 101]⟩ : ByteArray)] :: [.string (⟨#[108, 101, 97, 118, 101]⟩ : ByteArray)] :: [.string (⟨#[108, 105, 109, 105, 116, 95]⟩ : ByteArray)] :: [.string (⟨#[108, 111, 99, 97, 108]⟩ : ByteArray)] :: [.string (⟨#[108, 116]⟩ : ByteArray)] :: [.string (⟨#[109, 97, 99, 114, 111]⟩ : ByteArray)] :: [.string (⟨#[109, 111, 100]⟩ : ByteArray)] :: [.string (⟨#[109, 117, 108]⟩ : ByteArray)] :: [.string (⟨#[110, 101]⟩ : ByteArray)] :: [.string (⟨#[110, 111, 116]⟩ : ByteArray)] :: [.string (⟨#[111, 102]⟩ : ByteArray)] :: [.string (⟨#[111, 114]⟩ : ByteArray)] :: [.string (⟨#[111, 114, 110]⟩ : ByteArray)] :: [.string (⟨#[111, 117, 116, 112, 117, 116]⟩ : ByteArray)] :: [.string (⟨#[112, 104, 97, 115, 101]⟩ : ByteArray)] :: [.string (⟨#[112, 114, 105, 111, 114, 105, 116, 121]⟩ : ByteArray)] :: [.string (⟨#[112, 114, 111, 103, 114, 97, 109]⟩ : ByteArray)] :: [.string (⟨#[114, 101, 112, 101, 97, 116]⟩ : ByteArray)] :: [.string (⟨#[114, 101, 115, 101, 116]⟩ : ByteArray)] :: [.string (⟨#[114, 101, 116]⟩ : ByteArray)] :: [.string (⟨#[114, 101, 116, 97, 105, 110]⟩ : ByteArray)] :: [.string (⟨#[114, 101, 116, 99]⟩ : ByteArray)] :: [.string (⟨#[114, 101, 116, 99, 110]⟩ : ByteArray)] :: [.string (⟨#[114, 101, 116, 117, 114, 110]⟩ : ByteArray)] :: [.string (⟨#[114, 105, 115, 101]⟩ : ByteArray)] :: [.string (⟨#[114, 117, 110]⟩ : ByteArray)] :: [.string (⟨#[114, 117, 110, 103]⟩ : ByteArray)] :: [.string (⟨#[115, 101, 116]⟩ : ByteArray)] :: [.string (⟨#[115, 102, 99]⟩ : ByteArray)] :: [.string (⟨#[115, 116]⟩ : ByteArray)] :: [.string (⟨#[115, 116, 101, 112]⟩ : ByteArray)] :: [.string (⟨#[115, 116, 110]⟩ : ByteArray)] :: [.string (⟨#[115, 117, 98]⟩ : ByteArray)] :: [.string (⟨#[116, 97, 115, 107]⟩ : ByteArray)] :: [.string (⟨#[116, 104, 101, 110]⟩ : ByteArray)] :: [.string (⟨#[116, 105, 109, 101]⟩ : ByteArray)] :: [.string (⟨#[116, 111]⟩ : ByteArray)] :: [.string (⟨#[116, 114, 97, 110, 115, 105, 116, 105, 111, 110]⟩ : ByteArray)] :: [.string (⟨#[116, 114, 117, 101]⟩ : ByteArray)] :: [.string (⟨#[117, 110, 116, 105, 108]⟩ : ByteArray)] :: [.string (⟨#[119, 104, 101, 110]⟩ : ByteArray)] :: [.string (⟨#[119, 104, 105, 108, 101]⟩ : ByteArray)] :: [.string (⟨#[120, 111, 114]⟩ : ByteArray)] :: [.string (⟨#[120, 111, 114, 110]⟩ : ByteArray)] :: []) rfl rfl hc7 ⟨rfl, rfl, rfl, rfl, rfl, rfl, rfl, rfl, rfl, rfl, rfl, rfl, rfl, rfl, rfl, rfl, rfl, rfl, rfl, rfl, rfl, rfl, rfl, rfl, rfl, rfl, rfl, rfl, rfl, rfl, rfl, rfl, rfl, rfl, rfl, rfl, rfl, rfl, rfl, rfl, rfl, rfl, rfl, rfl, rfl, rfl, rfl, rfl, rfl, rfl, rfl, rfl, rfl, rfl, rfl, rfl, rfl, rfl, rfl, rfl, rfl, rfl, rfl, rfl, rfl, rfl, rfl, rfl, rfl, rfl, rfl, rfl, rfl, rfl, rfl, rfl, rfl, rfl, rfl, rfl, rfl, rfl, rfl, rfl, rfl, rfl, rfl, rfl, rfl, rfl, trivial⟩
 have ow10 := Own.lit (base := w0.heap.size) (sz := 1) (m := 90) hk6 hc7 (by rw [hb4]; exact S0.size) rfl (by decide)
 refine WL.val rfl rfl rfl (ov_assign rfl) <| WL.nil <| WQ.seqN <| WC.ret <| WQ.ret1 rfl rfl ?_
 obtain rfl := Option.some.inj HF
 exact ⟨_, rfl, h2, S8, rs9⟩
theorem ok_ref01_Words (k : Nat) : C_ref01_Words (F_ref01_Words k) := s_ref01_Words k

def C_ref01_IsWord (φ : ByteArray → Option Bool) : Prop := ∀ ⦃x1 : ByteArray⦄ ⦃r : Bool⦄, φ x1 = some r → ∀ ⦃w0 : World⦄ ⦃h0 : Hp⦄, Sub h0 w0 →
  Calls Tryz.prog 84 #[.string x1] w0 fun e w1 => ∃ v, e = .returned v ∧ ∃ h1, Stp [] w0 h0 w1 h1 ∧ v = .bool r
set_option maxRecDepth 20000 in
set_option maxHeartbeats 4000000 in
theorem s_ref01_IsWord (k : Nat) : C_ref01_IsWord (F_ref01_IsWord k) := by
 intro x1 r HF w0 h0  hs0 
 have S0 : Stp [] w0 h0 w0 h0 := Stp.refl hs0 _
 refine enter (n := 6) Tryz.func84 rfl Tryz.ntmps84 rfl [(0, .string x1)] rfl <| WC.seq <| WC.region <| WL.val rfl rfl rfl (ov_assign rfl) <| WL.nil <| WQ.seqN <| WC.seq <| WC.region ?_
 obtain ⟨r2, hr3, HF⟩ := bind_some HF
 refine WL.call rfl rfl rfl (oc_func (vs := []) rfl t_ent_102) (ok_ref01_Words _ hr3 S0.sub) ?_
 rintro v8 w5 ⟨h6, s7, rs9⟩
 have S10 := S0.trans0 s7
 refine WL.val rfl rfl rfl (ov_move rfl) ?_
 obtain ⟨r11, hr12, HF⟩ := bind_some HF
 refine WL.call rfl rfl rfl (oc_func (vs := [v8, .string x1]) rfl t_ent_101) (ok_ref01_has _ hr12 S10.sub rs9) ?_
 rintro _ w14 ⟨h15, s16, rfl⟩
 have S17 := S10.trans0 s16
 refine WL.val rfl rfl rfl (ov_assign rfl) <| WL.nil <| WQ.seqN <| WC.ret <| WQ.ret1 rfl rfl ?_
 obtain rfl := Option.some.inj HF
 exact ⟨_, rfl, h15, S17, rfl⟩
theorem ok_ref01_IsWord (k : Nat) : C_ref01_IsWord (F_ref01_IsWord k) := s_ref01_IsWord k

def C_ref01_letter (φ : Int → Option Bool) : Prop := ∀ ⦃x1 : Int⦄ ⦃r : Bool⦄, φ x1 = some r → ∀ ⦃w0 : World⦄ ⦃h0 : Hp⦄, Sub h0 w0 →
  Calls Tryz.prog 82 #[.int .u8 x1] w0 fun e w1 => ∃ v, e = .returned v ∧ ∃ h1, Stp [] w0 h0 w1 h1 ∧ v = .bool r
set_option maxRecDepth 20000 in
set_option maxHeartbeats 4000000 in
theorem s_ref01_letter (k : Nat) : C_ref01_letter (F_ref01_letter k) := by
 intro x1 r HF w0 h0  hs0 
 have S0 : Stp [] w0 h0 w0 h0 := Stp.refl hs0 _
 refine enter (n := 9) Tryz.func82 rfl Tryz.ntmps82 rfl [(0, .int .u8 x1)] rfl <| WC.seq <| WC.region <| WL.val rfl rfl rfl (ov_assign rfl) <| WL.nil <| WQ.seqN <| WC.seq <| WC.region <| WL.val rfl rfl rfl (ov_move rfl) <| WL.val rfl rfl rfl (ov_geq rfl rfl) <| WL.val rfl rfl rfl (ov_move rfl) <| WL.split 5 (b := decide ((97 : Int) ≤ x1)) rfl (fun hb2 => ?_) (fun hb2 => ?_)
 ·replace HF := bif_t hb2 HF
  refine WL.val rfl rfl rfl (ov_move rfl) <| WL.val rfl rfl rfl (ov_leq rfl rfl) <| WL.val rfl rfl rfl (ov_pickT rfl rfl) <| WL.val rfl rfl rfl (ov_assign rfl) <| WL.nil <| WQ.seqN <| WC.ret <| WQ.ret1 rfl rfl ?_
  obtain rfl := Option.some.inj HF
  exact ⟨_, rfl, h0, S0, rfl⟩
 ·replace HF := bif_f hb2 HF
  refine WL.pass rfl rfl rfl <| WL.pass rfl rfl rfl <| WL.val rfl rfl rfl (ov_pickF rfl rfl) <| WL.val rfl rfl rfl (ov_assign rfl) <| WL.nil <| WQ.seqN <| WC.ret <| WQ.ret1 rfl rfl ?_
  obtain rfl := Option.some.inj HF
  exact ⟨_, rfl, h0, S0, rfl⟩
theorem ok_ref01_letter (k : Nat) : C_ref01_letter (F_ref01_letter k) := s_ref01_letter k

def C_ref01_digit (φ : Int → Option Bool) : Prop := ∀ ⦃x1 : Int⦄ ⦃r : Bool⦄, φ x1 = some r → ∀ ⦃w0 : World⦄ ⦃h0 : Hp⦄, Sub h0 w0 →
  Calls Tryz.prog 83 #[.int .u8 x1] w0 fun e w1 => ∃ v, e = .returned v ∧ ∃ h1, Stp [] w0 h0 w1 h1 ∧ v = .bool r
set_option maxRecDepth 20000 in
set_option maxHeartbeats 4000000 in
theorem s_ref01_digit (k : Nat) : C_ref01_digit (F_ref01_digit k) := by
 intro x1 r HF w0 h0  hs0 
 have S0 : Stp [] w0 h0 w0 h0 := Stp.refl hs0 _
 refine enter (n := 9) Tryz.func83 rfl Tryz.ntmps83 rfl [(0, .int .u8 x1)] rfl <| WC.seq <| WC.region <| WL.val rfl rfl rfl (ov_assign rfl) <| WL.nil <| WQ.seqN <| WC.seq <| WC.region <| WL.val rfl rfl rfl (ov_move rfl) <| WL.val rfl rfl rfl (ov_geq rfl rfl) <| WL.val rfl rfl rfl (ov_move rfl) <| WL.split 5 (b := decide ((48 : Int) ≤ x1)) rfl (fun hb2 => ?_) (fun hb2 => ?_)
 ·replace HF := bif_t hb2 HF
  refine WL.val rfl rfl rfl (ov_move rfl) <| WL.val rfl rfl rfl (ov_leq rfl rfl) <| WL.val rfl rfl rfl (ov_pickT rfl rfl) <| WL.val rfl rfl rfl (ov_assign rfl) <| WL.nil <| WQ.seqN <| WC.ret <| WQ.ret1 rfl rfl ?_
  obtain rfl := Option.some.inj HF
  exact ⟨_, rfl, h0, S0, rfl⟩
 ·replace HF := bif_f hb2 HF
  refine WL.pass rfl rfl rfl <| WL.pass rfl rfl rfl <| WL.val rfl rfl rfl (ov_pickF rfl rfl) <| WL.val rfl rfl rfl (ov_assign rfl) <| WL.nil <| WQ.seqN <| WC.ret <| WQ.ret1 rfl rfl ?_
  obtain rfl := Option.some.inj HF
  exact ⟨_, rfl, h0, S0, rfl⟩
theorem ok_ref01_digit (k : Nat) : C_ref01_digit (F_ref01_digit k) := s_ref01_digit k

def C_ref01_IsName (φ : ByteArray → Option Bool) : Prop := ∀ ⦃x1 : ByteArray⦄ ⦃r : Bool⦄, φ x1 = some r → ∀ ⦃w0 : World⦄ ⦃h0 : Hp⦄, Sub h0 w0 →
  Calls Tryz.prog 60 #[.string x1] w0 fun e w1 => ∃ v, e = .returned v ∧ ∃ h1, Stp [] w0 h0 w1 h1 ∧ v = .bool r
set_option maxRecDepth 20000 in
set_option maxHeartbeats 4000000 in
theorem s_ref01_IsName (k : Nat) (IH : ∀ j, j ≤ k → C_ref01_IsName (tie_ref01_IsName j).ref01_IsName) : C_ref01_IsName (m_ref01_IsName k (tie_ref01_IsName k)) := by
 intro x1 r HF w0 h0  hs0 
 have S0 : Stp [] w0 h0 w0 h0 := Stp.refl hs0 _
 refine enter (n := 45) Tryz.func60 rfl Tryz.ntmps60 rfl [(0, .string x1)] rfl <| WC.seq <| WC.region <| WL.val rfl rfl rfl (ov_assign rfl) <| WL.nil <| WQ.seqN <| WC.seq <| WC.seq <| WC.region <| WL.val rfl rfl rfl (ov_assign rfl) <| WL.nil <| WQ.seqN <| WC.block <| WC.loop <| WP.to [0, 3] [(0, .string x1), (3, .int .i64 0)] rfl <| WP_rule (K := k) (fun j E w3 => ∃ (h2 : Hp) (x6 : Int), (tie_ref01_IsName j).ref01_IsName_l1 x1 x6 = some r ∧ E = [(0, .string x1), (3, .int .i64 x6)] ∧ Stp [] w0 h0 w3 h2 ∧ Hle h0 h2) ?_ ?_ (j := k) (Nat.le_refl _) ?_
 ·rintro E w3 ⟨_, _, HF, _⟩; cases HF
 ·rintro j7 hj9 IHL8 E w3 ⟨h2, x6, HF, rfl, S5, le4⟩
  refine WC.join (fun E w21 => ∃ (h20 : Hp), ref01_IsName_j2 j7 (tie_ref01_IsName j7) x1 x6 = some r ∧ E = [(0, .string x1), (3, .int .i64 x6)] ∧ Stp [] w0 h0 w21 h20 ∧ Hle h2 h20) ?_ ?_
  ·rintro E w21 ⟨h20, HF, rfl, S23, le22⟩
   refine WC.join (fun E w55 => ∃ (h54 : Hp), ref01_IsName_j4 j7 (tie_ref01_IsName j7) x1 x6 = some r ∧ E = [(0, .string x1), (3, .int .i64 x6)] ∧ Stp [] w0 h0 w55 h54 ∧ Hle h20 h54) ?_ ?_
   ·rintro E w55 ⟨h54, HF, rfl, S57, le56⟩
    refine WC.region <| WL.val rfl rfl rfl (ov_move rfl) <| WL.val rfl rfl rfl (ov_add rfl rfl) <| WL.val rfl rfl rfl (ov_assign rfl) <| WL.nil <| WQ.loopN <| WP.to [0, 3] [(0, .string x1), (3, .int .i64 (IntKind.i64.wrap (x6 + 1)))] rfl ?_
    exact IHL8 j7 (Nat.le_refl _) _ _ ⟨h54, IntKind.i64.wrap (x6 + 1), HF, rfl, S57, (le4).trans ((le22).trans le56)⟩
   ·intro J58
    refine WC.block <| WC.join (fun E w48 => ∃ (h47 : Hp) (x51 : Bool), ref01_IsName_j3 j7 (tie_ref01_IsName j7) x1 x6 x51 = some r ∧ E = [(0, .string x1), (3, .int .i64 x6), (31, .bool x51)] ∧ Stp [] w0 h0 w48 h47 ∧ Hle h20 h47) ?_ ?_
    ·rintro E w48 ⟨h47, x51, HF, rfl, S50, le49⟩
     refine WC.cond (b := x51) rfl (fun hb52 => ?_) (fun hb52 => ?_)
     ·replace HF := bif_t hb52 HF
      refine WC.seq <| WC.region <| WL.val rfl rfl rfl (ov_assign rfl) <| WL.nil <| WQ.seqN <| WC.ret <| WQ.blockRet <| WQ.thenRet <| WQ.thenRet <| WQ.blockRet <| WQ.thenRet <| WQ.ret1 rfl rfl ?_
      obtain rfl := Option.some.inj HF
      exact ⟨_, rfl, h47, S50, rfl⟩
     ·replace HF := bif_f hb52 HF
      refine WC.skip <| WQ.blockN <| WC.to [0, 3] [(0, .string x1), (3, .int .i64 x6)] rfl ?_
      exact J58 ⟨h47, HF, rfl, S50, le49⟩
    ·intro J53
     refine WC.region <| WL.val rfl rfl rfl (ov_move rfl) <| WL.val rfl rfl rfl (ov_move rfl) ?_
     obtain ⟨c24, hc25, HF⟩ := bind_some HF
     refine WL.val rfl rfl rfl (ov_indexSO rfl rfl t_string_9 hc25) ?_
     obtain ⟨r26, hr27, HF⟩ := bind_some HF
     refine WL.call rfl rfl rfl (oc_func (vs := [.int .u8 c24]) rfl t_ent_82) (ok_ref01_letter _ hr27 S23.sub) ?_
     rintro _ w29 ⟨h30, s31, rfl⟩
     have S32 := S23.trans0 s31
     refine WL.val rfl rfl rfl (ov_not rfl) <| WL.val rfl rfl rfl (ov_move rfl) <| WL.split 15 (b := !r26) rfl (fun hb33 => ?_) (fun hb33 => ?_)
     ·replace HF := bif_t hb33 HF
      refine WL.val rfl rfl rfl (ov_move rfl) <| WL.val rfl rfl rfl (ov_eql rfl rfl) <| WL.val rfl rfl rfl (ov_move rfl) <| WL.split 18 (b := (x6 : Int) == 0) rfl (fun hb34 => ?_) (fun hb34 => ?_)
      ·replace HF := bif_t hb34 HF
       refine WL.pass rfl rfl rfl <| WL.pass rfl rfl rfl <| WL.pass rfl rfl rfl <| WL.pass rfl rfl rfl <| WL.pass rfl rfl rfl <| WL.pass rfl rfl rfl <| WL.pass rfl rfl rfl <| WL.pass rfl rfl rfl <| WL.pass rfl rfl rfl <| WL.pass rfl rfl rfl <| WL.pass rfl rfl rfl <| WL.val rfl rfl rfl (ov_pickT rfl rfl) <| WL.val rfl rfl rfl (ov_pickT rfl rfl) <| WL.nil <| WC.to [0, 3, 31] [(0, .string x1), (3, .int .i64 x6), (31, .bool true)] rfl ?_
       exact J53 ⟨h30, true, HF, rfl, S32, s31.le⟩
      ·replace HF := bif_f hb34 HF
       refine WL.val rfl rfl rfl (ov_move rfl) <| WL.val rfl rfl rfl (ov_move rfl) ?_
       obtain ⟨c35, hc36, HF⟩ := bind_some HF
       refine WL.val rfl rfl rfl (ov_indexSO rfl rfl t_string_9 hc36) ?_
       obtain ⟨r37, hr38, HF⟩ := bind_some HF
       refine WL.call rfl rfl rfl (oc_func (vs := [.int .u8 c35]) rfl t_ent_83) (ok_ref01_digit _ hr38 S32.sub) ?_
       rintro _ w40 ⟨h41, s42, rfl⟩
       have S43 := S32.trans0 s42
       refine WL.val rfl rfl rfl (ov_not rfl) <| WL.val rfl rfl rfl (ov_move rfl) <| WL.split 24 (b := !r37) rfl (fun hb44 => ?_) (fun hb44 => ?_)
       ·replace HF := bif_t hb44 HF
        refine WL.val rfl rfl rfl (ov_move rfl) <| WL.val rfl rfl rfl (ov_move rfl) ?_
        obtain ⟨c45, hc46, HF⟩ := bind_some HF
        refine WL.val rfl rfl rfl (ov_indexSO rfl rfl t_string_9 hc46) <| WL.val rfl rfl rfl (ov_neq rfl rfl) <| WL.val rfl rfl rfl (ov_pickT rfl rfl) <| WL.val rfl rfl rfl (ov_pickF rfl rfl) <| WL.val rfl rfl rfl (ov_pickT rfl rfl) <| WL.nil <| WC.to [0, 3, 31] [(0, .string x1), (3, .int .i64 x6), (31, .bool ((c45 : Int) != 95))] rfl ?_
        exact J53 ⟨h41, (c45 : Int) != 95, HF, rfl, S43, (s31.le).trans s42.le⟩
       ·replace HF := bif_f hb44 HF
        refine WL.pass rfl rfl rfl <| WL.pass rfl rfl rfl <| WL.pass rfl rfl rfl <| WL.pass rfl rfl rfl <| WL.val rfl rfl rfl (ov_pickF rfl rfl) <| WL.val rfl rfl rfl (ov_pickF rfl rfl) <| WL.val rfl rfl rfl (ov_pickT rfl rfl) <| WL.nil <| WC.to [0, 3, 31] [(0, .string x1), (3, .int .i64 x6), (31, .bool false)] rfl ?_
        exact J53 ⟨h41, false, HF, rfl, S43, (s31.le).trans s42.le⟩
     ·replace HF := bif_f hb33 HF
      refine WL.pass rfl rfl rfl <| WL.pass rfl rfl rfl <| WL.pass rfl rfl rfl <| WL.pass rfl rfl rfl <| WL.pass rfl rfl rfl <| WL.pass rfl rfl rfl <| WL.pass rfl rfl rfl <| WL.pass rfl rfl rfl <| WL.pass rfl rfl rfl <| WL.pass rfl rfl rfl <| WL.pass rfl rfl rfl <| WL.pass rfl rfl rfl <| WL.pass rfl rfl rfl <| WL.pass rfl rfl rfl <| WL.pass rfl rfl rfl <| WL.val rfl rfl rfl (ov_pickF rfl rfl) <| WL.nil <| WC.to [0, 3, 31] [(0, .string x1), (3, .int .i64 x6), (31, .bool false)] rfl ?_
      exact J53 ⟨h30, false, HF, rfl, S32, s31.le⟩
  ·intro J59
   refine WC.seq <| WC.region <| WL.val rfl rfl rfl (ov_move rfl) <| WL.val rfl rfl rfl (ov_move rfl) <| WL.val rfl rfl rfl (ov_lenS rfl t_string_9) <| WL.val rfl rfl rfl (ov_lss rfl rfl) <| WL.nil <| WQ.seqN <| WC.cond (b := decide ((x6 : Int) < (x1.size : Int))) rfl (fun hb10 => ?_) (fun hb10 => ?_)
   ·replace HF := bif_t hb10 HF
    refine WC.skip <| WC.to [0, 3] [(0, .string x1), (3, .int .i64 x6)] rfl ?_
    exact J59 ⟨h2, HF, rfl, S5, Hle.refl _⟩
   ·replace HF := bif_f hb10 HF
    refine WC.exit <| WQ.thenExit <| WQ.thenExit <| WQ.blockHit <| WQ.seqN <| WC.seq <| WC.region <| WL.val rfl rfl rfl (ov_move rfl) <| WL.val rfl rfl rfl (ov_lenS rfl t_string_9) <| WL.val rfl rfl rfl (ov_geq rfl rfl) <| WL.val rfl rfl rfl (ov_move rfl) <| WL.split 35 (b := decide ((1 : Int) ≤ (x1.size : Int))) rfl (fun hb11 => ?_) (fun hb11 => ?_)
    ·replace HF := bif_t hb11 HF
     refine WL.val rfl rfl rfl (ov_move rfl) <| WL.val rfl rfl rfl (ov_lenS rfl t_string_9) <| WL.val rfl rfl rfl (ov_leq rfl rfl) <| WL.val rfl rfl rfl (ov_pickT rfl rfl) <| WL.val rfl rfl rfl (ov_move rfl) <| WL.split 40 (b := decide (((x1.size : Int) : Int) ≤ 12)) rfl (fun hb12 => ?_) (fun hb12 => ?_)
     ·replace HF := bif_t hb12 HF
      refine WL.val rfl rfl rfl (ov_move rfl) ?_
      obtain ⟨r13, hr14, HF⟩ := bind_some HF
      refine WL.call rfl rfl rfl (oc_func (vs := [.string x1]) rfl t_ent_84) (ok_ref01_IsWord _ hr14 S5.sub) ?_
      rintro _ w16 ⟨h17, s18, rfl⟩
      have S19 := S5.trans0 s18
      refine WL.val rfl rfl rfl (ov_not rfl) <| WL.val rfl rfl rfl (ov_pickT rfl rfl) <| WL.val rfl rfl rfl (ov_assign rfl) <| WL.nil <| WQ.seqN <| WC.ret <| WQ.ret1 rfl rfl ?_
      obtain rfl := Option.some.inj HF
      exact ⟨_, rfl, h17, S19, rfl⟩
     ·replace HF := bif_f hb12 HF
      refine WL.pass rfl rfl rfl <| WL.pass rfl rfl rfl <| WL.pass rfl rfl rfl <| WL.val rfl rfl rfl (ov_pickF rfl rfl) <| WL.val rfl rfl rfl (ov_assign rfl) <| WL.nil <| WQ.seqN <| WC.ret <| WQ.ret1 rfl rfl ?_
      obtain rfl := Option.some.inj HF
      exact ⟨_, rfl, h2, S5, rfl⟩
    ·replace HF := bif_f hb11 HF
     refine WL.pass rfl rfl rfl <| WL.pass rfl rfl rfl <| WL.pass rfl rfl rfl <| WL.val rfl rfl rfl (ov_pickF rfl rfl) <| WL.val rfl rfl rfl (ov_move rfl) <| WL.pass rfl rfl rfl <| WL.pass rfl rfl rfl <| WL.pass rfl rfl rfl <| WL.val rfl rfl rfl (ov_pickF rfl rfl) <| WL.val rfl rfl rfl (ov_assign rfl) <| WL.nil <| WQ.seqN <| WC.ret <| WQ.ret1 rfl rfl ?_
     obtain rfl := Option.some.inj HF
     exact ⟨_, rfl, h2, S5, rfl⟩
 ·exact ⟨h0, 0, HF, rfl, S0, Hle.refl _⟩
theorem all_ref01_IsName : ∀ k j, j ≤ k → C_ref01_IsName (tie_ref01_IsName j).ref01_IsName := by
  intro k
  induction k with
  | zero =>
    intro j hj
    obtain rfl : j = 0 := by omega
    exact (fun _ _ => by intro h; cases h)
  | succ k ih =>
    intro j hj
    by_cases h : j ≤ k
    · exact ih j h
    · obtain rfl : j = k + 1 := by omega
      exact s_ref01_IsName k ih
theorem ok_ref01_IsName (k : Nat) : C_ref01_IsName (F_ref01_IsName k) := (all_ref01_IsName k k (Nat.le_refl _))

def C_ref02_Size_Node (φ : Int → Int → Bool → Int → Option (Int × Int × Bool)) : Prop := ∀ ⦃x3 : Int⦄ ⦃x4 : Int⦄ ⦃x5 : Bool⦄ ⦃x7 : Int⦄ ⦃r : Int × Int × Bool⦄, φ x3 x4 x5 x7 = some r → ∀ ⦃w0 : World⦄ ⦃h0 : Hp⦄ ⦃b1 : Nat⦄ ⦃T2 : Nat⦄, Sub h0 w0 → OB w0 h0 b1 T2 [.int .i64 x3, .int .i64 x4, .bool x5] →
  Calls Tryz.prog 58 #[.pointer (some ⟨b1, 0, none⟩), .int .i64 x7] w0 fun e w1 => ∃ v, e = .returned v ∧ ∃ h1, Stp [b1] w0 h0 w1 h1 ∧ v = .tuple #[] ∧ (OB w1 h1 b1 T2 [.int .i64 r.1, .int .i64 r.2.1, .bool r.2.2])
set_option maxRecDepth 20000 in
set_option maxHeartbeats 4000000 in
theorem s_ref02_Size_Node (k : Nat) : C_ref02_Size_Node (F_ref02_Size_Node k) := by
 intro x3 x4 x5 x7 r HF w0 h0 b1 T2 hs0 ob6
 have S0 : Stp [b1] w0 h0 w0 h0 := Stp.refl hs0 _
 have lt8 : b1 < w0.heap.size := OB.lt ob6
 refine enter (n := 32) Tryz.func58 rfl Tryz.ntmps58 rfl [(0, .pointer (some ⟨b1, 0, none⟩)), (1, .int .i64 x7)] rfl <| WC.seq <| WC.region <| WL.val rfl rfl rfl (ov_move rfl) <| WL.val rfl rfl rfl (ov_nilCheck rfl) <| WL.val rfl rfl rfl (ov_fieldAddr rfl t_field_60_0) <| WL.val rfl rfl rfl (ov_load1 rfl t_agg_3 (OB.cell ob6 (j := 0) rfl)) <| WL.val rfl rfl rfl (ov_add rfl rfl) <| WL.val rfl rfl rfl (ov_nilCheck rfl) <| WL.val rfl rfl rfl (ov_fieldAddr rfl t_field_60_0) <| WL.store (vs := [.int .i64 (IntKind.i64.wrap (x3 + 1))]) rfl rfl rfl rfl t_size_3 (one_cons rfl one_nil) ob6 S0.sub (by simp) (ds := [.int .i64 (IntKind.i64.wrap (x3 + 1)), .int .i64 x4, .bool x5]) rfl (fun w9 s10 ob11 => ?_)
 have S12 := S0.trans1 s10 (.inl (by simp))
 refine WL.nil <| WQ.seqN <| WC.seq <| WC.region <| WL.val rfl rfl rfl (ov_move rfl) <| WL.val rfl rfl rfl (ov_move rfl) <| WL.val rfl rfl rfl (ov_nilCheck rfl) <| WL.val rfl rfl rfl (ov_fieldAddr rfl t_field_60_1) <| WL.val rfl rfl rfl (ov_load1 rfl t_agg_3 (OB.cell ob11 (j := 1) rfl)) <| WL.val rfl rfl rfl (ov_move rfl) <| WL.val rfl rfl rfl (ov_max rfl rfl) <| WL.val rfl rfl rfl (ov_nilCheck rfl) <| WL.val rfl rfl rfl (ov_fieldAddr rfl t_field_60_1) <| WL.store (vs := [.int .i64 (imax x4 x7)]) rfl rfl rfl rfl t_size_3 (one_cons rfl one_nil) ob11 S12.sub (by simp) (ds := [.int .i64 (IntKind.i64.wrap (x3 + 1)), .int .i64 (imax x4 x7), .bool x5]) rfl (fun w13 s14 ob15 => ?_)
 have S16 := S12.trans1 s14 (.inl (by simp))
 refine WL.nil <| WQ.seqN <| WC.join (fun E w19 => ∃ (h18 : Hp) (x22 : Bool), ref02_Size_Node_j1 k x3 x4 x5 x7 x22 = some r ∧ E = [(0, .pointer (some ⟨b1, 0, none⟩)), (28, .bool x22)] ∧ Stp [b1] w0 h0 w19 h18 ∧ Hle h0 h18 ∧ OB w19 h18 b1 T2 [.int .i64 (IntKind.i64.wrap (x3 + 1)), .int .i64 (imax x4 x7), .bool x5]) ?_ ?_
 ·rintro E w19 ⟨h18, x22, HF, rfl, S21, le20, ob23⟩
  refine WC.cond (b := x22) rfl (fun hb24 => ?_) (fun hb24 => ?_)
  ·replace HF := bif_t hb24 HF
   refine WC.region <| WL.val rfl rfl rfl (ov_move rfl) <| WL.val rfl rfl rfl (ov_nilCheck rfl) <| WL.val rfl rfl rfl (ov_fieldAddr rfl t_field_60_2) <| WL.store (vs := [.bool true]) rfl rfl rfl rfl t_size_4 (one_cons rfl one_nil) ob23 S21.sub (by simp) (ds := [.int .i64 (IntKind.i64.wrap (x3 + 1)), .int .i64 (imax x4 x7), .bool true]) rfl (fun w25 s26 ob27 => ?_)
   have S28 := S21.trans1 s26 (.inl (by simp))
   refine WL.nil <| WQ.end0 rfl ?_
   obtain rfl := Option.some.inj HF
   exact ⟨_, rfl, h18, S28, rfl, ob27⟩
  ·replace HF := bif_f hb24 HF
   refine WC.skip <| WQ.end0 rfl ?_
   obtain rfl := Option.some.inj HF
   exact ⟨_, rfl, h18, S21, rfl, ob23⟩
 ·intro J29
  refine WC.region <| WL.val rfl rfl rfl (ov_move rfl) <| WL.val rfl rfl rfl (ov_nilCheck rfl) <| WL.val rfl rfl rfl (ov_fieldAddr rfl t_field_60_0) <| WL.val rfl rfl rfl (ov_load1 rfl t_agg_3 (OB.cell ob15 (j := 0) rfl)) <| WL.val rfl rfl rfl (ov_gtr rfl rfl) <| WL.val rfl rfl rfl (ov_move rfl) <| WL.split 25 (b := decide ((500 : Int) < (IntKind.i64.wrap (x3 + 1)))) rfl (fun hb17 => ?_) (fun hb17 => ?_)
  ·replace HF := bif_t hb17 HF
   refine WL.pass rfl rfl rfl <| WL.pass rfl rfl rfl <| WL.val rfl rfl rfl (ov_pickT rfl rfl) <| WL.nil <| WC.to [0, 28] [(0, .pointer (some ⟨b1, 0, none⟩)), (28, .bool true)] rfl ?_
   exact J29 ⟨h0, true, HF, rfl, S16, Hle.refl _, ob15⟩
  ·replace HF := bif_f hb17 HF
   refine WL.val rfl rfl rfl (ov_move rfl) <| WL.val rfl rfl rfl (ov_gtr rfl rfl) <| WL.val rfl rfl rfl (ov_pickF rfl rfl) <| WL.nil <| WC.to [0, 28] [(0, .pointer (some ⟨b1, 0, none⟩)), (28, .bool (decide ((14 : Int) < x7)))] rfl ?_
   exact J29 ⟨h0, decide ((14 : Int) < x7), HF, rfl, S16, Hle.refl _, ob15⟩
theorem ok_ref02_Size_Node (k : Nat) : C_ref02_Size_Node (F_ref02_Size_Node k) := s_ref02_Size_Node k

def C_ref02_Size_Right (φ : Int → Int → Bool → Bool → Option Bool) : Prop := ∀ ⦃x3 : Int⦄ ⦃x4 : Int⦄ ⦃x5 : Bool⦄ ⦃x7 : Bool⦄ ⦃r : Bool⦄, φ x3 x4 x5 x7 = some r → ∀ ⦃w0 : World⦄ ⦃h0 : Hp⦄ ⦃b1 : Nat⦄ ⦃T2 : Nat⦄, Sub h0 w0 → OB w0 h0 b1 T2 [.int .i64 x3, .int .i64 x4, .bool x5] →
  Calls Tryz.prog 59 #[.pointer (some ⟨b1, 0, none⟩), .bool x7] w0 fun e w1 => ∃ v, e = .returned v ∧ ∃ h1, Stp [b1] w0 h0 w1 h1 ∧ v = .tuple #[] ∧ (OB w1 h1 b1 T2 [.int .i64 x3, .int .i64 x4, .bool r])
set_option maxRecDepth 20000 in
set_option maxHeartbeats 4000000 in
theorem s_ref02_Size_Right (k : Nat) : C_ref02_Size_Right (F_ref02_Size_Right k) := by
 intro x3 x4 x5 x7 r HF w0 h0 b1 T2 hs0 ob6
 have S0 : Stp [b1] w0 h0 w0 h0 := Stp.refl hs0 _
 have lt8 : b1 < w0.heap.size := OB.lt ob6
 refine enter (n := 9) Tryz.func59 rfl Tryz.ntmps59 rfl [(0, .pointer (some ⟨b1, 0, none⟩)), (1, .bool x7)] rfl <| WC.seq <| WC.region <| WL.val rfl rfl rfl (ov_move rfl) <| WL.val rfl rfl rfl (ov_not rfl) <| WL.nil <| WQ.seqN <| WC.cond (b := !x7) rfl (fun hb9 => ?_) (fun hb9 => ?_)
 ·replace HF := bif_t hb9 HF
  refine WC.region <| WL.val rfl rfl rfl (ov_move rfl) <| WL.val rfl rfl rfl (ov_nilCheck rfl) <| WL.val rfl rfl rfl (ov_fieldAddr rfl t_field_60_2) <| WL.store (vs := [.bool true]) rfl rfl rfl rfl t_size_4 (one_cons rfl one_nil) ob6 S0.sub (by simp) (ds := [.int .i64 x3, .int .i64 x4, .bool true]) rfl (fun w10 s11 ob12 => ?_)
  have S13 := S0.trans1 s11 (.inl (by simp))
  refine WL.nil <| WQ.end0 rfl ?_
  obtain rfl := Option.some.inj HF
  exact ⟨_, rfl, h0, S13, rfl, ob12⟩
 ·replace HF := bif_f hb9 HF
  refine WC.skip <| WQ.end0 rfl ?_
  obtain rfl := Option.some.inj HF
  exact ⟨_, rfl, h0, S0, rfl, ob6⟩
theorem ok_ref02_Size_Right (k : Nat) : C_ref02_Size_Right (F_ref02_Size_Right k) := s_ref02_Size_Right k
end Go.Proofs.YtaknpdhmhifpeaaGreatDoor
