import Derived.Test.YtkodnhngllfemaaGreatDoorE0
import Derived.Test.YtkodnhngllfemaaGreatDoorGP2
set_option linter.unusedVariables false
set_option linter.unusedSimpArgs false
set_option maxRecDepth 20000
set_option maxHeartbeats 4000000
namespace Go.Proofs.YtkodnhngllfemaaGreatDoor
open Go
def Z2b (φ : (List Tok) → Int → Option (Except (Int × Int × Int) (List St × Int))) : Prop := ∀ ⦃xs3 : List Tok⦄ ⦃x6 : Int⦄ ⦃r : Except (Int × Int × Int) (List St × Int)⦄, φ xs3 x6 = some r → ∀ ⦃w0 : World⦄ ⦃h0 : Hp⦄ ⦃b1 : Nat⦄ ⦃T2 : Nat⦄ ⦃v4 : Value⦄, Sub h0 w0 → RS h0 v4 xs3 → OB w0 h0 b1 T2 [v4, .int .i64 x6] →
  Calls Tryz.prog 33 #[.pointer (some ⟨b1, 0, none⟩)] w0 fun e w1 => match r with | .ok r => ∃ v, e = .returned v ∧ ∃ h1, Stp [b1] w0 h0 w1 h1 ∧ RS h1 v r.1 ∧ (OB w1 h1 b1 T2 [v4, .int .i64 r.2]) | .error t => ∃ ch, e = .panicked ch ∧ Z8l 138 t.1 t.2.1 ch ∧ ∃ h1, Stp [b1] w0 h0 w1 h1 ∧ (OB w1 h1 b1 T2 [v4, .int .i64 t.2.2])
def Z2i (φ : (List Tok) → Int → Option (Except (Int × Int × Int) (St × Int))) : Prop := ∀ ⦃xs3 : List Tok⦄ ⦃x6 : Int⦄ ⦃r : Except (Int × Int × Int) (St × Int)⦄, φ xs3 x6 = some r → ∀ ⦃w0 : World⦄ ⦃h0 : Hp⦄ ⦃b1 : Nat⦄ ⦃T2 : Nat⦄ ⦃v4 : Value⦄, Sub h0 w0 → RS h0 v4 xs3 → OB w0 h0 b1 T2 [v4, .int .i64 x6] →
  Calls Tryz.prog 102 #[.pointer (some ⟨b1, 0, none⟩)] w0 fun e w1 => match r with | .ok r => ∃ v, e = .returned v ∧ ∃ h1, Stp [b1] w0 h0 w1 h1 ∧ (∃ cs : List Value, v = .agg cs.toArray ∧ Rp.R h1 r.1 cs) ∧ (OB w1 h1 b1 T2 [v4, .int .i64 r.2]) | .error t => ∃ ch, e = .panicked ch ∧ Z8l 138 t.1 t.2.1 ch ∧ ∃ h1, Stp [b1] w0 h0 w1 h1 ∧ (OB w1 h1 b1 T2 [v4, .int .i64 t.2.2])
def Z2h (φ : (List Tok) → Int → Int → ByteArray → (List Ex) → (List ByteArray) → (List Ex) → Int → (List St) → (List Ar) → (List St) → Bool → Option (Except (Int × Int × Int × List St × Bool) (Int × List St × Bool))) : Prop := ∀ ⦃xs3 : List Tok⦄ ⦃x6 : Int⦄ ⦃x10 : Int⦄ ⦃x11 : ByteArray⦄ ⦃xs12 : List Ex⦄ ⦃xs15 : List ByteArray⦄ ⦃xs18 : List Ex⦄ ⦃x21 : Int⦄ ⦃xs22 : List St⦄ ⦃xs25 : List Ar⦄ ⦃xs28 : List St⦄ ⦃x31 : Bool⦄ ⦃r : Except (Int × Int × Int × List St × Bool) (Int × List St × Bool)⦄, φ xs3 x6 x10 x11 xs12 xs15 xs18 x21 xs22 xs25 xs28 x31 = some r → ∀ ⦃w0 : World⦄ ⦃h0 : Hp⦄ ⦃b1 : Nat⦄ ⦃T2 : Nat⦄ ⦃v4 : Value⦄ ⦃b8 : Nat⦄ ⦃T9 : Nat⦄ ⦃v13 : Value⦄ ⦃v16 : Value⦄ ⦃v19 : Value⦄ ⦃v23 : Value⦄ ⦃v26 : Value⦄ ⦃v29 : Value⦄, Sub h0 w0 → RS h0 v4 xs3 → RS h0 v13 xs12 → RS h0 v16 xs15 → RS h0 v19 xs18 → RS h0 v23 xs22 → RS h0 v26 xs25 → RS h0 v29 xs28 → OB w0 h0 b1 T2 [v4, .int .i64 x6] → OB w0 h0 b8 T9 [.int .i64 x10, .string x11, v13, v16, v19, .int .i64 x21, v23, v26, v29, .bool x31] → b1 ≠ b8 →
  Calls Tryz.prog 156 #[.pointer (some ⟨b1, 0, none⟩), .pointer (some ⟨b8, 0, none⟩)] w0 fun e w1 => match r with | .ok r => ∃ v, e = .returned v ∧ ∃ h1, Stp [b1, b8] w0 h0 w1 h1 ∧ v = .tuple #[] ∧ (OB w1 h1 b1 T2 [v4, .int .i64 r.1]) ∧ (∃ y0 : Value, RS h1 y0 r.2.1 ∧ OB w1 h1 b8 T9 [.int .i64 x10, .string x11, v13, v16, v19, .int .i64 x21, v23, v26, y0, .bool r.2.2]) | .error t => ∃ ch, e = .panicked ch ∧ Z8l 138 t.1 t.2.1 ch ∧ ∃ h1, Stp [b1, b8] w0 h0 w1 h1 ∧ (OB w1 h1 b1 T2 [v4, .int .i64 t.2.2.1]) ∧ (∃ y0 : Value, RS h1 y0 t.2.2.2.1 ∧ OB w1 h1 b8 T9 [.int .i64 x10, .string x11, v13, v16, v19, .int .i64 x21, v23, v26, y0, .bool t.2.2.2.2])
def Z2g (φ : (List Tok) → Int → Option (Except (Int × Int × Int) (St × Int))) : Prop := ∀ ⦃xs3 : List Tok⦄ ⦃x6 : Int⦄ ⦃r : Except (Int × Int × Int) (St × Int)⦄, φ xs3 x6 = some r → ∀ ⦃w0 : World⦄ ⦃h0 : Hp⦄ ⦃b1 : Nat⦄ ⦃T2 : Nat⦄ ⦃v4 : Value⦄, Sub h0 w0 → RS h0 v4 xs3 → OB w0 h0 b1 T2 [v4, .int .i64 x6] →
  Calls Tryz.prog 103 #[.pointer (some ⟨b1, 0, none⟩)] w0 fun e w1 => match r with | .ok r => ∃ v, e = .returned v ∧ ∃ h1, Stp [b1] w0 h0 w1 h1 ∧ (∃ cs : List Value, v = .agg cs.toArray ∧ Rp.R h1 r.1 cs) ∧ (OB w1 h1 b1 T2 [v4, .int .i64 r.2]) | .error t => ∃ ch, e = .panicked ch ∧ Z8l 138 t.1 t.2.1 ch ∧ ∃ h1, Stp [b1] w0 h0 w1 h1 ∧ (OB w1 h1 b1 T2 [v4, .int .i64 t.2.2])
def Z28 (φ : (List Tok) → Int → Option (Except (Int × Int × Int) (St × Int))) : Prop := ∀ ⦃xs3 : List Tok⦄ ⦃x6 : Int⦄ ⦃r : Except (Int × Int × Int) (St × Int)⦄, φ xs3 x6 = some r → ∀ ⦃w0 : World⦄ ⦃h0 : Hp⦄ ⦃b1 : Nat⦄ ⦃T2 : Nat⦄ ⦃v4 : Value⦄, Sub h0 w0 → RS h0 v4 xs3 → OB w0 h0 b1 T2 [v4, .int .i64 x6] →
  Calls Tryz.prog 100 #[.pointer (some ⟨b1, 0, none⟩)] w0 fun e w1 => match r with | .ok r => ∃ v, e = .returned v ∧ ∃ h1, Stp [b1] w0 h0 w1 h1 ∧ (∃ cs : List Value, v = .agg cs.toArray ∧ Rp.R h1 r.1 cs) ∧ (OB w1 h1 b1 T2 [v4, .int .i64 r.2]) | .error t => ∃ ch, e = .panicked ch ∧ Z8l 138 t.1 t.2.1 ch ∧ ∃ h1, Stp [b1] w0 h0 w1 h1 ∧ (OB w1 h1 b1 T2 [v4, .int .i64 t.2.2])
def Z27 (φ : (List Tok) → Int → Option (Except (Int × Int × Int) (St × Int))) : Prop := ∀ ⦃xs3 : List Tok⦄ ⦃x6 : Int⦄ ⦃r : Except (Int × Int × Int) (St × Int)⦄, φ xs3 x6 = some r → ∀ ⦃w0 : World⦄ ⦃h0 : Hp⦄ ⦃b1 : Nat⦄ ⦃T2 : Nat⦄ ⦃v4 : Value⦄, Sub h0 w0 → RS h0 v4 xs3 → OB w0 h0 b1 T2 [v4, .int .i64 x6] →
  Calls Tryz.prog 101 #[.pointer (some ⟨b1, 0, none⟩)] w0 fun e w1 => match r with | .ok r => ∃ v, e = .returned v ∧ ∃ h1, Stp [b1] w0 h0 w1 h1 ∧ (∃ cs : List Value, v = .agg cs.toArray ∧ Rp.R h1 r.1 cs) ∧ (OB w1 h1 b1 T2 [v4, .int .i64 r.2]) | .error t => ∃ ch, e = .panicked ch ∧ Z8l 138 t.1 t.2.1 ch ∧ ∃ h1, Stp [b1] w0 h0 w1 h1 ∧ (OB w1 h1 b1 T2 [v4, .int .i64 t.2.2])
def Z26 (φ : (List Tok) → Int → Option (Except (Int × Int × Int) (St × Int))) : Prop := ∀ ⦃xs3 : List Tok⦄ ⦃x6 : Int⦄ ⦃r : Except (Int × Int × Int) (St × Int)⦄, φ xs3 x6 = some r → ∀ ⦃w0 : World⦄ ⦃h0 : Hp⦄ ⦃b1 : Nat⦄ ⦃T2 : Nat⦄ ⦃v4 : Value⦄, Sub h0 w0 → RS h0 v4 xs3 → OB w0 h0 b1 T2 [v4, .int .i64 x6] →
  Calls Tryz.prog 104 #[.pointer (some ⟨b1, 0, none⟩)] w0 fun e w1 => match r with | .ok r => ∃ v, e = .returned v ∧ ∃ h1, Stp [b1] w0 h0 w1 h1 ∧ (∃ cs : List Value, v = .agg cs.toArray ∧ Rp.R h1 r.1 cs) ∧ (OB w1 h1 b1 T2 [v4, .int .i64 r.2]) | .error t => ∃ ch, e = .panicked ch ∧ Z8l 138 t.1 t.2.1 ch ∧ ∃ h1, Stp [b1] w0 h0 w1 h1 ∧ (OB w1 h1 b1 T2 [v4, .int .i64 t.2.2])
theorem s_parse_Parser_Text (k : Nat) (IH : ∀ j, j ≤ k → Z2b (Z9 j).parse_Parser_Text ∧ Z2i (Z9 j).parse_Parser_count ∧ Z2h (Z9 j).parse_Parser_other ∧ Z2g (Z9 j).parse_Parser_while ∧ Z28 (Z9 j).parse_Parser_branch ∧ Z27 (Z9 j).parse_Parser_choice ∧ Z26 (Z9 j).parse_Parser_repeat) : Z2b (Ze9 k (Z9 k)) := by
 intro xs3 x6 r HF w0 h0 b1 T2 v4 hs0 rs5 ob7
 have S0 : Stp [b1] w0 h0 w0 h0 := Stp.refl hs0 _
 have lt8 : b1 < w0.heap.size := OB.lt ob7
 refine Z4j (n := 30) Tryz.func33 rfl Tryz.ntmps33 rfl [(0, pt b1 0)] rfl <| Zb <| Z1 <| Wa rfl rfl <| Z7 <| Z6 <| Zb <| Z1 <| Wa rfl rfl <| Z7 <| Z6 <| Zb <| Z1 <| Wm rfl rfl ?_
 obtain ⟨r9, hr10, HF⟩ := Z8 HF
 refine Wc rfl (Ze (vs := [pt b1 0]) rfl t_ent_56) (ok_parse_Parser_starts _ hr10 S0.sub rs5 ob7) ?_
 rintro v15 w12 ⟨h13, s14, rm16⟩
 have S17 := S0.trans0 s14
 refine Wa rfl rfl <| Z7 <| Z6 <| Zb <| Z0p <| Z4m <| Z7y [0, 3, 4] [(0, pt b1 0), (3, .slice none 0 0), (4, v15)] rfl <| Z4k (K := k) (fun j E w19 => ∃ (h18 : Hp) (xs22 : List St) (v23 : Value) (x26 : Int), (Z9 j).parse_Parser_Text_l1 xs3 r9 xs22 x26 = some r ∧ E = [(0, pt b1 0), (3, v23), (4, v15)] ∧ Stp [b1] w0 h0 w19 h18 ∧ Hle h13 h18 ∧ RS h18 v23 xs22 ∧ Own w19 h18 w0.heap.size 56 10 v23 xs22.length ∧ OB w19 h18 b1 T2 [v4, vi x26]) ?_ ?_ (j := k) (Nat.le_refl _) ?_
 ·rintro E w19 ⟨_, _, _, _, HF, _⟩; cases HF
 ·rintro j28 hj30 IHL29 E w19 ⟨h18, xs22, v23, x26, HF, rfl, S21, le20, rs24, ow25, ob27⟩
  refine Z09 (fun E w62 => ∃ (h61 : Hp) (xs65 : List St) (v66 : Value), Zdx j28 (Z9 j28) xs3 r9 x26 xs65 = some r ∧ E = [(0, pt b1 0), (3, v66), (4, v15)] ∧ Stp [b1] w0 h0 w62 h61 ∧ Hle h18 h61 ∧ RS h61 v66 xs65 ∧ Own w62 h61 w0.heap.size 56 10 v66 xs65.length ∧ OB w62 h61 b1 T2 [v4, vi x26]) ?_ ?_
  ·rintro E w62 ⟨h61, xs65, v66, HF, rfl, S64, le63, rs67, ow68, ob69⟩
   refine Z0p <| Zb <| Z1 <| Z15 (zs := [vi 0, .string b'47, .slice none 0 0, .slice none 0 0, .slice none 0 0, vi 0, .slice none 0 0, .slice none 0 0, .slice none 0 0, .bool false]) rfl rfl Z2n rfl S64.sub (fun w70 b71 hb72 s73 ob74 => ?_)
   have ne75 : b1 ≠ b71 := ob69.ne_new hb72
   have g76 : w0.heap.size ≤ b71 := by rw [hb72]; exact S64.size
   have S77 := S64.trans0 s73
   refine Z7 <| Z6 <| Z09 (fun E w398 => ∃ (h397 : Hp) (xs401 : List St) (v402 : Value) (x405 : Int) (x407 : Int) (x408 : ByteArray) (xs409 : List Ex) (v410 : Value) (xs412 : List ByteArray) (v413 : Value) (xs415 : List Ex) (v416 : Value) (x418 : Int) (xs419 : List St) (v420 : Value) (xs422 : List Ar) (v423 : Value) (xs425 : List St) (v426 : Value) (x428 : Bool), Z2f j28 (Z9 j28) xs3 r9 xs401 x405 x407 x408 xs409 xs412 xs415 x418 xs419 xs422 xs425 x428 = some r ∧ E = [(0, pt b1 0), (3, v402), (4, v15), (5, pt b71 0)] ∧ Stp [b1] w0 h0 w398 h397 ∧ Hle h61 h397 ∧ RS h397 v402 xs401 ∧ Own w398 h397 w0.heap.size 56 10 v402 xs401.length ∧ RS h397 v410 xs409 ∧ RS h397 v413 xs412 ∧ RS h397 v416 xs415 ∧ RS h397 v420 xs419 ∧ RS h397 v423 xs422 ∧ RS h397 v426 xs425 ∧ OB w398 h397 b1 T2 [v4, vi x405] ∧ OB w398 h397 b71 56 [vi x407, .string x408, v410, v413, v416, vi x418, v420, v423, v426, .bool x428]) ?_ ?_
   ·rintro E w398 ⟨h397, xs401, v402, x405, x407, x408, xs409, v410, xs412, v413, xs415, v416, x418, xs419, v420, xs422, v423, xs425, v426, x428, HF, rfl, S400, le399, rs403, ow404, rs411, rs414, rs417, rs421, rs424, rs427, ob406, ob429⟩
    refine Zb <| Z1 <| Wm rfl rfl ?_
    obtain ⟨r430, hr431, HF⟩ := Z8 HF
    rcases r430 with t432 | r433
    ·obtain rfl := Z01 HF
     refine Z0i rfl (Ze (vs := [pt b1 0, .string b'35]) rfl Z21) (Zj _ hr431 S400.sub (rs5.mono ((s14.le).trans ((le20).trans ((le63).trans ((s73.le).trans le399))))) ob406) ?_
     rintro ch439 w440 ⟨ht441, h442, s443, ob438⟩
     refine Zd <| Zr <| Zd <| Zr <| Zd <| Zp ?_
     have S444 := S400.trans s443 (Zn (.inl (by simp)) Z04)
     exact ⟨_, rfl, ht441, h442, S444, ob438⟩
    replace HF := Z0j HF
    refine Wc rfl (Ze (vs := [pt b1 0, .string b'35]) rfl Z21) (Zj _ hr431 S400.sub (rs5.mono ((s14.le).trans ((le20).trans ((le63).trans ((s73.le).trans le399))))) ob406) ?_
    rintro v434 w435 ⟨h436, s437, rfl, ob445⟩
    have S446 := S400.trans s437 (Zn (.inl (by simp)) Z04)
    refine Z7 <| Z6 <| Z1 <| Wm rfl rfl ?_
    have ob447 := (ob429.step1 s437 (Ne.symm ne75))
    refine Wv rfl (Z16 (cs := [vi x407, .string x408, v410, v413, v416, vi x418, v420, v423, v426, .bool x428]) rfl Z4g Z0h (OB.cells ob447 0 rfl)) <| Z14 (us := [.agg #[vi x407, .string x408, v410, v413, v416, vi x418, v420, v423, v426, .bool x428]]) (cs := [vi x407, .string x408, v410, v413, v416, vi x418, v420, v423, v426, .bool x428]) rfl rfl rfl Z1y Z0h Z2n rfl (Z4a rfl Zc3) rfl rfl rfl S446.sub (fun w448 h449 b450 hb451 s452 hk453 hc454 => ?_)
    have S455 := S446.trans0 s452
    have rs456 : RS h449 (sl b450 0 1 1) ([(St.mk x407 x408 xs409 xs412 xs415 x418 xs419 xs422 xs425 x428)] : List St) := RS.litL _ [[vi x407, .string x408, v410, v413, v416, vi x418, v420, v423, v426, .bool x428]] rfl rfl hc454 ⟨(Zgz.2 ⟨_, _, _, _, _, _, rfl, (rs411.mono ((s437.le).trans s452.le)), (rs414.mono ((s437.le).trans s452.le)), (rs417.mono ((s437.le).trans s452.le)), (rs421.mono ((s437.le).trans s452.le)), (rs424.mono ((s437.le).trans s452.le)), (rs427.mono ((s437.le).trans s452.le))⟩), trivial⟩
    have ow457 := Own.lit (base := w0.heap.size) (sz := 10) (m := 1) hk453 hc454 (by rw [hb451]; exact S446.size) rfl (by decide)
    obtain ⟨hl458, HF⟩ := Zdu HF
    have ob466 := (ob445.step0 s452)
    have ob467 := (ob447.step0 s452)
    refine Zeb (xs := (xs401 : List St)) (ys := [(St.mk x407 x408 xs409 xs412 xs415 x418 xs419 xs422 xs425 x428)]) rfl rfl rfl rfl Z1y Z0h Z2n rfl t_bytes_56 rfl ((ow404.step s437 (Z4 (ow404.ne_old lt8) Za)).step0 s452) (rs403.mono ((s437.le).trans s452.le)) rs456 hl458 S455.sub S455.size (by rw [S455.eqb]; exact hs0.big) (fun v459 w460 h461 rs462 ow463 s464 at465 => ?_)
    have S468 := S455.trans s464 (fun i hi => .inr (((ow404.step s437 (Z4 (ow404.ne_old lt8) Za)).step0 s452).base_le i hi))
    refine Wa rfl rfl <| Z7 <| Z0a ?_
    have ob479 := (ob466.step s464 (fun hm => absurd (((ow404.step s437 (Z4 (ow404.ne_old lt8) Za)).step0 s452).base_le _ hm) (Nat.not_le.2 lt8)))
    refine Z2c <| Z7y [0, 3, 4] [(0, pt b1 0), (3, v459), (4, v15)] rfl ?_
    exact IHL29 j28 (Nat.le_refl _) _ _ ⟨h461, xs401 ++ [(St.mk x407 x408 xs409 xs412 xs415 x418 xs419 xs422 xs425 x428)], v459, r433, HF, rfl, S468, (le20).trans ((le63).trans ((s73.le).trans ((le399).trans ((s437.le).trans ((s452.le).trans s464.le))))), rs462, ow463, ob479⟩
   intro J469
   refine Zb <| Z1 <| Wm rfl rfl ?_
   have ob78 := (ob69.step0 s73)
   obtain ⟨r79, hr80, HF⟩ := Z8 HF
   refine Wc rfl (Ze (vs := [pt b1 0]) rfl t_ent_57) (Zbh _ hr80 S77.sub (rs5.mono ((s14.le).trans ((le20).trans ((le63).trans s73.le)))) ob78) ?_
   rintro _ w82 ⟨h83, s84, rfl⟩
   have S85 := S77.trans0 s84
   refine Z7 <| Z6 <| Z17 HF rfl (fun HF => ?_) (fun HF => ?_)
   ·refine Z1 <| Wm rfl rfl ?_
    have ob87 := (ob78.step0 s84)
    obtain ⟨r88, hr89, HF⟩ := Z8 HF
    rcases r88 with t90 | r91
    ·obtain rfl := Z01 HF
     have ob96 := (ob74.step0 s84)
     refine Z0i rfl (Ze (vs := [pt b1 0]) rfl t_ent_59) (Zbl _ hr89 S85.sub (rs5.mono ((s14.le).trans ((le20).trans ((le63).trans ((s73.le).trans s84.le))))) ob87) ?_
     rintro ch98 w99 ⟨ht100, h101, s102, ob97⟩
     refine Zd <| Zr <| Zd <| Zr <| Zd <| Zp ?_
     have S103 := S85.trans s102 (Zn (.inl (by simp)) Z04)
     exact ⟨_, rfl, ht100, h101, S103, ob97⟩
    replace HF := Z0j HF
    refine Wc rfl (Ze (vs := [pt b1 0]) rfl t_ent_59) (Zbl _ hr89 S85.sub (rs5.mono ((s14.le).trans ((le20).trans ((le63).trans ((s73.le).trans s84.le))))) ob87) ?_
    have ob106 := (ob74.step0 s84)
    rintro _ w93 ⟨h94, s95, ⟨cs104, rfl, r105⟩, ob107⟩
    have S108 := S85.trans s95 (Zn (.inl (by simp)) Z04)
    have ob109 := (ob106.step1 s95 (Ne.symm ne75))
    obtain ⟨v110, v112, v114, v116, v118, v120, rfl, rs111, rs113, rs115, rs117, rs119, rs121⟩ := Zgz.1 r105
    refine Zo (vs := [vi r91.1.op, .string r91.1.name, v110, v112, v114, vi r91.1.n, v116, v118, v120, .bool r91.1.els]) rfl rfl rfl rfl Z0h (Z5 rfl (Z5 rfl (Z5 (RS.one rs111) (Z5 (RS.one rs113) (Z5 (RS.one rs115) (Z5 rfl (Z5 (RS.one rs117) (Z5 (RS.one rs119) (Z5 (RS.one rs121) (Z5 rfl Zx)))))))))) ob109 S108.sub (by simp) (ds := [vi r91.1.op, .string r91.1.name, v110, v112, v114, vi r91.1.n, v116, v118, v120, .bool r91.1.els]) rfl (fun w122 s123 ob124 => ?_)
    have S125 := S108.trans1 s123 (.inr g76)
    refine Z7 ?_
    have ob470 := (ob107.step1 s123 ne75)
    refine Z0g [0, 3, 4, 5] _ rfl ?_
    exact J469 ⟨h94, xs65, v66, r91.2, r91.1.op, r91.1.name, r91.1.index, v110, r91.1.fields, v112, r91.1.args, v114, r91.1.n, r91.1.body, v116, r91.1.arms, v118, r91.1.other, v120, r91.1.els, HF, rfl, S125, (s84.le).trans ((s95.le).trans s123.le), (rs67.mono ((s73.le).trans ((s84.le).trans ((s95.le).trans s123.le)))), ((((ow68.step0 s73).step0 s84).step s95 (Z4 (((ow68.step0 s73).step0 s84).ne_old lt8) Za)).step s123 (Z4 ((((ow68.step0 s73).step0 s84).step s95 (Z4 (((ow68.step0 s73).step0 s84).ne_old lt8) Za)).ne_obS1 (rs67.mono ((s73.le).trans ((s84.le).trans s95.le))) ob109) Za)), (rs111.mono (s123.le)), (rs113.mono (s123.le)), (rs115.mono (s123.le)), (rs117.mono (s123.le)), (rs119.mono (s123.le)), (rs121.mono (s123.le)), ob470, ob124⟩
   refine Z1 <| Wm rfl rfl <| Wm rfl rfl ?_
   have ob126 := (ob78.step0 s84)
   obtain ⟨r127, hr128, HF⟩ := Z8 HF
   rcases r127 with t129 | r130
   ·obtain rfl := Z01 HF
    have ob135 := (ob74.step0 s84)
    refine Z0i rfl (Ze (vs := [pt b1 0, v15]) rfl t_ent_60) (Z8m _ hr128 S85.sub (rs5.mono ((s14.le).trans ((le20).trans ((le63).trans ((s73.le).trans s84.le))))) (rm16.mono ((le20).trans ((le63).trans ((s73.le).trans s84.le)))) ob126) ?_
    rintro ch137 w138 ⟨ht139, h140, s141, ob136⟩
    refine Zd <| Zr <| Zd <| Zr <| Zd <| Zp ?_
    have S142 := S85.trans s141 (Zn (.inl (by simp)) Z04)
    exact ⟨_, rfl, ht139, h140, S142, ob136⟩
   replace HF := Z0j HF
   refine Wc rfl (Ze (vs := [pt b1 0, v15]) rfl t_ent_60) (Z8m _ hr128 S85.sub (rs5.mono ((s14.le).trans ((le20).trans ((le63).trans ((s73.le).trans s84.le))))) (rm16.mono ((le20).trans ((le63).trans ((s73.le).trans s84.le)))) ob126) ?_
   have ob143 := (ob74.step0 s84)
   rintro _ w132 ⟨h133, s134, rfl, ob144⟩
   have S145 := S85.trans s134 (Zn (.inl (by simp)) Z04)
   refine Z6x (b := (r130.1 : Int) == 1) (fun hb146 => ?_) (fun hb146 => ?_)
   ·replace HF := bif_t hb146 HF
    refine WL.know 21 (v' := .func (.func 100) #[pt b1 0] #[]) rfl (by rw [eq_of_beq hb146]; rfl) ?_
    obtain ⟨r147, hr148, HF⟩ := Z8 HF
    rcases r147 with t149 | r150
    ·obtain rfl := Z01 HF
     have ob155 := (ob143.step1 s134 (Ne.symm ne75))
     refine Z0i rfl (Z99 (us := [pt b1 0]) (vs := []) (caps := []) rfl rfl t_ent_100) ((IH _ (Nat.le_trans (Nat.le_of_succ_le hj30) (Nat.le_refl _))).2.2.2.2.1 hr148 S145.sub (rs5.mono ((s14.le).trans ((le20).trans ((le63).trans ((s73.le).trans ((s84.le).trans s134.le)))))) ob144) ?_
     rintro ch157 w158 ⟨ht159, h160, s161, ob156⟩
     refine Zd <| Zr <| Zd <| Zr <| Zd <| Zp ?_
     have S162 := S145.trans s161 (Zn (.inl (by simp)) Z04)
     exact ⟨_, rfl, ht159, h160, S162, ob156⟩
    replace HF := Z0j HF
    refine Wc rfl (Z99 (us := [pt b1 0]) (vs := []) (caps := []) rfl rfl t_ent_100) ((IH _ (Nat.le_trans (Nat.le_of_succ_le hj30) (Nat.le_refl _))).2.2.2.2.1 hr148 S145.sub (rs5.mono ((s14.le).trans ((le20).trans ((le63).trans ((s73.le).trans ((s84.le).trans s134.le)))))) ob144) ?_
    have ob165 := (ob143.step1 s134 (Ne.symm ne75))
    rintro _ w152 ⟨h153, s154, ⟨cs163, rfl, r164⟩, ob166⟩
    have S167 := S145.trans s154 (Zn (.inl (by simp)) Z04)
    have ob168 := (ob165.step1 s154 (Ne.symm ne75))
    obtain ⟨v169, v171, v173, v175, v177, v179, rfl, rs170, rs172, rs174, rs176, rs178, rs180⟩ := Zgz.1 r164
    refine Zo (vs := [vi r150.1.op, .string r150.1.name, v169, v171, v173, vi r150.1.n, v175, v177, v179, .bool r150.1.els]) rfl rfl rfl rfl Z0h (Z5 rfl (Z5 rfl (Z5 (RS.one rs170) (Z5 (RS.one rs172) (Z5 (RS.one rs174) (Z5 rfl (Z5 (RS.one rs176) (Z5 (RS.one rs178) (Z5 (RS.one rs180) (Z5 rfl Zx)))))))))) ob168 S167.sub (by simp) (ds := [vi r150.1.op, .string r150.1.name, v169, v171, v173, vi r150.1.n, v175, v177, v179, .bool r150.1.els]) rfl (fun w181 s182 ob183 => ?_)
    have S184 := S167.trans1 s182 (.inr g76)
    refine Z7 ?_
    have ob471 := (ob166.step1 s182 ne75)
    refine Z0g [0, 3, 4, 5] _ rfl ?_
    exact J469 ⟨h153, xs65, v66, r150.2, r150.1.op, r150.1.name, r150.1.index, v169, r150.1.fields, v171, r150.1.args, v173, r150.1.n, r150.1.body, v175, r150.1.arms, v177, r150.1.other, v179, r150.1.els, HF, rfl, S184, (s84.le).trans ((s134.le).trans ((s154.le).trans s182.le)), (rs67.mono ((s73.le).trans ((s84.le).trans ((s134.le).trans ((s154.le).trans s182.le))))), (((((ow68.step0 s73).step0 s84).step s134 (Z4 (((ow68.step0 s73).step0 s84).ne_old lt8) Za)).step s154 (Z4 ((((ow68.step0 s73).step0 s84).step s134 (Z4 (((ow68.step0 s73).step0 s84).ne_old lt8) Za)).ne_old lt8) Za)).step s182 (Z4 (((((ow68.step0 s73).step0 s84).step s134 (Z4 (((ow68.step0 s73).step0 s84).ne_old lt8) Za)).step s154 (Z4 ((((ow68.step0 s73).step0 s84).step s134 (Z4 (((ow68.step0 s73).step0 s84).ne_old lt8) Za)).ne_old lt8) Za)).ne_obS1 (rs67.mono ((s73.le).trans ((s84.le).trans ((s134.le).trans s154.le)))) ob168) Za)), (rs170.mono (s182.le)), (rs172.mono (s182.le)), (rs174.mono (s182.le)), (rs176.mono (s182.le)), (rs178.mono (s182.le)), (rs180.mono (s182.le)), ob471, ob183⟩
   replace HF := bif_f hb146 HF
   refine Z6x (b := (r130.1 : Int) == 2) (fun hb185 => ?_) (fun hb185 => ?_)
   ·replace HF := bif_t hb185 HF
    refine WL.know 21 (v' := .func (.func 101) #[pt b1 0] #[]) rfl (by rw [eq_of_beq hb185]; rfl) ?_
    obtain ⟨r186, hr187, HF⟩ := Z8 HF
    rcases r186 with t188 | r189
    ·obtain rfl := Z01 HF
     have ob194 := (ob143.step1 s134 (Ne.symm ne75))
     refine Z0i rfl (Z99 (us := [pt b1 0]) (vs := []) (caps := []) rfl rfl t_ent_101) ((IH _ (Nat.le_trans (Nat.le_of_succ_le hj30) (Nat.le_refl _))).2.2.2.2.2.1 hr187 S145.sub (rs5.mono ((s14.le).trans ((le20).trans ((le63).trans ((s73.le).trans ((s84.le).trans s134.le)))))) ob144) ?_
     rintro ch196 w197 ⟨ht198, h199, s200, ob195⟩
     refine Zd <| Zr <| Zd <| Zr <| Zd <| Zp ?_
     have S201 := S145.trans s200 (Zn (.inl (by simp)) Z04)
     exact ⟨_, rfl, ht198, h199, S201, ob195⟩
    replace HF := Z0j HF
    refine Wc rfl (Z99 (us := [pt b1 0]) (vs := []) (caps := []) rfl rfl t_ent_101) ((IH _ (Nat.le_trans (Nat.le_of_succ_le hj30) (Nat.le_refl _))).2.2.2.2.2.1 hr187 S145.sub (rs5.mono ((s14.le).trans ((le20).trans ((le63).trans ((s73.le).trans ((s84.le).trans s134.le)))))) ob144) ?_
    have ob204 := (ob143.step1 s134 (Ne.symm ne75))
    rintro _ w191 ⟨h192, s193, ⟨cs202, rfl, r203⟩, ob205⟩
    have S206 := S145.trans s193 (Zn (.inl (by simp)) Z04)
    have ob207 := (ob204.step1 s193 (Ne.symm ne75))
    obtain ⟨v208, v210, v212, v214, v216, v218, rfl, rs209, rs211, rs213, rs215, rs217, rs219⟩ := Zgz.1 r203
    refine Zo (vs := [vi r189.1.op, .string r189.1.name, v208, v210, v212, vi r189.1.n, v214, v216, v218, .bool r189.1.els]) rfl rfl rfl rfl Z0h (Z5 rfl (Z5 rfl (Z5 (RS.one rs209) (Z5 (RS.one rs211) (Z5 (RS.one rs213) (Z5 rfl (Z5 (RS.one rs215) (Z5 (RS.one rs217) (Z5 (RS.one rs219) (Z5 rfl Zx)))))))))) ob207 S206.sub (by simp) (ds := [vi r189.1.op, .string r189.1.name, v208, v210, v212, vi r189.1.n, v214, v216, v218, .bool r189.1.els]) rfl (fun w220 s221 ob222 => ?_)
    have S223 := S206.trans1 s221 (.inr g76)
    refine Z7 ?_
    have ob472 := (ob205.step1 s221 ne75)
    refine Z0g [0, 3, 4, 5] _ rfl ?_
    exact J469 ⟨h192, xs65, v66, r189.2, r189.1.op, r189.1.name, r189.1.index, v208, r189.1.fields, v210, r189.1.args, v212, r189.1.n, r189.1.body, v214, r189.1.arms, v216, r189.1.other, v218, r189.1.els, HF, rfl, S223, (s84.le).trans ((s134.le).trans ((s193.le).trans s221.le)), (rs67.mono ((s73.le).trans ((s84.le).trans ((s134.le).trans ((s193.le).trans s221.le))))), (((((ow68.step0 s73).step0 s84).step s134 (Z4 (((ow68.step0 s73).step0 s84).ne_old lt8) Za)).step s193 (Z4 ((((ow68.step0 s73).step0 s84).step s134 (Z4 (((ow68.step0 s73).step0 s84).ne_old lt8) Za)).ne_old lt8) Za)).step s221 (Z4 (((((ow68.step0 s73).step0 s84).step s134 (Z4 (((ow68.step0 s73).step0 s84).ne_old lt8) Za)).step s193 (Z4 ((((ow68.step0 s73).step0 s84).step s134 (Z4 (((ow68.step0 s73).step0 s84).ne_old lt8) Za)).ne_old lt8) Za)).ne_obS1 (rs67.mono ((s73.le).trans ((s84.le).trans ((s134.le).trans s193.le)))) ob207) Za)), (rs209.mono (s221.le)), (rs211.mono (s221.le)), (rs213.mono (s221.le)), (rs215.mono (s221.le)), (rs217.mono (s221.le)), (rs219.mono (s221.le)), ob472, ob222⟩
   replace HF := bif_f hb185 HF
   refine Z6x (b := (r130.1 : Int) == 3) (fun hb224 => ?_) (fun hb224 => ?_)
   ·replace HF := bif_t hb224 HF
    refine WL.know 21 (v' := .func (.func 102) #[pt b1 0] #[]) rfl (by rw [eq_of_beq hb224]; rfl) ?_
    obtain ⟨r225, hr226, HF⟩ := Z8 HF
    rcases r225 with t227 | r228
    ·obtain rfl := Z01 HF
     have ob233 := (ob143.step1 s134 (Ne.symm ne75))
     refine Z0i rfl (Z99 (us := [pt b1 0]) (vs := []) (caps := []) rfl rfl t_ent_102) ((IH _ (Nat.le_trans (Nat.le_of_succ_le hj30) (Nat.le_refl _))).2.1 hr226 S145.sub (rs5.mono ((s14.le).trans ((le20).trans ((le63).trans ((s73.le).trans ((s84.le).trans s134.le)))))) ob144) ?_
     rintro ch235 w236 ⟨ht237, h238, s239, ob234⟩
     refine Zd <| Zr <| Zd <| Zr <| Zd <| Zp ?_
     have S240 := S145.trans s239 (Zn (.inl (by simp)) Z04)
     exact ⟨_, rfl, ht237, h238, S240, ob234⟩
    replace HF := Z0j HF
    refine Wc rfl (Z99 (us := [pt b1 0]) (vs := []) (caps := []) rfl rfl t_ent_102) ((IH _ (Nat.le_trans (Nat.le_of_succ_le hj30) (Nat.le_refl _))).2.1 hr226 S145.sub (rs5.mono ((s14.le).trans ((le20).trans ((le63).trans ((s73.le).trans ((s84.le).trans s134.le)))))) ob144) ?_
    have ob243 := (ob143.step1 s134 (Ne.symm ne75))
    rintro _ w230 ⟨h231, s232, ⟨cs241, rfl, r242⟩, ob244⟩
    have S245 := S145.trans s232 (Zn (.inl (by simp)) Z04)
    have ob246 := (ob243.step1 s232 (Ne.symm ne75))
    obtain ⟨v247, v249, v251, v253, v255, v257, rfl, rs248, rs250, rs252, rs254, rs256, rs258⟩ := Zgz.1 r242
    refine Zo (vs := [vi r228.1.op, .string r228.1.name, v247, v249, v251, vi r228.1.n, v253, v255, v257, .bool r228.1.els]) rfl rfl rfl rfl Z0h (Z5 rfl (Z5 rfl (Z5 (RS.one rs248) (Z5 (RS.one rs250) (Z5 (RS.one rs252) (Z5 rfl (Z5 (RS.one rs254) (Z5 (RS.one rs256) (Z5 (RS.one rs258) (Z5 rfl Zx)))))))))) ob246 S245.sub (by simp) (ds := [vi r228.1.op, .string r228.1.name, v247, v249, v251, vi r228.1.n, v253, v255, v257, .bool r228.1.els]) rfl (fun w259 s260 ob261 => ?_)
    have S262 := S245.trans1 s260 (.inr g76)
    refine Z7 ?_
    have ob473 := (ob244.step1 s260 ne75)
    refine Z0g [0, 3, 4, 5] _ rfl ?_
    exact J469 ⟨h231, xs65, v66, r228.2, r228.1.op, r228.1.name, r228.1.index, v247, r228.1.fields, v249, r228.1.args, v251, r228.1.n, r228.1.body, v253, r228.1.arms, v255, r228.1.other, v257, r228.1.els, HF, rfl, S262, (s84.le).trans ((s134.le).trans ((s232.le).trans s260.le)), (rs67.mono ((s73.le).trans ((s84.le).trans ((s134.le).trans ((s232.le).trans s260.le))))), (((((ow68.step0 s73).step0 s84).step s134 (Z4 (((ow68.step0 s73).step0 s84).ne_old lt8) Za)).step s232 (Z4 ((((ow68.step0 s73).step0 s84).step s134 (Z4 (((ow68.step0 s73).step0 s84).ne_old lt8) Za)).ne_old lt8) Za)).step s260 (Z4 (((((ow68.step0 s73).step0 s84).step s134 (Z4 (((ow68.step0 s73).step0 s84).ne_old lt8) Za)).step s232 (Z4 ((((ow68.step0 s73).step0 s84).step s134 (Z4 (((ow68.step0 s73).step0 s84).ne_old lt8) Za)).ne_old lt8) Za)).ne_obS1 (rs67.mono ((s73.le).trans ((s84.le).trans ((s134.le).trans s232.le)))) ob246) Za)), (rs248.mono (s260.le)), (rs250.mono (s260.le)), (rs252.mono (s260.le)), (rs254.mono (s260.le)), (rs256.mono (s260.le)), (rs258.mono (s260.le)), ob473, ob261⟩
   replace HF := bif_f hb224 HF
   refine Z6x (b := (r130.1 : Int) == 4) (fun hb263 => ?_) (fun hb263 => ?_)
   ·replace HF := bif_t hb263 HF
    refine WL.know 21 (v' := .func (.func 103) #[pt b1 0] #[]) rfl (by rw [eq_of_beq hb263]; rfl) ?_
    obtain ⟨r264, hr265, HF⟩ := Z8 HF
    rcases r264 with t266 | r267
    ·obtain rfl := Z01 HF
     have ob272 := (ob143.step1 s134 (Ne.symm ne75))
     refine Z0i rfl (Z99 (us := [pt b1 0]) (vs := []) (caps := []) rfl rfl t_ent_103) ((IH _ (Nat.le_trans (Nat.le_of_succ_le hj30) (Nat.le_refl _))).2.2.2.1 hr265 S145.sub (rs5.mono ((s14.le).trans ((le20).trans ((le63).trans ((s73.le).trans ((s84.le).trans s134.le)))))) ob144) ?_
     rintro ch274 w275 ⟨ht276, h277, s278, ob273⟩
     refine Zd <| Zr <| Zd <| Zr <| Zd <| Zp ?_
     have S279 := S145.trans s278 (Zn (.inl (by simp)) Z04)
     exact ⟨_, rfl, ht276, h277, S279, ob273⟩
    replace HF := Z0j HF
    refine Wc rfl (Z99 (us := [pt b1 0]) (vs := []) (caps := []) rfl rfl t_ent_103) ((IH _ (Nat.le_trans (Nat.le_of_succ_le hj30) (Nat.le_refl _))).2.2.2.1 hr265 S145.sub (rs5.mono ((s14.le).trans ((le20).trans ((le63).trans ((s73.le).trans ((s84.le).trans s134.le)))))) ob144) ?_
    have ob282 := (ob143.step1 s134 (Ne.symm ne75))
    rintro _ w269 ⟨h270, s271, ⟨cs280, rfl, r281⟩, ob283⟩
    have S284 := S145.trans s271 (Zn (.inl (by simp)) Z04)
    have ob285 := (ob282.step1 s271 (Ne.symm ne75))
    obtain ⟨v286, v288, v290, v292, v294, v296, rfl, rs287, rs289, rs291, rs293, rs295, rs297⟩ := Zgz.1 r281
    refine Zo (vs := [vi r267.1.op, .string r267.1.name, v286, v288, v290, vi r267.1.n, v292, v294, v296, .bool r267.1.els]) rfl rfl rfl rfl Z0h (Z5 rfl (Z5 rfl (Z5 (RS.one rs287) (Z5 (RS.one rs289) (Z5 (RS.one rs291) (Z5 rfl (Z5 (RS.one rs293) (Z5 (RS.one rs295) (Z5 (RS.one rs297) (Z5 rfl Zx)))))))))) ob285 S284.sub (by simp) (ds := [vi r267.1.op, .string r267.1.name, v286, v288, v290, vi r267.1.n, v292, v294, v296, .bool r267.1.els]) rfl (fun w298 s299 ob300 => ?_)
    have S301 := S284.trans1 s299 (.inr g76)
    refine Z7 ?_
    have ob474 := (ob283.step1 s299 ne75)
    refine Z0g [0, 3, 4, 5] _ rfl ?_
    exact J469 ⟨h270, xs65, v66, r267.2, r267.1.op, r267.1.name, r267.1.index, v286, r267.1.fields, v288, r267.1.args, v290, r267.1.n, r267.1.body, v292, r267.1.arms, v294, r267.1.other, v296, r267.1.els, HF, rfl, S301, (s84.le).trans ((s134.le).trans ((s271.le).trans s299.le)), (rs67.mono ((s73.le).trans ((s84.le).trans ((s134.le).trans ((s271.le).trans s299.le))))), (((((ow68.step0 s73).step0 s84).step s134 (Z4 (((ow68.step0 s73).step0 s84).ne_old lt8) Za)).step s271 (Z4 ((((ow68.step0 s73).step0 s84).step s134 (Z4 (((ow68.step0 s73).step0 s84).ne_old lt8) Za)).ne_old lt8) Za)).step s299 (Z4 (((((ow68.step0 s73).step0 s84).step s134 (Z4 (((ow68.step0 s73).step0 s84).ne_old lt8) Za)).step s271 (Z4 ((((ow68.step0 s73).step0 s84).step s134 (Z4 (((ow68.step0 s73).step0 s84).ne_old lt8) Za)).ne_old lt8) Za)).ne_obS1 (rs67.mono ((s73.le).trans ((s84.le).trans ((s134.le).trans s271.le)))) ob285) Za)), (rs287.mono (s299.le)), (rs289.mono (s299.le)), (rs291.mono (s299.le)), (rs293.mono (s299.le)), (rs295.mono (s299.le)), (rs297.mono (s299.le)), ob474, ob300⟩
   replace HF := bif_f hb263 HF
   refine Z6x (b := (r130.1 : Int) == 5) (fun hb302 => ?_) (fun hb302 => ?_)
   ·replace HF := bif_t hb302 HF
    refine WL.know 21 (v' := .func (.func 104) #[pt b1 0] #[]) rfl (by rw [eq_of_beq hb302]; rfl) ?_
    obtain ⟨r303, hr304, HF⟩ := Z8 HF
    rcases r303 with t305 | r306
    ·obtain rfl := Z01 HF
     have ob311 := (ob143.step1 s134 (Ne.symm ne75))
     refine Z0i rfl (Z99 (us := [pt b1 0]) (vs := []) (caps := []) rfl rfl t_ent_104) ((IH _ (Nat.le_trans (Nat.le_of_succ_le hj30) (Nat.le_refl _))).2.2.2.2.2.2 hr304 S145.sub (rs5.mono ((s14.le).trans ((le20).trans ((le63).trans ((s73.le).trans ((s84.le).trans s134.le)))))) ob144) ?_
     rintro ch313 w314 ⟨ht315, h316, s317, ob312⟩
     refine Zd <| Zr <| Zd <| Zr <| Zd <| Zp ?_
     have S318 := S145.trans s317 (Zn (.inl (by simp)) Z04)
     exact ⟨_, rfl, ht315, h316, S318, ob312⟩
    replace HF := Z0j HF
    refine Wc rfl (Z99 (us := [pt b1 0]) (vs := []) (caps := []) rfl rfl t_ent_104) ((IH _ (Nat.le_trans (Nat.le_of_succ_le hj30) (Nat.le_refl _))).2.2.2.2.2.2 hr304 S145.sub (rs5.mono ((s14.le).trans ((le20).trans ((le63).trans ((s73.le).trans ((s84.le).trans s134.le)))))) ob144) ?_
    have ob321 := (ob143.step1 s134 (Ne.symm ne75))
    rintro _ w308 ⟨h309, s310, ⟨cs319, rfl, r320⟩, ob322⟩
    have S323 := S145.trans s310 (Zn (.inl (by simp)) Z04)
    have ob324 := (ob321.step1 s310 (Ne.symm ne75))
    obtain ⟨v325, v327, v329, v331, v333, v335, rfl, rs326, rs328, rs330, rs332, rs334, rs336⟩ := Zgz.1 r320
    refine Zo (vs := [vi r306.1.op, .string r306.1.name, v325, v327, v329, vi r306.1.n, v331, v333, v335, .bool r306.1.els]) rfl rfl rfl rfl Z0h (Z5 rfl (Z5 rfl (Z5 (RS.one rs326) (Z5 (RS.one rs328) (Z5 (RS.one rs330) (Z5 rfl (Z5 (RS.one rs332) (Z5 (RS.one rs334) (Z5 (RS.one rs336) (Z5 rfl Zx)))))))))) ob324 S323.sub (by simp) (ds := [vi r306.1.op, .string r306.1.name, v325, v327, v329, vi r306.1.n, v331, v333, v335, .bool r306.1.els]) rfl (fun w337 s338 ob339 => ?_)
    have S340 := S323.trans1 s338 (.inr g76)
    refine Z7 ?_
    have ob475 := (ob322.step1 s338 ne75)
    refine Z0g [0, 3, 4, 5] _ rfl ?_
    exact J469 ⟨h309, xs65, v66, r306.2, r306.1.op, r306.1.name, r306.1.index, v325, r306.1.fields, v327, r306.1.args, v329, r306.1.n, r306.1.body, v331, r306.1.arms, v333, r306.1.other, v335, r306.1.els, HF, rfl, S340, (s84.le).trans ((s134.le).trans ((s310.le).trans s338.le)), (rs67.mono ((s73.le).trans ((s84.le).trans ((s134.le).trans ((s310.le).trans s338.le))))), (((((ow68.step0 s73).step0 s84).step s134 (Z4 (((ow68.step0 s73).step0 s84).ne_old lt8) Za)).step s310 (Z4 ((((ow68.step0 s73).step0 s84).step s134 (Z4 (((ow68.step0 s73).step0 s84).ne_old lt8) Za)).ne_old lt8) Za)).step s338 (Z4 (((((ow68.step0 s73).step0 s84).step s134 (Z4 (((ow68.step0 s73).step0 s84).ne_old lt8) Za)).step s310 (Z4 ((((ow68.step0 s73).step0 s84).step s134 (Z4 (((ow68.step0 s73).step0 s84).ne_old lt8) Za)).ne_old lt8) Za)).ne_obS1 (rs67.mono ((s73.le).trans ((s84.le).trans ((s134.le).trans s310.le)))) ob324) Za)), (rs326.mono (s338.le)), (rs328.mono (s338.le)), (rs330.mono (s338.le)), (rs332.mono (s338.le)), (rs334.mono (s338.le)), (rs336.mono (s338.le)), ob475, ob339⟩
   replace HF := bif_f hb302 HF
   refine Z6x (b := (r130.1 : Int) == 6) (fun hb341 => ?_) (fun hb341 => ?_)
   ·replace HF := bif_t hb341 HF
    refine WL.know 21 (v' := .func (.func 105) #[] #[]) rfl (by rw [eq_of_beq hb341]; rfl) ?_
    obtain ⟨r342, hr343, HF⟩ := Z8 HF
    refine Wc rfl (oc_val (vs := []) (caps := []) rfl rfl t_ent_105) (Zg6 _ hr343 S145.sub) ?_
    have ob350 := (ob143.step1 s134 (Ne.symm ne75))
    rintro _ w345 ⟨h346, s347, ⟨cs348, rfl, r349⟩⟩
    have S351 := S145.trans0 s347
    have ob352 := (ob350.step0 s347)
    obtain ⟨v353, v355, v357, v359, v361, v363, rfl, rs354, rs356, rs358, rs360, rs362, rs364⟩ := Zgz.1 r349
    refine Zo (vs := [vi r342.op, .string r342.name, v353, v355, v357, vi r342.n, v359, v361, v363, .bool r342.els]) rfl rfl rfl rfl Z0h (Z5 rfl (Z5 rfl (Z5 (RS.one rs354) (Z5 (RS.one rs356) (Z5 (RS.one rs358) (Z5 rfl (Z5 (RS.one rs360) (Z5 (RS.one rs362) (Z5 (RS.one rs364) (Z5 rfl Zx)))))))))) ob352 S351.sub (by simp) (ds := [vi r342.op, .string r342.name, v353, v355, v357, vi r342.n, v359, v361, v363, .bool r342.els]) rfl (fun w365 s366 ob367 => ?_)
    have S368 := S351.trans1 s366 (.inr g76)
    refine Z7 ?_
    have ob476 := ((ob144.step0 s347).step1 s366 ne75)
    refine Z0g [0, 3, 4, 5] _ rfl ?_
    exact J469 ⟨h346, xs65, v66, r130.2, r342.op, r342.name, r342.index, v353, r342.fields, v355, r342.args, v357, r342.n, r342.body, v359, r342.arms, v361, r342.other, v363, r342.els, HF, rfl, S368, (s84.le).trans ((s134.le).trans ((s347.le).trans s366.le)), (rs67.mono ((s73.le).trans ((s84.le).trans ((s134.le).trans ((s347.le).trans s366.le))))), (((((ow68.step0 s73).step0 s84).step s134 (Z4 (((ow68.step0 s73).step0 s84).ne_old lt8) Za)).step0 s347).step s366 (Z4 (((((ow68.step0 s73).step0 s84).step s134 (Z4 (((ow68.step0 s73).step0 s84).ne_old lt8) Za)).step0 s347).ne_obS1 (rs67.mono ((s73.le).trans ((s84.le).trans ((s134.le).trans s347.le)))) ob352) Za)), (rs354.mono (s366.le)), (rs356.mono (s366.le)), (rs358.mono (s366.le)), (rs360.mono (s366.le)), (rs362.mono (s366.le)), (rs364.mono (s366.le)), ob476, ob367⟩
   replace HF := bif_f hb341 HF
   refine Z6x (b := (r130.1 : Int) == 7) (fun hb369 => ?_) (fun hb369 => ?_)
   ·replace HF := bif_t hb369 HF
    refine WL.know 21 (v' := .func (.func 106) #[] #[]) rfl (by rw [eq_of_beq hb369]; rfl) ?_
    obtain ⟨r370, hr371, HF⟩ := Z8 HF
    refine Wc rfl (oc_val (vs := []) (caps := []) rfl rfl t_ent_106) (Zgn _ hr371 S145.sub) ?_
    have ob378 := (ob143.step1 s134 (Ne.symm ne75))
    rintro _ w373 ⟨h374, s375, ⟨cs376, rfl, r377⟩⟩
    have S379 := S145.trans0 s375
    have ob380 := (ob378.step0 s375)
    obtain ⟨v381, v383, v385, v387, v389, v391, rfl, rs382, rs384, rs386, rs388, rs390, rs392⟩ := Zgz.1 r377
    refine Zo (vs := [vi r370.op, .string r370.name, v381, v383, v385, vi r370.n, v387, v389, v391, .bool r370.els]) rfl rfl rfl rfl Z0h (Z5 rfl (Z5 rfl (Z5 (RS.one rs382) (Z5 (RS.one rs384) (Z5 (RS.one rs386) (Z5 rfl (Z5 (RS.one rs388) (Z5 (RS.one rs390) (Z5 (RS.one rs392) (Z5 rfl Zx)))))))))) ob380 S379.sub (by simp) (ds := [vi r370.op, .string r370.name, v381, v383, v385, vi r370.n, v387, v389, v391, .bool r370.els]) rfl (fun w393 s394 ob395 => ?_)
    have S396 := S379.trans1 s394 (.inr g76)
    refine Z7 ?_
    have ob477 := ((ob144.step0 s375).step1 s394 ne75)
    refine Z0g [0, 3, 4, 5] _ rfl ?_
    exact J469 ⟨h374, xs65, v66, r130.2, r370.op, r370.name, r370.index, v381, r370.fields, v383, r370.args, v385, r370.n, r370.body, v387, r370.arms, v389, r370.other, v391, r370.els, HF, rfl, S396, (s84.le).trans ((s134.le).trans ((s375.le).trans s394.le)), (rs67.mono ((s73.le).trans ((s84.le).trans ((s134.le).trans ((s375.le).trans s394.le))))), (((((ow68.step0 s73).step0 s84).step s134 (Z4 (((ow68.step0 s73).step0 s84).ne_old lt8) Za)).step0 s375).step s394 (Z4 (((((ow68.step0 s73).step0 s84).step s134 (Z4 (((ow68.step0 s73).step0 s84).ne_old lt8) Za)).step0 s375).ne_obS1 (rs67.mono ((s73.le).trans ((s84.le).trans ((s134.le).trans s375.le)))) ob380) Za)), (rs382.mono (s394.le)), (rs384.mono (s394.le)), (rs386.mono (s394.le)), (rs388.mono (s394.le)), (rs390.mono (s394.le)), (rs392.mono (s394.le)), ob477, ob395⟩
   replace HF := bif_f hb369 HF
   cases HF
  intro J478
  refine Z09 (fun E w48 => ∃ (h47 : Hp) (xs51 : List St) (v52 : Value) (x55 : Bool), Z9f j28 (Z9 j28) xs3 r9 x26 xs51 x55 = some r ∧ E = [(0, pt b1 0), (3, v52), (4, v15), (14, .bool x55)] ∧ Stp [b1] w0 h0 w48 h47 ∧ Hle h18 h47 ∧ RS h47 v52 xs51 ∧ Own w48 h47 w0.heap.size 56 10 v52 xs51.length ∧ OB w48 h47 b1 T2 [v4, vi x26]) ?_ ?_
  ·rintro E w48 ⟨h47, xs51, v52, x55, HF, rfl, S50, le49, rs53, ow54, ob56⟩
   refine Z17 HF rfl (fun HF => ?_) (fun HF => ?_)
   ·refine Zm <| Z0g [0, 3, 4] _ rfl ?_
    exact J478 ⟨h47, xs51, v52, HF, rfl, S50, le49, rs53, ow54, ob56⟩
   refine Z4x <| Zz <| Zz <| Z1a <| Z6 <| Zb <| Z1 <| Wm rfl rfl <| Wa rfl rfl <| Z7 <| Z6 <| Z00 <| Zt rfl rfl ?_
   obtain rfl := Option.some.inj HF
   exact ⟨_, rfl, h47, S50, rs53, ob56⟩
  intro J58
  refine Z1 <| Wm rfl rfl ?_
  obtain ⟨r31, hr32, HF⟩ := Z8 HF
  refine Wc rfl (Ze (vs := [pt b1 0]) rfl t_ent_57) (Zbh _ hr32 S21.sub (rs5.mono ((s14.le).trans le20)) ob27) ?_
  rintro _ w34 ⟨h35, s36, rfl⟩
  have S37 := S21.trans0 s36
  refine Wm rfl rfl <| Z3g 10 HF rfl (fun HF => ?_) (fun HF => ?_)
  ·refine Wp rfl <| Wp rfl <| Wp rfl <| Wv rfl (Zh rfl rfl) <| Z7 ?_
   have ob59 := (ob27.step0 s36)
   refine Z0g [0, 3, 4, 14] _ rfl ?_
   exact J58 ⟨h35, xs22, v23, true, HF, rfl, S37, s36.le, (rs24.mono (s36.le)), (ow25.step0 s36), ob59⟩
  refine Wm rfl rfl <| Wm rfl rfl ?_
  have ob39 := (ob27.step0 s36)
  obtain ⟨r40, hr41, HF⟩ := Z8 HF
  refine Wc rfl (Ze (vs := [pt b1 0, v15]) rfl t_ent_58) (Zct _ hr41 S37.sub (rs5.mono ((s14.le).trans ((le20).trans s36.le))) (rm16.mono ((le20).trans s36.le)) ob39) ?_
  rintro _ w43 ⟨h44, s45, rfl⟩
  have S46 := S37.trans0 s45
  refine Wv rfl (Zg rfl rfl) <| Z7 ?_
  have ob60 := (ob39.step0 s45)
  refine Z0g [0, 3, 4, 14] _ rfl ?_
  exact J58 ⟨h44, xs22, v23, r40, HF, rfl, S46, (s36.le).trans s45.le, (rs24.mono ((s36.le).trans s45.le)), ((ow25.step0 s36).step0 s45), ob60⟩
 have ob480 := (ob7.step0 s14)
 exact ⟨h13, ([] : List St), .slice none 0 0, x6, HF, rfl, S17, Hle.refl _, (RS.nil _), (Own.nil _ _ _ _ _), ob480⟩
theorem s_parse_Parser_count (k : Nat) (IH : ∀ j, j ≤ k → Z2b (Z9 j).parse_Parser_Text ∧ Z2i (Z9 j).parse_Parser_count ∧ Z2h (Z9 j).parse_Parser_other ∧ Z2g (Z9 j).parse_Parser_while ∧ Z28 (Z9 j).parse_Parser_branch ∧ Z27 (Z9 j).parse_Parser_choice ∧ Z26 (Z9 j).parse_Parser_repeat) : Z2i (Zd7 k (Z9 k)) := by
 intro xs3 x6 r HF w0 h0 b1 T2 v4 hs0 rs5 ob7
 have S0 : Stp [b1] w0 h0 w0 h0 := Stp.refl hs0 _
 have lt8 : b1 < w0.heap.size := OB.lt ob7
 refine Z4j (n := 52) Tryz.func102 rfl Tryz.ntmps102 rfl [(0, pt b1 0)] rfl <| Zb <| Z1 <| Z15 (zs := [vi 0, .string b'47, .slice none 0 0, .slice none 0 0, .slice none 0 0, vi 0, .slice none 0 0, .slice none 0 0, .slice none 0 0, .bool false]) rfl rfl Z2n rfl S0.sub (fun w9 b10 hb11 s12 ob13 => ?_)
 have ne14 : b1 ≠ b10 := ob7.ne_new hb11
 have g15 : w0.heap.size ≤ b10 := by rw [hb11]; exact S0.size
 have S16 := S0.trans0 s12
 refine Z7 <| Z6 <| Zb <| Z1 <| Wm rfl rfl ?_
 have ob17 := (ob7.step0 s12)
 obtain ⟨r18, hr19, HF⟩ := Z8 HF
 rcases r18 with t20 | r21
 ·obtain rfl := Z01 HF
  refine Z0i rfl (Ze (vs := [pt b1 0]) rfl Zbe) (Z24 _ hr19 S16.sub (rs5.mono (s12.le)) ob17) ?_
  rintro ch27 w28 ⟨ht29, h30, s31, ob26⟩
  refine Zd <| Zp ?_
  have S32 := S16.trans s31 (Zn (.inl (by simp)) Z04)
  exact ⟨_, rfl, ht29, h30, S32, ob26⟩
 replace HF := Z0j HF
 refine Wc rfl (Ze (vs := [pt b1 0]) rfl Zbe) (Z24 _ hr19 S16.sub (rs5.mono (s12.le)) ob17) ?_
 rintro _ w23 ⟨h24, s25, rfl, ob33⟩
 have S34 := S16.trans s25 (Zn (.inl (by simp)) Z04)
 refine Wv rfl (Z38 (vs := [(0, vi 5), (1, .string r21.1), (5, vi 1)]) (cs := [vi 5, .string r21.1, .slice none 0 0, .slice none 0 0, .slice none 0 0, vi 1, .slice none 0 0, .slice none 0 0, .slice none 0 0, .bool false]) rfl Z9q Z2n rfl) ?_
 have ob35 := (ob13.step1 s25 (Ne.symm ne14))
 refine Z15 (zs := [vi 0, .string b'47, .slice none 0 0, .slice none 0 0, .slice none 0 0, vi 0, .slice none 0 0, .slice none 0 0, .slice none 0 0, .bool false]) rfl rfl Z2n rfl S34.sub (fun w36 b37 hb38 s39 ob40 => ?_)
 have ne41 : b1 ≠ b37 := ob33.ne_new hb38
 have ne42 : b10 ≠ b37 := ob35.ne_new hb38
 have g43 : w0.heap.size ≤ b37 := by rw [hb38]; exact S34.size
 have S44 := S34.trans0 s39
 refine Zo (vs := [vi 5, .string r21.1, .slice none 0 0, .slice none 0 0, .slice none 0 0, vi 1, .slice none 0 0, .slice none 0 0, .slice none 0 0, .bool false]) rfl rfl rfl rfl Z0h (Z5 rfl (Z5 rfl (Z5 rfl (Z5 rfl (Z5 rfl (Z5 rfl (Z5 rfl (Z5 rfl (Z5 rfl (Z5 rfl Zx)))))))))) ob40 S44.sub (by simp) (ds := [vi 5, .string r21.1, .slice none 0 0, .slice none 0 0, .slice none 0 0, vi 1, .slice none 0 0, .slice none 0 0, .slice none 0 0, .bool false]) rfl (fun w45 s46 ob47 => ?_)
 have S48 := S44.trans1 s46 (.inr g43)
 refine Z7 <| Z6 <| Zb <| Z1 <| Wm rfl rfl ?_
 have ob49 := ((ob33.step0 s39).step1 s46 ne41)
 obtain ⟨r50, hr51, HF⟩ := Z8 HF
 rcases r50 with t52 | r53
 ·obtain rfl := Z01 HF
  refine Z0i rfl (Ze (vs := [pt b1 0, .string b'33]) rfl Z21) (Zj _ hr51 S48.sub (rs5.mono ((s12.le).trans ((s25.le).trans ((s39.le).trans s46.le)))) ob49) ?_
  rintro ch59 w60 ⟨ht61, h62, s63, ob58⟩
  refine Zd <| Zp ?_
  have S64 := S48.trans s63 (Zn (.inl (by simp)) Z04)
  exact ⟨_, rfl, ht61, h62, S64, ob58⟩
 replace HF := Z0j HF
 refine Wc rfl (Ze (vs := [pt b1 0, .string b'33]) rfl Z21) (Zj _ hr51 S48.sub (rs5.mono ((s12.le).trans ((s25.le).trans ((s39.le).trans s46.le)))) ob49) ?_
 rintro v54 w55 ⟨h56, s57, rfl, ob65⟩
 have S66 := S48.trans s57 (Zn (.inl (by simp)) Z04)
 refine Z7 <| Z6 <| Zb <| Z1 <| Wm rfl rfl ?_
 obtain ⟨r67, hr68, HF⟩ := Z8 HF
 rcases r67 with t69 | r70
 ·obtain rfl := Z01 HF
  refine Z0i rfl (Ze (vs := [pt b1 0]) rfl Z3e) (Z05 _ hr68 S66.sub (rs5.mono ((s12.le).trans ((s25.le).trans ((s39.le).trans ((s46.le).trans s57.le))))) ob65) ?_
  rintro ch76 w77 ⟨ht78, h79, s80, ob75⟩
  refine Zd <| Zp ?_
  have S81 := S66.trans s80 (Zn (.inl (by simp)) Z04)
  exact ⟨_, rfl, ht78, h79, S81, ob75⟩
 replace HF := Z0j HF
 refine Wc rfl (Ze (vs := [pt b1 0]) rfl Z3e) (Z05 _ hr68 S66.sub (rs5.mono ((s12.le).trans ((s25.le).trans ((s39.le).trans ((s46.le).trans s57.le))))) ob65) ?_
 rintro _ w72 ⟨h73, s74, ⟨cs82, rfl, r83⟩, ob84⟩
 have S85 := S66.trans s74 (Zn (.inl (by simp)) Z04)
 have ob86 := ((((ob35.step0 s39).step1 s46 ne42).step1 s57 (Ne.symm ne14)).step1 s74 (Ne.symm ne14))
 have ob87 := ((ob47.step1 s57 (Ne.symm ne41)).step1 s74 (Ne.symm ne41))
 refine Z15 (zs := [vi 0, vi 0, vi 0, .string b'47, .string b'47, .slice none 0 0]) rfl rfl Z1t rfl S85.sub (fun w88 b89 hb90 s91 ob92 => ?_)
 have ne93 : b1 ≠ b89 := ob84.ne_new hb90
 have ne94 : b10 ≠ b89 := ob86.ne_new hb90
 have ne95 : b37 ≠ b89 := ob87.ne_new hb90
 have g96 : w0.heap.size ≤ b89 := by rw [hb90]; exact S85.size
 have S97 := S85.trans0 s91
 obtain ⟨v98, rfl, rs99⟩ := Z7n.1 (Rp.mono (s91.le) r83)
 refine Zo (vs := [vi r70.1.op, vi r70.1.kind, vi r70.1.n, .string r70.1.s, .string r70.1.f, v98]) rfl rfl rfl rfl Zw (Z5 rfl (Z5 rfl (Z5 rfl (Z5 rfl (Z5 rfl (Z5 (RS.one rs99) Zx)))))) ob92 S97.sub (by simp) (ds := [vi r70.1.op, vi r70.1.kind, vi r70.1.n, .string r70.1.s, .string r70.1.f, v98]) rfl (fun w100 s101 ob102 => ?_)
 have S103 := S97.trans1 s101 (.inr g96)
 refine Z7 <| Z6 <| Zb <| Z1 <| Wm rfl rfl ?_
 have ob104 := ((ob84.step0 s91).step1 s101 ne93)
 obtain ⟨r105, hr106, HF⟩ := Z8 HF
 rcases r105 with t107 | r108
 ·obtain rfl := Z01 HF
  refine Z0i rfl (Ze (vs := [pt b1 0, .string b'19]) rfl Z21) (Zj _ hr106 S103.sub (rs5.mono ((s12.le).trans ((s25.le).trans ((s39.le).trans ((s46.le).trans ((s57.le).trans ((s74.le).trans ((s91.le).trans s101.le)))))))) ob104) ?_
  rintro ch114 w115 ⟨ht116, h117, s118, ob113⟩
  refine Zd <| Zp ?_
  have S119 := S103.trans s118 (Zn (.inl (by simp)) Z04)
  exact ⟨_, rfl, ht116, h117, S119, ob113⟩
 replace HF := Z0j HF
 refine Wc rfl (Ze (vs := [pt b1 0, .string b'19]) rfl Z21) (Zj _ hr106 S103.sub (rs5.mono ((s12.le).trans ((s25.le).trans ((s39.le).trans ((s46.le).trans ((s57.le).trans ((s74.le).trans ((s91.le).trans s101.le)))))))) ob104) ?_
 rintro v109 w110 ⟨h111, s112, rfl, ob120⟩
 have S121 := S103.trans s112 (Zn (.inl (by simp)) Z04)
 refine Z7 <| Z6 <| Z09 (fun E w248 => ∃ (h247 : Hp) (x251 : Int) (xs254 : List Ex) (v255 : Value), Zc8 k (Z9 k) xs3 r21 x251 xs254 = some r ∧ E = [(0, pt b1 0), (2, pt b10 0), (3, pt b37 0)] ∧ Stp [b1] w0 h0 w248 h247 ∧ Hle h111 h247 ∧ RS h247 v255 xs254 ∧ Own w248 h247 w0.heap.size 47 6 v255 xs254.length ∧ OB w248 h247 b1 T2 [v4, vi x251] ∧ OB w248 h247 b10 56 [vi 0, .string b'47, .slice none 0 0, .slice none 0 0, .slice none 0 0, vi 0, .slice none 0 0, .slice none 0 0, .slice none 0 0, .bool false] ∧ OB w248 h247 b37 56 [vi 5, .string r21.1, .slice none 0 0, .slice none 0 0, v255, vi 1, .slice none 0 0, .slice none 0 0, .slice none 0 0, .bool false]) ?_ ?_
 ·rintro E w248 ⟨h247, x251, xs254, v255, HF, rfl, S250, le249, rs256, ow257, ob252, ob253, ob258⟩
  refine Z09 (fun E w381 => ∃ (h380 : Hp) (x384 : Int) (xs387 : List Ex) (v388 : Value) (x391 : Int), Z6h k (Z9 k) xs3 r21 x384 xs387 x391 = some r ∧ E = [(0, pt b1 0), (2, pt b10 0), (3, pt b37 0)] ∧ Stp [b1] w0 h0 w381 h380 ∧ Hle h247 h380 ∧ RS h380 v388 xs387 ∧ Own w381 h380 w0.heap.size 47 6 v388 xs387.length ∧ OB w381 h380 b1 T2 [v4, vi x384] ∧ OB w381 h380 b10 56 [vi 0, .string b'47, .slice none 0 0, .slice none 0 0, .slice none 0 0, vi 0, .slice none 0 0, .slice none 0 0, .slice none 0 0, .bool false] ∧ OB w381 h380 b37 56 [vi 5, .string r21.1, .slice none 0 0, .slice none 0 0, v388, vi x391, .slice none 0 0, .slice none 0 0, .slice none 0 0, .bool false]) ?_ ?_
  ·rintro E w381 ⟨h380, x384, xs387, v388, x391, HF, rfl, S383, le382, rs389, ow390, ob385, ob386, ob392⟩
   refine Zb <| Z1 <| Wm rfl rfl ?_
   obtain ⟨r393, hr394, HF⟩ := Z8 HF
   rcases r393 with t395 | r396
   ·obtain rfl := Z01 HF
    refine Z0i rfl (Ze (vs := [pt b1 0, .string b'0]) rfl Z21) (Zj _ hr394 S383.sub (rs5.mono ((s12.le).trans ((s25.le).trans ((s39.le).trans ((s46.le).trans ((s57.le).trans ((s74.le).trans ((s91.le).trans ((s101.le).trans ((s112.le).trans ((le249).trans le382))))))))))) ob385) ?_
    rintro ch402 w403 ⟨ht404, h405, s406, ob401⟩
    refine Zd <| Zp ?_
    have S407 := S383.trans s406 (Zn (.inl (by simp)) Z04)
    exact ⟨_, rfl, ht404, h405, S407, ob401⟩
   replace HF := Z0j HF
   refine Wc rfl (Ze (vs := [pt b1 0, .string b'0]) rfl Z21) (Zj _ hr394 S383.sub (rs5.mono ((s12.le).trans ((s25.le).trans ((s39.le).trans ((s46.le).trans ((s57.le).trans ((s74.le).trans ((s91.le).trans ((s101.le).trans ((s112.le).trans ((le249).trans le382))))))))))) ob385) ?_
   rintro v397 w398 ⟨h399, s400, rfl, ob408⟩
   have S409 := S383.trans s400 (Zn (.inl (by simp)) Z04)
   refine Z7 <| Z6 <| Zb <| Z1 <| Wm rfl rfl ?_
   obtain ⟨r410, hr411, HF⟩ := Z8 HF
   rcases r410 with t412 | r413
   ·obtain rfl := Z01 HF
    have ob418 := (ob386.step1 s400 (Ne.symm ne14))
    have ob419 := (ob392.step1 s400 (Ne.symm ne41))
    refine Z0i rfl (Ze (vs := [pt b1 0]) rfl Z8r) ((IH _ (Nat.le_refl _)).1 hr411 S409.sub (rs5.mono ((s12.le).trans ((s25.le).trans ((s39.le).trans ((s46.le).trans ((s57.le).trans ((s74.le).trans ((s91.le).trans ((s101.le).trans ((s112.le).trans ((le249).trans ((le382).trans s400.le)))))))))))) ob408) ?_
    rintro ch421 w422 ⟨ht423, h424, s425, ob420⟩
    refine Zd <| Zp ?_
    have S426 := S409.trans s425 (Zn (.inl (by simp)) Z04)
    exact ⟨_, rfl, ht423, h424, S426, ob420⟩
   replace HF := Z0j HF
   refine Wc rfl (Ze (vs := [pt b1 0]) rfl Z8r) ((IH _ (Nat.le_refl _)).1 hr411 S409.sub (rs5.mono ((s12.le).trans ((s25.le).trans ((s39.le).trans ((s46.le).trans ((s57.le).trans ((s74.le).trans ((s91.le).trans ((s101.le).trans ((s112.le).trans ((le249).trans ((le382).trans s400.le)))))))))))) ob408) ?_
   have ob429 := (ob386.step1 s400 (Ne.symm ne14))
   have ob430 := (ob392.step1 s400 (Ne.symm ne41))
   rintro v427 w415 ⟨h416, s417, rs428, ob431⟩
   have S432 := S409.trans s417 (Zn (.inl (by simp)) Z04)
   refine Wv rfl (Z2 rfl Z65) ?_
   have ob433 := (ob430.step1 s417 (Ne.symm ne41))
   refine Zo (vs := [v427]) rfl rfl rfl (RS.cellsL rs428) Zgv (Z5 (RS.one rs428) Zx) ob433 S432.sub (by simp) (ds := [vi 5, .string r21.1, .slice none 0 0, .slice none 0 0, v388, vi x391, v427, .slice none 0 0, .slice none 0 0, .bool false]) rfl (fun w434 s435 ob436 => ?_)
   have S437 := S432.trans1 s435 (.inr g43)
   refine Z7 <| Z6 <| Zb <| Z1 <| Wm rfl rfl ?_
   have ob438 := (ob431.step1 s435 ne41)
   obtain ⟨r439, hr440, HF⟩ := Z8 HF
   rcases r439 with t441 | r442
   ·obtain rfl := Z01 HF
    have ob447 := ((ob429.step1 s417 (Ne.symm ne14)).step1 s435 ne42)
    refine Z0i rfl (Ze (vs := [pt b1 0, .string b'3]) rfl Z21) (Zj _ hr440 S437.sub (rs5.mono ((s12.le).trans ((s25.le).trans ((s39.le).trans ((s46.le).trans ((s57.le).trans ((s74.le).trans ((s91.le).trans ((s101.le).trans ((s112.le).trans ((le249).trans ((le382).trans ((s400.le).trans ((s417.le).trans s435.le)))))))))))))) ob438) ?_
    rintro ch449 w450 ⟨ht451, h452, s453, ob448⟩
    refine Zd <| Zp ?_
    have S454 := S437.trans s453 (Zn (.inl (by simp)) Z04)
    exact ⟨_, rfl, ht451, h452, S454, ob448⟩
   replace HF := Z0j HF
   refine Wc rfl (Ze (vs := [pt b1 0, .string b'3]) rfl Z21) (Zj _ hr440 S437.sub (rs5.mono ((s12.le).trans ((s25.le).trans ((s39.le).trans ((s46.le).trans ((s57.le).trans ((s74.le).trans ((s91.le).trans ((s101.le).trans ((s112.le).trans ((le249).trans ((le382).trans ((s400.le).trans ((s417.le).trans s435.le)))))))))))))) ob438) ?_
   have ob455 := ((ob429.step1 s417 (Ne.symm ne14)).step1 s435 ne42)
   rintro v443 w444 ⟨h445, s446, rfl, ob456⟩
   have S457 := S437.trans s446 (Zn (.inl (by simp)) Z04)
   refine Z7 <| Z6 <| Zb <| Z1 ?_
   have ob458 := (ob436.step1 s446 (Ne.symm ne41))
   refine Wv rfl (Z16 (cs := [vi 5, .string r21.1, .slice none 0 0, .slice none 0 0, v388, vi x391, v427, .slice none 0 0, .slice none 0 0, .bool false]) rfl Z4g Z0h (OB.cells ob458 0 rfl)) ?_
   have ob459 := (ob455.step1 s446 (Ne.symm ne14))
   refine Zo (vs := [vi 5, .string r21.1, .slice none 0 0, .slice none 0 0, v388, vi x391, v427, .slice none 0 0, .slice none 0 0, .bool false]) rfl rfl rfl rfl Z0h (Z5 rfl (Z5 rfl (Z5 rfl (Z5 rfl (Z5 (RS.one (rs389.mono ((s400.le).trans ((s417.le).trans ((s435.le).trans s446.le))))) (Z5 rfl (Z5 (RS.one (rs428.mono ((s435.le).trans s446.le))) (Z5 rfl (Z5 rfl (Z5 rfl Zx)))))))))) ob459 S457.sub (by simp) (ds := [vi 5, .string r21.1, .slice none 0 0, .slice none 0 0, v388, vi x391, v427, .slice none 0 0, .slice none 0 0, .bool false]) rfl (fun w460 s461 ob462 => ?_)
   have S463 := S457.trans1 s461 (.inr g15)
   refine Z7 <| Z6 <| Z00 ?_
   have ob464 := (ob456.step1 s461 ne14)
   refine Z5p rfl rfl (Z11 (cs := [vi 5, .string r21.1, .slice none 0 0, .slice none 0 0, v388, vi x391, v427, .slice none 0 0, .slice none 0 0, .bool false]) Z4g Z0h (OB.cells ob462 0 rfl)) ?_
   obtain rfl := Option.some.inj HF
   exact ⟨_, rfl, h445, S463, ⟨_, rfl, (Zgz.2 ⟨_, _, _, _, _, _, rfl, (RS.nil _), (RS.nil _), (rs389.mono ((s400.le).trans ((s417.le).trans ((s435.le).trans ((s446.le).trans s461.le))))), (rs428.mono ((s435.le).trans ((s446.le).trans s461.le))), (RS.nil _), (RS.nil _)⟩)⟩, ob464⟩
  intro J465
  refine Zb <| Z1 <| Wm rfl rfl ?_
  obtain ⟨r259, hr260, HF⟩ := Z8 HF
  refine Wc rfl (Ze (vs := [pt b1 0, .string b'45]) rfl Z4r) (Z0n _ hr260 S250.sub (rs5.mono ((s12.le).trans ((s25.le).trans ((s39.le).trans ((s46.le).trans ((s57.le).trans ((s74.le).trans ((s91.le).trans ((s101.le).trans ((s112.le).trans le249)))))))))) ob252) ?_
  rintro _ w262 ⟨h263, s264, rfl, ob265⟩
  have S266 := S250.trans s264 (Zn (.inl (by simp)) Z04)
  refine Z7 <| Z6 <| Z17 HF rfl (fun HF => ?_) (fun HF => ?_)
  ·refine Zb <| Z1 <| Wm rfl rfl ?_
   obtain ⟨r268, hr269, HF⟩ := Z8 HF
   refine Wc rfl (Ze (vs := [pt b1 0, .string b'30]) rfl Z4r) (Z0n _ hr269 S266.sub (rs5.mono ((s12.le).trans ((s25.le).trans ((s39.le).trans ((s46.le).trans ((s57.le).trans ((s74.le).trans ((s91.le).trans ((s101.le).trans ((s112.le).trans ((le249).trans s264.le))))))))))) ob265) ?_
   have ob274 := (ob253.step1 s264 (Ne.symm ne14))
   have ob275 := (ob258.step1 s264 (Ne.symm ne41))
   rintro _ w271 ⟨h272, s273, rfl, ob276⟩
   have S277 := S266.trans s273 (Zn (.inl (by simp)) Z04)
   refine Wa rfl rfl <| Z7 <| Z6 <| Z09 (fun E w339 => ∃ (h338 : Hp) (xs344 : List Ex) (v345 : Value), Z8s k (Z9 k) xs3 r21 r268 xs344 = some r ∧ E = [(0, pt b1 0), (2, pt b10 0), (3, pt b37 0), (5, .bool r268.1)] ∧ Stp [b1] w0 h0 w339 h338 ∧ Hle h272 h338 ∧ RS h338 v345 xs344 ∧ Own w339 h338 w0.heap.size 47 6 v345 xs344.length ∧ OB w339 h338 b1 T2 [v4, vi r268.2] ∧ OB w339 h338 b10 56 [vi 0, .string b'47, .slice none 0 0, .slice none 0 0, .slice none 0 0, vi 0, .slice none 0 0, .slice none 0 0, .slice none 0 0, .bool false] ∧ OB w339 h338 b37 56 [vi 5, .string r21.1, .slice none 0 0, .slice none 0 0, v345, vi 1, .slice none 0 0, .slice none 0 0, .slice none 0 0, .bool false]) ?_ ?_
   ·rintro E w339 ⟨h338, xs344, v345, HF, rfl, S341, le340, rs346, ow347, ob342, ob343, ob348⟩
    refine Zb <| Z1 <| Wm rfl rfl ?_
    obtain ⟨r349, hr350, HF⟩ := Z8 HF
    rcases r349 with t351 | r352
    ·obtain rfl := Z01 HF
     refine Z0i rfl (Ze (vs := [pt b1 0]) rfl Zez) (Z36 _ hr350 S341.sub (rs5.mono ((s12.le).trans ((s25.le).trans ((s39.le).trans ((s46.le).trans ((s57.le).trans ((s74.le).trans ((s91.le).trans ((s101.le).trans ((s112.le).trans ((le249).trans ((s264.le).trans ((s273.le).trans le340))))))))))))) ob342) ?_
     rintro ch358 w359 ⟨ht360, h361, s362, ob357⟩
     refine Zd <| Zd <| Zp ?_
     have S363 := S341.trans s362 (Zn (.inl (by simp)) Z04)
     exact ⟨_, rfl, ht360, h361, S363, ob357⟩
    replace HF := Z0j HF
    refine Wc rfl (Ze (vs := [pt b1 0]) rfl Zez) (Z36 _ hr350 S341.sub (rs5.mono ((s12.le).trans ((s25.le).trans ((s39.le).trans ((s46.le).trans ((s57.le).trans ((s74.le).trans ((s91.le).trans ((s101.le).trans ((s112.le).trans ((le249).trans ((s264.le).trans ((s273.le).trans le340))))))))))))) ob342) ?_
    rintro _ w354 ⟨h355, s356, rfl, ob364⟩
    have S365 := S341.trans s356 (Zn (.inl (by simp)) Z04)
    refine Wv rfl (Z2 rfl Z5d) ?_
    have ob366 := (ob348.step1 s356 (Ne.symm ne41))
    refine Zo (vs := [vi r352.1]) rfl rfl rfl rfl Z1p (Z5 rfl Zx) ob366 S365.sub (by simp) (ds := [vi 5, .string r21.1, .slice none 0 0, .slice none 0 0, v345, vi r352.1, .slice none 0 0, .slice none 0 0, .slice none 0 0, .bool false]) rfl (fun w367 s368 ob369 => ?_)
    have S370 := S365.trans1 s368 (.inr g43)
    refine Z7 <| Z6 <| Zb <| Z1 <| Wm rfl rfl <| Z7 <| Z6 <| Z17 HF rfl (fun HF => ?_) (fun HF => ?_)
    ·refine Z1 <| Wv rfl (Z2 rfl Z5d) <| Wv rfl (Zc rfl Z0f (OB.cell ob369 (j := 5) rfl)) <| Wv rfl (ov_neg rfl) <| Wv rfl (Z2 rfl Z5d) <| Zo (vs := [vi (IntKind.i64.wrap (0 - r352.1))]) rfl rfl rfl rfl Z1p (Z5 rfl Zx) ob369 S370.sub (by simp) (ds := [vi 5, .string r21.1, .slice none 0 0, .slice none 0 0, v345, vi (IntKind.i64.wrap (0 - r352.1)), .slice none 0 0, .slice none 0 0, .slice none 0 0, .bool false]) rfl (fun w372 s373 ob374 => ?_)
     have S375 := S370.trans1 s373 (.inr g43)
     refine Z7 ?_
     have ob466 := ((ob364.step1 s368 ne41).step1 s373 ne41)
     have ob467 := (((ob343.step1 s356 (Ne.symm ne14)).step1 s368 ne42).step1 s373 ne42)
     refine Z0g [0, 2, 3] _ rfl ?_
     exact J465 ⟨h355, r352.2, xs344, v345, IntKind.i64.wrap (0 - r352.1), HF, rfl, S375, (s264.le).trans ((s273.le).trans ((le340).trans ((s356.le).trans ((s368.le).trans s373.le)))), (rs346.mono ((s356.le).trans ((s368.le).trans s373.le))), (((ow347.step s356 (Z4 (ow347.ne_old lt8) Za)).step s368 (Z4 ((ow347.step s356 (Z4 (ow347.ne_old lt8) Za)).ne_ob ob366 (by decide)) Za)).step s373 (Z4 (((ow347.step s356 (Z4 (ow347.ne_old lt8) Za)).step s368 (Z4 ((ow347.step s356 (Z4 (ow347.ne_old lt8) Za)).ne_ob ob366 (by decide)) Za)).ne_ob ob369 (by decide)) Za)), ob466, ob467, ob374⟩
    refine Zm ?_
    have ob468 := (ob364.step1 s368 ne41)
    have ob469 := ((ob343.step1 s356 (Ne.symm ne14)).step1 s368 ne42)
    refine Z0g [0, 2, 3] _ rfl ?_
    exact J465 ⟨h355, r352.2, xs344, v345, r352.1, HF, rfl, S370, (s264.le).trans ((s273.le).trans ((le340).trans ((s356.le).trans s368.le))), (rs346.mono ((s356.le).trans s368.le)), ((ow347.step s356 (Z4 (ow347.ne_old lt8) Za)).step s368 (Z4 ((ow347.step s356 (Z4 (ow347.ne_old lt8) Za)).ne_ob ob366 (by decide)) Za)), ob468, ob469, ob369⟩
   intro J376
   refine Z09 (fun E w303 => ∃ (h302 : Hp) (x306 : Bool) (xs309 : List Ex) (v310 : Value), Z8p k (Z9 k) xs3 r21 r268 x306 xs309 = some r ∧ E = [(0, pt b1 0), (2, pt b10 0), (3, pt b37 0), (5, .bool r268.1), (33, .bool x306)] ∧ Stp [b1] w0 h0 w303 h302 ∧ Hle h272 h302 ∧ RS h302 v310 xs309 ∧ Own w303 h302 w0.heap.size 47 6 v310 xs309.length ∧ OB w303 h302 b1 T2 [v4, vi r268.2] ∧ OB w303 h302 b10 56 [vi 0, .string b'47, .slice none 0 0, .slice none 0 0, .slice none 0 0, vi 0, .slice none 0 0, .slice none 0 0, .slice none 0 0, .bool false] ∧ OB w303 h302 b37 56 [vi 5, .string r21.1, .slice none 0 0, .slice none 0 0, v310, vi 1, .slice none 0 0, .slice none 0 0, .slice none 0 0, .bool false]) ?_ ?_
   ·rintro E w303 ⟨h302, x306, xs309, v310, HF, rfl, S305, le304, rs311, ow312, ob307, ob308, ob313⟩
    refine Z17 HF rfl (fun HF => ?_) (fun HF => ?_)
    ·refine Z1 <| Wm rfl rfl ?_
     obtain ⟨r315, hr316, HF⟩ := Z8 HF
     rcases r315 with t317 | r318
     ·obtain rfl := Z01 HF
      refine Z0i rfl (Ze (vs := [pt b1 0]) rfl Z98) (Z1m _ hr316 S305.sub (rs5.mono ((s12.le).trans ((s25.le).trans ((s39.le).trans ((s46.le).trans ((s57.le).trans ((s74.le).trans ((s91.le).trans ((s101.le).trans ((s112.le).trans ((le249).trans ((s264.le).trans ((s273.le).trans le304))))))))))))) ob307) ?_
      rintro ch323 w324 ⟨ht325, h326, s327⟩
      refine Zd <| Zd <| Zp ?_
      have S328 := S305.trans0 s327
      have ob329 := (ob307.step0 s327)
      exact ⟨_, rfl, ht325, h326, S328, ob329⟩
     replace HF := Z0j HF
     refine Wc rfl (Ze (vs := [pt b1 0]) rfl Z98) (Z1m _ hr316 S305.sub (rs5.mono ((s12.le).trans ((s25.le).trans ((s39.le).trans ((s46.le).trans ((s57.le).trans ((s74.le).trans ((s91.le).trans ((s101.le).trans ((s112.le).trans ((le249).trans ((s264.le).trans ((s273.le).trans le304))))))))))))) ob307) ?_
     rintro v319 w320 ⟨h321, s322, rfl⟩
     have S330 := S305.trans0 s322
     refine Z7 ?_
     have ob377 := (ob307.step0 s322)
     have ob378 := (ob308.step0 s322)
     have ob379 := (ob313.step0 s322)
     refine Z0g [0, 2, 3, 5] _ rfl ?_
     exact J376 ⟨h321, xs309, v310, HF, rfl, S330, (le304).trans s322.le, (rs311.mono (s322.le)), (ow312.step0 s322), ob377, ob378, ob379⟩
    refine Zm <| Z0g [0, 2, 3, 5] _ rfl ?_
    exact J376 ⟨h302, xs309, v310, HF, rfl, S305, le304, rs311, ow312, ob307, ob308, ob313⟩
   intro J331
   refine Z1 <| Wm rfl rfl ?_
   obtain ⟨r278, hr279, HF⟩ := Z8 HF
   refine Wc rfl (Ze (vs := [pt b1 0]) rfl Z7s) (Z1b _ hr279 S277.sub (rs5.mono ((s12.le).trans ((s25.le).trans ((s39.le).trans ((s46.le).trans ((s57.le).trans ((s74.le).trans ((s91.le).trans ((s101.le).trans ((s112.le).trans ((le249).trans ((s264.le).trans s273.le)))))))))))) ob276) ?_
   have ob286 := (ob274.step1 s273 (Ne.symm ne14))
   have ob287 := (ob275.step1 s273 (Ne.symm ne41))
   rintro _ w281 ⟨h282, s283, ⟨cs284, rfl, r285⟩⟩
   have S288 := S277.trans0 s283
   obtain rfl := Z62.1 r285
   refine Wv rfl (Za7 rfl Zd6 Z0f rfl) <| Wv rfl (Z4n rfl rfl) <| Wm rfl rfl <| Z3g 28 HF rfl (fun HF => ?_) (fun HF => ?_)
   ·refine Wm rfl rfl ?_
    have ob290 := (ob276.step0 s283)
    obtain ⟨r291, hr292, HF⟩ := Z8 HF
    refine Wc rfl (Ze (vs := [pt b1 0]) rfl Z7s) (Z1b _ hr292 S288.sub (rs5.mono ((s12.le).trans ((s25.le).trans ((s39.le).trans ((s46.le).trans ((s57.le).trans ((s74.le).trans ((s91.le).trans ((s101.le).trans ((s112.le).trans ((le249).trans ((s264.le).trans ((s273.le).trans s283.le))))))))))))) ob290) ?_
    have ob299 := (ob286.step0 s283)
    have ob300 := (ob287.step0 s283)
    rintro _ w294 ⟨h295, s296, ⟨cs297, rfl, r298⟩⟩
    have S301 := S288.trans0 s296
    obtain rfl := Z62.1 r298
    refine Wv rfl (Za7 rfl t_fld_38_1 Z2r rfl) <| Wv rfl (Z0d rfl rfl) <| Wv rfl (Zh rfl rfl) <| Z7 ?_
    have ob332 := (ob290.step0 s296)
    have ob333 := (ob299.step0 s296)
    have ob334 := (ob300.step0 s296)
    refine Z0g [0, 2, 3, 5, 33] _ rfl ?_
    exact J331 ⟨h295, bEq r291.text (⟨#[48]⟩ : ByteArray), xs254, v255, HF, rfl, S301, (s283.le).trans s296.le, (rs256.mono ((s264.le).trans ((s273.le).trans ((s283.le).trans s296.le)))), ((((ow257.step s264 (Z4 (ow257.ne_old lt8) Za)).step s273 (Z4 ((ow257.step s264 (Z4 (ow257.ne_old lt8) Za)).ne_old lt8) Za)).step0 s283).step0 s296), ob332, ob333, ob334⟩
   refine Wp rfl <| Wp rfl <| Wp rfl <| Wp rfl <| Wv rfl (Zg rfl rfl) <| Z7 ?_
   have ob335 := (ob276.step0 s283)
   have ob336 := (ob286.step0 s283)
   have ob337 := (ob287.step0 s283)
   refine Z0g [0, 2, 3, 5, 33] _ rfl ?_
   exact J331 ⟨h282, false, xs254, v255, HF, rfl, S288, s283.le, (rs256.mono ((s264.le).trans ((s273.le).trans s283.le))), (((ow257.step s264 (Z4 (ow257.ne_old lt8) Za)).step s273 (Z4 ((ow257.step s264 (Z4 (ow257.ne_old lt8) Za)).ne_old lt8) Za)).step0 s283), ob335, ob336, ob337⟩
  refine Zm ?_
  have ob470 := (ob253.step1 s264 (Ne.symm ne14))
  have ob471 := (ob258.step1 s264 (Ne.symm ne41))
  refine Z0g [0, 2, 3] _ rfl ?_
  exact J465 ⟨h263, r259.2, xs254, v255, 1, HF, rfl, S266, s264.le, (rs256.mono (s264.le)), (ow257.step s264 (Z4 (ow257.ne_old lt8) Za)), ob265, ob470, ob471⟩
 intro J472
 refine WC.drawnA Z3f S121.sub (fun w122 s123 => ?_)
 have S124 := S121.trans0 s123
 refine WA.two (i := 0) (j := 1) (by kernel_rfl) rfl rfl ?_ ?_
 ·skip
  have ob125 := ((ob102.step1 s112 (Ne.symm ne93)).step0 s123)
  refine Wv rfl (Z16 (cs := [vi r70.1.op, vi r70.1.kind, vi r70.1.n, .string r70.1.s, .string r70.1.f, v98]) rfl Z2a Zw (OB.cells ob125 0 rfl)) <| Z7 <| Z1f <| WA.one (i := 1) (by kernel_rfl) rfl <| Wm rfl rfl <| Z7 <| Z1f <| WA.one (i := 2) (by kernel_rfl) rfl ?_
  have ob126 := (ob120.step0 s123)
  obtain ⟨r127, hr128, HF⟩ := Z8 HF
  rcases r127 with t129 | r130
  ·obtain rfl := Z01 HF
   refine Z0i rfl (Ze (vs := [pt b1 0]) rfl Z3e) (Z05 _ hr128 S124.sub (rs5.mono ((s12.le).trans ((s25.le).trans ((s39.le).trans ((s46.le).trans ((s57.le).trans ((s74.le).trans ((s91.le).trans ((s101.le).trans ((s112.le).trans s123.le)))))))))) ob126) ?_
   rintro ch136 w137 ⟨ht138, h139, s140, ob135⟩
   refine WQ.anyPanic <| Zd <| Zp ?_
   have S141 := S124.trans s140 (Zn (.inl (by simp)) Z04)
   exact ⟨_, rfl, ht138, h139, S141, ob135⟩
  replace HF := Z0j HF
  refine Wc rfl (Ze (vs := [pt b1 0]) rfl Z3e) (Z05 _ hr128 S124.sub (rs5.mono ((s12.le).trans ((s25.le).trans ((s39.le).trans ((s46.le).trans ((s57.le).trans ((s74.le).trans ((s91.le).trans ((s101.le).trans ((s112.le).trans s123.le)))))))))) ob126) ?_
  rintro _ w132 ⟨h133, s134, ⟨cs142, rfl, r143⟩, ob144⟩
  have S145 := S124.trans s134 (Zn (.inl (by simp)) Z04)
  refine Z7 <| Z1f <| WA.one (i := 3) (by kernel_rfl) rfl ?_
  obtain ⟨v146, rfl, rs147⟩ := Z7n.1 r143
  have ob155 := (((((ob86.step0 s91).step1 s101 ne94).step1 s112 (Ne.symm ne14)).step0 s123).step1 s134 (Ne.symm ne14))
  have ob156 := (((((ob87.step0 s91).step1 s101 ne95).step1 s112 (Ne.symm ne41)).step0 s123).step1 s134 (Ne.symm ne41))
  have ob157 := (ob125.step1 s134 (Ne.symm ne93))
  refine Z14 (us := [.agg #[vi r70.1.op, vi r70.1.kind, vi r70.1.n, .string r70.1.s, .string r70.1.f, v98], .agg #[vi r130.1.op, vi r130.1.kind, vi r130.1.n, .string r130.1.s, .string r130.1.f, v146]]) (cs := [vi r70.1.op, vi r70.1.kind, vi r70.1.n, .string r70.1.s, .string r70.1.f, v98, vi r130.1.op, vi r130.1.kind, vi r130.1.n, .string r130.1.s, .string r130.1.f, v146]) rfl rfl rfl Z0y Zw Z1t rfl (Z4a rfl (Z4a rfl Zc3)) rfl rfl rfl S145.sub (fun w148 h149 b150 hb151 s152 hk153 hc154 => ?_)
  have S158 := S145.trans0 s152
  have rs159 : RS h149 (sl b150 0 2 2) ([(Ex.mk r70.1.op r70.1.kind r70.1.n r70.1.s r70.1.f r70.1.args), r130.1] : List Ex) := RS.litL _ [[vi r70.1.op, vi r70.1.kind, vi r70.1.n, .string r70.1.s, .string r70.1.f, v98], [vi r130.1.op, vi r130.1.kind, vi r130.1.n, .string r130.1.s, .string r130.1.f, v146]] rfl rfl hc154 ⟨(Z7n.2 ⟨_, rfl, (rs99.mono ((s101.le).trans ((s112.le).trans ((s123.le).trans ((s134.le).trans s152.le)))))⟩), (Z7n.2 ⟨_, rfl, (rs147.mono (s152.le))⟩), trivial⟩
  have ow160 := Own.lit (base := w0.heap.size) (sz := 6) (m := 2) hk153 hc154 (by rw [hb151]; exact S145.size) rfl (by decide)
  refine Z7 <| Z1f <| WA.one (i := 4) (by kernel_rfl) rfl <| Wv rfl (Z2 rfl Z3o) <| Z7 <| Z1f <| WA.one (i := 5) (by kernel_rfl) rfl ?_
  have ob161 := (ob156.step0 s152)
  refine Zo (vs := [sl b150 0 2 2]) rfl rfl rfl rfl Zcs (Z5 rfl Zx) ob161 S158.sub (by simp) (ds := [vi 5, .string r21.1, .slice none 0 0, .slice none 0 0, sl b150 0 2 2, vi 1, .slice none 0 0, .slice none 0 0, .slice none 0 0, .bool false]) rfl (fun w162 s163 ob164 => ?_)
  have S165 := S158.trans1 s163 (.inr g43)
  refine Z7 <| Z1f <| WA.fin (by kernel_rfl) ?_
  have ob473 := ((ob144.step0 s152).step1 s163 ne41)
  have ob474 := ((ob155.step0 s152).step1 s163 ne42)
  refine Z0g [0, 2, 3] _ rfl ?_
  exact J472 ⟨h149, r130.2, [(Ex.mk r70.1.op r70.1.kind r70.1.n r70.1.s r70.1.f r70.1.args), r130.1], sl b150 0 2 2, HF, rfl, S165, (s123.le).trans ((s134.le).trans ((s152.le).trans s163.le)), (rs159.mono (s163.le)), (ow160.step s163 (Z4 (ow160.ne_ob ob161 (by decide)) Za)), ob473, ob474, ob164⟩
 skip
 refine Wm rfl rfl <| Z7 <| Z1f <| WA.two (i := 0) (j := 2) (by kernel_rfl) rfl rfl ?_ ?_
 ·skip
  have ob166 := ((ob102.step1 s112 (Ne.symm ne93)).step0 s123)
  refine Wv rfl (Z16 (cs := [vi r70.1.op, vi r70.1.kind, vi r70.1.n, .string r70.1.s, .string r70.1.f, v98]) rfl Z2a Zw (OB.cells ob166 0 rfl)) <| Z7 <| Z1f <| WA.one (i := 2) (by kernel_rfl) rfl ?_
  have ob167 := (ob120.step0 s123)
  obtain ⟨r168, hr169, HF⟩ := Z8 HF
  rcases r168 with t170 | r171
  ·obtain rfl := Z01 HF
   refine Z0i rfl (Ze (vs := [pt b1 0]) rfl Z3e) (Z05 _ hr169 S124.sub (rs5.mono ((s12.le).trans ((s25.le).trans ((s39.le).trans ((s46.le).trans ((s57.le).trans ((s74.le).trans ((s91.le).trans ((s101.le).trans ((s112.le).trans s123.le)))))))))) ob167) ?_
   rintro ch177 w178 ⟨ht179, h180, s181, ob176⟩
   refine WQ.anyPanic <| Zd <| Zp ?_
   have S182 := S124.trans s181 (Zn (.inl (by simp)) Z04)
   exact ⟨_, rfl, ht179, h180, S182, ob176⟩
  replace HF := Z0j HF
  refine Wc rfl (Ze (vs := [pt b1 0]) rfl Z3e) (Z05 _ hr169 S124.sub (rs5.mono ((s12.le).trans ((s25.le).trans ((s39.le).trans ((s46.le).trans ((s57.le).trans ((s74.le).trans ((s91.le).trans ((s101.le).trans ((s112.le).trans s123.le)))))))))) ob167) ?_
  rintro _ w173 ⟨h174, s175, ⟨cs183, rfl, r184⟩, ob185⟩
  have S186 := S124.trans s175 (Zn (.inl (by simp)) Z04)
  refine Z7 <| Z1f <| WA.one (i := 3) (by kernel_rfl) rfl ?_
  obtain ⟨v187, rfl, rs188⟩ := Z7n.1 r184
  have ob196 := (((((ob86.step0 s91).step1 s101 ne94).step1 s112 (Ne.symm ne14)).step0 s123).step1 s175 (Ne.symm ne14))
  have ob197 := (((((ob87.step0 s91).step1 s101 ne95).step1 s112 (Ne.symm ne41)).step0 s123).step1 s175 (Ne.symm ne41))
  have ob198 := (ob166.step1 s175 (Ne.symm ne93))
  refine Z14 (us := [.agg #[vi r70.1.op, vi r70.1.kind, vi r70.1.n, .string r70.1.s, .string r70.1.f, v98], .agg #[vi r171.1.op, vi r171.1.kind, vi r171.1.n, .string r171.1.s, .string r171.1.f, v187]]) (cs := [vi r70.1.op, vi r70.1.kind, vi r70.1.n, .string r70.1.s, .string r70.1.f, v98, vi r171.1.op, vi r171.1.kind, vi r171.1.n, .string r171.1.s, .string r171.1.f, v187]) rfl rfl rfl Z0y Zw Z1t rfl (Z4a rfl (Z4a rfl Zc3)) rfl rfl rfl S186.sub (fun w189 h190 b191 hb192 s193 hk194 hc195 => ?_)
  have S199 := S186.trans0 s193
  have rs200 : RS h190 (sl b191 0 2 2) ([(Ex.mk r70.1.op r70.1.kind r70.1.n r70.1.s r70.1.f r70.1.args), r171.1] : List Ex) := RS.litL _ [[vi r70.1.op, vi r70.1.kind, vi r70.1.n, .string r70.1.s, .string r70.1.f, v98], [vi r171.1.op, vi r171.1.kind, vi r171.1.n, .string r171.1.s, .string r171.1.f, v187]] rfl rfl hc195 ⟨(Z7n.2 ⟨_, rfl, (rs99.mono ((s101.le).trans ((s112.le).trans ((s123.le).trans ((s175.le).trans s193.le)))))⟩), (Z7n.2 ⟨_, rfl, (rs188.mono (s193.le))⟩), trivial⟩
  have ow201 := Own.lit (base := w0.heap.size) (sz := 6) (m := 2) hk194 hc195 (by rw [hb192]; exact S186.size) rfl (by decide)
  refine Z7 <| Z1f <| WA.one (i := 4) (by kernel_rfl) rfl <| Wv rfl (Z2 rfl Z3o) <| Z7 <| Z1f <| WA.one (i := 5) (by kernel_rfl) rfl ?_
  have ob202 := (ob197.step0 s193)
  refine Zo (vs := [sl b191 0 2 2]) rfl rfl rfl rfl Zcs (Z5 rfl Zx) ob202 S199.sub (by simp) (ds := [vi 5, .string r21.1, .slice none 0 0, .slice none 0 0, sl b191 0 2 2, vi 1, .slice none 0 0, .slice none 0 0, .slice none 0 0, .bool false]) rfl (fun w203 s204 ob205 => ?_)
  have S206 := S199.trans1 s204 (.inr g43)
  refine Z7 <| Z1f <| WA.fin (by kernel_rfl) ?_
  have ob475 := ((ob185.step0 s193).step1 s204 ne41)
  have ob476 := ((ob196.step0 s193).step1 s204 ne42)
  refine Z0g [0, 2, 3] _ rfl ?_
  exact J472 ⟨h190, r171.2, [(Ex.mk r70.1.op r70.1.kind r70.1.n r70.1.s r70.1.f r70.1.args), r171.1], sl b191 0 2 2, HF, rfl, S206, (s123.le).trans ((s175.le).trans ((s193.le).trans s204.le)), (rs200.mono (s204.le)), (ow201.step s204 (Z4 (ow201.ne_ob ob202 (by decide)) Za)), ob475, ob476, ob205⟩
 skip
 have ob207 := (ob120.step0 s123)
 obtain ⟨r208, hr209, HF⟩ := Z8 HF
 rcases r208 with t210 | r211
 ·obtain rfl := Z01 HF
  refine Z0i rfl (Ze (vs := [pt b1 0]) rfl Z3e) (Z05 _ hr209 S124.sub (rs5.mono ((s12.le).trans ((s25.le).trans ((s39.le).trans ((s46.le).trans ((s57.le).trans ((s74.le).trans ((s91.le).trans ((s101.le).trans ((s112.le).trans s123.le)))))))))) ob207) ?_
  rintro ch217 w218 ⟨ht219, h220, s221, ob216⟩
  refine WQ.anyPanic <| Zd <| Zp ?_
  have S222 := S124.trans s221 (Zn (.inl (by simp)) Z04)
  exact ⟨_, rfl, ht219, h220, S222, ob216⟩
 replace HF := Z0j HF
 refine Wc rfl (Ze (vs := [pt b1 0]) rfl Z3e) (Z05 _ hr209 S124.sub (rs5.mono ((s12.le).trans ((s25.le).trans ((s39.le).trans ((s46.le).trans ((s57.le).trans ((s74.le).trans ((s91.le).trans ((s101.le).trans ((s112.le).trans s123.le)))))))))) ob207) ?_
 rintro _ w213 ⟨h214, s215, ⟨cs223, rfl, r224⟩, ob225⟩
 have S226 := S124.trans s215 (Zn (.inl (by simp)) Z04)
 refine Z7 <| Z1f <| WA.one (i := 0) (by kernel_rfl) rfl ?_
 have ob227 := (((ob102.step1 s112 (Ne.symm ne93)).step0 s123).step1 s215 (Ne.symm ne93))
 refine Wv rfl (Z16 (cs := [vi r70.1.op, vi r70.1.kind, vi r70.1.n, .string r70.1.s, .string r70.1.f, v98]) rfl Z2a Zw (OB.cells ob227 0 rfl)) <| Z7 <| Z1f <| WA.one (i := 3) (by kernel_rfl) rfl ?_
 obtain ⟨v228, rfl, rs229⟩ := Z7n.1 r224
 have ob237 := (((((ob86.step0 s91).step1 s101 ne94).step1 s112 (Ne.symm ne14)).step0 s123).step1 s215 (Ne.symm ne14))
 have ob238 := (((((ob87.step0 s91).step1 s101 ne95).step1 s112 (Ne.symm ne41)).step0 s123).step1 s215 (Ne.symm ne41))
 refine Z14 (us := [.agg #[vi r70.1.op, vi r70.1.kind, vi r70.1.n, .string r70.1.s, .string r70.1.f, v98], .agg #[vi r211.1.op, vi r211.1.kind, vi r211.1.n, .string r211.1.s, .string r211.1.f, v228]]) (cs := [vi r70.1.op, vi r70.1.kind, vi r70.1.n, .string r70.1.s, .string r70.1.f, v98, vi r211.1.op, vi r211.1.kind, vi r211.1.n, .string r211.1.s, .string r211.1.f, v228]) rfl rfl rfl Z0y Zw Z1t rfl (Z4a rfl (Z4a rfl Zc3)) rfl rfl rfl S226.sub (fun w230 h231 b232 hb233 s234 hk235 hc236 => ?_)
 have S239 := S226.trans0 s234
 have rs240 : RS h231 (sl b232 0 2 2) ([(Ex.mk r70.1.op r70.1.kind r70.1.n r70.1.s r70.1.f r70.1.args), r211.1] : List Ex) := RS.litL _ [[vi r70.1.op, vi r70.1.kind, vi r70.1.n, .string r70.1.s, .string r70.1.f, v98], [vi r211.1.op, vi r211.1.kind, vi r211.1.n, .string r211.1.s, .string r211.1.f, v228]] rfl rfl hc236 ⟨(Z7n.2 ⟨_, rfl, (rs99.mono ((s101.le).trans ((s112.le).trans ((s123.le).trans ((s215.le).trans s234.le)))))⟩), (Z7n.2 ⟨_, rfl, (rs229.mono (s234.le))⟩), trivial⟩
 have ow241 := Own.lit (base := w0.heap.size) (sz := 6) (m := 2) hk235 hc236 (by rw [hb233]; exact S226.size) rfl (by decide)
 refine Z7 <| Z1f <| WA.one (i := 4) (by kernel_rfl) rfl <| Wv rfl (Z2 rfl Z3o) <| Z7 <| Z1f <| WA.one (i := 5) (by kernel_rfl) rfl ?_
 have ob242 := (ob238.step0 s234)
 refine Zo (vs := [sl b232 0 2 2]) rfl rfl rfl rfl Zcs (Z5 rfl Zx) ob242 S239.sub (by simp) (ds := [vi 5, .string r21.1, .slice none 0 0, .slice none 0 0, sl b232 0 2 2, vi 1, .slice none 0 0, .slice none 0 0, .slice none 0 0, .bool false]) rfl (fun w243 s244 ob245 => ?_)
 have S246 := S239.trans1 s244 (.inr g43)
 refine Z7 <| Z1f <| WA.fin (by kernel_rfl) ?_
 have ob477 := ((ob225.step0 s234).step1 s244 ne41)
 have ob478 := ((ob237.step0 s234).step1 s244 ne42)
 refine Z0g [0, 2, 3] _ rfl ?_
 exact J472 ⟨h231, r211.2, [(Ex.mk r70.1.op r70.1.kind r70.1.n r70.1.s r70.1.f r70.1.args), r211.1], sl b232 0 2 2, HF, rfl, S246, (s123.le).trans ((s215.le).trans ((s234.le).trans s244.le)), (rs240.mono (s244.le)), (ow241.step s244 (Z4 (ow241.ne_ob ob242 (by decide)) Za)), ob477, ob478, ob245⟩
theorem s_parse_Parser_other (k : Nat) (IH : ∀ j, j ≤ k → Z2b (Z9 j).parse_Parser_Text ∧ Z2i (Z9 j).parse_Parser_count ∧ Z2h (Z9 j).parse_Parser_other ∧ Z2g (Z9 j).parse_Parser_while ∧ Z28 (Z9 j).parse_Parser_branch ∧ Z27 (Z9 j).parse_Parser_choice ∧ Z26 (Z9 j).parse_Parser_repeat) : Z2h (Ze4 k (Z9 k)) := by
 intro xs3 x6 x10 x11 xs12 xs15 xs18 x21 xs22 xs25 xs28 x31 r HF w0 h0 b1 T2 v4 b8 T9 v13 v16 v19 v23 v26 v29 hs0 rs5 rs14 rs17 rs20 rs24 rs27 rs30 ob7 ob32 ne33
 have S0 : Stp [b1, b8] w0 h0 w0 h0 := Stp.refl hs0 _
 have lt34 : b1 < w0.heap.size := OB.lt ob7
 have lt35 : b8 < w0.heap.size := OB.lt ob32
 refine Z4j (n := 14) Tryz.func156 rfl Tryz.ntmps156 rfl [(0, pt b1 0), (1, pt b8 0)] rfl <| Zb <| Z1 <| Wm rfl rfl ?_
 obtain ⟨r36, hr37, HF⟩ := Z8 HF
 refine Wc rfl (Ze (vs := [pt b1 0, .string b'1]) rfl Z4r) (Z0n _ hr37 S0.sub rs5 ob7) ?_
 rintro _ w39 ⟨h40, s41, rfl, ob42⟩
 have S43 := S0.trans s41 (Zn (.inl (by simp)) Z04)
 refine Z7 <| Z6 <| Z17 HF rfl (fun HF => ?_) (fun HF => ?_)
 ·refine Zb <| Z1 <| Wm rfl rfl <| Wv rfl (Zs rfl) <| Wv rfl (Z2 rfl Z5a) ?_
  have ob45 := (ob32.step1 s41 (Ne.symm ne33))
  refine Zo (vs := [.bool true]) rfl rfl rfl rfl t_size_4 (Z5 rfl Zx) ob45 S43.sub (by simp) (ds := [vi x10, .string x11, v13, v16, v19, vi x21, v23, v26, v29, .bool true]) rfl (fun w46 s47 ob48 => ?_)
  have S49 := S43.trans1 s47 (.inl (by simp))
  refine Z7 <| Z6 <| Z1 <| Wm rfl rfl <| Wm rfl rfl ?_
  have ob50 := (ob42.step1 s47 ne33)
  obtain ⟨r51, hr52, HF⟩ := Z8 HF
  rcases r51 with t53 | r54
  ·obtain rfl := Z01 HF
   refine Z0i rfl (Ze (vs := [pt b1 0]) rfl Z8r) ((IH _ (Nat.le_refl _)).1 hr52 S49.sub (rs5.mono ((s41.le).trans s47.le)) ob50) ?_
   rintro ch60 w61 ⟨ht62, h63, s64, ob59⟩
   refine Zp ?_
   have S65 := S49.trans s64 (Zn (.inl (by simp)) Z04)
   have ob66 := (ob48.step1 s64 (Ne.symm ne33))
   exact ⟨_, rfl, ht62, h63, S65, ob59, ⟨_, (rs30.mono ((s41.le).trans ((s47.le).trans s64.le))), ob66⟩⟩
  replace HF := Z0j HF
  refine Wc rfl (Ze (vs := [pt b1 0]) rfl Z8r) ((IH _ (Nat.le_refl _)).1 hr52 S49.sub (rs5.mono ((s41.le).trans s47.le)) ob50) ?_
  rintro v67 w56 ⟨h57, s58, rs68, ob69⟩
  have S70 := S49.trans s58 (Zn (.inl (by simp)) Z04)
  refine Wv rfl (Zs rfl) <| Wv rfl (Z2 rfl Z5f) ?_
  have ob71 := (ob48.step1 s58 (Ne.symm ne33))
  refine Zo (vs := [v67]) rfl rfl rfl (RS.cellsL rs68) Zgv (Z5 (RS.one rs68) Zx) ob71 S70.sub (by simp) (ds := [vi x10, .string x11, v13, v16, v19, vi x21, v23, v26, v67, .bool true]) rfl (fun w72 s73 ob74 => ?_)
  have S75 := S70.trans1 s73 (.inl (by simp))
  refine Z7 ?_
  have ob76 := (ob69.step1 s73 ne33)
  refine Zb0 rfl ?_
  obtain rfl := Option.some.inj HF
  exact ⟨_, rfl, h57, S75, rfl, ob76, ⟨_, (rs68.mono (s73.le)), ob74⟩⟩
 refine Zm ?_
 have ob77 := (ob32.step1 s41 (Ne.symm ne33))
 refine Zb0 rfl ?_
 obtain rfl := Option.some.inj HF
 exact ⟨_, rfl, h40, S43, rfl, ob42, ⟨_, (rs30.mono (s41.le)), ob77⟩⟩
theorem s_parse_Parser_while (k : Nat) (IH : ∀ j, j ≤ k → Z2b (Z9 j).parse_Parser_Text ∧ Z2i (Z9 j).parse_Parser_count ∧ Z2h (Z9 j).parse_Parser_other ∧ Z2g (Z9 j).parse_Parser_while ∧ Z28 (Z9 j).parse_Parser_branch ∧ Z27 (Z9 j).parse_Parser_choice ∧ Z26 (Z9 j).parse_Parser_repeat) : Z2g (Zdh k (Z9 k)) := by
 intro xs3 x6 r HF w0 h0 b1 T2 v4 hs0 rs5 ob7
 have S0 : Stp [b1] w0 h0 w0 h0 := Stp.refl hs0 _
 have lt8 : b1 < w0.heap.size := OB.lt ob7
 refine Z4j (n := 16) Tryz.func103 rfl Tryz.ntmps103 rfl [(0, pt b1 0)] rfl <| Zb <| Z1 <| Z15 (zs := [vi 0, .string b'47, .slice none 0 0, .slice none 0 0, .slice none 0 0, vi 0, .slice none 0 0, .slice none 0 0, .slice none 0 0, .bool false]) rfl rfl Z2n rfl S0.sub (fun w9 b10 hb11 s12 ob13 => ?_)
 have ne14 : b1 ≠ b10 := ob7.ne_new hb11
 have g15 : w0.heap.size ≤ b10 := by rw [hb11]; exact S0.size
 have S16 := S0.trans0 s12
 refine Z7 <| Z6 <| Zb <| Z1 <| Wm rfl rfl ?_
 have ob17 := (ob7.step0 s12)
 obtain ⟨r18, hr19, HF⟩ := Z8 HF
 rcases r18 with t20 | r21
 ·obtain rfl := Z01 HF
  refine Z0i rfl (Ze (vs := [pt b1 0]) rfl Z3e) (Z05 _ hr19 S16.sub (rs5.mono (s12.le)) ob17) ?_
  rintro ch27 w28 ⟨ht29, h30, s31, ob26⟩
  refine Zd <| Zp ?_
  have S32 := S16.trans s31 (Zn (.inl (by simp)) Z04)
  exact ⟨_, rfl, ht29, h30, S32, ob26⟩
 replace HF := Z0j HF
 refine Wc rfl (Ze (vs := [pt b1 0]) rfl Z3e) (Z05 _ hr19 S16.sub (rs5.mono (s12.le)) ob17) ?_
 rintro _ w23 ⟨h24, s25, ⟨cs33, rfl, r34⟩, ob35⟩
 have S36 := S16.trans s25 (Zn (.inl (by simp)) Z04)
 obtain ⟨v37, rfl, rs38⟩ := Z7n.1 r34
 have ob46 := (ob13.step1 s25 (Ne.symm ne14))
 refine Z14 (us := [.agg #[vi r21.1.op, vi r21.1.kind, vi r21.1.n, .string r21.1.s, .string r21.1.f, v37]]) (cs := [vi r21.1.op, vi r21.1.kind, vi r21.1.n, .string r21.1.s, .string r21.1.f, v37]) rfl rfl rfl Z0y Zw Z1t rfl (Z4a rfl Zc3) rfl rfl rfl S36.sub (fun w39 h40 b41 hb42 s43 hk44 hc45 => ?_)
 have S47 := S36.trans0 s43
 have rs48 : RS h40 (sl b41 0 1 1) ([r21.1] : List Ex) := RS.litL _ [[vi r21.1.op, vi r21.1.kind, vi r21.1.n, .string r21.1.s, .string r21.1.f, v37]] rfl rfl hc45 ⟨(Z7n.2 ⟨_, rfl, (rs38.mono (s43.le))⟩), trivial⟩
 have ow49 := Own.lit (base := w0.heap.size) (sz := 6) (m := 1) hk44 hc45 (by rw [hb42]; exact S36.size) rfl (by decide)
 refine Wv rfl (Z38 (vs := [(0, vi 6), (4, sl b41 0 1 1)]) (cs := [vi 6, .string b'47, .slice none 0 0, .slice none 0 0, sl b41 0 1 1, vi 0, .slice none 0 0, .slice none 0 0, .slice none 0 0, .bool false]) rfl Z9q Z2n rfl) ?_
 have ob50 := (ob35.step0 s43)
 have ob51 := (ob46.step0 s43)
 refine Z15 (zs := [vi 0, .string b'47, .slice none 0 0, .slice none 0 0, .slice none 0 0, vi 0, .slice none 0 0, .slice none 0 0, .slice none 0 0, .bool false]) rfl rfl Z2n rfl S47.sub (fun w52 b53 hb54 s55 ob56 => ?_)
 have ne57 : b1 ≠ b53 := ob50.ne_new hb54
 have ne58 : b10 ≠ b53 := ob51.ne_new hb54
 have g59 : w0.heap.size ≤ b53 := by rw [hb54]; exact S47.size
 have S60 := S47.trans0 s55
 refine Zo (vs := [vi 6, .string b'47, .slice none 0 0, .slice none 0 0, sl b41 0 1 1, vi 0, .slice none 0 0, .slice none 0 0, .slice none 0 0, .bool false]) rfl rfl rfl rfl Z0h (Z5 rfl (Z5 rfl (Z5 rfl (Z5 rfl (Z5 rfl (Z5 rfl (Z5 rfl (Z5 rfl (Z5 rfl (Z5 rfl Zx)))))))))) ob56 S60.sub (by simp) (ds := [vi 6, .string b'47, .slice none 0 0, .slice none 0 0, sl b41 0 1 1, vi 0, .slice none 0 0, .slice none 0 0, .slice none 0 0, .bool false]) rfl (fun w61 s62 ob63 => ?_)
 have S64 := S60.trans1 s62 (.inr g59)
 refine Z7 <| Z6 <| Zb <| Z1 <| Wm rfl rfl ?_
 have ob65 := ((ob50.step0 s55).step1 s62 ne57)
 obtain ⟨r66, hr67, HF⟩ := Z8 HF
 rcases r66 with t68 | r69
 ·obtain rfl := Z01 HF
  have ob74 := ((ob51.step0 s55).step1 s62 ne58)
  refine Z0i rfl (Ze (vs := [pt b1 0, .string b'0]) rfl Z21) (Zj _ hr67 S64.sub (rs5.mono ((s12.le).trans ((s25.le).trans ((s43.le).trans ((s55.le).trans s62.le))))) ob65) ?_
  rintro ch76 w77 ⟨ht78, h79, s80, ob75⟩
  refine Zd <| Zp ?_
  have S81 := S64.trans s80 (Zn (.inl (by simp)) Z04)
  exact ⟨_, rfl, ht78, h79, S81, ob75⟩
 replace HF := Z0j HF
 refine Wc rfl (Ze (vs := [pt b1 0, .string b'0]) rfl Z21) (Zj _ hr67 S64.sub (rs5.mono ((s12.le).trans ((s25.le).trans ((s43.le).trans ((s55.le).trans s62.le))))) ob65) ?_
 have ob82 := ((ob51.step0 s55).step1 s62 ne58)
 rintro v70 w71 ⟨h72, s73, rfl, ob83⟩
 have S84 := S64.trans s73 (Zn (.inl (by simp)) Z04)
 refine Z7 <| Z6 <| Zb <| Z1 <| Wm rfl rfl ?_
 obtain ⟨r85, hr86, HF⟩ := Z8 HF
 rcases r85 with t87 | r88
 ·obtain rfl := Z01 HF
  have ob93 := (ob82.step1 s73 (Ne.symm ne14))
  have ob94 := (ob63.step1 s73 (Ne.symm ne57))
  refine Z0i rfl (Ze (vs := [pt b1 0]) rfl Z8r) ((IH _ (Nat.le_refl _)).1 hr86 S84.sub (rs5.mono ((s12.le).trans ((s25.le).trans ((s43.le).trans ((s55.le).trans ((s62.le).trans s73.le)))))) ob83) ?_
  rintro ch96 w97 ⟨ht98, h99, s100, ob95⟩
  refine Zd <| Zp ?_
  have S101 := S84.trans s100 (Zn (.inl (by simp)) Z04)
  exact ⟨_, rfl, ht98, h99, S101, ob95⟩
 replace HF := Z0j HF
 refine Wc rfl (Ze (vs := [pt b1 0]) rfl Z8r) ((IH _ (Nat.le_refl _)).1 hr86 S84.sub (rs5.mono ((s12.le).trans ((s25.le).trans ((s43.le).trans ((s55.le).trans ((s62.le).trans s73.le)))))) ob83) ?_
 have ob104 := (ob82.step1 s73 (Ne.symm ne14))
 have ob105 := (ob63.step1 s73 (Ne.symm ne57))
 rintro v102 w90 ⟨h91, s92, rs103, ob106⟩
 have S107 := S84.trans s92 (Zn (.inl (by simp)) Z04)
 refine Wv rfl (Z2 rfl Z65) ?_
 have ob108 := (ob105.step1 s92 (Ne.symm ne57))
 refine Zo (vs := [v102]) rfl rfl rfl (RS.cellsL rs103) Zgv (Z5 (RS.one rs103) Zx) ob108 S107.sub (by simp) (ds := [vi 6, .string b'47, .slice none 0 0, .slice none 0 0, sl b41 0 1 1, vi 0, v102, .slice none 0 0, .slice none 0 0, .bool false]) rfl (fun w109 s110 ob111 => ?_)
 have S112 := S107.trans1 s110 (.inr g59)
 refine Z7 <| Z6 <| Zb <| Z1 <| Wm rfl rfl ?_
 have ob113 := (ob106.step1 s110 ne57)
 obtain ⟨r114, hr115, HF⟩ := Z8 HF
 rcases r114 with t116 | r117
 ·obtain rfl := Z01 HF
  have ob122 := ((ob104.step1 s92 (Ne.symm ne14)).step1 s110 ne58)
  refine Z0i rfl (Ze (vs := [pt b1 0, .string b'6]) rfl Z21) (Zj _ hr115 S112.sub (rs5.mono ((s12.le).trans ((s25.le).trans ((s43.le).trans ((s55.le).trans ((s62.le).trans ((s73.le).trans ((s92.le).trans s110.le)))))))) ob113) ?_
  rintro ch124 w125 ⟨ht126, h127, s128, ob123⟩
  refine Zd <| Zp ?_
  have S129 := S112.trans s128 (Zn (.inl (by simp)) Z04)
  exact ⟨_, rfl, ht126, h127, S129, ob123⟩
 replace HF := Z0j HF
 refine Wc rfl (Ze (vs := [pt b1 0, .string b'6]) rfl Z21) (Zj _ hr115 S112.sub (rs5.mono ((s12.le).trans ((s25.le).trans ((s43.le).trans ((s55.le).trans ((s62.le).trans ((s73.le).trans ((s92.le).trans s110.le)))))))) ob113) ?_
 have ob130 := ((ob104.step1 s92 (Ne.symm ne14)).step1 s110 ne58)
 rintro v118 w119 ⟨h120, s121, rfl, ob131⟩
 have S132 := S112.trans s121 (Zn (.inl (by simp)) Z04)
 refine Z7 <| Z6 <| Zb <| Z1 ?_
 have ob133 := (ob111.step1 s121 (Ne.symm ne57))
 refine Wv rfl (Z16 (cs := [vi 6, .string b'47, .slice none 0 0, .slice none 0 0, sl b41 0 1 1, vi 0, v102, .slice none 0 0, .slice none 0 0, .bool false]) rfl Z4g Z0h (OB.cells ob133 0 rfl)) ?_
 have ob134 := (ob130.step1 s121 (Ne.symm ne14))
 refine Zo (vs := [vi 6, .string b'47, .slice none 0 0, .slice none 0 0, sl b41 0 1 1, vi 0, v102, .slice none 0 0, .slice none 0 0, .bool false]) rfl rfl rfl rfl Z0h (Z5 rfl (Z5 rfl (Z5 rfl (Z5 rfl (Z5 rfl (Z5 rfl (Z5 (RS.one (rs103.mono ((s110.le).trans s121.le))) (Z5 rfl (Z5 rfl (Z5 rfl Zx)))))))))) ob134 S132.sub (by simp) (ds := [vi 6, .string b'47, .slice none 0 0, .slice none 0 0, sl b41 0 1 1, vi 0, v102, .slice none 0 0, .slice none 0 0, .bool false]) rfl (fun w135 s136 ob137 => ?_)
 have S138 := S132.trans1 s136 (.inr g15)
 refine Z7 <| Z6 <| Z00 ?_
 have ob139 := (ob131.step1 s136 ne14)
 refine Z5p rfl rfl (Z11 (cs := [vi 6, .string b'47, .slice none 0 0, .slice none 0 0, sl b41 0 1 1, vi 0, v102, .slice none 0 0, .slice none 0 0, .bool false]) Z4g Z0h (OB.cells ob137 0 rfl)) ?_
 obtain rfl := Option.some.inj HF
 exact ⟨_, rfl, h120, S138, ⟨_, rfl, (Zgz.2 ⟨_, _, _, _, _, _, rfl, (RS.nil _), (RS.nil _), (rs48.mono ((s55.le).trans ((s62.le).trans ((s73.le).trans ((s92.le).trans ((s110.le).trans ((s121.le).trans s136.le))))))), (rs103.mono ((s110.le).trans ((s121.le).trans s136.le))), (RS.nil _), (RS.nil _)⟩)⟩, ob139⟩
theorem s_parse_Parser_branch (k : Nat) (IH : ∀ j, j ≤ k → Z2b (Z9 j).parse_Parser_Text ∧ Z2i (Z9 j).parse_Parser_count ∧ Z2h (Z9 j).parse_Parser_other ∧ Z2g (Z9 j).parse_Parser_while ∧ Z28 (Z9 j).parse_Parser_branch ∧ Z27 (Z9 j).parse_Parser_choice ∧ Z26 (Z9 j).parse_Parser_repeat) : Z28 (Zcq k (Z9 k)) := by
 intro xs3 x6 r HF w0 h0 b1 T2 v4 hs0 rs5 ob7
 have S0 : Stp [b1] w0 h0 w0 h0 := Stp.refl hs0 _
 have lt8 : b1 < w0.heap.size := OB.lt ob7
 refine Z4j (n := 36) Tryz.func100 rfl Tryz.ntmps100 rfl [(0, pt b1 0)] rfl <| Zb <| Z1 <| Z15 (zs := [vi 0, .string b'47, .slice none 0 0, .slice none 0 0, .slice none 0 0, vi 0, .slice none 0 0, .slice none 0 0, .slice none 0 0, .bool false]) rfl rfl Z2n rfl S0.sub (fun w9 b10 hb11 s12 ob13 => ?_)
 have ne14 : b1 ≠ b10 := ob7.ne_new hb11
 have g15 : w0.heap.size ≤ b10 := by rw [hb11]; exact S0.size
 have S16 := S0.trans0 s12
 refine Z7 <| Z6 <| Zb <| Z1 <| Wm rfl rfl ?_
 have ob17 := (ob7.step0 s12)
 obtain ⟨r18, hr19, HF⟩ := Z8 HF
 rcases r18 with t20 | r21
 ·obtain rfl := Z01 HF
  refine Z0i rfl (Ze (vs := [pt b1 0]) rfl Z3e) (Z05 _ hr19 S16.sub (rs5.mono (s12.le)) ob17) ?_
  rintro ch27 w28 ⟨ht29, h30, s31, ob26⟩
  refine Zd <| Zp ?_
  have S32 := S16.trans s31 (Zn (.inl (by simp)) Z04)
  exact ⟨_, rfl, ht29, h30, S32, ob26⟩
 replace HF := Z0j HF
 refine Wc rfl (Ze (vs := [pt b1 0]) rfl Z3e) (Z05 _ hr19 S16.sub (rs5.mono (s12.le)) ob17) ?_
 rintro _ w23 ⟨h24, s25, ⟨cs33, rfl, r34⟩, ob35⟩
 have S36 := S16.trans s25 (Zn (.inl (by simp)) Z04)
 obtain ⟨v37, rfl, rs38⟩ := Z7n.1 r34
 have ob46 := (ob13.step1 s25 (Ne.symm ne14))
 refine Z14 (us := [.agg #[vi r21.1.op, vi r21.1.kind, vi r21.1.n, .string r21.1.s, .string r21.1.f, v37]]) (cs := [vi r21.1.op, vi r21.1.kind, vi r21.1.n, .string r21.1.s, .string r21.1.f, v37]) rfl rfl rfl Z0y Zw Z1t rfl (Z4a rfl Zc3) rfl rfl rfl S36.sub (fun w39 h40 b41 hb42 s43 hk44 hc45 => ?_)
 have S47 := S36.trans0 s43
 have rs48 : RS h40 (sl b41 0 1 1) ([r21.1] : List Ex) := RS.litL _ [[vi r21.1.op, vi r21.1.kind, vi r21.1.n, .string r21.1.s, .string r21.1.f, v37]] rfl rfl hc45 ⟨(Z7n.2 ⟨_, rfl, (rs38.mono (s43.le))⟩), trivial⟩
 have ow49 := Own.lit (base := w0.heap.size) (sz := 6) (m := 1) hk44 hc45 (by rw [hb42]; exact S36.size) rfl (by decide)
 refine Wv rfl (Z38 (vs := [(0, vi 3), (4, sl b41 0 1 1)]) (cs := [vi 3, .string b'47, .slice none 0 0, .slice none 0 0, sl b41 0 1 1, vi 0, .slice none 0 0, .slice none 0 0, .slice none 0 0, .bool false]) rfl Z9q Z2n rfl) ?_
 have ob50 := (ob35.step0 s43)
 have ob51 := (ob46.step0 s43)
 refine Z15 (zs := [vi 0, .string b'47, .slice none 0 0, .slice none 0 0, .slice none 0 0, vi 0, .slice none 0 0, .slice none 0 0, .slice none 0 0, .bool false]) rfl rfl Z2n rfl S47.sub (fun w52 b53 hb54 s55 ob56 => ?_)
 have ne57 : b1 ≠ b53 := ob50.ne_new hb54
 have ne58 : b10 ≠ b53 := ob51.ne_new hb54
 have g59 : w0.heap.size ≤ b53 := by rw [hb54]; exact S47.size
 have S60 := S47.trans0 s55
 refine Zo (vs := [vi 3, .string b'47, .slice none 0 0, .slice none 0 0, sl b41 0 1 1, vi 0, .slice none 0 0, .slice none 0 0, .slice none 0 0, .bool false]) rfl rfl rfl rfl Z0h (Z5 rfl (Z5 rfl (Z5 rfl (Z5 rfl (Z5 rfl (Z5 rfl (Z5 rfl (Z5 rfl (Z5 rfl (Z5 rfl Zx)))))))))) ob56 S60.sub (by simp) (ds := [vi 3, .string b'47, .slice none 0 0, .slice none 0 0, sl b41 0 1 1, vi 0, .slice none 0 0, .slice none 0 0, .slice none 0 0, .bool false]) rfl (fun w61 s62 ob63 => ?_)
 have S64 := S60.trans1 s62 (.inr g59)
 refine Z7 <| Z6 <| Zb <| Z1 <| Wm rfl rfl ?_
 have ob65 := ((ob50.step0 s55).step1 s62 ne57)
 obtain ⟨r66, hr67, HF⟩ := Z8 HF
 rcases r66 with t68 | r69
 ·obtain rfl := Z01 HF
  have ob74 := ((ob51.step0 s55).step1 s62 ne58)
  refine Z0i rfl (Ze (vs := [pt b1 0, .string b'18]) rfl Z21) (Zj _ hr67 S64.sub (rs5.mono ((s12.le).trans ((s25.le).trans ((s43.le).trans ((s55.le).trans s62.le))))) ob65) ?_
  rintro ch76 w77 ⟨ht78, h79, s80, ob75⟩
  refine Zd <| Zp ?_
  have S81 := S64.trans s80 (Zn (.inl (by simp)) Z04)
  exact ⟨_, rfl, ht78, h79, S81, ob75⟩
 replace HF := Z0j HF
 refine Wc rfl (Ze (vs := [pt b1 0, .string b'18]) rfl Z21) (Zj _ hr67 S64.sub (rs5.mono ((s12.le).trans ((s25.le).trans ((s43.le).trans ((s55.le).trans s62.le))))) ob65) ?_
 have ob82 := ((ob51.step0 s55).step1 s62 ne58)
 rintro v70 w71 ⟨h72, s73, rfl, ob83⟩
 have S84 := S64.trans s73 (Zn (.inl (by simp)) Z04)
 refine Z7 <| Z6 <| Zb <| Z1 <| Wm rfl rfl ?_
 obtain ⟨r85, hr86, HF⟩ := Z8 HF
 rcases r85 with t87 | r88
 ·obtain rfl := Z01 HF
  have ob93 := (ob82.step1 s73 (Ne.symm ne14))
  have ob94 := (ob63.step1 s73 (Ne.symm ne57))
  refine Z0i rfl (Ze (vs := [pt b1 0]) rfl Z8r) ((IH _ (Nat.le_refl _)).1 hr86 S84.sub (rs5.mono ((s12.le).trans ((s25.le).trans ((s43.le).trans ((s55.le).trans ((s62.le).trans s73.le)))))) ob83) ?_
  rintro ch96 w97 ⟨ht98, h99, s100, ob95⟩
  refine Zd <| Zp ?_
  have S101 := S84.trans s100 (Zn (.inl (by simp)) Z04)
  exact ⟨_, rfl, ht98, h99, S101, ob95⟩
 replace HF := Z0j HF
 refine Wc rfl (Ze (vs := [pt b1 0]) rfl Z8r) ((IH _ (Nat.le_refl _)).1 hr86 S84.sub (rs5.mono ((s12.le).trans ((s25.le).trans ((s43.le).trans ((s55.le).trans ((s62.le).trans s73.le)))))) ob83) ?_
 have ob104 := (ob82.step1 s73 (Ne.symm ne14))
 have ob105 := (ob63.step1 s73 (Ne.symm ne57))
 rintro v102 w90 ⟨h91, s92, rs103, ob106⟩
 have S107 := S84.trans s92 (Zn (.inl (by simp)) Z04)
 refine Wv rfl (Z2 rfl Z65) ?_
 have ob108 := (ob105.step1 s92 (Ne.symm ne57))
 refine Zo (vs := [v102]) rfl rfl rfl (RS.cellsL rs103) Zgv (Z5 (RS.one rs103) Zx) ob108 S107.sub (by simp) (ds := [vi 3, .string b'47, .slice none 0 0, .slice none 0 0, sl b41 0 1 1, vi 0, v102, .slice none 0 0, .slice none 0 0, .bool false]) rfl (fun w109 s110 ob111 => ?_)
 have S112 := S107.trans1 s110 (.inr g59)
 refine Z7 <| Z6 <| Zb <| Z0p <| Z4m <| Z7y [0, 2, 3] [(0, pt b1 0), (2, pt b10 0), (3, pt b53 0)] rfl <| Z4k (K := k) (fun j E w114 => ∃ (h113 : Hp) (x117 : Int) (xs120 : List Ex) (v121 : Value) (xs124 : List Ar) (v125 : Value), (Z9 j).parse_Parser_branch_l1 xs3 r88 x117 xs120 xs124 = some r ∧ E = [(0, pt b1 0), (2, pt b10 0), (3, pt b53 0)] ∧ Stp [b1] w0 h0 w114 h113 ∧ Hle h91 h113 ∧ RS h113 v121 xs120 ∧ Own w114 h113 w0.heap.size 47 6 v121 xs120.length ∧ RS h113 v125 xs124 ∧ Own w114 h113 w0.heap.size 77 3 v125 xs124.length ∧ OB w114 h113 b1 T2 [v4, vi x117] ∧ OB w114 h113 b10 56 [vi 0, .string b'47, .slice none 0 0, .slice none 0 0, .slice none 0 0, vi 0, .slice none 0 0, .slice none 0 0, .slice none 0 0, .bool false] ∧ OB w114 h113 b53 56 [vi 3, .string b'47, .slice none 0 0, .slice none 0 0, v121, vi 0, v102, v125, .slice none 0 0, .bool false]) ?_ ?_ (j := k) (Nat.le_refl _) ?_
 ·rintro E w114 ⟨_, _, _, _, _, _, HF, _⟩; cases HF
 ·rintro j129 hj131 IHL130 E w114 ⟨h113, x117, xs120, v121, xs124, v125, HF, rfl, S116, le115, rs122, ow123, rs126, ow127, ob118, ob119, ob128⟩
  refine Z09 (fun E w194 => ∃ (h193 : Hp) (x197 : Int) (xs200 : List Ex) (v201 : Value) (xs204 : List Ar) (v205 : Value), Zbm j129 (Z9 j129) xs3 r88 x197 xs200 xs204 = some r ∧ E = [(0, pt b1 0), (2, pt b10 0), (3, pt b53 0)] ∧ Stp [b1] w0 h0 w194 h193 ∧ Hle h113 h193 ∧ RS h193 v201 xs200 ∧ Own w194 h193 w0.heap.size 47 6 v201 xs200.length ∧ RS h193 v205 xs204 ∧ Own w194 h193 w0.heap.size 77 3 v205 xs204.length ∧ OB w194 h193 b1 T2 [v4, vi x197] ∧ OB w194 h193 b10 56 [vi 0, .string b'47, .slice none 0 0, .slice none 0 0, .slice none 0 0, vi 0, .slice none 0 0, .slice none 0 0, .slice none 0 0, .bool false] ∧ OB w194 h193 b53 56 [vi 3, .string b'47, .slice none 0 0, .slice none 0 0, v201, vi 0, v102, v205, .slice none 0 0, .bool false]) ?_ ?_
  ·rintro E w194 ⟨h193, x197, xs200, v201, xs204, v205, HF, rfl, S196, le195, rs202, ow203, rs206, ow207, ob198, ob199, ob208⟩
   refine Z0p <| Zb <| Z1 <| Wm rfl rfl ?_
   obtain ⟨r209, hr210, HF⟩ := Z8 HF
   rcases r209 with t211 | r212
   ·obtain rfl := Z01 HF
    refine Z0i rfl (Ze (vs := [pt b1 0]) rfl Z3e) (Z05 _ hr210 S196.sub (rs5.mono ((s12.le).trans ((s25.le).trans ((s43.le).trans ((s55.le).trans ((s62.le).trans ((s73.le).trans ((s92.le).trans ((s110.le).trans ((le115).trans le195)))))))))) ob198) ?_
    rintro ch218 w219 ⟨ht220, h221, s222, ob217⟩
    refine Zd <| Zr <| Zd <| Zr <| Zd <| Zp ?_
    have S223 := S196.trans s222 (Zn (.inl (by simp)) Z04)
    exact ⟨_, rfl, ht220, h221, S223, ob217⟩
   replace HF := Z0j HF
   refine Wc rfl (Ze (vs := [pt b1 0]) rfl Z3e) (Z05 _ hr210 S196.sub (rs5.mono ((s12.le).trans ((s25.le).trans ((s43.le).trans ((s55.le).trans ((s62.le).trans ((s73.le).trans ((s92.le).trans ((s110.le).trans ((le115).trans le195)))))))))) ob198) ?_
   rintro _ w214 ⟨h215, s216, ⟨cs224, rfl, r225⟩, ob226⟩
   have S227 := S196.trans s216 (Zn (.inl (by simp)) Z04)
   obtain ⟨v228, rfl, rs229⟩ := Z7n.1 r225
   have ob237 := (ob199.step1 s216 (Ne.symm ne14))
   have ob238 := (ob208.step1 s216 (Ne.symm ne57))
   refine Z14 (us := [.agg #[vi r212.1.op, vi r212.1.kind, vi r212.1.n, .string r212.1.s, .string r212.1.f, v228]]) (cs := [vi r212.1.op, vi r212.1.kind, vi r212.1.n, .string r212.1.s, .string r212.1.f, v228]) rfl rfl rfl Z0y Zw Z1t rfl (Z4a rfl Zc3) rfl rfl rfl S227.sub (fun w230 h231 b232 hb233 s234 hk235 hc236 => ?_)
   have S239 := S227.trans0 s234
   have rs240 : RS h231 (sl b232 0 1 1) ([r212.1] : List Ex) := RS.litL _ [[vi r212.1.op, vi r212.1.kind, vi r212.1.n, .string r212.1.s, .string r212.1.f, v228]] rfl rfl hc236 ⟨(Z7n.2 ⟨_, rfl, (rs229.mono (s234.le))⟩), trivial⟩
   have ow241 := Own.lit (base := w0.heap.size) (sz := 6) (m := 1) hk235 hc236 (by rw [hb233]; exact S227.size) rfl (by decide)
   refine Wv rfl (Z38 (vs := [(0, sl b232 0 1 1)]) (cs := [sl b232 0 1 1, .slice none 0 0, .slice none 0 0]) rfl t_places_77 Z9y rfl) ?_
   have ob242 := (ob226.step0 s234)
   have ob243 := (ob237.step0 s234)
   have ob244 := (ob238.step0 s234)
   refine Z15 (zs := [.slice none 0 0, .slice none 0 0, .slice none 0 0]) rfl rfl Z9y rfl S239.sub (fun w245 b246 hb247 s248 ob249 => ?_)
   have ne250 : b1 ≠ b246 := ob242.ne_new hb247
   have ne251 : b10 ≠ b246 := ob243.ne_new hb247
   have ne252 : b53 ≠ b246 := ob244.ne_new hb247
   have g253 : w0.heap.size ≤ b246 := by rw [hb247]; exact S239.size
   have S254 := S239.trans0 s248
   refine Zo (vs := [sl b232 0 1 1, .slice none 0 0, .slice none 0 0]) rfl rfl rfl rfl Z20 (Z5 rfl (Z5 rfl (Z5 rfl Zx))) ob249 S254.sub (by simp) (ds := [sl b232 0 1 1, .slice none 0 0, .slice none 0 0]) rfl (fun w255 s256 ob257 => ?_)
   have S258 := S254.trans1 s256 (.inr g253)
   refine Z7 <| Z6 <| Zb <| Z1 <| Wm rfl rfl ?_
   have ob259 := ((ob242.step0 s248).step1 s256 ne250)
   obtain ⟨r260, hr261, HF⟩ := Z8 HF
   rcases r260 with t262 | r263
   ·obtain rfl := Z01 HF
    have ob268 := ((ob243.step0 s248).step1 s256 ne251)
    have ob269 := ((ob244.step0 s248).step1 s256 ne252)
    refine Z0i rfl (Ze (vs := [pt b1 0, .string b'18]) rfl Z21) (Zj _ hr261 S258.sub (rs5.mono ((s12.le).trans ((s25.le).trans ((s43.le).trans ((s55.le).trans ((s62.le).trans ((s73.le).trans ((s92.le).trans ((s110.le).trans ((le115).trans ((le195).trans ((s216.le).trans ((s234.le).trans ((s248.le).trans s256.le)))))))))))))) ob259) ?_
    rintro ch271 w272 ⟨ht273, h274, s275, ob270⟩
    refine Zd <| Zr <| Zd <| Zr <| Zd <| Zp ?_
    have S276 := S258.trans s275 (Zn (.inl (by simp)) Z04)
    exact ⟨_, rfl, ht273, h274, S276, ob270⟩
   replace HF := Z0j HF
   refine Wc rfl (Ze (vs := [pt b1 0, .string b'18]) rfl Z21) (Zj _ hr261 S258.sub (rs5.mono ((s12.le).trans ((s25.le).trans ((s43.le).trans ((s55.le).trans ((s62.le).trans ((s73.le).trans ((s92.le).trans ((s110.le).trans ((le115).trans ((le195).trans ((s216.le).trans ((s234.le).trans ((s248.le).trans s256.le)))))))))))))) ob259) ?_
   have ob277 := ((ob243.step0 s248).step1 s256 ne251)
   have ob278 := ((ob244.step0 s248).step1 s256 ne252)
   rintro v264 w265 ⟨h266, s267, rfl, ob279⟩
   have S280 := S258.trans s267 (Zn (.inl (by simp)) Z04)
   refine Z7 <| Z6 <| Zb <| Z1 <| Wm rfl rfl ?_
   obtain ⟨r281, hr282, HF⟩ := Z8 HF
   rcases r281 with t283 | r284
   ·obtain rfl := Z01 HF
    have ob289 := (ob277.step1 s267 (Ne.symm ne14))
    have ob290 := (ob278.step1 s267 (Ne.symm ne57))
    have ob291 := (ob257.step1 s267 (Ne.symm ne250))
    refine Z0i rfl (Ze (vs := [pt b1 0]) rfl Z8r) ((IH _ (Nat.le_trans (Nat.le_of_succ_le hj131) (Nat.le_refl _))).1 hr282 S280.sub (rs5.mono ((s12.le).trans ((s25.le).trans ((s43.le).trans ((s55.le).trans ((s62.le).trans ((s73.le).trans ((s92.le).trans ((s110.le).trans ((le115).trans ((le195).trans ((s216.le).trans ((s234.le).trans ((s248.le).trans ((s256.le).trans s267.le))))))))))))))) ob279) ?_
    rintro ch293 w294 ⟨ht295, h296, s297, ob292⟩
    refine Zd <| Zr <| Zd <| Zr <| Zd <| Zp ?_
    have S298 := S280.trans s297 (Zn (.inl (by simp)) Z04)
    exact ⟨_, rfl, ht295, h296, S298, ob292⟩
   replace HF := Z0j HF
   refine Wc rfl (Ze (vs := [pt b1 0]) rfl Z8r) ((IH _ (Nat.le_trans (Nat.le_of_succ_le hj131) (Nat.le_refl _))).1 hr282 S280.sub (rs5.mono ((s12.le).trans ((s25.le).trans ((s43.le).trans ((s55.le).trans ((s62.le).trans ((s73.le).trans ((s92.le).trans ((s110.le).trans ((le115).trans ((le195).trans ((s216.le).trans ((s234.le).trans ((s248.le).trans ((s256.le).trans s267.le))))))))))))))) ob279) ?_
   have ob301 := (ob277.step1 s267 (Ne.symm ne14))
   have ob302 := (ob278.step1 s267 (Ne.symm ne57))
   have ob303 := (ob257.step1 s267 (Ne.symm ne250))
   rintro v299 w286 ⟨h287, s288, rs300, ob304⟩
   have S305 := S280.trans s288 (Zn (.inl (by simp)) Z04)
   refine Wv rfl (Z2 rfl Z8c) ?_
   have ob306 := (ob303.step1 s288 (Ne.symm ne250))
   refine Zo (vs := [v299]) rfl rfl rfl (RS.cellsL rs300) Zgv (Z5 (RS.one rs300) Zx) ob306 S305.sub (by simp) (ds := [sl b232 0 1 1, .slice none 0 0, v299]) rfl (fun w307 s308 ob309 => ?_)
   have S310 := S305.trans1 s308 (.inr g253)
   refine Z7 <| Z6 <| Z1 <| Wv rfl (Z2 rfl Z19) ?_
   have ob311 := ((ob302.step1 s288 (Ne.symm ne57)).step1 s308 ne252)
   refine Wv rfl (Zc rfl Z4b (OB.cell ob311 (j := 7) rfl)) <| Wv rfl (Z16 (cs := [sl b232 0 1 1, .slice none 0 0, v299]) rfl t_agg_77 Z20 (OB.cells ob309 0 rfl)) ?_
   have ob319 := (ob304.step1 s308 ne250)
   have ob320 := ((ob301.step1 s288 (Ne.symm ne14)).step1 s308 ne251)
   refine Z14 (us := [.agg #[sl b232 0 1 1, .slice none 0 0, v299]]) (cs := [sl b232 0 1 1, .slice none 0 0, v299]) rfl rfl rfl Z1u Z20 Z9y rfl (Z4a rfl Zc3) rfl rfl rfl S310.sub (fun w312 h313 b314 hb315 s316 hk317 hc318 => ?_)
   have S321 := S310.trans0 s316
   have rs322 : RS h313 (sl b314 0 1 1) ([(Ar.mk [r212.1] [] r284.1)] : List Ar) := RS.litL _ [[sl b232 0 1 1, .slice none 0 0, v299]] rfl rfl hc318 ⟨(rp_Ar.2 ⟨_, _, _, rfl, (rs240.mono ((s248.le).trans ((s256.le).trans ((s267.le).trans ((s288.le).trans ((s308.le).trans s316.le)))))), (RS.nil _), (rs300.mono ((s308.le).trans s316.le))⟩), trivial⟩
   have ow323 := Own.lit (base := w0.heap.size) (sz := 3) (m := 1) hk317 hc318 (by rw [hb315]; exact S310.size) rfl (by decide)
   obtain ⟨hl324, HF⟩ := Zdu HF
   have ob332 := (ob319.step0 s316)
   have ob333 := (ob320.step0 s316)
   have ob334 := (ob311.step0 s316)
   have ob335 := (ob309.step0 s316)
   refine Zeb (xs := (xs204 : List Ar)) (ys := [(Ar.mk [r212.1] [] r284.1)]) rfl rfl rfl rfl Z1u Z20 Z9y rfl t_bytes_77 rfl ((((((((ow207.step s216 (Z4 (ow207.ne_old lt8) Za)).step0 s234).step0 s248).step s256 (Z4 ((((ow207.step s216 (Z4 (ow207.ne_old lt8) Za)).step0 s234).step0 s248).ne_obS1 (rs206.mono ((s216.le).trans ((s234.le).trans s248.le))) ob249) Za)).step s267 (Z4 (((((ow207.step s216 (Z4 (ow207.ne_old lt8) Za)).step0 s234).step0 s248).step s256 (Z4 ((((ow207.step s216 (Z4 (ow207.ne_old lt8) Za)).step0 s234).step0 s248).ne_obS1 (rs206.mono ((s216.le).trans ((s234.le).trans s248.le))) ob249) Za)).ne_old lt8) Za)).step s288 (Z4 ((((((ow207.step s216 (Z4 (ow207.ne_old lt8) Za)).step0 s234).step0 s248).step s256 (Z4 ((((ow207.step s216 (Z4 (ow207.ne_old lt8) Za)).step0 s234).step0 s248).ne_obS1 (rs206.mono ((s216.le).trans ((s234.le).trans s248.le))) ob249) Za)).step s267 (Z4 (((((ow207.step s216 (Z4 (ow207.ne_old lt8) Za)).step0 s234).step0 s248).step s256 (Z4 ((((ow207.step s216 (Z4 (ow207.ne_old lt8) Za)).step0 s234).step0 s248).ne_obS1 (rs206.mono ((s216.le).trans ((s234.le).trans s248.le))) ob249) Za)).ne_old lt8) Za)).ne_old lt8) Za)).step s308 (Z4 (((((((ow207.step s216 (Z4 (ow207.ne_old lt8) Za)).step0 s234).step0 s248).step s256 (Z4 ((((ow207.step s216 (Z4 (ow207.ne_old lt8) Za)).step0 s234).step0 s248).ne_obS1 (rs206.mono ((s216.le).trans ((s234.le).trans s248.le))) ob249) Za)).step s267 (Z4 (((((ow207.step s216 (Z4 (ow207.ne_old lt8) Za)).step0 s234).step0 s248).step s256 (Z4 ((((ow207.step s216 (Z4 (ow207.ne_old lt8) Za)).step0 s234).step0 s248).ne_obS1 (rs206.mono ((s216.le).trans ((s234.le).trans s248.le))) ob249) Za)).ne_old lt8) Za)).step s288 (Z4 ((((((ow207.step s216 (Z4 (ow207.ne_old lt8) Za)).step0 s234).step0 s248).step s256 (Z4 ((((ow207.step s216 (Z4 (ow207.ne_old lt8) Za)).step0 s234).step0 s248).ne_obS1 (rs206.mono ((s216.le).trans ((s234.le).trans s248.le))) ob249) Za)).step s267 (Z4 (((((ow207.step s216 (Z4 (ow207.ne_old lt8) Za)).step0 s234).step0 s248).step s256 (Z4 ((((ow207.step s216 (Z4 (ow207.ne_old lt8) Za)).step0 s234).step0 s248).ne_obS1 (rs206.mono ((s216.le).trans ((s234.le).trans s248.le))) ob249) Za)).ne_old lt8) Za)).ne_old lt8) Za)).ne_obS1 (rs206.mono ((s216.le).trans ((s234.le).trans ((s248.le).trans ((s256.le).trans ((s267.le).trans s288.le)))))) ob306) Za)).step0 s316) (rs206.mono ((s216.le).trans ((s234.le).trans ((s248.le).trans ((s256.le).trans ((s267.le).trans ((s288.le).trans ((s308.le).trans s316.le)))))))) rs322 hl324 S321.sub S321.size (by rw [S321.eqb]; exact hs0.big) (fun v325 w326 h327 rs328 ow329 s330 at331 => ?_)
   have S336 := S321.trans s330 (fun i hi => .inr (((((((((ow207.step s216 (Z4 (ow207.ne_old lt8) Za)).step0 s234).step0 s248).step s256 (Z4 ((((ow207.step s216 (Z4 (ow207.ne_old lt8) Za)).step0 s234).step0 s248).ne_obS1 (rs206.mono ((s216.le).trans ((s234.le).trans s248.le))) ob249) Za)).step s267 (Z4 (((((ow207.step s216 (Z4 (ow207.ne_old lt8) Za)).step0 s234).step0 s248).step s256 (Z4 ((((ow207.step s216 (Z4 (ow207.ne_old lt8) Za)).step0 s234).step0 s248).ne_obS1 (rs206.mono ((s216.le).trans ((s234.le).trans s248.le))) ob249) Za)).ne_old lt8) Za)).step s288 (Z4 ((((((ow207.step s216 (Z4 (ow207.ne_old lt8) Za)).step0 s234).step0 s248).step s256 (Z4 ((((ow207.step s216 (Z4 (ow207.ne_old lt8) Za)).step0 s234).step0 s248).ne_obS1 (rs206.mono ((s216.le).trans ((s234.le).trans s248.le))) ob249) Za)).step s267 (Z4 (((((ow207.step s216 (Z4 (ow207.ne_old lt8) Za)).step0 s234).step0 s248).step s256 (Z4 ((((ow207.step s216 (Z4 (ow207.ne_old lt8) Za)).step0 s234).step0 s248).ne_obS1 (rs206.mono ((s216.le).trans ((s234.le).trans s248.le))) ob249) Za)).ne_old lt8) Za)).ne_old lt8) Za)).step s308 (Z4 (((((((ow207.step s216 (Z4 (ow207.ne_old lt8) Za)).step0 s234).step0 s248).step s256 (Z4 ((((ow207.step s216 (Z4 (ow207.ne_old lt8) Za)).step0 s234).step0 s248).ne_obS1 (rs206.mono ((s216.le).trans ((s234.le).trans s248.le))) ob249) Za)).step s267 (Z4 (((((ow207.step s216 (Z4 (ow207.ne_old lt8) Za)).step0 s234).step0 s248).step s256 (Z4 ((((ow207.step s216 (Z4 (ow207.ne_old lt8) Za)).step0 s234).step0 s248).ne_obS1 (rs206.mono ((s216.le).trans ((s234.le).trans s248.le))) ob249) Za)).ne_old lt8) Za)).step s288 (Z4 ((((((ow207.step s216 (Z4 (ow207.ne_old lt8) Za)).step0 s234).step0 s248).step s256 (Z4 ((((ow207.step s216 (Z4 (ow207.ne_old lt8) Za)).step0 s234).step0 s248).ne_obS1 (rs206.mono ((s216.le).trans ((s234.le).trans s248.le))) ob249) Za)).step s267 (Z4 (((((ow207.step s216 (Z4 (ow207.ne_old lt8) Za)).step0 s234).step0 s248).step s256 (Z4 ((((ow207.step s216 (Z4 (ow207.ne_old lt8) Za)).step0 s234).step0 s248).ne_obS1 (rs206.mono ((s216.le).trans ((s234.le).trans s248.le))) ob249) Za)).ne_old lt8) Za)).ne_old lt8) Za)).ne_obS1 (rs206.mono ((s216.le).trans ((s234.le).trans ((s248.le).trans ((s256.le).trans ((s267.le).trans s288.le)))))) ob306) Za)).step0 s316).base_le i hi))
   refine Wv rfl (Z2 rfl Z19) ?_
   have ob337 := (ob334.step s330 (fun hm => ((((((((ow207.step s216 (Z4 (ow207.ne_old lt8) Za)).step0 s234).step0 s248).step s256 (Z4 ((((ow207.step s216 (Z4 (ow207.ne_old lt8) Za)).step0 s234).step0 s248).ne_obS1 (rs206.mono ((s216.le).trans ((s234.le).trans s248.le))) ob249) Za)).step s267 (Z4 (((((ow207.step s216 (Z4 (ow207.ne_old lt8) Za)).step0 s234).step0 s248).step s256 (Z4 ((((ow207.step s216 (Z4 (ow207.ne_old lt8) Za)).step0 s234).step0 s248).ne_obS1 (rs206.mono ((s216.le).trans ((s234.le).trans s248.le))) ob249) Za)).ne_old lt8) Za)).step s288 (Z4 ((((((ow207.step s216 (Z4 (ow207.ne_old lt8) Za)).step0 s234).step0 s248).step s256 (Z4 ((((ow207.step s216 (Z4 (ow207.ne_old lt8) Za)).step0 s234).step0 s248).ne_obS1 (rs206.mono ((s216.le).trans ((s234.le).trans s248.le))) ob249) Za)).step s267 (Z4 (((((ow207.step s216 (Z4 (ow207.ne_old lt8) Za)).step0 s234).step0 s248).step s256 (Z4 ((((ow207.step s216 (Z4 (ow207.ne_old lt8) Za)).step0 s234).step0 s248).ne_obS1 (rs206.mono ((s216.le).trans ((s234.le).trans s248.le))) ob249) Za)).ne_old lt8) Za)).ne_old lt8) Za)).step s308 (Z4 (((((((ow207.step s216 (Z4 (ow207.ne_old lt8) Za)).step0 s234).step0 s248).step s256 (Z4 ((((ow207.step s216 (Z4 (ow207.ne_old lt8) Za)).step0 s234).step0 s248).ne_obS1 (rs206.mono ((s216.le).trans ((s234.le).trans s248.le))) ob249) Za)).step s267 (Z4 (((((ow207.step s216 (Z4 (ow207.ne_old lt8) Za)).step0 s234).step0 s248).step s256 (Z4 ((((ow207.step s216 (Z4 (ow207.ne_old lt8) Za)).step0 s234).step0 s248).ne_obS1 (rs206.mono ((s216.le).trans ((s234.le).trans s248.le))) ob249) Za)).ne_old lt8) Za)).step s288 (Z4 ((((((ow207.step s216 (Z4 (ow207.ne_old lt8) Za)).step0 s234).step0 s248).step s256 (Z4 ((((ow207.step s216 (Z4 (ow207.ne_old lt8) Za)).step0 s234).step0 s248).ne_obS1 (rs206.mono ((s216.le).trans ((s234.le).trans s248.le))) ob249) Za)).step s267 (Z4 (((((ow207.step s216 (Z4 (ow207.ne_old lt8) Za)).step0 s234).step0 s248).step s256 (Z4 ((((ow207.step s216 (Z4 (ow207.ne_old lt8) Za)).step0 s234).step0 s248).ne_obS1 (rs206.mono ((s216.le).trans ((s234.le).trans s248.le))) ob249) Za)).ne_old lt8) Za)).ne_old lt8) Za)).ne_obS1 (rs206.mono ((s216.le).trans ((s234.le).trans ((s248.le).trans ((s256.le).trans ((s267.le).trans s288.le)))))) ob306) Za)).step0 s316).ne ob334 (by decide) _ hm rfl))
   refine Zo (vs := [v325]) rfl rfl rfl (RS.cellsL rs328) t_size_54 (Z5 (RS.one rs328) Zx) ob337 S336.sub (by simp) (ds := [vi 3, .string b'47, .slice none 0 0, .slice none 0 0, v201, vi 0, v102, v325, .slice none 0 0, .bool false]) rfl (fun w338 s339 ob340 => ?_)
   have S341 := S336.trans1 s339 (.inr g59)
   refine Z7 <| Z0a ?_
   have ob345 := ((ob332.step s330 (fun hm => absurd (((((((((ow207.step s216 (Z4 (ow207.ne_old lt8) Za)).step0 s234).step0 s248).step s256 (Z4 ((((ow207.step s216 (Z4 (ow207.ne_old lt8) Za)).step0 s234).step0 s248).ne_obS1 (rs206.mono ((s216.le).trans ((s234.le).trans s248.le))) ob249) Za)).step s267 (Z4 (((((ow207.step s216 (Z4 (ow207.ne_old lt8) Za)).step0 s234).step0 s248).step s256 (Z4 ((((ow207.step s216 (Z4 (ow207.ne_old lt8) Za)).step0 s234).step0 s248).ne_obS1 (rs206.mono ((s216.le).trans ((s234.le).trans s248.le))) ob249) Za)).ne_old lt8) Za)).step s288 (Z4 ((((((ow207.step s216 (Z4 (ow207.ne_old lt8) Za)).step0 s234).step0 s248).step s256 (Z4 ((((ow207.step s216 (Z4 (ow207.ne_old lt8) Za)).step0 s234).step0 s248).ne_obS1 (rs206.mono ((s216.le).trans ((s234.le).trans s248.le))) ob249) Za)).step s267 (Z4 (((((ow207.step s216 (Z4 (ow207.ne_old lt8) Za)).step0 s234).step0 s248).step s256 (Z4 ((((ow207.step s216 (Z4 (ow207.ne_old lt8) Za)).step0 s234).step0 s248).ne_obS1 (rs206.mono ((s216.le).trans ((s234.le).trans s248.le))) ob249) Za)).ne_old lt8) Za)).ne_old lt8) Za)).step s308 (Z4 (((((((ow207.step s216 (Z4 (ow207.ne_old lt8) Za)).step0 s234).step0 s248).step s256 (Z4 ((((ow207.step s216 (Z4 (ow207.ne_old lt8) Za)).step0 s234).step0 s248).ne_obS1 (rs206.mono ((s216.le).trans ((s234.le).trans s248.le))) ob249) Za)).step s267 (Z4 (((((ow207.step s216 (Z4 (ow207.ne_old lt8) Za)).step0 s234).step0 s248).step s256 (Z4 ((((ow207.step s216 (Z4 (ow207.ne_old lt8) Za)).step0 s234).step0 s248).ne_obS1 (rs206.mono ((s216.le).trans ((s234.le).trans s248.le))) ob249) Za)).ne_old lt8) Za)).step s288 (Z4 ((((((ow207.step s216 (Z4 (ow207.ne_old lt8) Za)).step0 s234).step0 s248).step s256 (Z4 ((((ow207.step s216 (Z4 (ow207.ne_old lt8) Za)).step0 s234).step0 s248).ne_obS1 (rs206.mono ((s216.le).trans ((s234.le).trans s248.le))) ob249) Za)).step s267 (Z4 (((((ow207.step s216 (Z4 (ow207.ne_old lt8) Za)).step0 s234).step0 s248).step s256 (Z4 ((((ow207.step s216 (Z4 (ow207.ne_old lt8) Za)).step0 s234).step0 s248).ne_obS1 (rs206.mono ((s216.le).trans ((s234.le).trans s248.le))) ob249) Za)).ne_old lt8) Za)).ne_old lt8) Za)).ne_obS1 (rs206.mono ((s216.le).trans ((s234.le).trans ((s248.le).trans ((s256.le).trans ((s267.le).trans s288.le)))))) ob306) Za)).step0 s316).base_le _ hm) (Nat.not_le.2 lt8))).step1 s339 ne57)
   have ob346 := ((ob333.step s330 (fun hm => ((((((((ow207.step s216 (Z4 (ow207.ne_old lt8) Za)).step0 s234).step0 s248).step s256 (Z4 ((((ow207.step s216 (Z4 (ow207.ne_old lt8) Za)).step0 s234).step0 s248).ne_obS1 (rs206.mono ((s216.le).trans ((s234.le).trans s248.le))) ob249) Za)).step s267 (Z4 (((((ow207.step s216 (Z4 (ow207.ne_old lt8) Za)).step0 s234).step0 s248).step s256 (Z4 ((((ow207.step s216 (Z4 (ow207.ne_old lt8) Za)).step0 s234).step0 s248).ne_obS1 (rs206.mono ((s216.le).trans ((s234.le).trans s248.le))) ob249) Za)).ne_old lt8) Za)).step s288 (Z4 ((((((ow207.step s216 (Z4 (ow207.ne_old lt8) Za)).step0 s234).step0 s248).step s256 (Z4 ((((ow207.step s216 (Z4 (ow207.ne_old lt8) Za)).step0 s234).step0 s248).ne_obS1 (rs206.mono ((s216.le).trans ((s234.le).trans s248.le))) ob249) Za)).step s267 (Z4 (((((ow207.step s216 (Z4 (ow207.ne_old lt8) Za)).step0 s234).step0 s248).step s256 (Z4 ((((ow207.step s216 (Z4 (ow207.ne_old lt8) Za)).step0 s234).step0 s248).ne_obS1 (rs206.mono ((s216.le).trans ((s234.le).trans s248.le))) ob249) Za)).ne_old lt8) Za)).ne_old lt8) Za)).step s308 (Z4 (((((((ow207.step s216 (Z4 (ow207.ne_old lt8) Za)).step0 s234).step0 s248).step s256 (Z4 ((((ow207.step s216 (Z4 (ow207.ne_old lt8) Za)).step0 s234).step0 s248).ne_obS1 (rs206.mono ((s216.le).trans ((s234.le).trans s248.le))) ob249) Za)).step s267 (Z4 (((((ow207.step s216 (Z4 (ow207.ne_old lt8) Za)).step0 s234).step0 s248).step s256 (Z4 ((((ow207.step s216 (Z4 (ow207.ne_old lt8) Za)).step0 s234).step0 s248).ne_obS1 (rs206.mono ((s216.le).trans ((s234.le).trans s248.le))) ob249) Za)).ne_old lt8) Za)).step s288 (Z4 ((((((ow207.step s216 (Z4 (ow207.ne_old lt8) Za)).step0 s234).step0 s248).step s256 (Z4 ((((ow207.step s216 (Z4 (ow207.ne_old lt8) Za)).step0 s234).step0 s248).ne_obS1 (rs206.mono ((s216.le).trans ((s234.le).trans s248.le))) ob249) Za)).step s267 (Z4 (((((ow207.step s216 (Z4 (ow207.ne_old lt8) Za)).step0 s234).step0 s248).step s256 (Z4 ((((ow207.step s216 (Z4 (ow207.ne_old lt8) Za)).step0 s234).step0 s248).ne_obS1 (rs206.mono ((s216.le).trans ((s234.le).trans s248.le))) ob249) Za)).ne_old lt8) Za)).ne_old lt8) Za)).ne_obS1 (rs206.mono ((s216.le).trans ((s234.le).trans ((s248.le).trans ((s256.le).trans ((s267.le).trans s288.le)))))) ob306) Za)).step0 s316).ne ob333 (by decide) _ hm rfl)).step1 s339 ne58)
   refine Z2c <| Z7y [0, 2, 3] [(0, pt b1 0), (2, pt b10 0), (3, pt b53 0)] rfl ?_
   exact IHL130 j129 (Nat.le_refl _) _ _ ⟨h327, r284.2, xs200, v201, xs204 ++ [(Ar.mk [r212.1] [] r284.1)], v325, HF, rfl, S341, (le115).trans ((le195).trans ((s216.le).trans ((s234.le).trans ((s248.le).trans ((s256.le).trans ((s267.le).trans ((s288.le).trans ((s308.le).trans ((s316.le).trans ((s330.le).trans s339.le)))))))))), (rs202.mono ((s216.le).trans ((s234.le).trans ((s248.le).trans ((s256.le).trans ((s267.le).trans ((s288.le).trans ((s308.le).trans ((s316.le).trans ((s330.le).trans s339.le)))))))))), ((((((((((ow203.step s216 (Z4 (ow203.ne_old lt8) Za)).step0 s234).step0 s248).step s256 (Z4 ((((ow203.step s216 (Z4 (ow203.ne_old lt8) Za)).step0 s234).step0 s248).ne_ob ob249 (by decide)) Za)).step s267 (Z4 (((((ow203.step s216 (Z4 (ow203.ne_old lt8) Za)).step0 s234).step0 s248).step s256 (Z4 ((((ow203.step s216 (Z4 (ow203.ne_old lt8) Za)).step0 s234).step0 s248).ne_ob ob249 (by decide)) Za)).ne_old lt8) Za)).step s288 (Z4 ((((((ow203.step s216 (Z4 (ow203.ne_old lt8) Za)).step0 s234).step0 s248).step s256 (Z4 ((((ow203.step s216 (Z4 (ow203.ne_old lt8) Za)).step0 s234).step0 s248).ne_ob ob249 (by decide)) Za)).step s267 (Z4 (((((ow203.step s216 (Z4 (ow203.ne_old lt8) Za)).step0 s234).step0 s248).step s256 (Z4 ((((ow203.step s216 (Z4 (ow203.ne_old lt8) Za)).step0 s234).step0 s248).ne_ob ob249 (by decide)) Za)).ne_old lt8) Za)).ne_old lt8) Za)).step s308 (Z4 (((((((ow203.step s216 (Z4 (ow203.ne_old lt8) Za)).step0 s234).step0 s248).step s256 (Z4 ((((ow203.step s216 (Z4 (ow203.ne_old lt8) Za)).step0 s234).step0 s248).ne_ob ob249 (by decide)) Za)).step s267 (Z4 (((((ow203.step s216 (Z4 (ow203.ne_old lt8) Za)).step0 s234).step0 s248).step s256 (Z4 ((((ow203.step s216 (Z4 (ow203.ne_old lt8) Za)).step0 s234).step0 s248).ne_ob ob249 (by decide)) Za)).ne_old lt8) Za)).step s288 (Z4 ((((((ow203.step s216 (Z4 (ow203.ne_old lt8) Za)).step0 s234).step0 s248).step s256 (Z4 ((((ow203.step s216 (Z4 (ow203.ne_old lt8) Za)).step0 s234).step0 s248).ne_ob ob249 (by decide)) Za)).step s267 (Z4 (((((ow203.step s216 (Z4 (ow203.ne_old lt8) Za)).step0 s234).step0 s248).step s256 (Z4 ((((ow203.step s216 (Z4 (ow203.ne_old lt8) Za)).step0 s234).step0 s248).ne_ob ob249 (by decide)) Za)).ne_old lt8) Za)).ne_old lt8) Za)).ne_ob ob306 (by decide)) Za)).step0 s316).step s330 (((((((((ow203.step s216 (Z4 (ow203.ne_old lt8) Za)).step0 s234).step0 s248).step s256 (Z4 ((((ow203.step s216 (Z4 (ow203.ne_old lt8) Za)).step0 s234).step0 s248).ne_ob ob249 (by decide)) Za)).step s267 (Z4 (((((ow203.step s216 (Z4 (ow203.ne_old lt8) Za)).step0 s234).step0 s248).step s256 (Z4 ((((ow203.step s216 (Z4 (ow203.ne_old lt8) Za)).step0 s234).step0 s248).ne_ob ob249 (by decide)) Za)).ne_old lt8) Za)).step s288 (Z4 ((((((ow203.step s216 (Z4 (ow203.ne_old lt8) Za)).step0 s234).step0 s248).step s256 (Z4 ((((ow203.step s216 (Z4 (ow203.ne_old lt8) Za)).step0 s234).step0 s248).ne_ob ob249 (by decide)) Za)).step s267 (Z4 (((((ow203.step s216 (Z4 (ow203.ne_old lt8) Za)).step0 s234).step0 s248).step s256 (Z4 ((((ow203.step s216 (Z4 (ow203.ne_old lt8) Za)).step0 s234).step0 s248).ne_ob ob249 (by decide)) Za)).ne_old lt8) Za)).ne_old lt8) Za)).step s308 (Z4 (((((((ow203.step s216 (Z4 (ow203.ne_old lt8) Za)).step0 s234).step0 s248).step s256 (Z4 ((((ow203.step s216 (Z4 (ow203.ne_old lt8) Za)).step0 s234).step0 s248).ne_ob ob249 (by decide)) Za)).step s267 (Z4 (((((ow203.step s216 (Z4 (ow203.ne_old lt8) Za)).step0 s234).step0 s248).step s256 (Z4 ((((ow203.step s216 (Z4 (ow203.ne_old lt8) Za)).step0 s234).step0 s248).ne_ob ob249 (by decide)) Za)).ne_old lt8) Za)).step s288 (Z4 ((((((ow203.step s216 (Z4 (ow203.ne_old lt8) Za)).step0 s234).step0 s248).step s256 (Z4 ((((ow203.step s216 (Z4 (ow203.ne_old lt8) Za)).step0 s234).step0 s248).ne_ob ob249 (by decide)) Za)).step s267 (Z4 (((((ow203.step s216 (Z4 (ow203.ne_old lt8) Za)).step0 s234).step0 s248).step s256 (Z4 ((((ow203.step s216 (Z4 (ow203.ne_old lt8) Za)).step0 s234).step0 s248).ne_ob ob249 (by decide)) Za)).ne_old lt8) Za)).ne_old lt8) Za)).ne_ob ob306 (by decide)) Za)).step0 s316).ne_own ((((((((ow207.step s216 (Z4 (ow207.ne_old lt8) Za)).step0 s234).step0 s248).step s256 (Z4 ((((ow207.step s216 (Z4 (ow207.ne_old lt8) Za)).step0 s234).step0 s248).ne_obS1 (rs206.mono ((s216.le).trans ((s234.le).trans s248.le))) ob249) Za)).step s267 (Z4 (((((ow207.step s216 (Z4 (ow207.ne_old lt8) Za)).step0 s234).step0 s248).step s256 (Z4 ((((ow207.step s216 (Z4 (ow207.ne_old lt8) Za)).step0 s234).step0 s248).ne_obS1 (rs206.mono ((s216.le).trans ((s234.le).trans s248.le))) ob249) Za)).ne_old lt8) Za)).step s288 (Z4 ((((((ow207.step s216 (Z4 (ow207.ne_old lt8) Za)).step0 s234).step0 s248).step s256 (Z4 ((((ow207.step s216 (Z4 (ow207.ne_old lt8) Za)).step0 s234).step0 s248).ne_obS1 (rs206.mono ((s216.le).trans ((s234.le).trans s248.le))) ob249) Za)).step s267 (Z4 (((((ow207.step s216 (Z4 (ow207.ne_old lt8) Za)).step0 s234).step0 s248).step s256 (Z4 ((((ow207.step s216 (Z4 (ow207.ne_old lt8) Za)).step0 s234).step0 s248).ne_obS1 (rs206.mono ((s216.le).trans ((s234.le).trans s248.le))) ob249) Za)).ne_old lt8) Za)).ne_old lt8) Za)).step s308 (Z4 (((((((ow207.step s216 (Z4 (ow207.ne_old lt8) Za)).step0 s234).step0 s248).step s256 (Z4 ((((ow207.step s216 (Z4 (ow207.ne_old lt8) Za)).step0 s234).step0 s248).ne_obS1 (rs206.mono ((s216.le).trans ((s234.le).trans s248.le))) ob249) Za)).step s267 (Z4 (((((ow207.step s216 (Z4 (ow207.ne_old lt8) Za)).step0 s234).step0 s248).step s256 (Z4 ((((ow207.step s216 (Z4 (ow207.ne_old lt8) Za)).step0 s234).step0 s248).ne_obS1 (rs206.mono ((s216.le).trans ((s234.le).trans s248.le))) ob249) Za)).ne_old lt8) Za)).step s288 (Z4 ((((((ow207.step s216 (Z4 (ow207.ne_old lt8) Za)).step0 s234).step0 s248).step s256 (Z4 ((((ow207.step s216 (Z4 (ow207.ne_old lt8) Za)).step0 s234).step0 s248).ne_obS1 (rs206.mono ((s216.le).trans ((s234.le).trans s248.le))) ob249) Za)).step s267 (Z4 (((((ow207.step s216 (Z4 (ow207.ne_old lt8) Za)).step0 s234).step0 s248).step s256 (Z4 ((((ow207.step s216 (Z4 (ow207.ne_old lt8) Za)).step0 s234).step0 s248).ne_obS1 (rs206.mono ((s216.le).trans ((s234.le).trans s248.le))) ob249) Za)).ne_old lt8) Za)).ne_old lt8) Za)).ne_obS1 (rs206.mono ((s216.le).trans ((s234.le).trans ((s248.le).trans ((s256.le).trans ((s267.le).trans s288.le)))))) ob306) Za)).step0 s316) (by decide))).step s339 (Z4 ((((((((((ow203.step s216 (Z4 (ow203.ne_old lt8) Za)).step0 s234).step0 s248).step s256 (Z4 ((((ow203.step s216 (Z4 (ow203.ne_old lt8) Za)).step0 s234).step0 s248).ne_ob ob249 (by decide)) Za)).step s267 (Z4 (((((ow203.step s216 (Z4 (ow203.ne_old lt8) Za)).step0 s234).step0 s248).step s256 (Z4 ((((ow203.step s216 (Z4 (ow203.ne_old lt8) Za)).step0 s234).step0 s248).ne_ob ob249 (by decide)) Za)).ne_old lt8) Za)).step s288 (Z4 ((((((ow203.step s216 (Z4 (ow203.ne_old lt8) Za)).step0 s234).step0 s248).step s256 (Z4 ((((ow203.step s216 (Z4 (ow203.ne_old lt8) Za)).step0 s234).step0 s248).ne_ob ob249 (by decide)) Za)).step s267 (Z4 (((((ow203.step s216 (Z4 (ow203.ne_old lt8) Za)).step0 s234).step0 s248).step s256 (Z4 ((((ow203.step s216 (Z4 (ow203.ne_old lt8) Za)).step0 s234).step0 s248).ne_ob ob249 (by decide)) Za)).ne_old lt8) Za)).ne_old lt8) Za)).step s308 (Z4 (((((((ow203.step s216 (Z4 (ow203.ne_old lt8) Za)).step0 s234).step0 s248).step s256 (Z4 ((((ow203.step s216 (Z4 (ow203.ne_old lt8) Za)).step0 s234).step0 s248).ne_ob ob249 (by decide)) Za)).step s267 (Z4 (((((ow203.step s216 (Z4 (ow203.ne_old lt8) Za)).step0 s234).step0 s248).step s256 (Z4 ((((ow203.step s216 (Z4 (ow203.ne_old lt8) Za)).step0 s234).step0 s248).ne_ob ob249 (by decide)) Za)).ne_old lt8) Za)).step s288 (Z4 ((((((ow203.step s216 (Z4 (ow203.ne_old lt8) Za)).step0 s234).step0 s248).step s256 (Z4 ((((ow203.step s216 (Z4 (ow203.ne_old lt8) Za)).step0 s234).step0 s248).ne_ob ob249 (by decide)) Za)).step s267 (Z4 (((((ow203.step s216 (Z4 (ow203.ne_old lt8) Za)).step0 s234).step0 s248).step s256 (Z4 ((((ow203.step s216 (Z4 (ow203.ne_old lt8) Za)).step0 s234).step0 s248).ne_ob ob249 (by decide)) Za)).ne_old lt8) Za)).ne_old lt8) Za)).ne_ob ob306 (by decide)) Za)).step0 s316).step s330 (((((((((ow203.step s216 (Z4 (ow203.ne_old lt8) Za)).step0 s234).step0 s248).step s256 (Z4 ((((ow203.step s216 (Z4 (ow203.ne_old lt8) Za)).step0 s234).step0 s248).ne_ob ob249 (by decide)) Za)).step s267 (Z4 (((((ow203.step s216 (Z4 (ow203.ne_old lt8) Za)).step0 s234).step0 s248).step s256 (Z4 ((((ow203.step s216 (Z4 (ow203.ne_old lt8) Za)).step0 s234).step0 s248).ne_ob ob249 (by decide)) Za)).ne_old lt8) Za)).step s288 (Z4 ((((((ow203.step s216 (Z4 (ow203.ne_old lt8) Za)).step0 s234).step0 s248).step s256 (Z4 ((((ow203.step s216 (Z4 (ow203.ne_old lt8) Za)).step0 s234).step0 s248).ne_ob ob249 (by decide)) Za)).step s267 (Z4 (((((ow203.step s216 (Z4 (ow203.ne_old lt8) Za)).step0 s234).step0 s248).step s256 (Z4 ((((ow203.step s216 (Z4 (ow203.ne_old lt8) Za)).step0 s234).step0 s248).ne_ob ob249 (by decide)) Za)).ne_old lt8) Za)).ne_old lt8) Za)).step s308 (Z4 (((((((ow203.step s216 (Z4 (ow203.ne_old lt8) Za)).step0 s234).step0 s248).step s256 (Z4 ((((ow203.step s216 (Z4 (ow203.ne_old lt8) Za)).step0 s234).step0 s248).ne_ob ob249 (by decide)) Za)).step s267 (Z4 (((((ow203.step s216 (Z4 (ow203.ne_old lt8) Za)).step0 s234).step0 s248).step s256 (Z4 ((((ow203.step s216 (Z4 (ow203.ne_old lt8) Za)).step0 s234).step0 s248).ne_ob ob249 (by decide)) Za)).ne_old lt8) Za)).step s288 (Z4 ((((((ow203.step s216 (Z4 (ow203.ne_old lt8) Za)).step0 s234).step0 s248).step s256 (Z4 ((((ow203.step s216 (Z4 (ow203.ne_old lt8) Za)).step0 s234).step0 s248).ne_ob ob249 (by decide)) Za)).step s267 (Z4 (((((ow203.step s216 (Z4 (ow203.ne_old lt8) Za)).step0 s234).step0 s248).step s256 (Z4 ((((ow203.step s216 (Z4 (ow203.ne_old lt8) Za)).step0 s234).step0 s248).ne_ob ob249 (by decide)) Za)).ne_old lt8) Za)).ne_old lt8) Za)).ne_ob ob306 (by decide)) Za)).step0 s316).ne_own ((((((((ow207.step s216 (Z4 (ow207.ne_old lt8) Za)).step0 s234).step0 s248).step s256 (Z4 ((((ow207.step s216 (Z4 (ow207.ne_old lt8) Za)).step0 s234).step0 s248).ne_obS1 (rs206.mono ((s216.le).trans ((s234.le).trans s248.le))) ob249) Za)).step s267 (Z4 (((((ow207.step s216 (Z4 (ow207.ne_old lt8) Za)).step0 s234).step0 s248).step s256 (Z4 ((((ow207.step s216 (Z4 (ow207.ne_old lt8) Za)).step0 s234).step0 s248).ne_obS1 (rs206.mono ((s216.le).trans ((s234.le).trans s248.le))) ob249) Za)).ne_old lt8) Za)).step s288 (Z4 ((((((ow207.step s216 (Z4 (ow207.ne_old lt8) Za)).step0 s234).step0 s248).step s256 (Z4 ((((ow207.step s216 (Z4 (ow207.ne_old lt8) Za)).step0 s234).step0 s248).ne_obS1 (rs206.mono ((s216.le).trans ((s234.le).trans s248.le))) ob249) Za)).step s267 (Z4 (((((ow207.step s216 (Z4 (ow207.ne_old lt8) Za)).step0 s234).step0 s248).step s256 (Z4 ((((ow207.step s216 (Z4 (ow207.ne_old lt8) Za)).step0 s234).step0 s248).ne_obS1 (rs206.mono ((s216.le).trans ((s234.le).trans s248.le))) ob249) Za)).ne_old lt8) Za)).ne_old lt8) Za)).step s308 (Z4 (((((((ow207.step s216 (Z4 (ow207.ne_old lt8) Za)).step0 s234).step0 s248).step s256 (Z4 ((((ow207.step s216 (Z4 (ow207.ne_old lt8) Za)).step0 s234).step0 s248).ne_obS1 (rs206.mono ((s216.le).trans ((s234.le).trans s248.le))) ob249) Za)).step s267 (Z4 (((((ow207.step s216 (Z4 (ow207.ne_old lt8) Za)).step0 s234).step0 s248).step s256 (Z4 ((((ow207.step s216 (Z4 (ow207.ne_old lt8) Za)).step0 s234).step0 s248).ne_obS1 (rs206.mono ((s216.le).trans ((s234.le).trans s248.le))) ob249) Za)).ne_old lt8) Za)).step s288 (Z4 ((((((ow207.step s216 (Z4 (ow207.ne_old lt8) Za)).step0 s234).step0 s248).step s256 (Z4 ((((ow207.step s216 (Z4 (ow207.ne_old lt8) Za)).step0 s234).step0 s248).ne_obS1 (rs206.mono ((s216.le).trans ((s234.le).trans s248.le))) ob249) Za)).step s267 (Z4 (((((ow207.step s216 (Z4 (ow207.ne_old lt8) Za)).step0 s234).step0 s248).step s256 (Z4 ((((ow207.step s216 (Z4 (ow207.ne_old lt8) Za)).step0 s234).step0 s248).ne_obS1 (rs206.mono ((s216.le).trans ((s234.le).trans s248.le))) ob249) Za)).ne_old lt8) Za)).ne_old lt8) Za)).ne_obS1 (rs206.mono ((s216.le).trans ((s234.le).trans ((s248.le).trans ((s256.le).trans ((s267.le).trans s288.le)))))) ob306) Za)).step0 s316) (by decide))).ne_ob ob337 (by decide)) Za)), (rs328.mono (s339.le)), (ow329.step s339 (Z4 (ow329.ne_ob ob337 (by decide)) Za)), ob345, ob346, ob340⟩
  intro J342
  refine Zb <| Z1 <| Wm rfl rfl ?_
  obtain ⟨r132, hr133, HF⟩ := Z8 HF
  refine Wc rfl (Ze (vs := [pt b1 0, .string b'2]) rfl Z4r) (Z0n _ hr133 S116.sub (rs5.mono ((s12.le).trans ((s25.le).trans ((s43.le).trans ((s55.le).trans ((s62.le).trans ((s73.le).trans ((s92.le).trans ((s110.le).trans le115))))))))) ob118) ?_
  rintro _ w135 ⟨h136, s137, rfl, ob138⟩
  have S139 := S116.trans s137 (Zn (.inl (by simp)) Z04)
  refine Z7 <| Z6 <| Z17 HF rfl (fun HF => ?_) (fun HF => ?_)
  ·refine Zm ?_
   have ob343 := (ob119.step1 s137 (Ne.symm ne14))
   have ob344 := (ob128.step1 s137 (Ne.symm ne57))
   refine Z0g [0, 2, 3] _ rfl ?_
   exact J342 ⟨h136, r132.2, xs120, v121, xs124, v125, HF, rfl, S139, s137.le, (rs122.mono (s137.le)), (ow123.step s137 (Z4 (ow123.ne_old lt8) Za)), (rs126.mono (s137.le)), (ow127.step s137 (Z4 (ow127.ne_old lt8) Za)), ob138, ob343, ob344⟩
  refine Z4x <| Zz <| Zz <| Z1a <| Z6 <| Zb <| Z1 <| Wm rfl rfl ?_
  have ob141 := (ob128.step1 s137 (Ne.symm ne57))
  obtain ⟨r142, hr143, HF⟩ := Z8 HF
  rcases r142 with t144 | r145
  ·obtain rfl := Z01 HF
   have ob150 := (ob119.step1 s137 (Ne.symm ne14))
   refine Z0i rfl (Ze (vs := [pt b1 0, pt b53 0]) rfl t_ent_156) ((IH _ (Nat.le_trans (Nat.le_of_succ_le hj131) (Nat.le_refl _))).2.2.1 hr143 S139.sub (rs5.mono ((s12.le).trans ((s25.le).trans ((s43.le).trans ((s55.le).trans ((s62.le).trans ((s73.le).trans ((s92.le).trans ((s110.le).trans ((le115).trans s137.le)))))))))) (RS.nil _) (RS.nil _) (rs122.mono (s137.le)) (rs103.mono ((s110.le).trans ((le115).trans s137.le))) (rs126.mono (s137.le)) (RS.nil _) ob138 ob141 ne57) ?_
   rintro ch155 w156 ⟨ht157, h158, s159, ob151, ⟨v152, rs153, ob154⟩⟩
   refine Zd <| Zp ?_
   have S160 := S139.trans s159 (Zn (.inl (by simp)) (Zn (.inr g59) Z04))
   exact ⟨_, rfl, ht157, h158, S160, ob151⟩
  replace HF := Z0j HF
  refine Wc rfl (Ze (vs := [pt b1 0, pt b53 0]) rfl t_ent_156) ((IH _ (Nat.le_trans (Nat.le_of_succ_le hj131) (Nat.le_refl _))).2.2.1 hr143 S139.sub (rs5.mono ((s12.le).trans ((s25.le).trans ((s43.le).trans ((s55.le).trans ((s62.le).trans ((s73.le).trans ((s92.le).trans ((s110.le).trans ((le115).trans s137.le)))))))))) (RS.nil _) (RS.nil _) (rs122.mono (s137.le)) (rs103.mono ((s110.le).trans ((le115).trans s137.le))) (rs126.mono (s137.le)) (RS.nil _) ob138 ob141 ne57) ?_
  have ob161 := (ob119.step1 s137 (Ne.symm ne14))
  rintro v146 w147 ⟨h148, s149, rfl, ob162, ⟨v163, rs164, ob165⟩⟩
  have S166 := S139.trans s149 (Zn (.inl (by simp)) (Zn (.inr g59) Z04))
  refine Z7 <| Z6 <| Zb <| Z1 <| Wm rfl rfl ?_
  obtain ⟨r167, hr168, HF⟩ := Z8 HF
  rcases r167 with t169 | r170
  ·obtain rfl := Z01 HF
   have ob175 := (ob161.step s149 (Z5l (Ne.symm ne14) (Z5l ne58 ni_nil)))
   refine Z0i rfl (Ze (vs := [pt b1 0, .string b'4]) rfl Z21) (Zj _ hr168 S166.sub (rs5.mono ((s12.le).trans ((s25.le).trans ((s43.le).trans ((s55.le).trans ((s62.le).trans ((s73.le).trans ((s92.le).trans ((s110.le).trans ((le115).trans ((s137.le).trans s149.le))))))))))) ob162) ?_
   rintro ch177 w178 ⟨ht179, h180, s181, ob176⟩
   refine Zd <| Zp ?_
   have S182 := S166.trans s181 (Zn (.inl (by simp)) Z04)
   exact ⟨_, rfl, ht179, h180, S182, ob176⟩
  replace HF := Z0j HF
  refine Wc rfl (Ze (vs := [pt b1 0, .string b'4]) rfl Z21) (Zj _ hr168 S166.sub (rs5.mono ((s12.le).trans ((s25.le).trans ((s43.le).trans ((s55.le).trans ((s62.le).trans ((s73.le).trans ((s92.le).trans ((s110.le).trans ((le115).trans ((s137.le).trans s149.le))))))))))) ob162) ?_
  have ob183 := (ob161.step s149 (Z5l (Ne.symm ne14) (Z5l ne58 ni_nil)))
  rintro v171 w172 ⟨h173, s174, rfl, ob184⟩
  have S185 := S166.trans s174 (Zn (.inl (by simp)) Z04)
  refine Z7 <| Z6 <| Zb <| Z1 ?_
  have ob186 := (ob165.step1 s174 (Ne.symm ne57))
  refine Wv rfl (Z16 (cs := [vi 3, .string b'47, .slice none 0 0, .slice none 0 0, v121, vi 0, v102, v125, v163, .bool r145.2.2]) rfl Z4g Z0h (OB.cells ob186 0 rfl)) ?_
  have ob187 := (ob183.step1 s174 (Ne.symm ne14))
  refine Zo (vs := [vi 3, .string b'47, .slice none 0 0, .slice none 0 0, v121, vi 0, v102, v125, v163, .bool r145.2.2]) rfl rfl rfl rfl Z0h (Z5 rfl (Z5 rfl (Z5 rfl (Z5 rfl (Z5 (RS.one (rs122.mono ((s137.le).trans ((s149.le).trans s174.le)))) (Z5 rfl (Z5 (RS.one (rs103.mono ((s110.le).trans ((le115).trans ((s137.le).trans ((s149.le).trans s174.le)))))) (Z5 (RS.one (rs126.mono ((s137.le).trans ((s149.le).trans s174.le)))) (Z5 (RS.one (rs164.mono (s174.le))) (Z5 rfl Zx)))))))))) ob187 S185.sub (by simp) (ds := [vi 3, .string b'47, .slice none 0 0, .slice none 0 0, v121, vi 0, v102, v125, v163, .bool r145.2.2]) rfl (fun w188 s189 ob190 => ?_)
  have S191 := S185.trans1 s189 (.inr g15)
  refine Z7 <| Z6 <| Z00 ?_
  have ob192 := (ob184.step1 s189 ne14)
  refine Z5p rfl rfl (Z11 (cs := [vi 3, .string b'47, .slice none 0 0, .slice none 0 0, v121, vi 0, v102, v125, v163, .bool r145.2.2]) Z4g Z0h (OB.cells ob190 0 rfl)) ?_
  obtain rfl := Option.some.inj HF
  exact ⟨_, rfl, h173, S191, ⟨_, rfl, (Zgz.2 ⟨_, _, _, _, _, _, rfl, (RS.nil _), (RS.nil _), (rs122.mono ((s137.le).trans ((s149.le).trans ((s174.le).trans s189.le)))), (rs103.mono ((s110.le).trans ((le115).trans ((s137.le).trans ((s149.le).trans ((s174.le).trans s189.le)))))), (rs126.mono ((s137.le).trans ((s149.le).trans ((s174.le).trans s189.le)))), (rs164.mono ((s174.le).trans s189.le))⟩)⟩, ob192⟩
 have ob347 := (ob106.step1 s110 ne57)
 have ob348 := ((ob104.step1 s92 (Ne.symm ne14)).step1 s110 ne58)
 exact ⟨h91, r88.2, [r21.1], sl b41 0 1 1, ([] : List Ar), .slice none 0 0, HF, rfl, S112, Hle.refl _, (rs48.mono ((s55.le).trans ((s62.le).trans ((s73.le).trans ((s92.le).trans s110.le))))), (((((ow49.step0 s55).step s62 (Z4 ((ow49.step0 s55).ne_ob ob56 (by decide)) Za)).step s73 (Z4 (((ow49.step0 s55).step s62 (Z4 ((ow49.step0 s55).ne_ob ob56 (by decide)) Za)).ne_old lt8) Za)).step s92 (Z4 ((((ow49.step0 s55).step s62 (Z4 ((ow49.step0 s55).ne_ob ob56 (by decide)) Za)).step s73 (Z4 (((ow49.step0 s55).step s62 (Z4 ((ow49.step0 s55).ne_ob ob56 (by decide)) Za)).ne_old lt8) Za)).ne_old lt8) Za)).step s110 (Z4 (((((ow49.step0 s55).step s62 (Z4 ((ow49.step0 s55).ne_ob ob56 (by decide)) Za)).step s73 (Z4 (((ow49.step0 s55).step s62 (Z4 ((ow49.step0 s55).ne_ob ob56 (by decide)) Za)).ne_old lt8) Za)).step s92 (Z4 ((((ow49.step0 s55).step s62 (Z4 ((ow49.step0 s55).ne_ob ob56 (by decide)) Za)).step s73 (Z4 (((ow49.step0 s55).step s62 (Z4 ((ow49.step0 s55).ne_ob ob56 (by decide)) Za)).ne_old lt8) Za)).ne_old lt8) Za)).ne_ob ob108 (by decide)) Za)), (RS.nil _), (Own.nil _ _ _ _ _), ob347, ob348, ob111⟩
theorem s_parse_Parser_choice (k : Nat) (IH : ∀ j, j ≤ k → Z2b (Z9 j).parse_Parser_Text ∧ Z2i (Z9 j).parse_Parser_count ∧ Z2h (Z9 j).parse_Parser_other ∧ Z2g (Z9 j).parse_Parser_while ∧ Z28 (Z9 j).parse_Parser_branch ∧ Z27 (Z9 j).parse_Parser_choice ∧ Z26 (Z9 j).parse_Parser_repeat) : Z27 (Zc6 k (Z9 k)) := by
 intro xs3 x6 r HF w0 h0 b1 T2 v4 hs0 rs5 ob7
 have S0 : Stp [b1] w0 h0 w0 h0 := Stp.refl hs0 _
 have lt8 : b1 < w0.heap.size := OB.lt ob7
 refine Z4j (n := 50) Tryz.func101 rfl Tryz.ntmps101 rfl [(0, pt b1 0)] rfl <| Zb <| Z1 <| Z15 (zs := [vi 0, .string b'47, .slice none 0 0, .slice none 0 0, .slice none 0 0, vi 0, .slice none 0 0, .slice none 0 0, .slice none 0 0, .bool false]) rfl rfl Z2n rfl S0.sub (fun w9 b10 hb11 s12 ob13 => ?_)
 have ne14 : b1 ≠ b10 := ob7.ne_new hb11
 have g15 : w0.heap.size ≤ b10 := by rw [hb11]; exact S0.size
 have S16 := S0.trans0 s12
 refine Z7 <| Z6 <| Zb <| Z1 <| Wm rfl rfl ?_
 have ob17 := (ob7.step0 s12)
 obtain ⟨r18, hr19, HF⟩ := Z8 HF
 rcases r18 with t20 | r21
 ·obtain rfl := Z01 HF
  refine Z0i rfl (Ze (vs := [pt b1 0]) rfl Z3e) (Z05 _ hr19 S16.sub (rs5.mono (s12.le)) ob17) ?_
  rintro ch27 w28 ⟨ht29, h30, s31, ob26⟩
  refine Zd <| Zp ?_
  have S32 := S16.trans s31 (Zn (.inl (by simp)) Z04)
  exact ⟨_, rfl, ht29, h30, S32, ob26⟩
 replace HF := Z0j HF
 refine Wc rfl (Ze (vs := [pt b1 0]) rfl Z3e) (Z05 _ hr19 S16.sub (rs5.mono (s12.le)) ob17) ?_
 rintro _ w23 ⟨h24, s25, ⟨cs33, rfl, r34⟩, ob35⟩
 have S36 := S16.trans s25 (Zn (.inl (by simp)) Z04)
 obtain ⟨v37, rfl, rs38⟩ := Z7n.1 r34
 have ob46 := (ob13.step1 s25 (Ne.symm ne14))
 refine Z14 (us := [.agg #[vi r21.1.op, vi r21.1.kind, vi r21.1.n, .string r21.1.s, .string r21.1.f, v37]]) (cs := [vi r21.1.op, vi r21.1.kind, vi r21.1.n, .string r21.1.s, .string r21.1.f, v37]) rfl rfl rfl Z0y Zw Z1t rfl (Z4a rfl Zc3) rfl rfl rfl S36.sub (fun w39 h40 b41 hb42 s43 hk44 hc45 => ?_)
 have S47 := S36.trans0 s43
 have rs48 : RS h40 (sl b41 0 1 1) ([r21.1] : List Ex) := RS.litL _ [[vi r21.1.op, vi r21.1.kind, vi r21.1.n, .string r21.1.s, .string r21.1.f, v37]] rfl rfl hc45 ⟨(Z7n.2 ⟨_, rfl, (rs38.mono (s43.le))⟩), trivial⟩
 have ow49 := Own.lit (base := w0.heap.size) (sz := 6) (m := 1) hk44 hc45 (by rw [hb42]; exact S36.size) rfl (by decide)
 refine Wv rfl (Z38 (vs := [(0, vi 4), (4, sl b41 0 1 1)]) (cs := [vi 4, .string b'47, .slice none 0 0, .slice none 0 0, sl b41 0 1 1, vi 0, .slice none 0 0, .slice none 0 0, .slice none 0 0, .bool false]) rfl Z9q Z2n rfl) ?_
 have ob50 := (ob35.step0 s43)
 have ob51 := (ob46.step0 s43)
 refine Z15 (zs := [vi 0, .string b'47, .slice none 0 0, .slice none 0 0, .slice none 0 0, vi 0, .slice none 0 0, .slice none 0 0, .slice none 0 0, .bool false]) rfl rfl Z2n rfl S47.sub (fun w52 b53 hb54 s55 ob56 => ?_)
 have ne57 : b1 ≠ b53 := ob50.ne_new hb54
 have ne58 : b10 ≠ b53 := ob51.ne_new hb54
 have g59 : w0.heap.size ≤ b53 := by rw [hb54]; exact S47.size
 have S60 := S47.trans0 s55
 refine Zo (vs := [vi 4, .string b'47, .slice none 0 0, .slice none 0 0, sl b41 0 1 1, vi 0, .slice none 0 0, .slice none 0 0, .slice none 0 0, .bool false]) rfl rfl rfl rfl Z0h (Z5 rfl (Z5 rfl (Z5 rfl (Z5 rfl (Z5 rfl (Z5 rfl (Z5 rfl (Z5 rfl (Z5 rfl (Z5 rfl Zx)))))))))) ob56 S60.sub (by simp) (ds := [vi 4, .string b'47, .slice none 0 0, .slice none 0 0, sl b41 0 1 1, vi 0, .slice none 0 0, .slice none 0 0, .slice none 0 0, .bool false]) rfl (fun w61 s62 ob63 => ?_)
 have S64 := S60.trans1 s62 (.inr g59)
 refine Z7 <| Z6 <| Zb <| Z1 <| Wm rfl rfl ?_
 have ob65 := ((ob50.step0 s55).step1 s62 ne57)
 obtain ⟨r66, hr67, HF⟩ := Z8 HF
 rcases r66 with t68 | r69
 ·obtain rfl := Z01 HF
  have ob74 := ((ob51.step0 s55).step1 s62 ne58)
  refine Z0i rfl (Ze (vs := [pt b1 0, .string b'14]) rfl Z21) (Zj _ hr67 S64.sub (rs5.mono ((s12.le).trans ((s25.le).trans ((s43.le).trans ((s55.le).trans s62.le))))) ob65) ?_
  rintro ch76 w77 ⟨ht78, h79, s80, ob75⟩
  refine Zd <| Zp ?_
  have S81 := S64.trans s80 (Zn (.inl (by simp)) Z04)
  exact ⟨_, rfl, ht78, h79, S81, ob75⟩
 replace HF := Z0j HF
 refine Wc rfl (Ze (vs := [pt b1 0, .string b'14]) rfl Z21) (Zj _ hr67 S64.sub (rs5.mono ((s12.le).trans ((s25.le).trans ((s43.le).trans ((s55.le).trans s62.le))))) ob65) ?_
 have ob82 := ((ob51.step0 s55).step1 s62 ne58)
 rintro v70 w71 ⟨h72, s73, rfl, ob83⟩
 have S84 := S64.trans s73 (Zn (.inl (by simp)) Z04)
 refine Z7 <| Z6 <| Zb <| Z0p <| Z4m <| Z7y [0, 2, 3] [(0, pt b1 0), (2, pt b10 0), (3, pt b53 0)] rfl <| Z4k (K := k) (fun j E w86 => ∃ (h85 : Hp) (x89 : Int) (xs92 : List Ex) (v93 : Value) (xs96 : List Ar) (v97 : Value), (Z9 j).parse_Parser_choice_l1 xs3 x89 xs92 xs96 = some r ∧ E = [(0, pt b1 0), (2, pt b10 0), (3, pt b53 0)] ∧ Stp [b1] w0 h0 w86 h85 ∧ Hle h72 h85 ∧ RS h85 v93 xs92 ∧ Own w86 h85 w0.heap.size 47 6 v93 xs92.length ∧ RS h85 v97 xs96 ∧ Own w86 h85 w0.heap.size 77 3 v97 xs96.length ∧ OB w86 h85 b1 T2 [v4, vi x89] ∧ OB w86 h85 b10 56 [vi 0, .string b'47, .slice none 0 0, .slice none 0 0, .slice none 0 0, vi 0, .slice none 0 0, .slice none 0 0, .slice none 0 0, .bool false] ∧ OB w86 h85 b53 56 [vi 4, .string b'47, .slice none 0 0, .slice none 0 0, v93, vi 0, .slice none 0 0, v97, .slice none 0 0, .bool false]) ?_ ?_ (j := k) (Nat.le_refl _) ?_
 ·rintro E w86 ⟨_, _, _, _, _, _, HF, _⟩; cases HF
 ·rintro j101 hj103 IHL102 E w86 ⟨h85, x89, xs92, v93, xs96, v97, HF, rfl, S88, le87, rs94, ow95, rs98, ow99, ob90, ob91, ob100⟩
  refine Z09 (fun E w198 => ∃ (h197 : Hp) (xs203 : List Ex) (v204 : Value) (xs207 : List Ar) (v208 : Value), Zbg j101 (Z9 j101) xs3 x89 xs203 xs207 = some r ∧ E = [(0, pt b1 0), (2, pt b10 0), (3, pt b53 0)] ∧ Stp [b1] w0 h0 w198 h197 ∧ Hle h85 h197 ∧ RS h197 v204 xs203 ∧ Own w198 h197 w0.heap.size 47 6 v204 xs203.length ∧ RS h197 v208 xs207 ∧ Own w198 h197 w0.heap.size 77 3 v208 xs207.length ∧ OB w198 h197 b1 T2 [v4, vi x89] ∧ OB w198 h197 b10 56 [vi 0, .string b'47, .slice none 0 0, .slice none 0 0, .slice none 0 0, vi 0, .slice none 0 0, .slice none 0 0, .slice none 0 0, .bool false] ∧ OB w198 h197 b53 56 [vi 4, .string b'47, .slice none 0 0, .slice none 0 0, v204, vi 0, .slice none 0 0, v208, .slice none 0 0, .bool false]) ?_ ?_
  ·rintro E w198 ⟨h197, xs203, v204, xs207, v208, HF, rfl, S200, le199, rs205, ow206, rs209, ow210, ob201, ob202, ob211⟩
   refine Z0p <| Zb <| Z1 <| Wm rfl rfl ?_
   obtain ⟨r212, hr213, HF⟩ := Z8 HF
   rcases r212 with t214 | r215
   ·obtain rfl := Z01 HF
    refine Z0i rfl (Ze (vs := [pt b1 0]) rfl t_ent_158) (Z6g _ hr213 S200.sub (rs5.mono ((s12.le).trans ((s25.le).trans ((s43.le).trans ((s55.le).trans ((s62.le).trans ((s73.le).trans ((le87).trans le199)))))))) ob201) ?_
    rintro ch221 w222 ⟨ht223, h224, s225, ob220⟩
    refine Zd <| Zr <| Zd <| Zr <| Zd <| Zp ?_
    have S226 := S200.trans s225 (Zn (.inl (by simp)) Z04)
    exact ⟨_, rfl, ht223, h224, S226, ob220⟩
   replace HF := Z0j HF
   refine Wc rfl (Ze (vs := [pt b1 0]) rfl t_ent_158) (Z6g _ hr213 S200.sub (rs5.mono ((s12.le).trans ((s25.le).trans ((s43.le).trans ((s55.le).trans ((s62.le).trans ((s73.le).trans ((le87).trans le199)))))))) ob201) ?_
   rintro _ w217 ⟨h218, s219, rfl, ob227⟩
   have S228 := S200.trans s219 (Zn (.inl (by simp)) Z04)
   have ob236 := (ob202.step1 s219 (Ne.symm ne14))
   have ob237 := (ob211.step1 s219 (Ne.symm ne57))
   refine Z14 (us := [vi r215.1]) (cs := [vi r215.1]) rfl rfl rfl Z3h Z1p t_zero_3 rfl (Z4a rfl Zc3) rfl rfl rfl S228.sub (fun w229 h230 b231 hb232 s233 hk234 hc235 => ?_)
   have S238 := S228.trans0 s233
   have rs239 : RS h230 (sl b231 0 1 1) ([r215.1] : List Int) := RS.litL _ [[vi r215.1]] rfl rfl hc235 ⟨rfl, trivial⟩
   have ow240 := Own.lit (base := w0.heap.size) (sz := 1) (m := 1) hk234 hc235 (by rw [hb232]; exact S228.size) rfl (by decide)
   refine Wv rfl (Z38 (vs := [(1, sl b231 0 1 1)]) (cs := [.slice none 0 0, sl b231 0 1 1, .slice none 0 0]) rfl t_places_77 Z9y rfl) ?_
   have ob241 := (ob227.step0 s233)
   have ob242 := (ob236.step0 s233)
   have ob243 := (ob237.step0 s233)
   refine Z15 (zs := [.slice none 0 0, .slice none 0 0, .slice none 0 0]) rfl rfl Z9y rfl S238.sub (fun w244 b245 hb246 s247 ob248 => ?_)
   have ne249 : b1 ≠ b245 := ob241.ne_new hb246
   have ne250 : b10 ≠ b245 := ob242.ne_new hb246
   have ne251 : b53 ≠ b245 := ob243.ne_new hb246
   have g252 : w0.heap.size ≤ b245 := by rw [hb246]; exact S238.size
   have S253 := S238.trans0 s247
   refine Zo (vs := [.slice none 0 0, sl b231 0 1 1, .slice none 0 0]) rfl rfl rfl rfl Z20 (Z5 rfl (Z5 rfl (Z5 rfl Zx))) ob248 S253.sub (by simp) (ds := [.slice none 0 0, sl b231 0 1 1, .slice none 0 0]) rfl (fun w254 s255 ob256 => ?_)
   have S257 := S253.trans1 s255 (.inr g252)
   refine Z7 <| Z6 <| Zb <| Z0p <| Z4m <| Z7y [0, 2, 3, 4] [(0, pt b1 0), (2, pt b10 0), (3, pt b53 0), (4, pt b245 0)] rfl <| Z4k (K := j101) (fun j E w259 => ∃ (h258 : Hp) (x262 : Int) (xs265 : List Ex) (v266 : Value) (xs269 : List Ar) (v270 : Value) (xs274 : List Int) (v275 : Value), (Z9 j).parse_Parser_choice_l4 xs3 x262 xs265 xs269 xs274 = some r ∧ E = [(0, pt b1 0), (2, pt b10 0), (3, pt b53 0), (4, pt b245 0)] ∧ Stp [b1] w0 h0 w259 h258 ∧ Hle h230 h258 ∧ RS h258 v266 xs265 ∧ Own w259 h258 w0.heap.size 47 6 v266 xs265.length ∧ RS h258 v270 xs269 ∧ Own w259 h258 w0.heap.size 77 3 v270 xs269.length ∧ RS h258 v275 xs274 ∧ Own w259 h258 w0.heap.size 3 1 v275 xs274.length ∧ OB w259 h258 b1 T2 [v4, vi x262] ∧ OB w259 h258 b10 56 [vi 0, .string b'47, .slice none 0 0, .slice none 0 0, .slice none 0 0, vi 0, .slice none 0 0, .slice none 0 0, .slice none 0 0, .bool false] ∧ OB w259 h258 b53 56 [vi 4, .string b'47, .slice none 0 0, .slice none 0 0, v266, vi 0, .slice none 0 0, v270, .slice none 0 0, .bool false] ∧ OB w259 h258 b245 77 [.slice none 0 0, v275, .slice none 0 0]) ?_ ?_ (j := j101) (Nat.le_refl _) ?_
   ·rintro E w259 ⟨_, _, _, _, _, _, _, _, HF, _⟩; cases HF
   ·rintro j279 hj281 IHL280 E w259 ⟨h258, x262, xs265, v266, xs269, v270, xs274, v275, HF, rfl, S261, le260, rs267, ow268, rs271, ow272, rs276, ow277, ob263, ob264, ob273, ob278⟩
    refine Z09 (fun E w376 => ∃ (h375 : Hp) (x379 : Int) (xs382 : List Ex) (v383 : Value) (xs386 : List Ar) (v387 : Value) (xs391 : List Int) (v392 : Value), Zbz j279 (Z9 j279) xs3 x379 xs382 xs386 xs391 = some r ∧ E = [(0, pt b1 0), (2, pt b10 0), (3, pt b53 0), (4, pt b245 0)] ∧ Stp [b1] w0 h0 w376 h375 ∧ Hle h258 h375 ∧ RS h375 v383 xs382 ∧ Own w376 h375 w0.heap.size 47 6 v383 xs382.length ∧ RS h375 v387 xs386 ∧ Own w376 h375 w0.heap.size 77 3 v387 xs386.length ∧ RS h375 v392 xs391 ∧ Own w376 h375 w0.heap.size 3 1 v392 xs391.length ∧ OB w376 h375 b1 T2 [v4, vi x379] ∧ OB w376 h375 b10 56 [vi 0, .string b'47, .slice none 0 0, .slice none 0 0, .slice none 0 0, vi 0, .slice none 0 0, .slice none 0 0, .slice none 0 0, .bool false] ∧ OB w376 h375 b53 56 [vi 4, .string b'47, .slice none 0 0, .slice none 0 0, v383, vi 0, .slice none 0 0, v387, .slice none 0 0, .bool false] ∧ OB w376 h375 b245 77 [.slice none 0 0, v392, .slice none 0 0]) ?_ ?_
    ·rintro E w376 ⟨h375, x379, xs382, v383, xs386, v387, xs391, v392, HF, rfl, S378, le377, rs384, ow385, rs388, ow389, rs393, ow394, ob380, ob381, ob390, ob395⟩
     refine Z0p <| Zb <| Z1 <| Wm rfl rfl ?_
     obtain ⟨r396, hr397, HF⟩ := Z8 HF
     rcases r396 with t398 | r399
     ·obtain rfl := Z01 HF
      refine Z0i rfl (Ze (vs := [pt b1 0]) rfl t_ent_158) (Z6g _ hr397 S378.sub (rs5.mono ((s12.le).trans ((s25.le).trans ((s43.le).trans ((s55.le).trans ((s62.le).trans ((s73.le).trans ((le87).trans ((le199).trans ((s219.le).trans ((s233.le).trans ((s247.le).trans ((s255.le).trans ((le260).trans le377)))))))))))))) ob380) ?_
      rintro ch405 w406 ⟨ht407, h408, s409, ob404⟩
      refine Zd <| Zr <| Zd <| Zr <| Zd <| Zr <| Zd <| Zr <| Zd <| Zp ?_
      have S410 := S378.trans s409 (Zn (.inl (by simp)) Z04)
      exact ⟨_, rfl, ht407, h408, S410, ob404⟩
     replace HF := Z0j HF
     refine Wc rfl (Ze (vs := [pt b1 0]) rfl t_ent_158) (Z6g _ hr397 S378.sub (rs5.mono ((s12.le).trans ((s25.le).trans ((s43.le).trans ((s55.le).trans ((s62.le).trans ((s73.le).trans ((le87).trans ((le199).trans ((s219.le).trans ((s233.le).trans ((s247.le).trans ((s255.le).trans ((le260).trans le377)))))))))))))) ob380) ?_
     rintro _ w401 ⟨h402, s403, rfl, ob411⟩
     have S412 := S378.trans s403 (Zn (.inl (by simp)) Z04)
     refine Wa rfl rfl <| Z7 <| Z6 <| Z1 <| Wv rfl (Z2 rfl Z42) ?_
     have ob413 := (ob395.step1 s403 (Ne.symm ne249))
     refine Wv rfl (Zc rfl Zc4 (OB.cell ob413 (j := 1) rfl)) <| Wm rfl rfl ?_
     have ob421 := (ob381.step1 s403 (Ne.symm ne14))
     have ob422 := (ob390.step1 s403 (Ne.symm ne57))
     refine Z14 (us := [vi r399.1]) (cs := [vi r399.1]) rfl rfl rfl Z3h Z1p t_zero_3 rfl (Z4a rfl Zc3) rfl rfl rfl S412.sub (fun w414 h415 b416 hb417 s418 hk419 hc420 => ?_)
     have S423 := S412.trans0 s418
     have rs424 : RS h415 (sl b416 0 1 1) ([r399.1] : List Int) := RS.litL _ [[vi r399.1]] rfl rfl hc420 ⟨rfl, trivial⟩
     have ow425 := Own.lit (base := w0.heap.size) (sz := 1) (m := 1) hk419 hc420 (by rw [hb417]; exact S412.size) rfl (by decide)
     obtain ⟨hl426, HF⟩ := Zdu HF
     have ob434 := (ob411.step0 s418)
     have ob435 := (ob421.step0 s418)
     have ob436 := (ob422.step0 s418)
     have ob437 := (ob413.step0 s418)
     refine Zeb (xs := (xs391 : List Int)) (ys := [r399.1]) rfl rfl rfl rfl Z3h Z1p t_zero_3 rfl t_bytes_3 rfl ((ow394.step s403 (Z4 (ow394.ne_old lt8) Za)).step0 s418) (rs393.mono ((s403.le).trans s418.le)) rs424 hl426 S423.sub S423.size (by rw [S423.eqb]; exact hs0.big) (fun v427 w428 h429 rs430 ow431 s432 at433 => ?_)
     have S438 := S423.trans s432 (fun i hi => .inr (((ow394.step s403 (Z4 (ow394.ne_old lt8) Za)).step0 s418).base_le i hi))
     refine Wv rfl (Z2 rfl Z42) ?_
     have ob439 := (ob437.step s432 (fun hm => ((ow394.step s403 (Z4 (ow394.ne_old lt8) Za)).step0 s418).ne ob437 (by decide) _ hm rfl))
     refine Zo (vs := [v427]) rfl rfl rfl (RS.cellsL rs430) t_size_75 (Z5 (RS.one rs430) Zx) ob439 S438.sub (by simp) (ds := [.slice none 0 0, v427, .slice none 0 0]) rfl (fun w440 s441 ob442 => ?_)
     have S443 := S438.trans1 s441 (.inr g252)
     refine Z7 <| Z0a ?_
     have ob448 := ((ob434.step s432 (fun hm => absurd (((ow394.step s403 (Z4 (ow394.ne_old lt8) Za)).step0 s418).base_le _ hm) (Nat.not_le.2 lt8))).step1 s441 ne249)
     have ob449 := ((ob435.step s432 (fun hm => ((ow394.step s403 (Z4 (ow394.ne_old lt8) Za)).step0 s418).ne ob435 (by decide) _ hm rfl)).step1 s441 ne250)
     have ob450 := ((ob436.step s432 (fun hm => ((ow394.step s403 (Z4 (ow394.ne_old lt8) Za)).step0 s418).ne ob436 (by decide) _ hm rfl)).step1 s441 ne251)
     refine Z2c <| Z7y [0, 2, 3, 4] [(0, pt b1 0), (2, pt b10 0), (3, pt b53 0), (4, pt b245 0)] rfl ?_
     exact IHL280 j279 (Nat.le_refl _) _ _ ⟨h429, r399.2, xs382, v383, xs386, v387, xs391 ++ [r399.1], v427, HF, rfl, S443, (le260).trans ((le377).trans ((s403.le).trans ((s418.le).trans ((s432.le).trans s441.le)))), (rs384.mono ((s403.le).trans ((s418.le).trans ((s432.le).trans s441.le)))), ((((ow385.step s403 (Z4 (ow385.ne_old lt8) Za)).step0 s418).step s432 (((ow385.step s403 (Z4 (ow385.ne_old lt8) Za)).step0 s418).ne_own ((ow394.step s403 (Z4 (ow394.ne_old lt8) Za)).step0 s418) (by decide))).step s441 (Z4 ((((ow385.step s403 (Z4 (ow385.ne_old lt8) Za)).step0 s418).step s432 (((ow385.step s403 (Z4 (ow385.ne_old lt8) Za)).step0 s418).ne_own ((ow394.step s403 (Z4 (ow394.ne_old lt8) Za)).step0 s418) (by decide))).ne_ob ob439 (by decide)) Za)), (rs388.mono ((s403.le).trans ((s418.le).trans ((s432.le).trans s441.le)))), ((((ow389.step s403 (Z4 (ow389.ne_old lt8) Za)).step0 s418).step s432 (((ow389.step s403 (Z4 (ow389.ne_old lt8) Za)).step0 s418).ne_own ((ow394.step s403 (Z4 (ow394.ne_old lt8) Za)).step0 s418) (by decide))).step s441 (Z4 ((((ow389.step s403 (Z4 (ow389.ne_old lt8) Za)).step0 s418).step s432 (((ow389.step s403 (Z4 (ow389.ne_old lt8) Za)).step0 s418).ne_own ((ow394.step s403 (Z4 (ow394.ne_old lt8) Za)).step0 s418) (by decide))).ne_obS1 (rs388.mono ((s403.le).trans ((s418.le).trans s432.le))) ob439) Za)), (rs430.mono (s441.le)), (ow431.step s441 (Z4 (ow431.ne_ob ob439 (by decide)) Za)), ob448, ob449, ob450, ob442⟩
    intro J444
    refine Zb <| Z1 <| Wm rfl rfl ?_
    obtain ⟨r282, hr283, HF⟩ := Z8 HF
    refine Wc rfl (Ze (vs := [pt b1 0, .string b'29]) rfl Z4r) (Z0n _ hr283 S261.sub (rs5.mono ((s12.le).trans ((s25.le).trans ((s43.le).trans ((s55.le).trans ((s62.le).trans ((s73.le).trans ((le87).trans ((le199).trans ((s219.le).trans ((s233.le).trans ((s247.le).trans ((s255.le).trans le260))))))))))))) ob263) ?_
    rintro _ w285 ⟨h286, s287, rfl, ob288⟩
    have S289 := S261.trans s287 (Zn (.inl (by simp)) Z04)
    refine Z7 <| Z6 <| Z17 HF rfl (fun HF => ?_) (fun HF => ?_)
    ·refine Zm ?_
     have ob445 := (ob264.step1 s287 (Ne.symm ne14))
     have ob446 := (ob273.step1 s287 (Ne.symm ne57))
     have ob447 := (ob278.step1 s287 (Ne.symm ne249))
     refine Z0g [0, 2, 3, 4] _ rfl ?_
     exact J444 ⟨h286, r282.2, xs265, v266, xs269, v270, xs274, v275, HF, rfl, S289, s287.le, (rs267.mono (s287.le)), (ow268.step s287 (Z4 (ow268.ne_old lt8) Za)), (rs271.mono (s287.le)), (ow272.step s287 (Z4 (ow272.ne_old lt8) Za)), (rs276.mono (s287.le)), (ow277.step s287 (Z4 (ow277.ne_old lt8) Za)), ob288, ob445, ob446, ob447⟩
    refine Z4x <| Zz <| Zz <| Z1a <| Z6 <| Zb <| Z1 <| Wm rfl rfl ?_
    obtain ⟨r291, hr292, HF⟩ := Z8 HF
    rcases r291 with t293 | r294
    ·obtain rfl := Z01 HF
     have ob299 := (ob264.step1 s287 (Ne.symm ne14))
     have ob300 := (ob273.step1 s287 (Ne.symm ne57))
     have ob301 := (ob278.step1 s287 (Ne.symm ne249))
     refine Z0i rfl (Ze (vs := [pt b1 0, .string b'34]) rfl Z21) (Zj _ hr292 S289.sub (rs5.mono ((s12.le).trans ((s25.le).trans ((s43.le).trans ((s55.le).trans ((s62.le).trans ((s73.le).trans ((le87).trans ((le199).trans ((s219.le).trans ((s233.le).trans ((s247.le).trans ((s255.le).trans ((le260).trans s287.le)))))))))))))) ob288) ?_
     rintro ch303 w304 ⟨ht305, h306, s307, ob302⟩
     refine Zd <| Zr <| Zd <| Zr <| Zd <| Zp ?_
     have S308 := S289.trans s307 (Zn (.inl (by simp)) Z04)
     exact ⟨_, rfl, ht305, h306, S308, ob302⟩
    replace HF := Z0j HF
    refine Wc rfl (Ze (vs := [pt b1 0, .string b'34]) rfl Z21) (Zj _ hr292 S289.sub (rs5.mono ((s12.le).trans ((s25.le).trans ((s43.le).trans ((s55.le).trans ((s62.le).trans ((s73.le).trans ((le87).trans ((le199).trans ((s219.le).trans ((s233.le).trans ((s247.le).trans ((s255.le).trans ((le260).trans s287.le)))))))))))))) ob288) ?_
    have ob309 := (ob264.step1 s287 (Ne.symm ne14))
    have ob310 := (ob273.step1 s287 (Ne.symm ne57))
    have ob311 := (ob278.step1 s287 (Ne.symm ne249))
    rintro v295 w296 ⟨h297, s298, rfl, ob312⟩
    have S313 := S289.trans s298 (Zn (.inl (by simp)) Z04)
    refine Z7 <| Z6 <| Zb <| Z1 <| Wm rfl rfl ?_
    obtain ⟨r314, hr315, HF⟩ := Z8 HF
    rcases r314 with t316 | r317
    ·obtain rfl := Z01 HF
     have ob322 := (ob309.step1 s298 (Ne.symm ne14))
     have ob323 := (ob310.step1 s298 (Ne.symm ne57))
     have ob324 := (ob311.step1 s298 (Ne.symm ne249))
     refine Z0i rfl (Ze (vs := [pt b1 0]) rfl Z8r) ((IH _ (Nat.le_trans (Nat.le_of_succ_le hj281) (Nat.le_trans (Nat.le_of_succ_le hj103) (Nat.le_refl _)))).1 hr315 S313.sub (rs5.mono ((s12.le).trans ((s25.le).trans ((s43.le).trans ((s55.le).trans ((s62.le).trans ((s73.le).trans ((le87).trans ((le199).trans ((s219.le).trans ((s233.le).trans ((s247.le).trans ((s255.le).trans ((le260).trans ((s287.le).trans s298.le))))))))))))))) ob312) ?_
     rintro ch326 w327 ⟨ht328, h329, s330, ob325⟩
     refine Zd <| Zr <| Zd <| Zr <| Zd <| Zp ?_
     have S331 := S313.trans s330 (Zn (.inl (by simp)) Z04)
     exact ⟨_, rfl, ht328, h329, S331, ob325⟩
    replace HF := Z0j HF
    refine Wc rfl (Ze (vs := [pt b1 0]) rfl Z8r) ((IH _ (Nat.le_trans (Nat.le_of_succ_le hj281) (Nat.le_trans (Nat.le_of_succ_le hj103) (Nat.le_refl _)))).1 hr315 S313.sub (rs5.mono ((s12.le).trans ((s25.le).trans ((s43.le).trans ((s55.le).trans ((s62.le).trans ((s73.le).trans ((le87).trans ((le199).trans ((s219.le).trans ((s233.le).trans ((s247.le).trans ((s255.le).trans ((le260).trans ((s287.le).trans s298.le))))))))))))))) ob312) ?_
    have ob334 := (ob309.step1 s298 (Ne.symm ne14))
    have ob335 := (ob310.step1 s298 (Ne.symm ne57))
    have ob336 := (ob311.step1 s298 (Ne.symm ne249))
    rintro v332 w319 ⟨h320, s321, rs333, ob337⟩
    have S338 := S313.trans s321 (Zn (.inl (by simp)) Z04)
    refine Wv rfl (Z2 rfl Z8c) ?_
    have ob339 := (ob336.step1 s321 (Ne.symm ne249))
    refine Zo (vs := [v332]) rfl rfl rfl (RS.cellsL rs333) Zgv (Z5 (RS.one rs333) Zx) ob339 S338.sub (by simp) (ds := [.slice none 0 0, v275, v332]) rfl (fun w340 s341 ob342 => ?_)
    have S343 := S338.trans1 s341 (.inr g252)
    refine Z7 <| Z6 <| Z1 <| Wv rfl (Z2 rfl Z19) ?_
    have ob344 := ((ob335.step1 s321 (Ne.symm ne57)).step1 s341 ne251)
    refine Wv rfl (Zc rfl Z4b (OB.cell ob344 (j := 7) rfl)) <| Wv rfl (Z16 (cs := [.slice none 0 0, v275, v332]) rfl t_agg_77 Z20 (OB.cells ob342 0 rfl)) ?_
    have ob352 := (ob337.step1 s341 ne249)
    have ob353 := ((ob334.step1 s321 (Ne.symm ne14)).step1 s341 ne250)
    refine Z14 (us := [.agg #[.slice none 0 0, v275, v332]]) (cs := [.slice none 0 0, v275, v332]) rfl rfl rfl Z1u Z20 Z9y rfl (Z4a rfl Zc3) rfl rfl rfl S343.sub (fun w345 h346 b347 hb348 s349 hk350 hc351 => ?_)
    have S354 := S343.trans0 s349
    have rs355 : RS h346 (sl b347 0 1 1) ([(Ar.mk [] xs274 r317.1)] : List Ar) := RS.litL _ [[.slice none 0 0, v275, v332]] rfl rfl hc351 ⟨(rp_Ar.2 ⟨_, _, _, rfl, (RS.nil _), (rs276.mono ((s287.le).trans ((s298.le).trans ((s321.le).trans ((s341.le).trans s349.le))))), (rs333.mono ((s341.le).trans s349.le))⟩), trivial⟩
    have ow356 := Own.lit (base := w0.heap.size) (sz := 3) (m := 1) hk350 hc351 (by rw [hb348]; exact S343.size) rfl (by decide)
    obtain ⟨hl357, HF⟩ := Zdu HF
    have ob365 := (ob352.step0 s349)
    have ob366 := (ob353.step0 s349)
    have ob367 := (ob344.step0 s349)
    have ob368 := (ob342.step0 s349)
    refine Zeb (xs := (xs269 : List Ar)) (ys := [(Ar.mk [] xs274 r317.1)]) rfl rfl rfl rfl Z1u Z20 Z9y rfl t_bytes_77 rfl (((((ow272.step s287 (Z4 (ow272.ne_old lt8) Za)).step s298 (Z4 ((ow272.step s287 (Z4 (ow272.ne_old lt8) Za)).ne_old lt8) Za)).step s321 (Z4 (((ow272.step s287 (Z4 (ow272.ne_old lt8) Za)).step s298 (Z4 ((ow272.step s287 (Z4 (ow272.ne_old lt8) Za)).ne_old lt8) Za)).ne_old lt8) Za)).step s341 (Z4 ((((ow272.step s287 (Z4 (ow272.ne_old lt8) Za)).step s298 (Z4 ((ow272.step s287 (Z4 (ow272.ne_old lt8) Za)).ne_old lt8) Za)).step s321 (Z4 (((ow272.step s287 (Z4 (ow272.ne_old lt8) Za)).step s298 (Z4 ((ow272.step s287 (Z4 (ow272.ne_old lt8) Za)).ne_old lt8) Za)).ne_old lt8) Za)).ne_obS1 (rs271.mono ((s287.le).trans ((s298.le).trans s321.le))) ob339) Za)).step0 s349) (rs271.mono ((s287.le).trans ((s298.le).trans ((s321.le).trans ((s341.le).trans s349.le))))) rs355 hl357 S354.sub S354.size (by rw [S354.eqb]; exact hs0.big) (fun v358 w359 h360 rs361 ow362 s363 at364 => ?_)
    have S369 := S354.trans s363 (fun i hi => .inr ((((((ow272.step s287 (Z4 (ow272.ne_old lt8) Za)).step s298 (Z4 ((ow272.step s287 (Z4 (ow272.ne_old lt8) Za)).ne_old lt8) Za)).step s321 (Z4 (((ow272.step s287 (Z4 (ow272.ne_old lt8) Za)).step s298 (Z4 ((ow272.step s287 (Z4 (ow272.ne_old lt8) Za)).ne_old lt8) Za)).ne_old lt8) Za)).step s341 (Z4 ((((ow272.step s287 (Z4 (ow272.ne_old lt8) Za)).step s298 (Z4 ((ow272.step s287 (Z4 (ow272.ne_old lt8) Za)).ne_old lt8) Za)).step s321 (Z4 (((ow272.step s287 (Z4 (ow272.ne_old lt8) Za)).step s298 (Z4 ((ow272.step s287 (Z4 (ow272.ne_old lt8) Za)).ne_old lt8) Za)).ne_old lt8) Za)).ne_obS1 (rs271.mono ((s287.le).trans ((s298.le).trans s321.le))) ob339) Za)).step0 s349).base_le i hi))
    refine Wv rfl (Z2 rfl Z19) ?_
    have ob370 := (ob367.step s363 (fun hm => (((((ow272.step s287 (Z4 (ow272.ne_old lt8) Za)).step s298 (Z4 ((ow272.step s287 (Z4 (ow272.ne_old lt8) Za)).ne_old lt8) Za)).step s321 (Z4 (((ow272.step s287 (Z4 (ow272.ne_old lt8) Za)).step s298 (Z4 ((ow272.step s287 (Z4 (ow272.ne_old lt8) Za)).ne_old lt8) Za)).ne_old lt8) Za)).step s341 (Z4 ((((ow272.step s287 (Z4 (ow272.ne_old lt8) Za)).step s298 (Z4 ((ow272.step s287 (Z4 (ow272.ne_old lt8) Za)).ne_old lt8) Za)).step s321 (Z4 (((ow272.step s287 (Z4 (ow272.ne_old lt8) Za)).step s298 (Z4 ((ow272.step s287 (Z4 (ow272.ne_old lt8) Za)).ne_old lt8) Za)).ne_old lt8) Za)).ne_obS1 (rs271.mono ((s287.le).trans ((s298.le).trans s321.le))) ob339) Za)).step0 s349).ne ob367 (by decide) _ hm rfl))
    refine Zo (vs := [v358]) rfl rfl rfl (RS.cellsL rs361) t_size_54 (Z5 (RS.one rs361) Zx) ob370 S369.sub (by simp) (ds := [vi 4, .string b'47, .slice none 0 0, .slice none 0 0, v266, vi 0, .slice none 0 0, v358, .slice none 0 0, .bool false]) rfl (fun w371 s372 ob373 => ?_)
    have S374 := S369.trans1 s372 (.inr g59)
    refine Z7 <| Z0a ?_
    have ob455 := ((ob365.step s363 (fun hm => absurd ((((((ow272.step s287 (Z4 (ow272.ne_old lt8) Za)).step s298 (Z4 ((ow272.step s287 (Z4 (ow272.ne_old lt8) Za)).ne_old lt8) Za)).step s321 (Z4 (((ow272.step s287 (Z4 (ow272.ne_old lt8) Za)).step s298 (Z4 ((ow272.step s287 (Z4 (ow272.ne_old lt8) Za)).ne_old lt8) Za)).ne_old lt8) Za)).step s341 (Z4 ((((ow272.step s287 (Z4 (ow272.ne_old lt8) Za)).step s298 (Z4 ((ow272.step s287 (Z4 (ow272.ne_old lt8) Za)).ne_old lt8) Za)).step s321 (Z4 (((ow272.step s287 (Z4 (ow272.ne_old lt8) Za)).step s298 (Z4 ((ow272.step s287 (Z4 (ow272.ne_old lt8) Za)).ne_old lt8) Za)).ne_old lt8) Za)).ne_obS1 (rs271.mono ((s287.le).trans ((s298.le).trans s321.le))) ob339) Za)).step0 s349).base_le _ hm) (Nat.not_le.2 lt8))).step1 s372 ne57)
    have ob456 := ((ob366.step s363 (fun hm => (((((ow272.step s287 (Z4 (ow272.ne_old lt8) Za)).step s298 (Z4 ((ow272.step s287 (Z4 (ow272.ne_old lt8) Za)).ne_old lt8) Za)).step s321 (Z4 (((ow272.step s287 (Z4 (ow272.ne_old lt8) Za)).step s298 (Z4 ((ow272.step s287 (Z4 (ow272.ne_old lt8) Za)).ne_old lt8) Za)).ne_old lt8) Za)).step s341 (Z4 ((((ow272.step s287 (Z4 (ow272.ne_old lt8) Za)).step s298 (Z4 ((ow272.step s287 (Z4 (ow272.ne_old lt8) Za)).ne_old lt8) Za)).step s321 (Z4 (((ow272.step s287 (Z4 (ow272.ne_old lt8) Za)).step s298 (Z4 ((ow272.step s287 (Z4 (ow272.ne_old lt8) Za)).ne_old lt8) Za)).ne_old lt8) Za)).ne_obS1 (rs271.mono ((s287.le).trans ((s298.le).trans s321.le))) ob339) Za)).step0 s349).ne ob366 (by decide) _ hm rfl)).step1 s372 ne58)
    refine Z2c <| Z7y [0, 2, 3] [(0, pt b1 0), (2, pt b10 0), (3, pt b53 0)] rfl ?_
    exact IHL102 j279 (Nat.le_trans (Nat.le_of_succ_le hj281) (Nat.le_refl _)) _ _ ⟨h360, r317.2, xs265, v266, xs269 ++ [(Ar.mk [] xs274 r317.1)], v358, HF, rfl, S374, (le87).trans ((le199).trans ((s219.le).trans ((s233.le).trans ((s247.le).trans ((s255.le).trans ((le260).trans ((s287.le).trans ((s298.le).trans ((s321.le).trans ((s341.le).trans ((s349.le).trans ((s363.le).trans s372.le)))))))))))), (rs267.mono ((s287.le).trans ((s298.le).trans ((s321.le).trans ((s341.le).trans ((s349.le).trans ((s363.le).trans s372.le))))))), (((((((ow268.step s287 (Z4 (ow268.ne_old lt8) Za)).step s298 (Z4 ((ow268.step s287 (Z4 (ow268.ne_old lt8) Za)).ne_old lt8) Za)).step s321 (Z4 (((ow268.step s287 (Z4 (ow268.ne_old lt8) Za)).step s298 (Z4 ((ow268.step s287 (Z4 (ow268.ne_old lt8) Za)).ne_old lt8) Za)).ne_old lt8) Za)).step s341 (Z4 ((((ow268.step s287 (Z4 (ow268.ne_old lt8) Za)).step s298 (Z4 ((ow268.step s287 (Z4 (ow268.ne_old lt8) Za)).ne_old lt8) Za)).step s321 (Z4 (((ow268.step s287 (Z4 (ow268.ne_old lt8) Za)).step s298 (Z4 ((ow268.step s287 (Z4 (ow268.ne_old lt8) Za)).ne_old lt8) Za)).ne_old lt8) Za)).ne_ob ob339 (by decide)) Za)).step0 s349).step s363 ((((((ow268.step s287 (Z4 (ow268.ne_old lt8) Za)).step s298 (Z4 ((ow268.step s287 (Z4 (ow268.ne_old lt8) Za)).ne_old lt8) Za)).step s321 (Z4 (((ow268.step s287 (Z4 (ow268.ne_old lt8) Za)).step s298 (Z4 ((ow268.step s287 (Z4 (ow268.ne_old lt8) Za)).ne_old lt8) Za)).ne_old lt8) Za)).step s341 (Z4 ((((ow268.step s287 (Z4 (ow268.ne_old lt8) Za)).step s298 (Z4 ((ow268.step s287 (Z4 (ow268.ne_old lt8) Za)).ne_old lt8) Za)).step s321 (Z4 (((ow268.step s287 (Z4 (ow268.ne_old lt8) Za)).step s298 (Z4 ((ow268.step s287 (Z4 (ow268.ne_old lt8) Za)).ne_old lt8) Za)).ne_old lt8) Za)).ne_ob ob339 (by decide)) Za)).step0 s349).ne_own (((((ow272.step s287 (Z4 (ow272.ne_old lt8) Za)).step s298 (Z4 ((ow272.step s287 (Z4 (ow272.ne_old lt8) Za)).ne_old lt8) Za)).step s321 (Z4 (((ow272.step s287 (Z4 (ow272.ne_old lt8) Za)).step s298 (Z4 ((ow272.step s287 (Z4 (ow272.ne_old lt8) Za)).ne_old lt8) Za)).ne_old lt8) Za)).step s341 (Z4 ((((ow272.step s287 (Z4 (ow272.ne_old lt8) Za)).step s298 (Z4 ((ow272.step s287 (Z4 (ow272.ne_old lt8) Za)).ne_old lt8) Za)).step s321 (Z4 (((ow272.step s287 (Z4 (ow272.ne_old lt8) Za)).step s298 (Z4 ((ow272.step s287 (Z4 (ow272.ne_old lt8) Za)).ne_old lt8) Za)).ne_old lt8) Za)).ne_obS1 (rs271.mono ((s287.le).trans ((s298.le).trans s321.le))) ob339) Za)).step0 s349) (by decide))).step s372 (Z4 (((((((ow268.step s287 (Z4 (ow268.ne_old lt8) Za)).step s298 (Z4 ((ow268.step s287 (Z4 (ow268.ne_old lt8) Za)).ne_old lt8) Za)).step s321 (Z4 (((ow268.step s287 (Z4 (ow268.ne_old lt8) Za)).step s298 (Z4 ((ow268.step s287 (Z4 (ow268.ne_old lt8) Za)).ne_old lt8) Za)).ne_old lt8) Za)).step s341 (Z4 ((((ow268.step s287 (Z4 (ow268.ne_old lt8) Za)).step s298 (Z4 ((ow268.step s287 (Z4 (ow268.ne_old lt8) Za)).ne_old lt8) Za)).step s321 (Z4 (((ow268.step s287 (Z4 (ow268.ne_old lt8) Za)).step s298 (Z4 ((ow268.step s287 (Z4 (ow268.ne_old lt8) Za)).ne_old lt8) Za)).ne_old lt8) Za)).ne_ob ob339 (by decide)) Za)).step0 s349).step s363 ((((((ow268.step s287 (Z4 (ow268.ne_old lt8) Za)).step s298 (Z4 ((ow268.step s287 (Z4 (ow268.ne_old lt8) Za)).ne_old lt8) Za)).step s321 (Z4 (((ow268.step s287 (Z4 (ow268.ne_old lt8) Za)).step s298 (Z4 ((ow268.step s287 (Z4 (ow268.ne_old lt8) Za)).ne_old lt8) Za)).ne_old lt8) Za)).step s341 (Z4 ((((ow268.step s287 (Z4 (ow268.ne_old lt8) Za)).step s298 (Z4 ((ow268.step s287 (Z4 (ow268.ne_old lt8) Za)).ne_old lt8) Za)).step s321 (Z4 (((ow268.step s287 (Z4 (ow268.ne_old lt8) Za)).step s298 (Z4 ((ow268.step s287 (Z4 (ow268.ne_old lt8) Za)).ne_old lt8) Za)).ne_old lt8) Za)).ne_ob ob339 (by decide)) Za)).step0 s349).ne_own (((((ow272.step s287 (Z4 (ow272.ne_old lt8) Za)).step s298 (Z4 ((ow272.step s287 (Z4 (ow272.ne_old lt8) Za)).ne_old lt8) Za)).step s321 (Z4 (((ow272.step s287 (Z4 (ow272.ne_old lt8) Za)).step s298 (Z4 ((ow272.step s287 (Z4 (ow272.ne_old lt8) Za)).ne_old lt8) Za)).ne_old lt8) Za)).step s341 (Z4 ((((ow272.step s287 (Z4 (ow272.ne_old lt8) Za)).step s298 (Z4 ((ow272.step s287 (Z4 (ow272.ne_old lt8) Za)).ne_old lt8) Za)).step s321 (Z4 (((ow272.step s287 (Z4 (ow272.ne_old lt8) Za)).step s298 (Z4 ((ow272.step s287 (Z4 (ow272.ne_old lt8) Za)).ne_old lt8) Za)).ne_old lt8) Za)).ne_obS1 (rs271.mono ((s287.le).trans ((s298.le).trans s321.le))) ob339) Za)).step0 s349) (by decide))).ne_ob ob370 (by decide)) Za)), (rs361.mono (s372.le)), (ow362.step s372 (Z4 (ow362.ne_ob ob370 (by decide)) Za)), ob455, ob456, ob373⟩
   have ob451 := ((ob241.step0 s247).step1 s255 ne249)
   have ob452 := ((ob242.step0 s247).step1 s255 ne250)
   have ob453 := ((ob243.step0 s247).step1 s255 ne251)
   exact ⟨h230, r215.2, xs203, v204, xs207, v208, [r215.1], sl b231 0 1 1, HF, rfl, S257, Hle.refl _, (rs205.mono ((s219.le).trans ((s233.le).trans ((s247.le).trans s255.le)))), ((((ow206.step s219 (Z4 (ow206.ne_old lt8) Za)).step0 s233).step0 s247).step s255 (Z4 ((((ow206.step s219 (Z4 (ow206.ne_old lt8) Za)).step0 s233).step0 s247).ne_ob ob248 (by decide)) Za)), (rs209.mono ((s219.le).trans ((s233.le).trans ((s247.le).trans s255.le)))), ((((ow210.step s219 (Z4 (ow210.ne_old lt8) Za)).step0 s233).step0 s247).step s255 (Z4 ((((ow210.step s219 (Z4 (ow210.ne_old lt8) Za)).step0 s233).step0 s247).ne_obS1 (rs209.mono ((s219.le).trans ((s233.le).trans s247.le))) ob248) Za)), (rs239.mono ((s247.le).trans s255.le)), ((ow240.step0 s247).step s255 (Z4 ((ow240.step0 s247).ne_ob ob248 (by decide)) Za)), ob451, ob452, ob453, ob256⟩
  intro J454
  refine Z09 (fun E w125 => ∃ (h124 : Hp) (x128 : Bool) (xs131 : List Ex) (v132 : Value) (xs135 : List Ar) (v136 : Value), Z84 j101 (Z9 j101) xs3 x89 x128 xs131 xs135 = some r ∧ E = [(0, pt b1 0), (2, pt b10 0), (3, pt b53 0), (19, .bool x128)] ∧ Stp [b1] w0 h0 w125 h124 ∧ Hle h85 h124 ∧ RS h124 v132 xs131 ∧ Own w125 h124 w0.heap.size 47 6 v132 xs131.length ∧ RS h124 v136 xs135 ∧ Own w125 h124 w0.heap.size 77 3 v136 xs135.length ∧ OB w125 h124 b1 T2 [v4, vi x89] ∧ OB w125 h124 b10 56 [vi 0, .string b'47, .slice none 0 0, .slice none 0 0, .slice none 0 0, vi 0, .slice none 0 0, .slice none 0 0, .slice none 0 0, .bool false] ∧ OB w125 h124 b53 56 [vi 4, .string b'47, .slice none 0 0, .slice none 0 0, v132, vi 0, .slice none 0 0, v136, .slice none 0 0, .bool false]) ?_ ?_
  ·rintro E w125 ⟨h124, x128, xs131, v132, xs135, v136, HF, rfl, S127, le126, rs133, ow134, rs137, ow138, ob129, ob130, ob139⟩
   refine Z17 HF rfl (fun HF => ?_) (fun HF => ?_)
   ·refine Zm <| Z0g [0, 2, 3] _ rfl ?_
    exact J454 ⟨h124, xs131, v132, xs135, v136, HF, rfl, S127, le126, rs133, ow134, rs137, ow138, ob129, ob130, ob139⟩
   refine Z4x <| Zz <| Zz <| Z1a <| Z6 <| Zb <| Z1 <| Wm rfl rfl ?_
   obtain ⟨r141, hr142, HF⟩ := Z8 HF
   rcases r141 with t143 | r144
   ·obtain rfl := Z01 HF
    refine Z0i rfl (Ze (vs := [pt b1 0, pt b53 0]) rfl t_ent_156) ((IH _ (Nat.le_trans (Nat.le_of_succ_le hj103) (Nat.le_refl _))).2.2.1 hr142 S127.sub (rs5.mono ((s12.le).trans ((s25.le).trans ((s43.le).trans ((s55.le).trans ((s62.le).trans ((s73.le).trans ((le87).trans le126)))))))) (RS.nil _) (RS.nil _) rs133 (RS.nil _) rs137 (RS.nil _) ob129 ob139 ne57) ?_
    rintro ch153 w154 ⟨ht155, h156, s157, ob149, ⟨v150, rs151, ob152⟩⟩
    refine Zd <| Zp ?_
    have S158 := S127.trans s157 (Zn (.inl (by simp)) (Zn (.inr g59) Z04))
    exact ⟨_, rfl, ht155, h156, S158, ob149⟩
   replace HF := Z0j HF
   refine Wc rfl (Ze (vs := [pt b1 0, pt b53 0]) rfl t_ent_156) ((IH _ (Nat.le_trans (Nat.le_of_succ_le hj103) (Nat.le_refl _))).2.2.1 hr142 S127.sub (rs5.mono ((s12.le).trans ((s25.le).trans ((s43.le).trans ((s55.le).trans ((s62.le).trans ((s73.le).trans ((le87).trans le126)))))))) (RS.nil _) (RS.nil _) rs133 (RS.nil _) rs137 (RS.nil _) ob129 ob139 ne57) ?_
   rintro v145 w146 ⟨h147, s148, rfl, ob159, ⟨v160, rs161, ob162⟩⟩
   have S163 := S127.trans s148 (Zn (.inl (by simp)) (Zn (.inr g59) Z04))
   refine Z7 <| Z6 <| Zb <| Z1 <| Wm rfl rfl ?_
   obtain ⟨r164, hr165, HF⟩ := Z8 HF
   rcases r164 with t166 | r167
   ·obtain rfl := Z01 HF
    have ob172 := (ob130.step s148 (Z5l (Ne.symm ne14) (Z5l ne58 ni_nil)))
    refine Z0i rfl (Ze (vs := [pt b1 0, .string b'7]) rfl Z21) (Zj _ hr165 S163.sub (rs5.mono ((s12.le).trans ((s25.le).trans ((s43.le).trans ((s55.le).trans ((s62.le).trans ((s73.le).trans ((le87).trans ((le126).trans s148.le))))))))) ob159) ?_
    rintro ch174 w175 ⟨ht176, h177, s178, ob173⟩
    refine Zd <| Zp ?_
    have S179 := S163.trans s178 (Zn (.inl (by simp)) Z04)
    exact ⟨_, rfl, ht176, h177, S179, ob173⟩
   replace HF := Z0j HF
   refine Wc rfl (Ze (vs := [pt b1 0, .string b'7]) rfl Z21) (Zj _ hr165 S163.sub (rs5.mono ((s12.le).trans ((s25.le).trans ((s43.le).trans ((s55.le).trans ((s62.le).trans ((s73.le).trans ((le87).trans ((le126).trans s148.le))))))))) ob159) ?_
   have ob180 := (ob130.step s148 (Z5l (Ne.symm ne14) (Z5l ne58 ni_nil)))
   rintro v168 w169 ⟨h170, s171, rfl, ob181⟩
   have S182 := S163.trans s171 (Zn (.inl (by simp)) Z04)
   refine Z7 <| Z6 <| Zb <| Z1 ?_
   have ob183 := (ob162.step1 s171 (Ne.symm ne57))
   refine Wv rfl (Z16 (cs := [vi 4, .string b'47, .slice none 0 0, .slice none 0 0, v132, vi 0, .slice none 0 0, v136, v160, .bool r144.2.2]) rfl Z4g Z0h (OB.cells ob183 0 rfl)) ?_
   have ob184 := (ob180.step1 s171 (Ne.symm ne14))
   refine Zo (vs := [vi 4, .string b'47, .slice none 0 0, .slice none 0 0, v132, vi 0, .slice none 0 0, v136, v160, .bool r144.2.2]) rfl rfl rfl rfl Z0h (Z5 rfl (Z5 rfl (Z5 rfl (Z5 rfl (Z5 (RS.one (rs133.mono ((s148.le).trans s171.le))) (Z5 rfl (Z5 rfl (Z5 (RS.one (rs137.mono ((s148.le).trans s171.le))) (Z5 (RS.one (rs161.mono (s171.le))) (Z5 rfl Zx)))))))))) ob184 S182.sub (by simp) (ds := [vi 4, .string b'47, .slice none 0 0, .slice none 0 0, v132, vi 0, .slice none 0 0, v136, v160, .bool r144.2.2]) rfl (fun w185 s186 ob187 => ?_)
   have S188 := S182.trans1 s186 (.inr g15)
   refine Z7 <| Z6 <| Z00 ?_
   have ob189 := (ob181.step1 s186 ne14)
   refine Z5p rfl rfl (Z11 (cs := [vi 4, .string b'47, .slice none 0 0, .slice none 0 0, v132, vi 0, .slice none 0 0, v136, v160, .bool r144.2.2]) Z4g Z0h (OB.cells ob187 0 rfl)) ?_
   obtain rfl := Option.some.inj HF
   exact ⟨_, rfl, h170, S188, ⟨_, rfl, (Zgz.2 ⟨_, _, _, _, _, _, rfl, (RS.nil _), (RS.nil _), (rs133.mono ((s148.le).trans ((s171.le).trans s186.le))), (RS.nil _), (rs137.mono ((s148.le).trans ((s171.le).trans s186.le))), (rs161.mono ((s171.le).trans s186.le))⟩)⟩, ob189⟩
  intro J190
  refine Z1 <| Wm rfl rfl ?_
  obtain ⟨r104, hr105, HF⟩ := Z8 HF
  refine Wc rfl (Ze (vs := [pt b1 0, .string b'30]) rfl t_ent_157) (Z55 _ hr105 S88.sub (rs5.mono ((s12.le).trans ((s25.le).trans ((s43.le).trans ((s55.le).trans ((s62.le).trans ((s73.le).trans le87))))))) ob90) ?_
  rintro _ w107 ⟨h108, s109, rfl⟩
  have S110 := S88.trans0 s109
  refine Wm rfl rfl <| Z3g 14 HF rfl (fun HF => ?_) (fun HF => ?_)
  ·refine Wp rfl <| Wp rfl <| Wp rfl <| Wp rfl <| Wv rfl (Zh rfl rfl) <| Z7 ?_
   have ob191 := (ob90.step0 s109)
   have ob192 := (ob91.step0 s109)
   have ob193 := (ob100.step0 s109)
   refine Z0g [0, 2, 3, 19] _ rfl ?_
   exact J190 ⟨h108, true, xs92, v93, xs96, v97, HF, rfl, S110, s109.le, (rs94.mono (s109.le)), (ow95.step0 s109), (rs98.mono (s109.le)), (ow99.step0 s109), ob191, ob192, ob193⟩
  refine Wm rfl rfl ?_
  have ob112 := (ob90.step0 s109)
  obtain ⟨r113, hr114, HF⟩ := Z8 HF
  refine Wc rfl (Ze (vs := [pt b1 0]) rfl Z7s) (Z1b _ hr114 S110.sub (rs5.mono ((s12.le).trans ((s25.le).trans ((s43.le).trans ((s55.le).trans ((s62.le).trans ((s73.le).trans ((le87).trans s109.le)))))))) ob112) ?_
  have ob121 := (ob91.step0 s109)
  have ob122 := (ob100.step0 s109)
  rintro _ w116 ⟨h117, s118, ⟨cs119, rfl, r120⟩⟩
  have S123 := S110.trans0 s118
  obtain rfl := Z62.1 r120
  refine Wv rfl (Za7 rfl Zd6 Z0f rfl) <| Wv rfl (Z4n rfl rfl) <| Wv rfl (Zg rfl rfl) <| Z7 ?_
  have ob194 := (ob112.step0 s118)
  have ob195 := (ob121.step0 s118)
  have ob196 := (ob122.step0 s118)
  refine Z0g [0, 2, 3, 19] _ rfl ?_
  exact J190 ⟨h117, (r113.kind : Int) == 2, xs92, v93, xs96, v97, HF, rfl, S123, (s109.le).trans s118.le, (rs94.mono ((s109.le).trans s118.le)), ((ow95.step0 s109).step0 s118), (rs98.mono ((s109.le).trans s118.le)), ((ow99.step0 s109).step0 s118), ob194, ob195, ob196⟩
 have ob457 := (ob82.step1 s73 (Ne.symm ne14))
 have ob458 := (ob63.step1 s73 (Ne.symm ne57))
 exact ⟨h72, r69, [r21.1], sl b41 0 1 1, ([] : List Ar), .slice none 0 0, HF, rfl, S84, Hle.refl _, (rs48.mono ((s55.le).trans ((s62.le).trans s73.le))), (((ow49.step0 s55).step s62 (Z4 ((ow49.step0 s55).ne_ob ob56 (by decide)) Za)).step s73 (Z4 (((ow49.step0 s55).step s62 (Z4 ((ow49.step0 s55).ne_ob ob56 (by decide)) Za)).ne_old lt8) Za)), (RS.nil _), (Own.nil _ _ _ _ _), ob83, ob457, ob458⟩
theorem s_parse_Parser_repeat (k : Nat) (IH : ∀ j, j ≤ k → Z2b (Z9 j).parse_Parser_Text ∧ Z2i (Z9 j).parse_Parser_count ∧ Z2h (Z9 j).parse_Parser_other ∧ Z2g (Z9 j).parse_Parser_while ∧ Z28 (Z9 j).parse_Parser_branch ∧ Z27 (Z9 j).parse_Parser_choice ∧ Z26 (Z9 j).parse_Parser_repeat) : Z26 (Zcb k (Z9 k)) := by
 intro xs3 x6 r HF w0 h0 b1 T2 v4 hs0 rs5 ob7
 have S0 : Stp [b1] w0 h0 w0 h0 := Stp.refl hs0 _
 have lt8 : b1 < w0.heap.size := OB.lt ob7
 refine Z4j (n := 16) Tryz.func104 rfl Tryz.ntmps104 rfl [(0, pt b1 0)] rfl <| Zb <| Z1 <| Z15 (zs := [vi 0, .string b'47, .slice none 0 0, .slice none 0 0, .slice none 0 0, vi 0, .slice none 0 0, .slice none 0 0, .slice none 0 0, .bool false]) rfl rfl Z2n rfl S0.sub (fun w9 b10 hb11 s12 ob13 => ?_)
 have ne14 : b1 ≠ b10 := ob7.ne_new hb11
 have g15 : w0.heap.size ≤ b10 := by rw [hb11]; exact S0.size
 have S16 := S0.trans0 s12
 refine Z7 <| Z6 <| Zb <| Z1 <| Wm rfl rfl ?_
 have ob17 := (ob7.step0 s12)
 obtain ⟨r18, hr19, HF⟩ := Z8 HF
 rcases r18 with t20 | r21
 ·obtain rfl := Z01 HF
  refine Z0i rfl (Ze (vs := [pt b1 0]) rfl Z8r) ((IH _ (Nat.le_refl _)).1 hr19 S16.sub (rs5.mono (s12.le)) ob17) ?_
  rintro ch27 w28 ⟨ht29, h30, s31, ob26⟩
  refine Zd <| Zp ?_
  have S32 := S16.trans s31 (Zn (.inl (by simp)) Z04)
  exact ⟨_, rfl, ht29, h30, S32, ob26⟩
 replace HF := Z0j HF
 refine Wc rfl (Ze (vs := [pt b1 0]) rfl Z8r) ((IH _ (Nat.le_refl _)).1 hr19 S16.sub (rs5.mono (s12.le)) ob17) ?_
 rintro v33 w23 ⟨h24, s25, rs34, ob35⟩
 have S36 := S16.trans s25 (Zn (.inl (by simp)) Z04)
 obtain ⟨A37, c38, rfl, rs39⟩ := RS.form rs34
 refine Wv rfl (Z38 (vs := [(0, vi 7), (6, .slice A37 (r21.1).length c38)]) (cs := [vi 7, .string b'47, .slice none 0 0, .slice none 0 0, .slice none 0 0, vi 0, .slice A37 (r21.1).length c38, .slice none 0 0, .slice none 0 0, .bool false]) rfl Z9q Z2n rfl) ?_
 have ob40 := (ob13.step1 s25 (Ne.symm ne14))
 refine Z15 (zs := [vi 0, .string b'47, .slice none 0 0, .slice none 0 0, .slice none 0 0, vi 0, .slice none 0 0, .slice none 0 0, .slice none 0 0, .bool false]) rfl rfl Z2n rfl S36.sub (fun w41 b42 hb43 s44 ob45 => ?_)
 have ne46 : b1 ≠ b42 := ob35.ne_new hb43
 have ne47 : b10 ≠ b42 := ob40.ne_new hb43
 have g48 : w0.heap.size ≤ b42 := by rw [hb43]; exact S36.size
 have S49 := S36.trans0 s44
 refine Zo (vs := [vi 7, .string b'47, .slice none 0 0, .slice none 0 0, .slice none 0 0, vi 0, .slice A37 (r21.1).length c38, .slice none 0 0, .slice none 0 0, .bool false]) rfl rfl rfl rfl Z0h (Z5 rfl (Z5 rfl (Z5 rfl (Z5 rfl (Z5 rfl (Z5 rfl (Z5 rfl (Z5 rfl (Z5 rfl (Z5 rfl Zx)))))))))) ob45 S49.sub (by simp) (ds := [vi 7, .string b'47, .slice none 0 0, .slice none 0 0, .slice none 0 0, vi 0, .slice A37 (r21.1).length c38, .slice none 0 0, .slice none 0 0, .bool false]) rfl (fun w50 s51 ob52 => ?_)
 have S53 := S49.trans1 s51 (.inr g48)
 refine Z7 <| Z6 <| Zb <| Z1 <| Wm rfl rfl ?_
 have ob54 := ((ob35.step0 s44).step1 s51 ne46)
 obtain ⟨r55, hr56, HF⟩ := Z8 HF
 rcases r55 with t57 | r58
 ·obtain rfl := Z01 HF
  refine Z0i rfl (Ze (vs := [pt b1 0, .string b'22]) rfl Z21) (Zj _ hr56 S53.sub (rs5.mono ((s12.le).trans ((s25.le).trans ((s44.le).trans s51.le)))) ob54) ?_
  rintro ch64 w65 ⟨ht66, h67, s68, ob63⟩
  refine Zd <| Zp ?_
  have S69 := S53.trans s68 (Zn (.inl (by simp)) Z04)
  exact ⟨_, rfl, ht66, h67, S69, ob63⟩
 replace HF := Z0j HF
 refine Wc rfl (Ze (vs := [pt b1 0, .string b'22]) rfl Z21) (Zj _ hr56 S53.sub (rs5.mono ((s12.le).trans ((s25.le).trans ((s44.le).trans s51.le)))) ob54) ?_
 rintro v59 w60 ⟨h61, s62, rfl, ob70⟩
 have S71 := S53.trans s62 (Zn (.inl (by simp)) Z04)
 refine Z7 <| Z6 <| Zb <| Z1 <| Wm rfl rfl ?_
 obtain ⟨r72, hr73, HF⟩ := Z8 HF
 rcases r72 with t74 | r75
 ·obtain rfl := Z01 HF
  refine Z0i rfl (Ze (vs := [pt b1 0]) rfl Z3e) (Z05 _ hr73 S71.sub (rs5.mono ((s12.le).trans ((s25.le).trans ((s44.le).trans ((s51.le).trans s62.le))))) ob70) ?_
  rintro ch81 w82 ⟨ht83, h84, s85, ob80⟩
  refine Zd <| Zp ?_
  have S86 := S71.trans s85 (Zn (.inl (by simp)) Z04)
  exact ⟨_, rfl, ht83, h84, S86, ob80⟩
 replace HF := Z0j HF
 refine Wc rfl (Ze (vs := [pt b1 0]) rfl Z3e) (Z05 _ hr73 S71.sub (rs5.mono ((s12.le).trans ((s25.le).trans ((s44.le).trans ((s51.le).trans s62.le))))) ob70) ?_
 rintro _ w77 ⟨h78, s79, ⟨cs87, rfl, r88⟩, ob89⟩
 have S90 := S71.trans s79 (Zn (.inl (by simp)) Z04)
 obtain ⟨v91, rfl, rs92⟩ := Z7n.1 r88
 have ob100 := ((((ob40.step0 s44).step1 s51 ne47).step1 s62 (Ne.symm ne14)).step1 s79 (Ne.symm ne14))
 have ob101 := ((ob52.step1 s62 (Ne.symm ne46)).step1 s79 (Ne.symm ne46))
 refine Z14 (us := [.agg #[vi r75.1.op, vi r75.1.kind, vi r75.1.n, .string r75.1.s, .string r75.1.f, v91]]) (cs := [vi r75.1.op, vi r75.1.kind, vi r75.1.n, .string r75.1.s, .string r75.1.f, v91]) rfl rfl rfl Z0y Zw Z1t rfl (Z4a rfl Zc3) rfl rfl rfl S90.sub (fun w93 h94 b95 hb96 s97 hk98 hc99 => ?_)
 have S102 := S90.trans0 s97
 have rs103 : RS h94 (sl b95 0 1 1) ([r75.1] : List Ex) := RS.litL _ [[vi r75.1.op, vi r75.1.kind, vi r75.1.n, .string r75.1.s, .string r75.1.f, v91]] rfl rfl hc99 ⟨(Z7n.2 ⟨_, rfl, (rs92.mono (s97.le))⟩), trivial⟩
 have ow104 := Own.lit (base := w0.heap.size) (sz := 6) (m := 1) hk98 hc99 (by rw [hb96]; exact S90.size) rfl (by decide)
 refine Wv rfl (Z2 rfl Z3o) ?_
 have ob105 := (ob101.step0 s97)
 refine Zo (vs := [sl b95 0 1 1]) rfl rfl rfl rfl Zcs (Z5 rfl Zx) ob105 S102.sub (by simp) (ds := [vi 7, .string b'47, .slice none 0 0, .slice none 0 0, sl b95 0 1 1, vi 0, .slice A37 (r21.1).length c38, .slice none 0 0, .slice none 0 0, .bool false]) rfl (fun w106 s107 ob108 => ?_)
 have S109 := S102.trans1 s107 (.inr g48)
 refine Z7 <| Z6 <| Zb <| Z1 <| Wm rfl rfl ?_
 have ob110 := ((ob89.step0 s97).step1 s107 ne46)
 obtain ⟨r111, hr112, HF⟩ := Z8 HF
 rcases r111 with t113 | r114
 ·obtain rfl := Z01 HF
  have ob119 := ((ob100.step0 s97).step1 s107 ne47)
  refine Z0i rfl (Ze (vs := [pt b1 0, .string b'5]) rfl Z21) (Zj _ hr112 S109.sub (rs5.mono ((s12.le).trans ((s25.le).trans ((s44.le).trans ((s51.le).trans ((s62.le).trans ((s79.le).trans ((s97.le).trans s107.le)))))))) ob110) ?_
  rintro ch121 w122 ⟨ht123, h124, s125, ob120⟩
  refine Zd <| Zp ?_
  have S126 := S109.trans s125 (Zn (.inl (by simp)) Z04)
  exact ⟨_, rfl, ht123, h124, S126, ob120⟩
 replace HF := Z0j HF
 refine Wc rfl (Ze (vs := [pt b1 0, .string b'5]) rfl Z21) (Zj _ hr112 S109.sub (rs5.mono ((s12.le).trans ((s25.le).trans ((s44.le).trans ((s51.le).trans ((s62.le).trans ((s79.le).trans ((s97.le).trans s107.le)))))))) ob110) ?_
 have ob127 := ((ob100.step0 s97).step1 s107 ne47)
 rintro v115 w116 ⟨h117, s118, rfl, ob128⟩
 have S129 := S109.trans s118 (Zn (.inl (by simp)) Z04)
 refine Z7 <| Z6 <| Zb <| Z1 ?_
 have ob130 := (ob108.step1 s118 (Ne.symm ne46))
 refine Wv rfl (Z16 (cs := [vi 7, .string b'47, .slice none 0 0, .slice none 0 0, sl b95 0 1 1, vi 0, .slice A37 (r21.1).length c38, .slice none 0 0, .slice none 0 0, .bool false]) rfl Z4g Z0h (OB.cells ob130 0 rfl)) ?_
 have ob131 := (ob127.step1 s118 (Ne.symm ne14))
 refine Zo (vs := [vi 7, .string b'47, .slice none 0 0, .slice none 0 0, sl b95 0 1 1, vi 0, .slice A37 (r21.1).length c38, .slice none 0 0, .slice none 0 0, .bool false]) rfl rfl rfl rfl Z0h (Z5 rfl (Z5 rfl (Z5 rfl (Z5 rfl (Z5 rfl (Z5 rfl (Z5 rfl (Z5 rfl (Z5 rfl (Z5 rfl Zx)))))))))) ob131 S129.sub (by simp) (ds := [vi 7, .string b'47, .slice none 0 0, .slice none 0 0, sl b95 0 1 1, vi 0, .slice A37 (r21.1).length c38, .slice none 0 0, .slice none 0 0, .bool false]) rfl (fun w132 s133 ob134 => ?_)
 have S135 := S129.trans1 s133 (.inr g15)
 refine Z7 <| Z6 <| Z00 ?_
 have ob136 := (ob128.step1 s133 ne14)
 refine Z5p rfl rfl (Z11 (cs := [vi 7, .string b'47, .slice none 0 0, .slice none 0 0, sl b95 0 1 1, vi 0, .slice A37 (r21.1).length c38, .slice none 0 0, .slice none 0 0, .bool false]) Z4g Z0h (OB.cells ob134 0 rfl)) ?_
 obtain rfl := Option.some.inj HF
 exact ⟨_, rfl, h117, S135, ⟨_, rfl, (Zgz.2 ⟨_, _, _, _, _, _, rfl, (RS.nil _), (RS.nil _), (rs103.mono ((s107.le).trans ((s118.le).trans s133.le))), (rs39.mono ((s44.le).trans ((s51.le).trans ((s62.le).trans ((s79.le).trans ((s97.le).trans ((s107.le).trans ((s118.le).trans s133.le)))))))), (RS.nil _), (RS.nil _)⟩)⟩, ob136⟩
theorem all_parse_Parser_Text : ∀ k j, j ≤ k → Z2b (Z9 j).parse_Parser_Text ∧ Z2i (Z9 j).parse_Parser_count ∧ Z2h (Z9 j).parse_Parser_other ∧ Z2g (Z9 j).parse_Parser_while ∧ Z28 (Z9 j).parse_Parser_branch ∧ Z27 (Z9 j).parse_Parser_choice ∧ Z26 (Z9 j).parse_Parser_repeat := by
  intro k
  induction k with
  | zero =>
    intro j hj
    obtain rfl : j = 0 := by omega
    exact ⟨(fun _ _ _ => by intro h; cases h), (fun _ _ _ => by intro h; cases h), (fun _ _ _ _ _ _ _ _ _ _ _ _ _ => by intro h; cases h), (fun _ _ _ => by intro h; cases h), (fun _ _ _ => by intro h; cases h), (fun _ _ _ => by intro h; cases h), (fun _ _ _ => by intro h; cases h)⟩
  | succ k ih =>
    intro j hj
    by_cases h : j ≤ k
    · exact ih j h
    · obtain rfl : j = k + 1 := by omega
      exact ⟨s_parse_Parser_Text k ih, s_parse_Parser_count k ih, s_parse_Parser_other k ih, s_parse_Parser_while k ih, s_parse_Parser_branch k ih, s_parse_Parser_choice k ih, s_parse_Parser_repeat k ih⟩
theorem Zd2 (k : Nat) : Z2b (Zf0 k) := (all_parse_Parser_Text k k (Nat.le_refl _)).1
def Zaf (φ : (List Tok) → Int → (List St) → Option (Except (Int × Int × Int × List St) (Int × List St))) : Prop := ∀ ⦃xs3 : List Tok⦄ ⦃x6 : Int⦄ ⦃xs13 : List St⦄ ⦃r : Except (Int × Int × Int × List St) (Int × List St)⦄, φ xs3 x6 xs13 = some r → ∀ ⦃w0 : World⦄ ⦃h0 : Hp⦄ ⦃b1 : Nat⦄ ⦃T2 : Nat⦄ ⦃v4 : Value⦄ ⦃b8 : Nat⦄ ⦃T9 : Nat⦄ ⦃b11 : Nat⦄ ⦃T12 : Nat⦄ ⦃v14 : Value⦄, Sub h0 w0 → RS h0 v4 xs3 → RS h0 v14 xs13 → OB w0 h0 b1 T2 [v4, .int .i64 x6] → OB w0 h0 b8 T9 [.func (.func 33) #[] #[]] → OB w0 h0 b11 T12 [v14] → b1 ≠ b8 → b1 ≠ b11 → b8 ≠ b11 →
  Calls Tryz.prog 55 #[.pointer (some ⟨b1, 0, none⟩), .pointer (some ⟨b8, 0, none⟩), .pointer (some ⟨b11, 0, none⟩)] w0 fun e w1 => match r with | .ok r => ∃ v, e = .returned v ∧ ∃ h1, Stp [b1, b11] w0 h0 w1 h1 ∧ v = .tuple #[] ∧ (OB w1 h1 b1 T2 [v4, .int .i64 r.1]) ∧ (∃ y0 : Value, RS h1 y0 r.2 ∧ OB w1 h1 b11 T12 [y0]) | .error t => ∃ ch, e = .panicked ch ∧ Z8l 138 t.1 t.2.1 ch ∧ ∃ h1, Stp [b1, b11] w0 h0 w1 h1 ∧ (OB w1 h1 b1 T2 [v4, .int .i64 t.2.2.1]) ∧ (∃ y0 : Value, RS h1 y0 t.2.2.2 ∧ OB w1 h1 b11 T12 [y0])
theorem Zgu (k : Nat) : Zaf (Z70 k) := by
 intro xs3 x6 xs13 r HF w0 h0 b1 T2 v4 b8 T9 b11 T12 v14 hs0 rs5 rs15 ob7 ob10 ob16 ne17 ne18 ne19
 have S0 : Stp [b1, b11] w0 h0 w0 h0 := Stp.refl hs0 _
 have lt20 : b1 < w0.heap.size := OB.lt ob7
 have lt21 : b8 < w0.heap.size := OB.lt ob10
 have lt22 : b11 < w0.heap.size := OB.lt ob16
 refine Z4j (n := 7) Tryz.func55 rfl Tryz.ntmps55 rfl [(0, pt b1 0), (1, pt b8 0), (2, pt b11 0)] rfl <| Z1 <| Wv rfl (Zc rfl t_agg_65 (OB.cell ob10 (j := 0) rfl)) <| Wm rfl rfl ?_
 obtain ⟨r23, hr24, HF⟩ := Z8 HF
 rcases r23 with t25 | r26
 ·obtain rfl := Z01 HF
  refine Z0i rfl (oc_val (vs := [pt b1 0]) (caps := []) rfl rfl Z8r) (Zd2 _ hr24 S0.sub rs5 ob7) ?_
  rintro ch32 w33 ⟨ht34, h35, s36, ob31⟩
  refine Zp ?_
  have S37 := S0.trans s36 (Zn (.inl (by simp)) Z04)
  have ob38 := (ob16.step1 s36 (Ne.symm ne18))
  exact ⟨_, rfl, ht34, h35, S37, ob31, ⟨_, (rs15.mono (s36.le)), ob38⟩⟩
 replace HF := Z0j HF
 refine Wc rfl (oc_val (vs := [pt b1 0]) (caps := []) rfl rfl Z8r) (Zd2 _ hr24 S0.sub rs5 ob7) ?_
 rintro v39 w28 ⟨h29, s30, rs40, ob41⟩
 have S42 := S0.trans s30 (Zn (.inl (by simp)) Z04)
 have ob43 := (ob16.step1 s30 (Ne.symm ne18))
 refine Zo (vs := [v39]) rfl rfl rfl (RS.cellsL rs40) Zgv (Z5 (RS.one rs40) Zx) ob43 S42.sub (by simp) (ds := [v39]) rfl (fun w44 s45 ob46 => ?_)
 have S47 := S42.trans1 s45 (.inl (by simp))
 refine Z7 ?_
 have ob48 := (ob41.step1 s45 ne18)
 refine Zb0 rfl ?_
 obtain rfl := Option.some.inj HF
 exact ⟨_, rfl, h29, S47, rfl, ob48, ⟨_, (rs40.mono (s45.le)), ob46⟩⟩
theorem Z9n (k : Nat) : Zaf (Z70 k) := Zgu k
def C_parse_Source (φ : ByteArray → (List St) → Option (Int × Int × List St)) : Prop := ∀ ⦃x1 : ByteArray⦄ ⦃xs7 : List St⦄ ⦃r : Int × Int × List St⦄, φ x1 xs7 = some r → ∀ ⦃w0 : World⦄ ⦃h0 : Hp⦄ ⦃b2 : Nat⦄ ⦃T3 : Nat⦄ ⦃b5 : Nat⦄ ⦃T6 : Nat⦄ ⦃v8 : Value⦄, Sub h0 w0 → RS h0 v8 xs7 → OB w0 h0 b2 T3 [.func (.func 33) #[] #[]] → OB w0 h0 b5 T6 [v8] → b2 ≠ b5 →
  Calls Tryz.prog 54 #[.string x1, .func (.func 55) #[] #[.pointer (some ⟨b2, 0, none⟩), .pointer (some ⟨b5, 0, none⟩)]] w0 fun e w1 => ∃ v, e = .returned v ∧ ∃ h1, Stp [b5] w0 h0 w1 h1 ∧ (∃ u0 u1 : Value, v = .tuple #[u0, u1] ∧ (u0 = .int .i64 r.1) ∧ (u1 = .int .i64 r.2.1)) ∧ (∃ y0 : Value, RS h1 y0 r.2.2 ∧ OB w1 h1 b5 T6 [y0])
theorem s_parse_Source (k : Nat) : C_parse_Source (Zg4 k) := by
 intro x1 xs7 r HF w0 h0 b2 T3 b5 T6 v8 hs0 rs9 ob4 ob10 ne11
 have S0 : Stp [b5] w0 h0 w0 h0 := Stp.refl hs0 _
 have lt12 : b2 < w0.heap.size := OB.lt ob4
 have lt13 : b5 < w0.heap.size := OB.lt ob10
 refine enterD (n := 27) Tryz.func54 rfl Tryz.ntmps54 rfl [(0, .string x1), (1, .func (.func 55) #[] #[pt b2 0, pt b5 0])] rfl <| Zb <| Z1 <| Z15 (zs := [vi 0]) rfl rfl t_zero_3 rfl S0.sub (fun w14 b15 hb16 s17 ob18 => ?_)
 have ne19 : b2 ≠ b15 := ob4.ne_new hb16
 have ne20 : b5 ≠ b15 := ob10.ne_new hb16
 have g21 : w0.heap.size ≤ b15 := by rw [hb16]; exact S0.size
 have S22 := S0.trans0 s17
 have ob23 := (ob4.step0 s17)
 have ob24 := (ob10.step0 s17)
 refine Z15 (zs := [vi 0]) rfl rfl t_zero_23 rfl S22.sub (fun w25 b26 hb27 s28 ob29 => ?_)
 have ne30 : b2 ≠ b26 := ob23.ne_new hb27
 have ne31 : b5 ≠ b26 := ob24.ne_new hb27
 have ne32 : b15 ≠ b26 := ob18.ne_new hb27
 have g33 : w0.heap.size ≤ b26 := by rw [hb27]; exact S22.size
 have S34 := S22.trans0 s28
 refine Z7 <| Z6 <| Zb <| Z1 <| Wm rfl rfl ?_
 obtain ⟨r35, hr36, HF⟩ := Z8 HF
 refine Wc rfl (Ze (vs := [.string x1]) rfl t_ent_18) (ok_lexis_Tokens _ hr36 S34.sub) ?_
 rintro _ w38 ⟨h39, s40, v41, _, _, rfl, rs42, rfl, rfl⟩
 have S43 := S34.trans0 s40
 refine Wm rfl rfl <| Wv rfl (Z0c rfl rfl) <| Wv rfl (Z0c rfl rfl) <| Wv rfl (Z0c rfl rfl) <| Wa rfl rfl ?_
 have ob44 := ((ob18.step0 s28).step0 s40)
 refine Zo (vs := [vi r35.2.1]) rfl rfl rfl rfl Z1p (Z5 rfl Zx) ob44 S43.sub (by simp) (ds := [vi r35.2.1]) rfl (fun w45 s46 ob47 => ?_)
 have S48 := S43.trans1 s46 (.inr g21)
 have ob49 := ((ob29.step0 s40).step1 s46 (Ne.symm ne32))
 refine Zo (vs := [vi r35.2.2]) rfl rfl rfl rfl Z5i (Z5 rfl Zx) ob49 S48.sub (by simp) (ds := [vi r35.2.2]) rfl (fun w50 s51 ob52 => ?_)
 have S53 := S48.trans1 s51 (.inr g33)
 refine Z7 <| Z6 <| Z09 (fun E w96 => ∃ (h95 : Hp), parse_Source_j1 k xs7 r35 = some r ∧ E = [(1, .func (.func 55) #[] #[pt b2 0, pt b5 0]), (4, pt b15 0), (5, pt b26 0), (6, v41)] ∧ Stp [b5] w0 h0 w96 h95 ∧ Hle h39 h95 ∧ OB w96 h95 b2 T3 [.func (.func 33) #[] #[]] ∧ OB w96 h95 b5 T6 [v8] ∧ OB w96 h95 b15 3 [vi r35.2.1] ∧ OB w96 h95 b26 23 [vi r35.2.2]) ?_ ?_
 ·rintro E w96 ⟨h95, HF, rfl, S98, le97, ob99, ob100, ob101, ob102⟩
  refine Zb <| Z1 <| Wv rfl (ov_makeFunc (vs := [pt b15 0, pt b26 0]) rfl) <| WL.defer rfl rfl <| Z7 <| Z6 <| Zb <| Z1 <| Wm rfl rfl ?_
  obtain ⟨A103, c104, rfl, rs105⟩ := RS.form (rs42.mono ((s46.le).trans ((s51.le).trans le97)))
  refine Wv rfl (Z38 (vs := [(0, .slice A103 (r35.1).length c104)]) (cs := [.slice A103 (r35.1).length c104, vi 0]) rfl t_places_140 t_zero_140 rfl) <| Zhq (cs := [.slice A103 (r35.1).length c104, vi 0]) rfl rfl rfl rfl S98.sub (fun w106 b107 hb108 s109 ob110 => ?_)
  have ne111 : b2 ≠ b107 := ob99.ne_new hb108
  have ne112 : b5 ≠ b107 := ob100.ne_new hb108
  have ne113 : b15 ≠ b107 := ob101.ne_new hb108
  have ne114 : b26 ≠ b107 := ob102.ne_new hb108
  have g115 : w0.heap.size ≤ b107 := by rw [hb108]; exact S98.size
  have S116 := S98.trans0 s109
  refine Wa rfl rfl <| Z7 <| Z6 <| Zb <| Z1 <| Wm rfl rfl <| Wm rfl rfl ?_
  have ob117 := (ob99.step0 s109)
  have ob118 := (ob100.step0 s109)
  obtain ⟨r119, hr120, HF⟩ := Z8 HF
  rcases r119 with t121 | r122
  ·replace HF := catchE_err HF
   refine Z0i rfl (oc_val (vs := [pt b107 0]) (caps := [pt b2 0, pt b5 0]) rfl rfl t_ent_55) (Z9n _ hr120 S116.sub (rs105.mono (s109.le)) (rs9.mono ((s17.le).trans ((s28.le).trans ((s40.le).trans ((s46.le).trans ((s51.le).trans ((le97).trans s109.le))))))) ob110 ob117 ob118 (Ne.symm ne111) (Ne.symm ne112) ne11) ?_
   rintro ch131 w132 ⟨rfl, h134, s135, ob127, ⟨v128, rs129, ob130⟩⟩
   refine Zd ?_
   have S136 := S116.trans s135 (Zn (.inr g115) (Zn (.inl (by simp)) Z04))
   have ob137 := ((ob101.step0 s109).step s135 (Z5l ne113 (Z5l (Ne.symm ne20) ni_nil)))
   have ob138 := ((ob102.step0 s109).step s135 (Z5l ne114 (Z5l (Ne.symm ne31) ni_nil)))
   obtain ⟨r139, hr140, HF⟩ := Z8 HF
   refine WQ.D1panic rfl t_ent_98 (Zat _ hr140 S136.sub ob137 ob138 ne32) ?_
   have ob144 := (ob117.step s135 (Z5l ne111 (Z5l ne11 ni_nil)))
   rintro _ w141 ⟨h142, s143, rfl, ob145, ob146⟩
   have S147 := S136.trans s143 (Zn (.inr g21) (Zn (.inr g33) Z04))
   have ob148 := (ob130.step s143 (Z5l ne20 (Z5l ne31 ni_nil)))
   refine ⟨_, rg2 rfl (Z5k rfl (Z25 Z0f (OB.cell ob145 (j := 0) rfl))) (Z5k rfl (Z25 Z5c (OB.cell ob146 (j := 0) rfl))), ?_⟩
   obtain rfl := Option.some.inj HF
   exact ⟨_, rfl, h142, S147, ⟨_, _, rfl, rfl, rfl⟩, ⟨_, (rs129.mono (s143.le)), ob148⟩⟩
  replace HF := catchE_ok HF
  refine Wc rfl (oc_val (vs := [pt b107 0]) (caps := [pt b2 0, pt b5 0]) rfl rfl t_ent_55) (Z9n _ hr120 S116.sub (rs105.mono (s109.le)) (rs9.mono ((s17.le).trans ((s28.le).trans ((s40.le).trans ((s46.le).trans ((s51.le).trans ((le97).trans s109.le))))))) ob110 ob117 ob118 (Ne.symm ne111) (Ne.symm ne112) ne11) ?_
  rintro v123 w124 ⟨h125, s126, rfl, ob149, ⟨v150, rs151, ob152⟩⟩
  have S153 := S116.trans s126 (Zn (.inr g115) (Zn (.inl (by simp)) Z04))
  refine Z7 <| Z6 <| Zb <| Z1 <| Wm rfl rfl ?_
  obtain ⟨r154, hr155, HF⟩ := Z8 HF
  rcases r154 with t156 | r157
  ·replace HF := catchE_err HF
   refine Z0i rfl (Ze (vs := [pt b107 0, vi 7]) rfl t_ent_99) (Z2w _ hr155 S153.sub (rs105.mono ((s109.le).trans s126.le)) ob149) ?_
   rintro ch163 w164 ⟨rfl, h166, s167, ob162⟩
   refine Zd ?_
   have S168 := S153.trans s167 (Zn (.inr g115) Z04)
   have ob169 := (((ob101.step0 s109).step s126 (Z5l ne113 (Z5l (Ne.symm ne20) ni_nil))).step1 s167 ne113)
   have ob170 := (((ob102.step0 s109).step s126 (Z5l ne114 (Z5l (Ne.symm ne31) ni_nil))).step1 s167 ne114)
   obtain ⟨r171, hr172, HF⟩ := Z8 HF
   refine WQ.D1panic rfl t_ent_98 (Zat _ hr172 S168.sub ob169 ob170 ne32) ?_
   have ob176 := ((ob117.step s126 (Z5l ne111 (Z5l ne11 ni_nil))).step1 s167 ne111)
   have ob177 := (ob152.step1 s167 ne112)
   rintro _ w173 ⟨h174, s175, rfl, ob178, ob179⟩
   have S180 := S168.trans s175 (Zn (.inr g21) (Zn (.inr g33) Z04))
   have ob181 := (ob177.step s175 (Z5l ne20 (Z5l ne31 ni_nil)))
   refine ⟨_, rg2 rfl (Z5k rfl (Z25 Z0f (OB.cell ob178 (j := 0) rfl))) (Z5k rfl (Z25 Z5c (OB.cell ob179 (j := 0) rfl))), ?_⟩
   obtain rfl := Option.some.inj HF
   exact ⟨_, rfl, h174, S180, ⟨_, _, rfl, rfl, rfl⟩, ⟨_, (rs151.mono ((s167.le).trans s175.le)), ob181⟩⟩
  replace HF := catchE_ok HF
  refine Wc rfl (Ze (vs := [pt b107 0, vi 7]) rfl t_ent_99) (Z2w _ hr155 S153.sub (rs105.mono ((s109.le).trans s126.le)) ob149) ?_
  rintro _ w159 ⟨h160, s161, rfl, ob182⟩
  have S183 := S153.trans s161 (Zn (.inr g115) Z04)
  refine Z7 <| Z6 <| Zb <| Z1 ?_
  have ob184 := (((ob101.step0 s109).step s126 (Z5l ne113 (Z5l (Ne.symm ne20) ni_nil))).step1 s161 ne113)
  refine Zo (vs := [vi 0]) rfl rfl rfl rfl Z1p (Z5 rfl Zx) ob184 S183.sub (by simp) (ds := [vi 0]) rfl (fun w185 s186 ob187 => ?_)
  have S188 := S183.trans1 s186 (.inr g21)
  have ob189 := ((((ob102.step0 s109).step s126 (Z5l ne114 (Z5l (Ne.symm ne31) ni_nil))).step1 s161 ne114).step1 s186 (Ne.symm ne32))
  refine Zo (vs := [vi 0]) rfl rfl rfl rfl Z5i (Z5 rfl Zx) ob189 S188.sub (by simp) (ds := [vi 0]) rfl (fun w190 s191 ob192 => ?_)
  have S193 := S188.trans1 s191 (.inr g33)
  refine Z7 <| Z6 <| Z00 ?_
  have ob194 := (ob187.step1 s191 ne32)
  obtain ⟨r195, hr196, HF⟩ := Z8 HF
  refine WQ.D1ret rfl t_ent_98 (ok_parse_Source_1_ret _ hr196 S193.sub ob194 ob192 ne32) ?_
  have ob200 := ((((ob117.step s126 (Z5l ne111 (Z5l ne11 ni_nil))).step1 s161 ne111).step1 s186 ne19).step1 s191 ne30)
  have ob201 := (((ob152.step1 s161 ne112).step1 s186 ne20).step1 s191 ne31)
  have ob202 := ((ob182.step1 s186 (Ne.symm ne113)).step1 s191 (Ne.symm ne114))
  rintro _ w197 ⟨h198, s199, rfl⟩
  have S203 := S193.trans0 s199
  have ob204 := (ob201.step0 s199)
  have ob205 := (ob194.step0 s199)
  have ob206 := (ob192.step0 s199)
  refine ⟨_, rg2 rfl (Z5k rfl (Z25 Z0f (OB.cell ob205 (j := 0) rfl))) (Z5k rfl (Z25 Z5c (OB.cell ob206 (j := 0) rfl))), ?_⟩
  obtain rfl := Option.some.inj HF
  exact ⟨_, rfl, h198, S203, ⟨_, _, rfl, rfl, rfl⟩, ⟨_, (rs151.mono ((s161.le).trans ((s186.le).trans ((s191.le).trans s199.le)))), ob204⟩⟩
 intro J207
 refine Zb <| Z1 <| Wv rfl (Zc rfl Z5c (OB.cell ob52 (j := 0) rfl)) <| Wv rfl (Z7e rfl rfl) <| Z7 <| Z6 <| Z17 HF rfl (fun HF => ?_) (fun HF => ?_)
 ·refine Zb <| WC.drawnA Z3f S53.sub (fun w55 s56 => ?_)
  have S57 := S53.trans0 s56
  refine WA.two (i := 0) (j := 1) (by kernel_rfl) rfl rfl ?_ ?_
  ·skip
   have ob58 := ((ob47.step1 s51 ne32).step0 s56)
   refine Wv rfl (Zc rfl Z0f (OB.cell ob58 (j := 0) rfl)) <| Z7 <| Z1f <| WA.two (i := 1) (j := 2) (by kernel_rfl) rfl rfl ?_ ?_
   ·skip
    have ob59 := (ob52.step0 s56)
    refine Wv rfl (Zc rfl Z5c (OB.cell ob59 (j := 0) rfl)) <| Z7 <| Z1f <| WA.one (i := 2) (by kernel_rfl) rfl <| Zo (vs := [vi r35.2.1]) rfl rfl rfl rfl Z1p (Z5 rfl Zx) ob58 S57.sub (by simp) (ds := [vi r35.2.1]) rfl (fun w60 s61 ob62 => ?_)
    have S63 := S57.trans1 s61 (.inr g21)
    refine Z7 <| Z1f <| WA.one (i := 3) (by kernel_rfl) rfl ?_
    have ob64 := (ob59.step1 s61 (Ne.symm ne32))
    refine Zo (vs := [vi r35.2.2]) rfl rfl rfl rfl Z5i (Z5 rfl Zx) ob64 S63.sub (by simp) (ds := [vi r35.2.2]) rfl (fun w65 s66 ob67 => ?_)
    have S68 := S63.trans1 s66 (.inr g33)
    refine Z7 <| Z1f <| WA.fin (by kernel_rfl) <| Z6 <| Z00 <| Zi <| WQ.D0ret ?_
    have ob69 := (((((((ob24.step0 s28).step0 s40).step1 s46 ne20).step1 s51 ne31).step0 s56).step1 s61 ne20).step1 s66 ne31)
    have ob70 := (ob62.step1 s66 ne32)
    refine Zgy (rg2 rfl (Z5k rfl (Z25 Z0f (OB.cell ob70 (j := 0) rfl))) (Z5k rfl (Z25 Z5c (OB.cell ob67 (j := 0) rfl)))) ?_
    obtain rfl := Option.some.inj HF
    exact ⟨_, rfl, h39, S68, ⟨_, _, rfl, rfl, rfl⟩, ⟨_, (rs9.mono ((s17.le).trans ((s28.le).trans ((s40.le).trans ((s46.le).trans ((s51.le).trans ((s56.le).trans ((s61.le).trans s66.le)))))))), ob69⟩⟩
   skip
   refine Zo (vs := [vi r35.2.1]) rfl rfl rfl rfl Z1p (Z5 rfl Zx) ob58 S57.sub (by simp) (ds := [vi r35.2.1]) rfl (fun w71 s72 ob73 => ?_)
   have S74 := S57.trans1 s72 (.inr g21)
   refine Z7 <| Z1f <| WA.one (i := 1) (by kernel_rfl) rfl ?_
   have ob75 := ((ob52.step0 s56).step1 s72 (Ne.symm ne32))
   refine Wv rfl (Zc rfl Z5c (OB.cell ob75 (j := 0) rfl)) <| Z7 <| Z1f <| WA.one (i := 3) (by kernel_rfl) rfl <| Zo (vs := [vi r35.2.2]) rfl rfl rfl rfl Z5i (Z5 rfl Zx) ob75 S74.sub (by simp) (ds := [vi r35.2.2]) rfl (fun w76 s77 ob78 => ?_)
   have S79 := S74.trans1 s77 (.inr g33)
   refine Z7 <| Z1f <| WA.fin (by kernel_rfl) <| Z6 <| Z00 <| Zi <| WQ.D0ret ?_
   have ob80 := (((((((ob24.step0 s28).step0 s40).step1 s46 ne20).step1 s51 ne31).step0 s56).step1 s72 ne20).step1 s77 ne31)
   have ob81 := (ob73.step1 s77 ne32)
   refine Zgy (rg2 rfl (Z5k rfl (Z25 Z0f (OB.cell ob81 (j := 0) rfl))) (Z5k rfl (Z25 Z5c (OB.cell ob78 (j := 0) rfl)))) ?_
   obtain rfl := Option.some.inj HF
   exact ⟨_, rfl, h39, S79, ⟨_, _, rfl, rfl, rfl⟩, ⟨_, (rs9.mono ((s17.le).trans ((s28.le).trans ((s40.le).trans ((s46.le).trans ((s51.le).trans ((s56.le).trans ((s72.le).trans s77.le)))))))), ob80⟩⟩
  skip
  have ob82 := (ob52.step0 s56)
  refine Wv rfl (Zc rfl Z5c (OB.cell ob82 (j := 0) rfl)) <| Z7 <| Z1f <| WA.one (i := 0) (by kernel_rfl) rfl ?_
  have ob83 := ((ob47.step1 s51 ne32).step0 s56)
  refine Wv rfl (Zc rfl Z0f (OB.cell ob83 (j := 0) rfl)) <| Z7 <| Z1f <| WA.one (i := 2) (by kernel_rfl) rfl <| Zo (vs := [vi r35.2.1]) rfl rfl rfl rfl Z1p (Z5 rfl Zx) ob83 S57.sub (by simp) (ds := [vi r35.2.1]) rfl (fun w84 s85 ob86 => ?_)
  have S87 := S57.trans1 s85 (.inr g21)
  refine Z7 <| Z1f <| WA.one (i := 3) (by kernel_rfl) rfl ?_
  have ob88 := (ob82.step1 s85 (Ne.symm ne32))
  refine Zo (vs := [vi r35.2.2]) rfl rfl rfl rfl Z5i (Z5 rfl Zx) ob88 S87.sub (by simp) (ds := [vi r35.2.2]) rfl (fun w89 s90 ob91 => ?_)
  have S92 := S87.trans1 s90 (.inr g33)
  refine Z7 <| Z1f <| WA.fin (by kernel_rfl) <| Z6 <| Z00 <| Zi <| WQ.D0ret ?_
  have ob93 := (((((((ob24.step0 s28).step0 s40).step1 s46 ne20).step1 s51 ne31).step0 s56).step1 s85 ne20).step1 s90 ne31)
  have ob94 := (ob86.step1 s90 ne32)
  refine Zgy (rg2 rfl (Z5k rfl (Z25 Z0f (OB.cell ob94 (j := 0) rfl))) (Z5k rfl (Z25 Z5c (OB.cell ob91 (j := 0) rfl)))) ?_
  obtain rfl := Option.some.inj HF
  exact ⟨_, rfl, h39, S92, ⟨_, _, rfl, rfl, rfl⟩, ⟨_, (rs9.mono ((s17.le).trans ((s28.le).trans ((s40.le).trans ((s46.le).trans ((s51.le).trans ((s56.le).trans ((s85.le).trans s90.le)))))))), ob93⟩⟩
 refine Zm ?_
 have ob208 := ((((ob23.step0 s28).step0 s40).step1 s46 ne19).step1 s51 ne30)
 have ob209 := ((((ob24.step0 s28).step0 s40).step1 s46 ne20).step1 s51 ne31)
 have ob210 := (ob47.step1 s51 ne32)
 refine Z0g [1, 4, 5, 6] _ rfl ?_
 exact J207 ⟨h39, HF, rfl, S53, Hle.refl _, ob208, ob209, ob210, ob52⟩
theorem ok_parse_Source (k : Nat) : C_parse_Source (Zg4 k) := s_parse_Source k
def C_ast_within (φ : Int → Int → Int → Option Bool) : Prop := ∀ ⦃x1 : Int⦄ ⦃x2 : Int⦄ ⦃x3 : Int⦄ ⦃r : Bool⦄, φ x1 x2 x3 = some r → ∀ ⦃w0 : World⦄ ⦃h0 : Hp⦄, Sub h0 w0 →
  Calls Tryz.prog 130 #[.int .i64 x1, .int .i64 x2, .int .i64 x3] w0 fun e w1 => ∃ v, e = .returned v ∧ ∃ h1, Stp [] w0 h0 w1 h1 ∧ v = .bool r
theorem s_ast_within (k : Nat) : C_ast_within (Z9g k) := by
 intro x1 x2 x3 r HF w0 h0  hs0 
 have S0 : Stp [] w0 h0 w0 h0 := Stp.refl hs0 _
 refine Z4j (n := 15) Tryz.func130 rfl Tryz.ntmps130 rfl [(0, vi x1), (1, vi x2), (2, vi x3)] rfl <| Zb <| Z1 <| Wa rfl rfl <| Z7 <| Z6 <| Zb <| Z1 <| Wm rfl rfl <| Wm rfl rfl <| Wv rfl (ov_geq rfl rfl) <| Wm rfl rfl <| Z3g 10 HF rfl (fun HF => ?_) (fun HF => ?_)
 ·refine Wm rfl rfl <| Wm rfl rfl <| Wv rfl (ov_leq rfl rfl) <| Wv rfl (Zh rfl rfl) <| Wa rfl rfl <| Z7 <| Z6 <| Z00 <| Zt rfl rfl ?_
  obtain rfl := Option.some.inj HF
  exact ⟨_, rfl, h0, S0, rfl⟩
 refine Wp rfl <| Wp rfl <| Wp rfl <| Wv rfl (Zg rfl rfl) <| Wa rfl rfl <| Z7 <| Z6 <| Z00 <| Zt rfl rfl ?_
 obtain rfl := Option.some.inj HF
 exact ⟨_, rfl, h0, S0, rfl⟩
theorem Zbv (k : Nat) : C_ast_within (Z9g k) := s_ast_within k
def C_ast_IsConst (φ : Int → Int → Option Bool) : Prop := ∀ ⦃x1 : Int⦄ ⦃x2 : Int⦄ ⦃r : Bool⦄, φ x1 x2 = some r → ∀ ⦃w0 : World⦄ ⦃h0 : Hp⦄, Sub h0 w0 →
  Calls Tryz.prog 139 #[.int .i64 x1, .int .i64 x2] w0 fun e w1 => ∃ v, e = .returned v ∧ ∃ h1, Stp [] w0 h0 w1 h1 ∧ v = .bool r
theorem s_ast_IsConst (k : Nat) : C_ast_IsConst (F_ast_IsConst k) := by
 intro x1 x2 r HF w0 h0  hs0 
 have S0 : Stp [] w0 h0 w0 h0 := Stp.refl hs0 _
 refine Z4j (n := 15) Tryz.func139 rfl Tryz.ntmps139 rfl [(0, vi x1), (1, vi x2)] rfl <| Zb <| Z1 <| Wa rfl rfl <| Z7 <| Z6 <| Z09 (fun E w27 => ∃ (h26 : Hp), ast_IsConst_j2 k  = some r ∧ E = [] ∧ Stp [] w0 h0 w27 h26 ∧ Hle h0 h26) ?_ ?_
 ·rintro E w27 ⟨h26, HF, rfl, S29, le28⟩
  refine Zb <| Z1 <| Wa rfl rfl <| Z7 <| Z6 <| Z00 <| Zt rfl rfl ?_
  obtain rfl := Option.some.inj HF
  exact ⟨_, rfl, h26, S29, rfl⟩
 intro J30
 refine Zb <| Z1 <| Wm rfl rfl <| Z7 <| Z6 <| Z0p <| Zb <| Z1 <| Wv rfl (Z4n rfl rfl) <| Wa rfl rfl <| Z7 <| Z6 <| Z17 HF rfl (fun HF => ?_) (fun HF => ?_)
 ·refine Zb <| Z1 <| Wm rfl rfl ?_
  obtain ⟨r4, hr5, HF⟩ := Z8 HF
  refine Wc rfl (Ze (vs := [vi x2, vi 0, vi 1]) rfl t_ent_130) (Zbv _ hr5 S0.sub) ?_
  rintro _ w7 ⟨h8, s9, rfl⟩
  have S10 := S0.trans0 s9
  refine Wa rfl rfl <| Z7 <| Z6 <| Z00 <| Zy <| Zi <| Zt rfl rfl ?_
  obtain rfl := Option.some.inj HF
  exact ⟨_, rfl, h8, S10, rfl⟩
 refine Z09 (fun E w13 => ∃ (h12 : Hp) (x16 : Bool), Zgm k x2 x16 = some r ∧ E = [(1, vi x2), (10, .bool x16)] ∧ Stp [] w0 h0 w13 h12 ∧ Hle h0 h12) ?_ ?_
 ·rintro E w13 ⟨h12, x16, HF, rfl, S15, le14⟩
  refine Z17 HF rfl (fun HF => ?_) (fun HF => ?_)
  ·refine Zb <| Z1 <| Wm rfl rfl ?_
   obtain ⟨r18, hr19, HF⟩ := Z8 HF
   refine Wc rfl (Ze (vs := [vi x2, vi 0, vi 2147483647]) rfl t_ent_130) (Zbv _ hr19 S15.sub) ?_
   rintro _ w21 ⟨h22, s23, rfl⟩
   have S24 := S15.trans0 s23
   refine Wa rfl rfl <| Z7 <| Z6 <| Z00 <| Zy <| Zi <| Zt rfl rfl ?_
   obtain rfl := Option.some.inj HF
   exact ⟨_, rfl, h22, S24, rfl⟩
  refine Zm <| Z0a <| Z0g [] _ rfl ?_
  exact J30 ⟨h12, HF, rfl, S15, le14⟩
 intro J25
 refine Zb <| Z1 <| Wv rfl (Z4n rfl rfl) <| Wa rfl rfl <| Z7 <| Z6 <| Z17 HF rfl (fun HF => ?_) (fun HF => ?_)
 ·refine Zm <| Z0g [1, 10] _ rfl ?_
  exact J25 ⟨h0, (x1 : Int) == 2, HF, rfl, S0, Hle.refl _⟩
 refine Z1 <| Wv rfl (Z4n rfl rfl) <| Wa rfl rfl <| Z7 <| Z0g [1, 10] _ rfl ?_
 exact J25 ⟨h0, (x1 : Int) == 3, HF, rfl, S0, Hle.refl _⟩
theorem ok_ast_IsConst (k : Nat) : C_ast_IsConst (F_ast_IsConst k) := s_ast_IsConst k
def Zh8 (φ : Int → Int → Int → Option (Bool × Int × Int)) : Prop := ∀ ⦃x3 : Int⦄ ⦃x4 : Int⦄ ⦃x6 : Int⦄ ⦃r : Bool × Int × Int⦄, φ x3 x4 x6 = some r → ∀ ⦃w0 : World⦄ ⦃h0 : Hp⦄ ⦃b1 : Nat⦄ ⦃T2 : Nat⦄, Sub h0 w0 → OB w0 h0 b1 T2 [.int .i64 x3, .int .i64 x4] →
  Calls Tryz.prog 128 #[.pointer (some ⟨b1, 0, none⟩), .int .i64 x6] w0 fun e w1 => ∃ v, e = .returned v ∧ ∃ h1, Stp [b1] w0 h0 w1 h1 ∧ v = .bool r.1 ∧ (OB w1 h1 b1 T2 [.int .i64 r.2.1, .int .i64 r.2.2])
theorem s_ast_Counter_Add (k : Nat) : Zh8 (Z7d k) := by
 intro x3 x4 x6 r HF w0 h0 b1 T2 hs0 ob5
 have S0 : Stp [b1] w0 h0 w0 h0 := Stp.refl hs0 _
 have lt7 : b1 < w0.heap.size := OB.lt ob5
 refine Z4j (n := 30) Tryz.func128 rfl Tryz.ntmps128 rfl [(0, pt b1 0), (1, vi x6)] rfl <| Zb <| Z1 <| Wa rfl rfl <| Z7 <| Z6 <| Zb <| Z1 <| Wm rfl rfl <| Wv rfl (Zs rfl) <| Wv rfl (Z2 rfl Zfy) <| Wv rfl (Zc rfl Z0f (OB.cell ob5 (j := 0) rfl)) <| Wv rfl (Z3n rfl rfl) <| Wv rfl (Zs rfl) <| Wv rfl (Z2 rfl Zfy) <| Zo (vs := [vi (IntKind.i64.wrap (x3 + 1))]) rfl rfl rfl rfl Z1p (Z5 rfl Zx) ob5 S0.sub (by simp) (ds := [vi (IntKind.i64.wrap (x3 + 1)), vi x4]) rfl (fun w8 s9 ob10 => ?_)
 have S11 := S0.trans1 s9 (.inl (by simp))
 refine Z7 <| Z6 <| Zb <| Z1 <| Wm rfl rfl <| Wm rfl rfl <| Wv rfl (Zs rfl) <| Wv rfl (Z2 rfl t_field_87_1) <| Wv rfl (Zc rfl Z0f (OB.cell ob10 (j := 1) rfl)) <| Wm rfl rfl <| Wv rfl (ov_max rfl rfl) <| Wv rfl (Zs rfl) <| Wv rfl (Z2 rfl t_field_87_1) <| Zo (vs := [vi (imax x4 x6)]) rfl rfl rfl rfl Z1p (Z5 rfl Zx) ob10 S11.sub (by simp) (ds := [vi (IntKind.i64.wrap (x3 + 1)), vi (imax x4 x6)]) rfl (fun w12 s13 ob14 => ?_)
 have S15 := S11.trans1 s13 (.inl (by simp))
 refine Z7 <| Z6 <| Zb <| Z1 <| Wm rfl rfl <| Wv rfl (Zs rfl) <| Wv rfl (Z2 rfl Zfy) <| Wv rfl (Zc rfl Z0f (OB.cell ob14 (j := 0) rfl)) <| Wv rfl (ov_leq rfl rfl) <| Wm rfl rfl <| Z3g 26 HF rfl (fun HF => ?_) (fun HF => ?_)
 ·refine Wm rfl rfl <| Wv rfl (ov_leq rfl rfl) <| Wv rfl (Zh rfl rfl) <| Wa rfl rfl <| Z7 <| Z6 <| Z00 <| Zt rfl rfl ?_
  obtain rfl := Option.some.inj HF
  exact ⟨_, rfl, h0, S15, rfl, ob14⟩
 refine Wp rfl <| Wp rfl <| Wv rfl (Zg rfl rfl) <| Wa rfl rfl <| Z7 <| Z6 <| Z00 <| Zt rfl rfl ?_
 obtain rfl := Option.some.inj HF
 exact ⟨_, rfl, h0, S15, rfl, ob14⟩
theorem Zb1 (k : Nat) : Zh8 (Z7d k) := s_ast_Counter_Add k
def C_ast_isNamed (φ : ByteArray → Bool → Option Bool) : Prop := ∀ ⦃x1 : ByteArray⦄ ⦃x2 : Bool⦄ ⦃r : Bool⦄, φ x1 x2 = some r → ∀ ⦃w0 : World⦄ ⦃h0 : Hp⦄, Sub h0 w0 →
  Calls Tryz.prog 129 #[.string x1, .bool x2] w0 fun e w1 => ∃ v, e = .returned v ∧ ∃ h1, Stp [] w0 h0 w1 h1 ∧ v = .bool r
theorem s_ast_isNamed (k : Nat) : C_ast_isNamed (Zbw k) := by
 intro x1 x2 r HF w0 h0  hs0 
 have S0 : Stp [] w0 h0 w0 h0 := Stp.refl hs0 _
 refine Z4j (n := 10) Tryz.func129 rfl Tryz.ntmps129 rfl [(0, .string x1), (1, .bool x2)] rfl <| Zb <| Z1 <| Wa rfl rfl <| Z7 <| Z6 <| Z09 (fun E w12 => ∃ (h11 : Hp), ast_isNamed_j1 k x1 = some r ∧ E = [(0, .string x1)] ∧ Stp [] w0 h0 w12 h11 ∧ Hle h0 h11) ?_ ?_
 ·rintro E w12 ⟨h11, HF, rfl, S14, le13⟩
  refine Zb <| Z1 <| Wm rfl rfl <| Wv rfl (Z0d rfl rfl) <| Wa rfl rfl <| Z7 <| Z6 <| Z00 <| Zt rfl rfl ?_
  obtain rfl := Option.some.inj HF
  exact ⟨_, rfl, h11, S14, rfl⟩
 intro J15
 refine Zb <| Z1 <| Wm rfl rfl <| Z7 <| Z6 <| Z17 HF rfl (fun HF => ?_) (fun HF => ?_)
 ·refine Zb <| Z1 <| Wm rfl rfl ?_
  obtain ⟨r4, hr5, HF⟩ := Z8 HF
  refine Wc rfl (Ze (vs := [.string x1]) rfl t_ent_89) (Zf6 _ hr5 S0.sub) ?_
  rintro _ w7 ⟨h8, s9, rfl⟩
  have S10 := S0.trans0 s9
  refine Wa rfl rfl <| Z7 <| Z6 <| Z00 <| Zi <| Zt rfl rfl ?_
  obtain rfl := Option.some.inj HF
  exact ⟨_, rfl, h8, S10, rfl⟩
 refine Zm <| Z0g [0] _ rfl ?_
 exact J15 ⟨h0, HF, rfl, S0, Hle.refl _⟩
theorem Zgl (k : Nat) : C_ast_isNamed (Zbw k) := s_ast_isNamed k
def Z8i (φ : Int → Int → Ex → Int → Option (Bool × Int × Int)) : Prop := ∀ ⦃x3 : Int⦄ ⦃x4 : Int⦄ ⦃x6 : Ex⦄ ⦃x9 : Int⦄ ⦃r : Bool × Int × Int⦄, φ x3 x4 x6 x9 = some r → ∀ ⦃w0 : World⦄ ⦃h0 : Hp⦄ ⦃b1 : Nat⦄ ⦃T2 : Nat⦄ ⦃cs7 : List Value⦄, Sub h0 w0 → Rp.R h0 x6 cs7 → OB w0 h0 b1 T2 [.int .i64 x3, .int .i64 x4] →
  Calls Tryz.prog 80 #[.pointer (some ⟨b1, 0, none⟩), .agg cs7.toArray, .int .i64 x9] w0 fun e w1 => ∃ v, e = .returned v ∧ ∃ h1, Stp [b1] w0 h0 w1 h1 ∧ v = .bool r.1 ∧ (OB w1 h1 b1 T2 [.int .i64 r.2.1, .int .i64 r.2.2])
def Z5v (φ : Int → Int → (List Ex) → Int → Option (Bool × Int × Int)) : Prop := ∀ ⦃x3 : Int⦄ ⦃x4 : Int⦄ ⦃xs6 : List Ex⦄ ⦃x9 : Int⦄ ⦃r : Bool × Int × Int⦄, φ x3 x4 xs6 x9 = some r → ∀ ⦃w0 : World⦄ ⦃h0 : Hp⦄ ⦃b1 : Nat⦄ ⦃T2 : Nat⦄ ⦃v7 : Value⦄, Sub h0 w0 → RS h0 v7 xs6 → OB w0 h0 b1 T2 [.int .i64 x3, .int .i64 x4] →
  Calls Tryz.prog 134 #[.pointer (some ⟨b1, 0, none⟩), v7, .int .i64 x9] w0 fun e w1 => ∃ v, e = .returned v ∧ ∃ h1, Stp [b1] w0 h0 w1 h1 ∧ v = .bool r.1 ∧ (OB w1 h1 b1 T2 [.int .i64 r.2.1, .int .i64 r.2.2])
theorem s_ast_Counter_Expr (k : Nat) (IH : ∀ j, j ≤ k → Z8i (Z0r j).ast_Counter_Expr ∧ Z5v (Z0r j).ast_Counter_Exprs) : Z8i (Zfo k (Z0r k)) := by
 intro x3 x4 x6 x9 r HF w0 h0 b1 T2 cs7 hs0 r8 ob5
 have S0 : Stp [b1] w0 h0 w0 h0 := Stp.refl hs0 _
 have lt10 : b1 < w0.heap.size := OB.lt ob5
 refine Z4j (n := 82) Tryz.func80 rfl Tryz.ntmps80 rfl [(0, pt b1 0), (1, .agg cs7.toArray), (2, vi x9)] rfl <| Zb <| Z1 ?_
 obtain ⟨v11, rfl, rs12⟩ := Z7n.1 r8
 refine Zhq (cs := [vi x6.op, vi x6.kind, vi x6.n, .string x6.s, .string x6.f, v11]) rfl rfl rfl rfl S0.sub (fun w13 b14 hb15 s16 ob17 => ?_)
 have ne18 : b1 ≠ b14 := ob5.ne_new hb15
 have g19 : w0.heap.size ≤ b14 := by rw [hb15]; exact S0.size
 have S20 := S0.trans0 s16
 refine Wa rfl rfl <| Z7 <| Z6 <| Z09 (fun E w47 => ∃ (h46 : Hp) (x50 : Int) (x51 : Int), Zeu k (Z0r k) x6 x9 x50 x51 = some r ∧ E = [(0, pt b1 0), (2, vi x9), (4, pt b14 0)] ∧ Stp [b1] w0 h0 w47 h46 ∧ Hle h0 h46 ∧ OB w47 h46 b1 T2 [vi x50, vi x51] ∧ OB w47 h46 b14 47 [vi x6.op, vi x6.kind, vi x6.n, .string x6.s, .string x6.f, v11]) ?_ ?_
 ·rintro E w47 ⟨h46, x50, x51, HF, rfl, S49, le48, ob52, ob53⟩
  refine Zb <| Z1 <| Wa rfl rfl <| Wa rfl rfl <| Wa rfl rfl <| Z7 <| Z6 <| Z09 (fun E w96 => ∃ (h95 : Hp) (x99 : Bool) (x100 : Bool) (x101 : Int), Z34 k (Z0r k) x6 x9 x50 x51 x99 x100 x101 = some r ∧ E = [(0, pt b1 0), (2, vi x9), (4, pt b14 0), (7, .bool x99), (8, .bool x100), (9, vi x101)] ∧ Stp [b1] w0 h0 w96 h95 ∧ Hle h46 h95 ∧ OB w96 h95 b1 T2 [vi x50, vi x51] ∧ OB w96 h95 b14 47 [vi x6.op, vi x6.kind, vi x6.n, .string x6.s, .string x6.f, v11]) ?_ ?_
  ·rintro E w96 ⟨h95, x99, x100, x101, HF, rfl, S98, le97, ob102, ob103⟩
   refine Zb <| Z1 <| Wv rfl (Z2 rfl Zdd) <| Wv rfl (Zc rfl Z2r (OB.cell ob103 (j := 3) rfl)) <| Wm rfl rfl ?_
   obtain ⟨r104, hr105, HF⟩ := Z8 HF
   refine Wc rfl (Ze (vs := [.string x6.s, .bool x99]) rfl t_ent_129) (Zgl _ hr105 S98.sub) ?_
   rintro _ w107 ⟨h108, s109, rfl⟩
   have S110 := S98.trans0 s109
   refine Wm rfl rfl <| Z3g 61 HF rfl (fun HF => ?_) (fun HF => ?_)
   ·refine Wv rfl (Z2 rfl Zb9) ?_
    have ob112 := (ob103.step0 s109)
    refine Wv rfl (Zc rfl Z2r (OB.cell ob112 (j := 4) rfl)) <| Wm rfl rfl ?_
    obtain ⟨r113, hr114, HF⟩ := Z8 HF
    refine Wc rfl (Ze (vs := [.string x6.f, .bool x100]) rfl t_ent_129) (Zgl _ hr114 S110.sub) ?_
    rintro _ w116 ⟨h117, s118, rfl⟩
    have S119 := S110.trans0 s118
    refine Wv rfl (Zh rfl rfl) <| Wm rfl rfl <| Z3g 67 HF rfl (fun HF => ?_) (fun HF => ?_)
    ·refine Wv rfl (Z2 rfl Z4i) ?_
     have ob121 := (ob112.step0 s118)
     refine Wv rfl (Zc rfl Z2k (OB.cell ob121 (j := 5) rfl)) ?_
     obtain ⟨A122, c123, rfl, rs124⟩ := RS.form (rs12.mono ((s16.le).trans ((le48).trans ((le97).trans ((s109.le).trans s118.le)))))
     refine Wv rfl (Z1n rfl Z0y) <| Wm rfl rfl <| Wv rfl (Z4n rfl rfl) <| Wv rfl (Zh rfl rfl) <| Wm rfl rfl <| Z3g 74 HF rfl (fun HF => ?_) (fun HF => ?_)
     ·refine Wm rfl rfl <| Wv rfl (Z2 rfl Z4i) <| Wv rfl (Zc rfl Z2k (OB.cell ob121 (j := 5) rfl)) <| Wm rfl rfl <| Wv rfl (Z3n rfl rfl) ?_
      have ob126 := ((ob102.step0 s109).step0 s118)
      obtain ⟨r127, hr128, HF⟩ := Z8 HF
      refine Wc rfl (Ze (vs := [pt b1 0, .slice A122 (x6.args).length c123, vi (IntKind.i64.wrap (x9 + 1))]) rfl t_ent_134) ((IH _ (Nat.le_refl _)).2 hr128 S119.sub rs124 ob126) ?_
      rintro _ w130 ⟨h131, s132, rfl, ob133⟩
      have S134 := S119.trans s132 (Zn (.inl (by simp)) Z04)
      refine Wv rfl (Zh rfl rfl) <| Wa rfl rfl <| Z7 <| Z6 <| Z00 <| Zt rfl rfl ?_
      obtain rfl := Option.some.inj HF
      exact ⟨_, rfl, h131, S134, rfl, ob133⟩
     refine Wp rfl <| Wp rfl <| Wp rfl <| Wp rfl <| Wp rfl <| Wp rfl <| Wv rfl (Zg rfl rfl) <| Wa rfl rfl <| Z7 <| Z6 <| Z00 ?_
     have ob135 := ((ob102.step0 s109).step0 s118)
     refine Zt rfl rfl ?_
     obtain rfl := Option.some.inj HF
     exact ⟨_, rfl, h117, S119, rfl, ob135⟩
    refine Wp rfl <| Wp rfl <| Wp rfl <| Wp rfl <| Wp rfl <| Wv rfl (Zg rfl rfl) <| Wm rfl rfl <| Wp rfl <| Wp rfl <| Wp rfl <| Wp rfl <| Wp rfl <| Wp rfl <| Wv rfl (Zg rfl rfl) <| Wa rfl rfl <| Z7 <| Z6 <| Z00 ?_
    have ob136 := ((ob102.step0 s109).step0 s118)
    refine Zt rfl rfl ?_
    obtain rfl := Option.some.inj HF
    exact ⟨_, rfl, h117, S119, rfl, ob136⟩
   refine Wp rfl <| Wp rfl <| Wp rfl <| Wp rfl <| Wv rfl (Zg rfl rfl) <| Wm rfl rfl <| Wp rfl <| Wp rfl <| Wp rfl <| Wp rfl <| Wp rfl <| Wv rfl (Zg rfl rfl) <| Wm rfl rfl <| Wp rfl <| Wp rfl <| Wp rfl <| Wp rfl <| Wp rfl <| Wp rfl <| Wv rfl (Zg rfl rfl) <| Wa rfl rfl <| Z7 <| Z6 <| Z00 ?_
   have ob137 := (ob102.step0 s109)
   refine Zt rfl rfl ?_
   obtain rfl := Option.some.inj HF
   exact ⟨_, rfl, h108, S110, rfl, ob137⟩
  intro J138
  refine Zb <| Z1 <| Wv rfl (Z2 rfl Z64) <| Wv rfl (Zc rfl Z0f (OB.cell ob53 (j := 0) rfl)) <| Z7 <| Z6 <| Z0p <| Zb <| Z1 <| Wv rfl (Z4n rfl rfl) <| Wa rfl rfl <| Z7 <| Z6 <| Z17 HF rfl (fun HF => ?_) (fun HF => ?_)
  ·refine Zb <| Z1 <| Wa rfl rfl <| Z7 <| Z6 <| Zb <| Z1 <| Wv rfl (Z2 rfl Zbb) <| Wv rfl (Zc rfl Z0f (OB.cell ob53 (j := 1) rfl)) <| Wv rfl (Z2 rfl Zba) <| Wv rfl (Zc rfl Z0f (OB.cell ob53 (j := 2) rfl)) ?_
   obtain ⟨r55, hr56, HF⟩ := Z8 HF
   refine Wc rfl (Ze (vs := [vi x6.kind, vi x6.n]) rfl t_ent_139) (ok_ast_IsConst _ hr56 S49.sub) ?_
   rintro _ w58 ⟨h59, s60, rfl⟩
   have S61 := S49.trans0 s60
   refine Wv rfl (Z3c rfl) <| Z7 <| Z6 <| Z17 HF rfl (fun HF => ?_) (fun HF => ?_)
   ·refine Zb <| Z1 <| Wa rfl rfl <| Z7 <| Z6 <| Z00 <| Zy <| Zi ?_
    have ob63 := (ob52.step0 s60)
    refine Zt rfl rfl ?_
    obtain rfl := Option.some.inj HF
    exact ⟨_, rfl, h59, S61, rfl, ob63⟩
   refine Zm <| Z0a ?_
   have ob139 := (ob52.step0 s60)
   have ob140 := (ob53.step0 s60)
   refine Z0g [0, 2, 4, 7, 8, 9] _ rfl ?_
   exact J138 ⟨h59, false, false, 0, HF, rfl, S61, s60.le, ob139, ob140⟩
  refine Zb <| Z1 <| Wv rfl (Z4n rfl rfl) <| Wa rfl rfl <| Z7 <| Z6 <| Z17 HF rfl (fun HF => ?_) (fun HF => ?_)
  ·refine Z1 <| Wa rfl rfl <| Wa rfl rfl <| Z7 <| Z0a <| Z0g [0, 2, 4, 7, 8, 9] _ rfl ?_
   exact J138 ⟨h46, true, false, 0, HF, rfl, S49, Hle.refl _, ob52, ob53⟩
  refine Zb <| Z1 <| Wv rfl (Z4n rfl rfl) <| Wa rfl rfl <| Z7 <| Z6 <| Z17 HF rfl (fun HF => ?_) (fun HF => ?_)
  ·refine Z1 <| Wa rfl rfl <| Wa rfl rfl <| Wa rfl rfl <| Z7 <| Z0a <| Z0g [0, 2, 4, 7, 8, 9] _ rfl ?_
   exact J138 ⟨h46, true, true, 0, HF, rfl, S49, Hle.refl _, ob52, ob53⟩
  refine Zb <| Z1 <| Wv rfl (Z4n rfl rfl) <| Wa rfl rfl <| Z7 <| Z6 <| Z17 HF rfl (fun HF => ?_) (fun HF => ?_)
  ·refine Z1 <| Wa rfl rfl <| Wa rfl rfl <| Z7 <| Z0a <| Z0g [0, 2, 4, 7, 8, 9] _ rfl ?_
   exact J138 ⟨h46, true, false, 1, HF, rfl, S49, Hle.refl _, ob52, ob53⟩
  refine Zb <| Z1 <| Wv rfl (Z4n rfl rfl) <| Wa rfl rfl <| Z7 <| Z6 <| Z17 HF rfl (fun HF => ?_) (fun HF => ?_)
  ·obtain ⟨A68, c69, rfl, rs70⟩ := RS.form (rs12.mono ((s16.le).trans le48))
   refine Z2x (m := 4) [(0, pt b1 0), (2, vi x9), (4, pt b14 0), (8, .bool false), (9, vi 2)] [0, 2, 4, 8, 9] rfl (fun i v w h => match i with | 0 => v = pt b14 5 | 1 => v = .slice A68 (x6.args).length c69 | 2 => v = vi (x6.args.length : Int) | 3 => v = .bool true | _ => True) Z3f S49.sub rfl rfl rfl rfl rfl ?_ ?_ ?_
   ·intro i v w h w2 h2 hΦ hst
    match i, hΦ with
    | 0, hΦ | 1, hΦ | 2, hΦ | 3, hΦ => exact hΦ
    | i + 4, _ => exact trivial
   ·refine ⟨?_, ?_, ?_, ?_, trivial⟩
    ·intro a w71 h72 s73 hat hF
     exact Z3 hat rfl (Z2 rfl Z4i) s73.sub (by exact rfl)
    ·intro a w71 h72 s73 hat hF
     have ob74 := (ob53.step0 s73)
     exact Z3 (Z0 hat (hF 0 51 rfl rfl)) rfl (Zc rfl Z2k (OB.cell ob74 (j := 5) rfl)) s73.sub (by exact rfl)
    ·intro a w71 h72 s73 hat hF
     exact Z3 (Z0 hat (hF 1 52 rfl rfl)) rfl (Z1n rfl Z0y) s73.sub (by exact rfl)
    intro a w71 h72 s73 hat hF
    exact Z3 hat rfl (ov_assign rfl) s73.sub (by exact rfl)
   intro a w71 h72 s73 hat hF
   obtain hv0 := hF 0 51 (by decide) rfl
   obtain hv1 := hF 1 52 (by decide) rfl
   obtain hv2 := hF 2 53 (by decide) rfl
   obtain hv3 := hF 3 7 (by decide) rfl
   refine Z7z [(7, .bool true), (53, vi (x6.args.length : Int)), (52, .slice A68 (x6.args).length c69), (51, pt b14 5), (0, pt b1 0), (2, vi x9), (4, pt b14 0), (8, .bool false), (9, vi 2)] (Z0 (Z0 (Z0 (Z0 hat hv0) hv1) hv2) hv3) ?_
   have S75 := S49.trans0 s73
   refine Wa rfl rfl <| Z7 <| Z0a ?_
   have ob141 := (ob52.step0 s73)
   have ob142 := (ob53.step0 s73)
   refine Z0g [0, 2, 4, 7, 8, 9] _ rfl ?_
   exact J138 ⟨h72, true, false, (x6.args.length : Int), HF, rfl, S75, s73.le, ob141, ob142⟩
  refine Z09 (fun E w78 => ∃ (h77 : Hp) (x81 : Bool), Za9 k (Z0r k) x6 x9 x50 x51 x81 = some r ∧ E = [(0, pt b1 0), (2, vi x9), (4, pt b14 0), (7, .bool false), (8, .bool false), (9, vi 2), (54, .bool x81)] ∧ Stp [b1] w0 h0 w78 h77 ∧ Hle h46 h77 ∧ OB w78 h77 b1 T2 [vi x50, vi x51] ∧ OB w78 h77 b14 47 [vi x6.op, vi x6.kind, vi x6.n, .string x6.s, .string x6.f, v11]) ?_ ?_
  ·rintro E w78 ⟨h77, x81, HF, rfl, S80, le79, ob82, ob83⟩
   refine Z17 HF rfl (fun HF => ?_) (fun HF => ?_)
   ·refine Z1 <| Wa rfl rfl <| Z7 <| Z0a <| Z0g [0, 2, 4, 7, 8, 9] _ rfl ?_
    exact J138 ⟨h77, false, false, 1, HF, rfl, S80, le79, ob82, ob83⟩
   refine Zb <| Z1 <| Wv rfl (Z2 rfl Z64) <| Wv rfl (Zc rfl Z0f (OB.cell ob83 (j := 0) rfl)) ?_
   obtain ⟨r85, hr86, HF⟩ := Z8 HF
   refine Wc rfl (Ze (vs := [vi x6.op, vi 8, vi 21]) rfl t_ent_130) (Zbv _ hr86 S80.sub) ?_
   rintro _ w88 ⟨h89, s90, rfl⟩
   have S91 := S80.trans0 s90
   refine Wv rfl (Z3c rfl) <| Z7 <| Z6 <| Z17 HF rfl (fun HF => ?_) (fun HF => ?_)
   ·refine Zb <| Z1 <| Wa rfl rfl <| Z7 <| Z6 <| Z00 <| Zy <| Zi ?_
    have ob93 := (ob82.step0 s90)
    refine Zt rfl rfl ?_
    obtain rfl := Option.some.inj HF
    exact ⟨_, rfl, h89, S91, rfl, ob93⟩
   refine Zm <| Z0a ?_
   have ob143 := (ob82.step0 s90)
   have ob144 := (ob83.step0 s90)
   refine Z0g [0, 2, 4, 7, 8, 9] _ rfl ?_
   exact J138 ⟨h89, false, false, 2, HF, rfl, S91, (le79).trans s90.le, ob143, ob144⟩
  intro J94
  refine Zb <| Z1 <| Wv rfl (Z4n rfl rfl) <| Wa rfl rfl <| Z7 <| Z6 <| Z17 HF rfl (fun HF => ?_) (fun HF => ?_)
  ·refine Zm <| Z0g [0, 2, 4, 7, 8, 9, 54] _ rfl ?_
   exact J94 ⟨h46, (x6.op : Int) == 6, HF, rfl, S49, Hle.refl _, ob52, ob53⟩
  refine Z1 <| Wv rfl (Z4n rfl rfl) <| Wa rfl rfl <| Z7 <| Z0g [0, 2, 4, 7, 8, 9, 54] _ rfl ?_
  exact J94 ⟨h46, (x6.op : Int) == 7, HF, rfl, S49, Hle.refl _, ob52, ob53⟩
 intro J145
 refine Z09 (fun E w35 => ∃ (h34 : Hp) (x38 : Bool) (x39 : Int) (x40 : Int), Z5z k (Z0r k) x6 x9 x38 x39 x40 = some r ∧ E = [(0, pt b1 0), (2, vi x9), (4, pt b14 0), (28, .bool x38)] ∧ Stp [b1] w0 h0 w35 h34 ∧ Hle h0 h34 ∧ OB w35 h34 b1 T2 [vi x39, vi x40] ∧ OB w35 h34 b14 47 [vi x6.op, vi x6.kind, vi x6.n, .string x6.s, .string x6.f, v11]) ?_ ?_
 ·rintro E w35 ⟨h34, x38, x39, x40, HF, rfl, S37, le36, ob41, ob42⟩
  refine Z17 HF rfl (fun HF => ?_) (fun HF => ?_)
  ·refine Zb <| Z1 <| Wa rfl rfl <| Z7 <| Z6 <| Z00 <| Zi <| Zt rfl rfl ?_
   obtain rfl := Option.some.inj HF
   exact ⟨_, rfl, h34, S37, rfl, ob41⟩
  refine Zm <| Z0g [0, 2, 4] _ rfl ?_
  exact J145 ⟨h34, x39, x40, HF, rfl, S37, le36, ob41, ob42⟩
 intro J44
 refine Z1 <| Wm rfl rfl <| Wm rfl rfl ?_
 have ob21 := (ob5.step0 s16)
 obtain ⟨r22, hr23, HF⟩ := Z8 HF
 refine Wc rfl (Ze (vs := [pt b1 0, vi x9]) rfl t_ent_128) (Zb1 _ hr23 S20.sub ob21) ?_
 rintro _ w25 ⟨h26, s27, rfl, ob28⟩
 have S29 := S20.trans s27 (Zn (.inl (by simp)) Z04)
 refine Wv rfl (Z3c rfl) <| Wm rfl rfl <| Z3g 14 HF rfl (fun HF => ?_) (fun HF => ?_)
 ·refine Wp rfl <| Wp rfl <| Wp rfl <| Wp rfl <| Wp rfl <| Wp rfl <| Wp rfl <| Wp rfl <| Wp rfl <| Wp rfl <| Wp rfl <| Wp rfl <| Wp rfl <| Wv rfl (Zh rfl rfl) <| Z7 ?_
  have ob45 := (ob17.step1 s27 (Ne.symm ne18))
  refine Z0g [0, 2, 4, 28] _ rfl ?_
  exact J44 ⟨h26, true, r22.2.1, r22.2.2, HF, rfl, S29, s27.le, ob28, ob45⟩
 refine Wv rfl (Z2 rfl Z64) ?_
 have ob31 := (ob17.step1 s27 (Ne.symm ne18))
 refine Wv rfl (Zc rfl Z0f (OB.cell ob31 (j := 0) rfl)) <| Wv rfl (Z7e rfl rfl) <| Wm rfl rfl <| Z3g 18 HF rfl (fun HF => ?_) (fun HF => ?_)
 ·refine Wv rfl (Z2 rfl Zbb) <| Wv rfl (Zc rfl Z0f (OB.cell ob31 (j := 1) rfl)) <| Wv rfl (Z7e rfl rfl) <| Wm rfl rfl <| Z3g 22 HF rfl (fun HF => ?_) (fun HF => ?_)
  ·refine Wp rfl <| Wp rfl <| Wp rfl <| Wv rfl (Zh rfl rfl) <| Wv rfl (Zh rfl rfl) <| Wv rfl (Zg rfl rfl) <| Z7 <| Z0g [0, 2, 4, 28] _ rfl ?_
   exact J44 ⟨h26, true, r22.2.1, r22.2.2, HF, rfl, S29, s27.le, ob28, ob31⟩
  refine Wv rfl (Z2 rfl Zba) <| Wv rfl (Zc rfl Z0f (OB.cell ob31 (j := 2) rfl)) <| Wv rfl (Z7e rfl rfl) <| Wv rfl (Zg rfl rfl) <| Wv rfl (Zh rfl rfl) <| Wv rfl (Zg rfl rfl) <| Z7 <| Z0g [0, 2, 4, 28] _ rfl ?_
  exact J44 ⟨h26, (x6.n : Int) != 0, r22.2.1, r22.2.2, HF, rfl, S29, s27.le, ob28, ob31⟩
 refine Wp rfl <| Wp rfl <| Wp rfl <| Wp rfl <| Wp rfl <| Wp rfl <| Wp rfl <| Wp rfl <| Wv rfl (Zg rfl rfl) <| Wv rfl (Zg rfl rfl) <| Z7 <| Z0g [0, 2, 4, 28] _ rfl ?_
 exact J44 ⟨h26, false, r22.2.1, r22.2.2, HF, rfl, S29, s27.le, ob28, ob31⟩
theorem s_ast_Counter_Exprs (k : Nat) (IH : ∀ j, j ≤ k → Z8i (Z0r j).ast_Counter_Expr ∧ Z5v (Z0r j).ast_Counter_Exprs) : Z5v (Zet k (Z0r k)) := by
 intro x3 x4 xs6 x9 r HF w0 h0 b1 T2 v7 hs0 rs8 ob5
 have S0 : Stp [b1] w0 h0 w0 h0 := Stp.refl hs0 _
 have lt10 : b1 < w0.heap.size := OB.lt ob5
 refine Z4j (n := 21) Tryz.func134 rfl Tryz.ntmps134 rfl [(0, pt b1 0), (1, v7), (2, vi x9)] rfl <| Zb <| Z1 <| Wa rfl rfl <| Z7 <| Z6 <| Zb <| Zb <| Z1 <| Wm rfl rfl ?_
 obtain ⟨A11, c12, rfl, rs13⟩ := RS.form rs8
 refine Wv rfl (Z1n rfl Z0y) <| Wm rfl rfl <| Z7 <| Z6 <| Z0p <| Z4m <| Z7y [0, 2, 9, 10, 11] [(0, pt b1 0), (2, vi x9), (9, .slice A11 (xs6).length c12), (10, vi (xs6.length : Int)), (11, vi 0)] rfl <| Z4k (K := k) (fun j E w15 => ∃ (h14 : Hp) (x18 : Int) (x19 : Int) (x20 : Int), (Z0r j).ast_Counter_Exprs_l1 xs6 x9 x18 x19 x20 = some r ∧ E = [(0, pt b1 0), (2, vi x9), (9, .slice A11 (xs6).length c12), (10, vi (xs6.length : Int)), (11, vi x18)] ∧ Stp [b1] w0 h0 w15 h14 ∧ Hle h0 h14 ∧ OB w15 h14 b1 T2 [vi x19, vi x20]) ?_ ?_ (j := k) (Nat.le_refl _) ?_
 ·rintro E w15 ⟨_, _, _, _, HF, _⟩; cases HF
 ·rintro j22 hj24 IHL23 E w15 ⟨h14, x18, x19, x20, HF, rfl, S17, le16, ob21⟩
  refine Zb <| Z1 <| Wv rfl (Zbt rfl rfl) <| Z7 <| Z6 <| Z09 (fun E w27 => ∃ (h26 : Hp), Zdy j22 (Z0r j22) xs6 x9 x18 x19 x20 = some r ∧ E = [(0, pt b1 0), (2, vi x9), (9, .slice A11 (xs6).length c12), (10, vi (xs6.length : Int)), (11, vi x18)] ∧ Stp [b1] w0 h0 w27 h26 ∧ Hle h14 h26 ∧ OB w27 h26 b1 T2 [vi x19, vi x20]) ?_ ?_
  ·rintro E w27 ⟨h26, HF, rfl, S29, le28, ob30⟩
   refine Zb <| Z0p <| Zb <| Z1 ?_
   obtain ⟨e31, he32, HF⟩ := Z8 HF
   obtain ⟨b33, o34, rfl, h36, h37, ra35⟩ := RS.atO (rs13.mono ((le16).trans le28)) he32
   obtain ⟨cs38, r39, hc40⟩ := ra35
   refine Wv rfl (Z07 rfl rfl Z0y Zw h36 h37) <| Wv rfl (Z16 (cs := cs38) rfl Z2a (by rw [Rp.len r39]; exact Zw) (fun j v hv => S29.sub.at_ _ _ _ (hc40 j v hv))) <| Z15 (zs := [vi 0, vi 0, vi 0, .string b'47, .string b'47, .slice none 0 0]) rfl rfl Z1t rfl S29.sub (fun w41 b42 hb43 s44 ob45 => ?_)
   have ne46 : b1 ≠ b42 := ob30.ne_new hb43
   have g47 : w0.heap.size ≤ b42 := by rw [hb43]; exact S29.size
   have S48 := S29.trans0 s44
   obtain ⟨v49, rfl, rs50⟩ := Z7n.1 (Rp.mono (s44.le) r39)
   refine Zo (vs := [vi e31.op, vi e31.kind, vi e31.n, .string e31.s, .string e31.f, v49]) rfl rfl rfl rfl Zw (Z5 rfl (Z5 rfl (Z5 rfl (Z5 rfl (Z5 rfl (Z5 (RS.one rs50) Zx)))))) ob45 S48.sub (by simp) (ds := [vi e31.op, vi e31.kind, vi e31.n, .string e31.s, .string e31.f, v49]) rfl (fun w51 s52 ob53 => ?_)
   have S54 := S48.trans1 s52 (.inr g47)
   refine Z7 <| Z6 <| Zb <| Z1 <| Wm rfl rfl <| Wv rfl (Z16 (cs := [vi e31.op, vi e31.kind, vi e31.n, .string e31.s, .string e31.f, v49]) rfl Z2a Zw (OB.cells ob53 0 rfl)) <| Wm rfl rfl ?_
   have ob55 := ((ob30.step0 s44).step1 s52 ne46)
   obtain ⟨r56, hr57, HF⟩ := Z8 HF
   refine Wc rfl (Ze (vs := [pt b1 0, .agg #[vi e31.op, vi e31.kind, vi e31.n, .string e31.s, .string e31.f, v49], vi x9]) rfl t_ent_80) ((IH _ (Nat.le_trans (Nat.le_of_succ_le hj24) (Nat.le_refl _))).1 hr57 S54.sub (Z7n.2 ⟨_, rfl, (rs50.mono (s52.le))⟩) ob55) ?_
   rintro _ w59 ⟨h60, s61, rfl, ob62⟩
   have S63 := S54.trans s61 (Zn (.inl (by simp)) Z04)
   refine Wv rfl (Z3c rfl) <| Z7 <| Z6 <| Z17 HF rfl (fun HF => ?_) (fun HF => ?_)
   ·refine Zb <| Z1 <| Wa rfl rfl <| Z7 <| Z6 <| Z00 <| Zy <| Zi <| Zi <| Zy <| Zi <| Zt rfl rfl ?_
    obtain rfl := Option.some.inj HF
    exact ⟨_, rfl, h60, S63, rfl, ob62⟩
   refine Zm <| Z0a <| Z6 <| Z1 <| Wv rfl (Z3n rfl rfl) <| Wm rfl rfl <| Z7 <| Z2c <| Z7y [0, 2, 9, 10, 11] [(0, pt b1 0), (2, vi x9), (9, sl b33 o34 (xs6).length c12), (10, vi (xs6.length : Int)), (11, vi (IntKind.i64.wrap (x18 + 1)))] rfl ?_
   exact IHL23 j22 (Nat.le_refl _) _ _ ⟨h60, IntKind.i64.wrap (x18 + 1), r56.2.1, r56.2.2, HF, rfl, S63, (le16).trans ((le28).trans ((s44.le).trans ((s52.le).trans s61.le))), ob62⟩
  intro J65
  refine Z17 HF rfl (fun HF => ?_) (fun HF => ?_)
  ·refine Zm <| Z0g [0, 2, 9, 10, 11] _ rfl ?_
   exact J65 ⟨h14, HF, rfl, S17, Hle.refl _, ob21⟩
  refine Z4x <| Zz <| Zz <| Z1a <| Z6 <| Zb <| Z1 <| Wa rfl rfl <| Z7 <| Z6 <| Z00 <| Zt rfl rfl ?_
  obtain rfl := Option.some.inj HF
  exact ⟨_, rfl, h14, S17, rfl, ob21⟩
 exact ⟨h0, 0, x3, x4, HF, rfl, S0, Hle.refl _, ob5⟩
theorem all_ast_Counter_Expr : ∀ k j, j ≤ k → Z8i (Z0r j).ast_Counter_Expr ∧ Z5v (Z0r j).ast_Counter_Exprs := by
  intro k
  induction k with
  | zero =>
    intro j hj
    obtain rfl : j = 0 := by omega
    exact ⟨(fun _ _ _ _ _ => by intro h; cases h), (fun _ _ _ _ _ => by intro h; cases h)⟩
  | succ k ih =>
    intro j hj
    by_cases h : j ≤ k
    · exact ih j h
    · obtain rfl : j = k + 1 := by omega
      exact ⟨s_ast_Counter_Expr k ih, s_ast_Counter_Exprs k ih⟩
theorem Z9a (k : Nat) : Z5v (Z7w k) := (all_ast_Counter_Expr k k (Nat.le_refl _)).2
def C_ast_IsLabel (φ : Int → Option Bool) : Prop := ∀ ⦃x1 : Int⦄ ⦃r : Bool⦄, φ x1 = some r → ∀ ⦃w0 : World⦄ ⦃h0 : Hp⦄, Sub h0 w0 →
  Calls Tryz.prog 131 #[.int .i64 x1] w0 fun e w1 => ∃ v, e = .returned v ∧ ∃ h1, Stp [] w0 h0 w1 h1 ∧ v = .bool r
theorem s_ast_IsLabel (k : Nat) : C_ast_IsLabel (Zbi k) := by
 intro x1 r HF w0 h0  hs0 
 have S0 : Stp [] w0 h0 w0 h0 := Stp.refl hs0 _
 refine Z4j (n := 5) Tryz.func131 rfl Tryz.ntmps131 rfl [(0, vi x1)] rfl <| Zb <| Z1 <| Wa rfl rfl <| Z7 <| Z6 <| Zb <| Z1 <| Wm rfl rfl ?_
 obtain ⟨r2, hr3, HF⟩ := Z8 HF
 refine Wc rfl (Ze (vs := [vi x1, vi (-2147483647), vi 2147483647]) rfl t_ent_130) (Zbv _ hr3 S0.sub) ?_
 rintro _ w5 ⟨h6, s7, rfl⟩
 have S8 := S0.trans0 s7
 refine Wa rfl rfl <| Z7 <| Z6 <| Z00 <| Zt rfl rfl ?_
 obtain rfl := Option.some.inj HF
 exact ⟨_, rfl, h6, S8, rfl⟩
theorem Zga (k : Nat) : C_ast_IsLabel (Zbi k) := s_ast_IsLabel k
def Zej (φ : Int → Option Bool) : Prop := ∀ ⦃x1 : Int⦄ ⦃r : Bool⦄, φ x1 = some r → ∀ ⦃w0 : World⦄ ⦃h0 : Hp⦄, Sub h0 w0 →
  Calls Tryz.prog 172 #[.int .i64 x1] w0 fun e w1 => ∃ v, e = .returned v ∧ ∃ h1, Stp [] w0 h0 w1 h1 ∧ v = .bool r
theorem s_ast_Counter_arm_1 (k : Nat) : Zej (Zaa k) := by
 intro x1 r HF w0 h0  hs0 
 have S0 : Stp [] w0 h0 w0 h0 := Stp.refl hs0 _
 refine Z4j (n := 6) Tryz.func172 rfl Tryz.ntmps172 rfl [(0, vi x1)] rfl <| Zb <| Z1 <| Wa rfl rfl <| Z7 <| Z6 <| Zb <| Z1 <| Wm rfl rfl ?_
 obtain ⟨r2, hr3, HF⟩ := Z8 HF
 refine Wc rfl (Ze (vs := [vi x1]) rfl t_ent_131) (Zga _ hr3 S0.sub) ?_
 rintro _ w5 ⟨h6, s7, rfl⟩
 have S8 := S0.trans0 s7
 refine Wv rfl (Z3c rfl) <| Wa rfl rfl <| Z7 <| Z6 <| Z00 <| Zt rfl rfl ?_
 obtain rfl := Option.some.inj HF
 exact ⟨_, rfl, h6, S8, rfl⟩
theorem ok_ast_Counter_arm_1 (k : Nat) : Zej (Zaa k) := s_ast_Counter_arm_1 k
def Z46 (φ : (List Int) → Option Int) : Prop := ∀ ⦃xs1 : List Int⦄ ⦃r : Int⦄, φ xs1 = some r → ∀ ⦃w0 : World⦄ ⦃h0 : Hp⦄ ⦃v2 : Value⦄, Sub h0 w0 → RS h0 v2 xs1 →
  Calls Tryz.prog 190 #[v2, .func (.func 172) #[] #[]] w0 fun e w1 => ∃ v, e = .returned v ∧ ∃ h1, Stp [] w0 h0 w1 h1 ∧ v = .int .i64 r
theorem Zfc (k : Nat) (IH : ∀ j, j ≤ k → Z46 (Z1e j).slices_IndexFunc_int_int) : Z46 (Z90 k (Z1e k)) := by
 intro xs1 r HF w0 h0 v2 hs0 rs3
 have S0 : Stp [] w0 h0 w0 h0 := Stp.refl hs0 _
 refine Z4j (n := 19) Tryz.func190 rfl Tryz.ntmps190 rfl [(0, v2), (1, .func (.func 172) #[] #[])] rfl <| Zb <| Z1 <| Wa rfl rfl <| Z7 <| Z6 <| Zb <| Zb <| Z1 <| Wm rfl rfl ?_
 obtain ⟨A4, c5, rfl, rs6⟩ := RS.form rs3
 refine Wv rfl (Z1n rfl Z3h) <| Wm rfl rfl <| Z7 <| Z6 <| Z0p <| Z4m <| Z7y [0, 1, 7, 8] [(0, .slice A4 (xs1).length c5), (1, .func (.func 172) #[] #[]), (7, vi (xs1.length : Int)), (8, vi 0)] rfl <| Z4k (K := k) (fun j E w8 => ∃ (h7 : Hp) (x11 : Int), (Z1e j).slices_IndexFunc_int_int_l1 xs1 x11 = some r ∧ E = [(0, .slice A4 (xs1).length c5), (1, .func (.func 172) #[] #[]), (7, vi (xs1.length : Int)), (8, vi x11)] ∧ Stp [] w0 h0 w8 h7 ∧ Hle h0 h7) ?_ ?_ (j := k) (Nat.le_refl _) ?_
 ·rintro E w8 ⟨_, _, HF, _⟩; cases HF
 ·rintro j12 hj14 IHL13 E w8 ⟨h7, x11, HF, rfl, S10, le9⟩
  refine Zb <| Z1 <| Wv rfl (Zbt rfl rfl) <| Z7 <| Z6 <| Z09 (fun E w17 => ∃ (h16 : Hp), Z8n j12 (Z1e j12) xs1 x11 = some r ∧ E = [(0, .slice A4 (xs1).length c5), (1, .func (.func 172) #[] #[]), (7, vi (xs1.length : Int)), (8, vi x11)] ∧ Stp [] w0 h0 w17 h16 ∧ Hle h7 h16) ?_ ?_
  ·rintro E w17 ⟨h16, HF, rfl, S19, le18⟩
   refine Zb <| Z0p <| Zb <| Z1 <| Wm rfl rfl <| Wa rfl rfl <| Z7 <| Z6 <| Zb <| Z1 <| Wm rfl rfl <| Wm rfl rfl <| Wm rfl rfl ?_
   obtain ⟨e20, he21, HF⟩ := Z8 HF
   obtain ⟨b22, o23, rfl, h25, h26, ra24⟩ := RS.atO (rs6.mono ((le9).trans le18)) he21
   obtain ⟨cs27, r28, hc29⟩ := ra24
   obtain rfl := (show cs27 = _ from r28)
   refine Wv rfl (Z07 rfl rfl Z3h Z1p h25 h26) <| Wv rfl (Zc rfl Z0f (S19.sub.at_ _ _ _ (hc29 0 _ rfl))) ?_
   obtain ⟨r30, hr31, HF⟩ := Z8 HF
   refine Wc rfl (oc_val (vs := [vi e20]) (caps := []) rfl rfl t_ent_172) (ok_ast_Counter_arm_1 _ hr31 S19.sub) ?_
   rintro _ w33 ⟨h34, s35, rfl⟩
   have S36 := S19.trans0 s35
   refine Z7 <| Z6 <| Z17 HF rfl (fun HF => ?_) (fun HF => ?_)
   ·refine Zb <| Z1 <| Wm rfl rfl <| Wa rfl rfl <| Z7 <| Z6 <| Z00 <| Zy <| Zi <| Zi <| Zy <| Zi <| Zt rfl rfl ?_
    obtain rfl := Option.some.inj HF
    exact ⟨_, rfl, h34, S36, rfl⟩
   refine Zm <| Z0a <| Z6 <| Z1 <| Wv rfl (Z3n rfl rfl) <| Wm rfl rfl <| Z7 <| Z2c <| Z7y [0, 1, 7, 8] [(0, sl b22 o23 (xs1).length c5), (1, .func (.func 172) #[] #[]), (7, vi (xs1.length : Int)), (8, vi (IntKind.i64.wrap (x11 + 1)))] rfl ?_
   exact IHL13 j12 (Nat.le_refl _) _ _ ⟨h34, IntKind.i64.wrap (x11 + 1), HF, rfl, S36, (le9).trans ((le18).trans s35.le)⟩
  intro J38
  refine Z17 HF rfl (fun HF => ?_) (fun HF => ?_)
  ·refine Zm <| Z0g [0, 1, 7, 8] _ rfl ?_
   exact J38 ⟨h7, HF, rfl, S10, Hle.refl _⟩
  refine Z4x <| Zz <| Zz <| Z1a <| Z6 <| Zb <| Z1 <| Wa rfl rfl <| Z7 <| Z6 <| Z00 <| Zt rfl rfl ?_
  obtain rfl := Option.some.inj HF
  exact ⟨_, rfl, h7, S10, rfl⟩
 exact ⟨h0, 0, HF, rfl, S0, Hle.refl _⟩
theorem Zdr : ∀ k j, j ≤ k → Z46 (Z1e j).slices_IndexFunc_int_int := by
  intro k
  induction k with
  | zero =>
    intro j hj
    obtain rfl : j = 0 := by omega
    exact (fun _ _ => by intro h; cases h)
  | succ k ih =>
    intro j hj
    by_cases h : j ≤ k
    · exact ih j h
    · obtain rfl : j = k + 1 := by omega
      exact Zfc k ih
theorem Ze6 (k : Nat) : Z46 (Z96 k) := (Zdr k k (Nat.le_refl _))
def Z7r (φ : (List Int) → Option Bool) : Prop := ∀ ⦃xs1 : List Int⦄ ⦃r : Bool⦄, φ xs1 = some r → ∀ ⦃w0 : World⦄ ⦃h0 : Hp⦄ ⦃v2 : Value⦄, Sub h0 w0 → RS h0 v2 xs1 →
  Calls Tryz.prog 171 #[v2, .func (.func 172) #[] #[]] w0 fun e w1 => ∃ v, e = .returned v ∧ ∃ h1, Stp [] w0 h0 w1 h1 ∧ v = .bool r
theorem Zd0 (k : Nat) : Z7r (Z4t k) := by
 intro xs1 r HF w0 h0 v2 hs0 rs3
 have S0 : Stp [] w0 h0 w0 h0 := Stp.refl hs0 _
 refine Z4j (n := 9) Tryz.func171 rfl Tryz.ntmps171 rfl [(0, v2), (1, .func (.func 172) #[] #[])] rfl <| Zb <| Z1 <| Wa rfl rfl <| Z7 <| Z6 <| Zb <| Z1 <| Wm rfl rfl <| Wm rfl rfl ?_
 obtain ⟨r4, hr5, HF⟩ := Z8 HF
 refine Wc rfl (Ze (vs := [v2, .func (.func 172) #[] #[]]) rfl t_ent_190) (Ze6 _ hr5 S0.sub rs3) ?_
 rintro _ w7 ⟨h8, s9, rfl⟩
 have S10 := S0.trans0 s9
 refine Wv rfl (ov_geq rfl rfl) <| Wa rfl rfl <| Z7 <| Z6 <| Z00 <| Zt rfl rfl ?_
 obtain rfl := Option.some.inj HF
 exact ⟨_, rfl, h8, S10, rfl⟩
theorem Zc2 (k : Nat) : Z7r (Z4t k) := Zd0 k
def C_ast_AreNames_1 (φ : ByteArray → Option Bool) : Prop := ∀ ⦃x1 : ByteArray⦄ ⦃r : Bool⦄, φ x1 = some r → ∀ ⦃w0 : World⦄ ⦃h0 : Hp⦄, Sub h0 w0 →
  Calls Tryz.prog 170 #[.string x1] w0 fun e w1 => ∃ v, e = .returned v ∧ ∃ h1, Stp [] w0 h0 w1 h1 ∧ v = .bool r
theorem s_ast_AreNames_1 (k : Nat) : C_ast_AreNames_1 (Zd4 k) := by
 intro x1 r HF w0 h0  hs0 
 have S0 : Stp [] w0 h0 w0 h0 := Stp.refl hs0 _
 refine Z4j (n := 6) Tryz.func170 rfl Tryz.ntmps170 rfl [(0, .string x1)] rfl <| Zb <| Z1 <| Wa rfl rfl <| Z7 <| Z6 <| Zb <| Z1 <| Wm rfl rfl ?_
 obtain ⟨r2, hr3, HF⟩ := Z8 HF
 refine Wc rfl (Ze (vs := [.string x1]) rfl t_ent_89) (Zf6 _ hr3 S0.sub) ?_
 rintro _ w5 ⟨h6, s7, rfl⟩
 have S8 := S0.trans0 s7
 refine Wv rfl (Z3c rfl) <| Wa rfl rfl <| Z7 <| Z6 <| Z00 <| Zt rfl rfl ?_
 obtain rfl := Option.some.inj HF
 exact ⟨_, rfl, h6, S8, rfl⟩
theorem ok_ast_AreNames_1 (k : Nat) : C_ast_AreNames_1 (Zd4 k) := s_ast_AreNames_1 k
def Z31 (φ : (List ByteArray) → Option Int) : Prop := ∀ ⦃xs1 : List ByteArray⦄ ⦃r : Int⦄, φ xs1 = some r → ∀ ⦃w0 : World⦄ ⦃h0 : Hp⦄ ⦃v2 : Value⦄, Sub h0 w0 → RS h0 v2 xs1 →
  Calls Tryz.prog 189 #[v2, .func (.func 170) #[] #[]] w0 fun e w1 => ∃ v, e = .returned v ∧ ∃ h1, Stp [] w0 h0 w1 h1 ∧ v = .int .i64 r
theorem Zb8 (k : Nat) (IH : ∀ j, j ≤ k → Z31 (Z0w j).slices_IndexFunc_string_string) : Z31 (Z6j k (Z0w k)) := by
 intro xs1 r HF w0 h0 v2 hs0 rs3
 have S0 : Stp [] w0 h0 w0 h0 := Stp.refl hs0 _
 refine Z4j (n := 19) Tryz.func189 rfl Tryz.ntmps189 rfl [(0, v2), (1, .func (.func 170) #[] #[])] rfl <| Zb <| Z1 <| Wa rfl rfl <| Z7 <| Z6 <| Zb <| Zb <| Z1 <| Wm rfl rfl ?_
 obtain ⟨A4, c5, rfl, rs6⟩ := RS.form rs3
 refine Wv rfl (Z1n rfl Z3u) <| Wm rfl rfl <| Z7 <| Z6 <| Z0p <| Z4m <| Z7y [0, 1, 7, 8] [(0, .slice A4 (xs1).length c5), (1, .func (.func 170) #[] #[]), (7, vi (xs1.length : Int)), (8, vi 0)] rfl <| Z4k (K := k) (fun j E w8 => ∃ (h7 : Hp) (x11 : Int), (Z0w j).slices_IndexFunc_string_string_l1 xs1 x11 = some r ∧ E = [(0, .slice A4 (xs1).length c5), (1, .func (.func 170) #[] #[]), (7, vi (xs1.length : Int)), (8, vi x11)] ∧ Stp [] w0 h0 w8 h7 ∧ Hle h0 h7) ?_ ?_ (j := k) (Nat.le_refl _) ?_
 ·rintro E w8 ⟨_, _, HF, _⟩; cases HF
 ·rintro j12 hj14 IHL13 E w8 ⟨h7, x11, HF, rfl, S10, le9⟩
  refine Zb <| Z1 <| Wv rfl (Zbt rfl rfl) <| Z7 <| Z6 <| Z09 (fun E w17 => ∃ (h16 : Hp), Z69 j12 (Z0w j12) xs1 x11 = some r ∧ E = [(0, .slice A4 (xs1).length c5), (1, .func (.func 170) #[] #[]), (7, vi (xs1.length : Int)), (8, vi x11)] ∧ Stp [] w0 h0 w17 h16 ∧ Hle h7 h16) ?_ ?_
  ·rintro E w17 ⟨h16, HF, rfl, S19, le18⟩
   refine Zb <| Z0p <| Zb <| Z1 <| Wm rfl rfl <| Wa rfl rfl <| Z7 <| Z6 <| Zb <| Z1 <| Wm rfl rfl <| Wm rfl rfl <| Wm rfl rfl ?_
   obtain ⟨e20, he21, HF⟩ := Z8 HF
   obtain ⟨b22, o23, rfl, h25, h26, ra24⟩ := RS.atO (rs6.mono ((le9).trans le18)) he21
   obtain ⟨cs27, r28, hc29⟩ := ra24
   obtain rfl := (show cs27 = _ from r28)
   refine Wv rfl (Z07 rfl rfl Z3u t_size_9 h25 h26) <| Wv rfl (Zc rfl Z2r (S19.sub.at_ _ _ _ (hc29 0 _ rfl))) ?_
   obtain ⟨r30, hr31, HF⟩ := Z8 HF
   refine Wc rfl (oc_val (vs := [.string e20]) (caps := []) rfl rfl t_ent_170) (ok_ast_AreNames_1 _ hr31 S19.sub) ?_
   rintro _ w33 ⟨h34, s35, rfl⟩
   have S36 := S19.trans0 s35
   refine Z7 <| Z6 <| Z17 HF rfl (fun HF => ?_) (fun HF => ?_)
   ·refine Zb <| Z1 <| Wm rfl rfl <| Wa rfl rfl <| Z7 <| Z6 <| Z00 <| Zy <| Zi <| Zi <| Zy <| Zi <| Zt rfl rfl ?_
    obtain rfl := Option.some.inj HF
    exact ⟨_, rfl, h34, S36, rfl⟩
   refine Zm <| Z0a <| Z6 <| Z1 <| Wv rfl (Z3n rfl rfl) <| Wm rfl rfl <| Z7 <| Z2c <| Z7y [0, 1, 7, 8] [(0, sl b22 o23 (xs1).length c5), (1, .func (.func 170) #[] #[]), (7, vi (xs1.length : Int)), (8, vi (IntKind.i64.wrap (x11 + 1)))] rfl ?_
   exact IHL13 j12 (Nat.le_refl _) _ _ ⟨h34, IntKind.i64.wrap (x11 + 1), HF, rfl, S36, (le9).trans ((le18).trans s35.le)⟩
  intro J38
  refine Z17 HF rfl (fun HF => ?_) (fun HF => ?_)
  ·refine Zm <| Z0g [0, 1, 7, 8] _ rfl ?_
   exact J38 ⟨h7, HF, rfl, S10, Hle.refl _⟩
  refine Z4x <| Zz <| Zz <| Z1a <| Z6 <| Zb <| Z1 <| Wa rfl rfl <| Z7 <| Z6 <| Z00 <| Zt rfl rfl ?_
  obtain rfl := Option.some.inj HF
  exact ⟨_, rfl, h7, S10, rfl⟩
 exact ⟨h0, 0, HF, rfl, S0, Hle.refl _⟩
theorem Zag : ∀ k j, j ≤ k → Z31 (Z0w j).slices_IndexFunc_string_string := by
  intro k
  induction k with
  | zero =>
    intro j hj
    obtain rfl : j = 0 := by omega
    exact (fun _ _ => by intro h; cases h)
  | succ k ih =>
    intro j hj
    by_cases h : j ≤ k
    · exact ih j h
    · obtain rfl : j = k + 1 := by omega
      exact Zb8 k ih
theorem Zam (k : Nat) : Z31 (Z6o k) := (Zag k k (Nat.le_refl _))
def Z5m (φ : (List ByteArray) → Option Bool) : Prop := ∀ ⦃xs1 : List ByteArray⦄ ⦃r : Bool⦄, φ xs1 = some r → ∀ ⦃w0 : World⦄ ⦃h0 : Hp⦄ ⦃v2 : Value⦄, Sub h0 w0 → RS h0 v2 xs1 →
  Calls Tryz.prog 169 #[v2, .func (.func 170) #[] #[]] w0 fun e w1 => ∃ v, e = .returned v ∧ ∃ h1, Stp [] w0 h0 w1 h1 ∧ v = .bool r
theorem Z9t (k : Nat) : Z5m (Z3d k) := by
 intro xs1 r HF w0 h0 v2 hs0 rs3
 have S0 : Stp [] w0 h0 w0 h0 := Stp.refl hs0 _
 refine Z4j (n := 9) Tryz.func169 rfl Tryz.ntmps169 rfl [(0, v2), (1, .func (.func 170) #[] #[])] rfl <| Zb <| Z1 <| Wa rfl rfl <| Z7 <| Z6 <| Zb <| Z1 <| Wm rfl rfl <| Wm rfl rfl ?_
 obtain ⟨r4, hr5, HF⟩ := Z8 HF
 refine Wc rfl (Ze (vs := [v2, .func (.func 170) #[] #[]]) rfl t_ent_189) (Zam _ hr5 S0.sub rs3) ?_
 rintro _ w7 ⟨h8, s9, rfl⟩
 have S10 := S0.trans0 s9
 refine Wv rfl (ov_geq rfl rfl) <| Wa rfl rfl <| Z7 <| Z6 <| Z00 <| Zt rfl rfl ?_
 obtain rfl := Option.some.inj HF
 exact ⟨_, rfl, h8, S10, rfl⟩
theorem Z9i (k : Nat) : Z5m (Z3d k) := Z9t k
def C_ast_AreNames (φ : (List ByteArray) → Option Bool) : Prop := ∀ ⦃xs1 : List ByteArray⦄ ⦃r : Bool⦄, φ xs1 = some r → ∀ ⦃w0 : World⦄ ⦃h0 : Hp⦄ ⦃v2 : Value⦄, Sub h0 w0 → RS h0 v2 xs1 →
  Calls Tryz.prog 132 #[v2] w0 fun e w1 => ∃ v, e = .returned v ∧ ∃ h1, Stp [] w0 h0 w1 h1 ∧ v = .bool r
theorem s_ast_AreNames (k : Nat) : C_ast_AreNames (Zgp k) := by
 intro xs1 r HF w0 h0 v2 hs0 rs3
 have S0 : Stp [] w0 h0 w0 h0 := Stp.refl hs0 _
 refine Z4j (n := 6) Tryz.func132 rfl Tryz.ntmps132 rfl [(0, v2)] rfl <| Zb <| Z1 <| Wa rfl rfl <| Z7 <| Z6 <| Zb <| Z1 <| Wm rfl rfl ?_
 obtain ⟨r4, hr5, HF⟩ := Z8 HF
 refine Wc rfl (Ze (vs := [v2, .func (.func 170) #[] #[]]) rfl t_ent_169) (Z9i _ hr5 S0.sub rs3) ?_
 rintro _ w7 ⟨h8, s9, rfl⟩
 have S10 := S0.trans0 s9
 refine Wv rfl (Z3c rfl) <| Wa rfl rfl <| Z7 <| Z6 <| Z00 <| Zt rfl rfl ?_
 obtain rfl := Option.some.inj HF
 exact ⟨_, rfl, h8, S10, rfl⟩
theorem ok_ast_AreNames (k : Nat) : C_ast_AreNames (Zgp k) := s_ast_AreNames k
end Go.Proofs.YtkodnhngllfemaaGreatDoor
