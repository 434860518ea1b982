import Derived.Test.YtkodnhngllfemaaGreatDoorE0
import Derived.Test.YtkodnhngllfemaaGreatDoorGP1
set_option linter.unusedVariables false
set_option linter.unusedSimpArgs false
set_option maxRecDepth 20000
set_option maxHeartbeats 4000000
namespace Go.Proofs.YtkodnhngllfemaaGreatDoor
open Go
def Z2e (φ : (List Tok) → Int → Option (Except (Int × Int × Int) (List St × Int))) : Prop := ∀ ⦃xs3 : List Tok⦄ ⦃x6 : Int⦄ ⦃r : Except (Int × Int × Int) (List St × Int)⦄, φ xs3 x6 = some r → ∀ ⦃w0 : World⦄ ⦃h0 : Hp⦄ ⦃b1 : Nat⦄ ⦃T2 : Nat⦄ ⦃v4 : Value⦄, Sub h0 w0 → RS h0 v4 xs3 → OB w0 h0 b1 T2 [v4, .int .i64 x6] →
  Calls Tryz.prog 33 #[.pointer (some ⟨b1, 0, none⟩)] w0 fun e w1 => match r with | .ok r => ∃ v, e = .returned v ∧ ∃ h1, Stp [b1] w0 h0 w1 h1 ∧ RS h1 v r.1 ∧ (OB w1 h1 b1 T2 [v4, .int .i64 r.2]) | .error t => ∃ ch, e = .panicked ch ∧ Z8z 138 t.1 t.2.1 ch ∧ ∃ h1, Stp [b1] w0 h0 w1 h1 ∧ (OB w1 h1 b1 T2 [v4, .int .i64 t.2.2])
def Z2g (φ : (List Tok) → Int → Option (Except (Int × Int × Int) (St × Int))) : Prop := ∀ ⦃xs3 : List Tok⦄ ⦃x6 : Int⦄ ⦃r : Except (Int × Int × Int) (St × Int)⦄, φ xs3 x6 = some r → ∀ ⦃w0 : World⦄ ⦃h0 : Hp⦄ ⦃b1 : Nat⦄ ⦃T2 : Nat⦄ ⦃v4 : Value⦄, Sub h0 w0 → RS h0 v4 xs3 → OB w0 h0 b1 T2 [v4, .int .i64 x6] →
  Calls Tryz.prog 102 #[.pointer (some ⟨b1, 0, none⟩)] w0 fun e w1 => match r with | .ok r => ∃ v, e = .returned v ∧ ∃ h1, Stp [b1] w0 h0 w1 h1 ∧ (∃ cs : List Value, v = .agg cs.toArray ∧ Rp.R h1 r.1 cs) ∧ (OB w1 h1 b1 T2 [v4, .int .i64 r.2]) | .error t => ∃ ch, e = .panicked ch ∧ Z8z 138 t.1 t.2.1 ch ∧ ∃ h1, Stp [b1] w0 h0 w1 h1 ∧ (OB w1 h1 b1 T2 [v4, .int .i64 t.2.2])
def Z2i (φ : (List Tok) → Int → Int → ByteArray → (List Ex) → (List ByteArray) → (List Ex) → Int → (List St) → (List Ar) → (List St) → Bool → Option (Except (Int × Int × Int × List St × Bool) (Int × List St × Bool))) : Prop := ∀ ⦃xs3 : List Tok⦄ ⦃x6 : Int⦄ ⦃x10 : Int⦄ ⦃x11 : ByteArray⦄ ⦃xs12 : List Ex⦄ ⦃xs15 : List ByteArray⦄ ⦃xs18 : List Ex⦄ ⦃x21 : Int⦄ ⦃xs22 : List St⦄ ⦃xs25 : List Ar⦄ ⦃xs28 : List St⦄ ⦃x31 : Bool⦄ ⦃r : Except (Int × Int × Int × List St × Bool) (Int × List St × Bool)⦄, φ xs3 x6 x10 x11 xs12 xs15 xs18 x21 xs22 xs25 xs28 x31 = some r → ∀ ⦃w0 : World⦄ ⦃h0 : Hp⦄ ⦃b1 : Nat⦄ ⦃T2 : Nat⦄ ⦃v4 : Value⦄ ⦃b8 : Nat⦄ ⦃T9 : Nat⦄ ⦃v13 : Value⦄ ⦃v16 : Value⦄ ⦃v19 : Value⦄ ⦃v23 : Value⦄ ⦃v26 : Value⦄ ⦃v29 : Value⦄, Sub h0 w0 → RS h0 v4 xs3 → RS h0 v13 xs12 → RS h0 v16 xs15 → RS h0 v19 xs18 → RS h0 v23 xs22 → RS h0 v26 xs25 → RS h0 v29 xs28 → OB w0 h0 b1 T2 [v4, .int .i64 x6] → OB w0 h0 b8 T9 [.int .i64 x10, .string x11, v13, v16, v19, .int .i64 x21, v23, v26, v29, .bool x31] → b1 ≠ b8 →
  Calls Tryz.prog 156 #[.pointer (some ⟨b1, 0, none⟩), .pointer (some ⟨b8, 0, none⟩)] w0 fun e w1 => match r with | .ok r => ∃ v, e = .returned v ∧ ∃ h1, Stp [b1, b8] w0 h0 w1 h1 ∧ v = .tuple #[] ∧ (OB w1 h1 b1 T2 [v4, .int .i64 r.1]) ∧ (∃ y0 : Value, RS h1 y0 r.2.1 ∧ OB w1 h1 b8 T9 [.int .i64 x10, .string x11, v13, v16, v19, .int .i64 x21, v23, v26, y0, .bool r.2.2]) | .error t => ∃ ch, e = .panicked ch ∧ Z8z 138 t.1 t.2.1 ch ∧ ∃ h1, Stp [b1, b8] w0 h0 w1 h1 ∧ (OB w1 h1 b1 T2 [v4, .int .i64 t.2.2.1]) ∧ (∃ y0 : Value, RS h1 y0 t.2.2.2.1 ∧ OB w1 h1 b8 T9 [.int .i64 x10, .string x11, v13, v16, v19, .int .i64 x21, v23, v26, y0, .bool t.2.2.2.2])
def Z2k (φ : (List Tok) → Int → Option (Except (Int × Int × Int) (St × Int))) : Prop := ∀ ⦃xs3 : List Tok⦄ ⦃x6 : Int⦄ ⦃r : Except (Int × Int × Int) (St × Int)⦄, φ xs3 x6 = some r → ∀ ⦃w0 : World⦄ ⦃h0 : Hp⦄ ⦃b1 : Nat⦄ ⦃T2 : Nat⦄ ⦃v4 : Value⦄, Sub h0 w0 → RS h0 v4 xs3 → OB w0 h0 b1 T2 [v4, .int .i64 x6] →
  Calls Tryz.prog 103 #[.pointer (some ⟨b1, 0, none⟩)] w0 fun e w1 => match r with | .ok r => ∃ v, e = .returned v ∧ ∃ h1, Stp [b1] w0 h0 w1 h1 ∧ (∃ cs : List Value, v = .agg cs.toArray ∧ Rp.R h1 r.1 cs) ∧ (OB w1 h1 b1 T2 [v4, .int .i64 r.2]) | .error t => ∃ ch, e = .panicked ch ∧ Z8z 138 t.1 t.2.1 ch ∧ ∃ h1, Stp [b1] w0 h0 w1 h1 ∧ (OB w1 h1 b1 T2 [v4, .int .i64 t.2.2])
def Z28 (φ : (List Tok) → Int → Option (Except (Int × Int × Int) (St × Int))) : Prop := ∀ ⦃xs3 : List Tok⦄ ⦃x6 : Int⦄ ⦃r : Except (Int × Int × Int) (St × Int)⦄, φ xs3 x6 = some r → ∀ ⦃w0 : World⦄ ⦃h0 : Hp⦄ ⦃b1 : Nat⦄ ⦃T2 : Nat⦄ ⦃v4 : Value⦄, Sub h0 w0 → RS h0 v4 xs3 → OB w0 h0 b1 T2 [v4, .int .i64 x6] →
  Calls Tryz.prog 100 #[.pointer (some ⟨b1, 0, none⟩)] w0 fun e w1 => match r with | .ok r => ∃ v, e = .returned v ∧ ∃ h1, Stp [b1] w0 h0 w1 h1 ∧ (∃ cs : List Value, v = .agg cs.toArray ∧ Rp.R h1 r.1 cs) ∧ (OB w1 h1 b1 T2 [v4, .int .i64 r.2]) | .error t => ∃ ch, e = .panicked ch ∧ Z8z 138 t.1 t.2.1 ch ∧ ∃ h1, Stp [b1] w0 h0 w1 h1 ∧ (OB w1 h1 b1 T2 [v4, .int .i64 t.2.2])
def Z2a (φ : (List Tok) → Int → Option (Except (Int × Int × Int) (St × Int))) : Prop := ∀ ⦃xs3 : List Tok⦄ ⦃x6 : Int⦄ ⦃r : Except (Int × Int × Int) (St × Int)⦄, φ xs3 x6 = some r → ∀ ⦃w0 : World⦄ ⦃h0 : Hp⦄ ⦃b1 : Nat⦄ ⦃T2 : Nat⦄ ⦃v4 : Value⦄, Sub h0 w0 → RS h0 v4 xs3 → OB w0 h0 b1 T2 [v4, .int .i64 x6] →
  Calls Tryz.prog 101 #[.pointer (some ⟨b1, 0, none⟩)] w0 fun e w1 => match r with | .ok r => ∃ v, e = .returned v ∧ ∃ h1, Stp [b1] w0 h0 w1 h1 ∧ (∃ cs : List Value, v = .agg cs.toArray ∧ Rp.R h1 r.1 cs) ∧ (OB w1 h1 b1 T2 [v4, .int .i64 r.2]) | .error t => ∃ ch, e = .panicked ch ∧ Z8z 138 t.1 t.2.1 ch ∧ ∃ h1, Stp [b1] w0 h0 w1 h1 ∧ (OB w1 h1 b1 T2 [v4, .int .i64 t.2.2])
def Z29 (φ : (List Tok) → Int → Option (Except (Int × Int × Int) (St × Int))) : Prop := ∀ ⦃xs3 : List Tok⦄ ⦃x6 : Int⦄ ⦃r : Except (Int × Int × Int) (St × Int)⦄, φ xs3 x6 = some r → ∀ ⦃w0 : World⦄ ⦃h0 : Hp⦄ ⦃b1 : Nat⦄ ⦃T2 : Nat⦄ ⦃v4 : Value⦄, Sub h0 w0 → RS h0 v4 xs3 → OB w0 h0 b1 T2 [v4, .int .i64 x6] →
  Calls Tryz.prog 104 #[.pointer (some ⟨b1, 0, none⟩)] w0 fun e w1 => match r with | .ok r => ∃ v, e = .returned v ∧ ∃ h1, Stp [b1] w0 h0 w1 h1 ∧ (∃ cs : List Value, v = .agg cs.toArray ∧ Rp.R h1 r.1 cs) ∧ (OB w1 h1 b1 T2 [v4, .int .i64 r.2]) | .error t => ∃ ch, e = .panicked ch ∧ Z8z 138 t.1 t.2.1 ch ∧ ∃ h1, Stp [b1] w0 h0 w1 h1 ∧ (OB w1 h1 b1 T2 [v4, .int .i64 t.2.2])
theorem s_parse_Parser_Text (k : Nat) (IH : ∀ j, j ≤ k → Z2e (Z8 j).parse_Parser_Text ∧ Z2g (Z8 j).parse_Parser_count ∧ Z2i (Z8 j).parse_Parser_other ∧ Z2k (Z8 j).parse_Parser_while ∧ Z28 (Z8 j).parse_Parser_branch ∧ Z2a (Z8 j).parse_Parser_choice ∧ Z29 (Z8 j).parse_Parser_repeat) : Z2e (Zez k (Z8 k)) := by
 intro xs3 x6 r HF w0 h0 b1 T2 v4 hs0 rs5 ob7
 have S0 : Stp [b1] w0 h0 w0 h0 := Stp.refl hs0 _
 have lt8 : b1 < w0.heap.size := OB.lt ob7
 refine Z4o (n := 30) Tryz.func33 rfl Tryz.ntmps33 rfl [(0, pt b1 0)] rfl <| Zc <| Z0 <| Wa rfl rfl <| Z6 <| Z4 <| Zc <| Z0 <| Wa rfl rfl <| Z6 <| Z4 <| Zc <| Z0 <| Wm rfl rfl ?_
 obtain ⟨r9, hr10, HF⟩ := Z5 HF
 refine Wc rfl (Zd (vs := [pt b1 0]) rfl t_ent_56) (ok_parse_Parser_starts _ hr10 S0.sub rs5 ob7) ?_
 rintro v15 w12 ⟨h13, s14, rm16⟩
 have S17 := S0.trans0 s14
 refine Wa rfl rfl <| Z6 <| Z4 <| Zc <| Z0r <| Z5v <| Z99 [0, 3, 4] [(0, pt b1 0), (3, .slice none 0 0), (4, v15)] rfl <| Z5u (K := k) (fun j E w19 => ∃ (h18 : Hp) (xs22 : List St) (v23 : Value) (x26 : Int), (Z8 j).parse_Parser_Text_l1 xs3 r9 xs22 x26 = some r ∧ E = [(0, pt b1 0), (3, v23), (4, v15)] ∧ Stp [b1] w0 h0 w19 h18 ∧ Hle h13 h18 ∧ RS h18 v23 xs22 ∧ Own w19 h18 w0.heap.size 56 10 v23 xs22.length ∧ OB w19 h18 b1 T2 [v4, vi x26]) ?_ ?_ (j := k) (Nat.le_refl _) ?_
 ·rintro E w19 ⟨_, _, _, _, HF, _⟩; cases HF
 ·rintro j28 hj30 IHL29 E w19 ⟨h18, xs22, v23, x26, HF, rfl, S21, le20, rs24, ow25, ob27⟩
  refine Z09 (fun E w62 => ∃ (h61 : Hp) (xs65 : List St) (v66 : Value), Zdm j28 (Z8 j28) xs3 r9 x26 xs65 = some r ∧ E = [(0, pt b1 0), (3, v66), (4, v15)] ∧ Stp [b1] w0 h0 w62 h61 ∧ Hle h18 h61 ∧ RS h61 v66 xs65 ∧ Own w62 h61 w0.heap.size 56 10 v66 xs65.length ∧ OB w62 h61 b1 T2 [v4, vi x26]) ?_ ?_
  ·rintro E w62 ⟨h61, xs65, v66, HF, rfl, S64, le63, rs67, ow68, ob69⟩
   refine Z0r <| Zc <| Z0 <| Z19 (zs := [vi 0, .string Z1e, .slice none 0 0, .slice none 0 0, .slice none 0 0, vi 0, .slice none 0 0, .slice none 0 0, .slice none 0 0, .bool false]) rfl rfl Z38 rfl S64.sub (fun w70 b71 hb72 s73 ob74 => ?_)
   have ne75 : b1 ≠ b71 := ob69.ne_new hb72
   have g76 : w0.heap.size ≤ b71 := by rw [hb72]; exact S64.size
   have S77 := S64.trans0 s73
   refine Z6 <| Z4 <| Z09 (fun E w398 => ∃ (h397 : Hp) (xs401 : List St) (v402 : Value) (x405 : Int) (x407 : Int) (x408 : ByteArray) (xs409 : List Ex) (v410 : Value) (xs412 : List ByteArray) (v413 : Value) (xs415 : List Ex) (v416 : Value) (x418 : Int) (xs419 : List St) (v420 : Value) (xs422 : List Ar) (v423 : Value) (xs425 : List St) (v426 : Value) (x428 : Bool), Z2j j28 (Z8 j28) xs3 r9 xs401 x405 x407 x408 xs409 xs412 xs415 x418 xs419 xs422 xs425 x428 = some r ∧ E = [(0, pt b1 0), (3, v402), (4, v15), (5, pt b71 0)] ∧ Stp [b1] w0 h0 w398 h397 ∧ Hle h61 h397 ∧ RS h397 v402 xs401 ∧ Own w398 h397 w0.heap.size 56 10 v402 xs401.length ∧ RS h397 v410 xs409 ∧ RS h397 v413 xs412 ∧ RS h397 v416 xs415 ∧ RS h397 v420 xs419 ∧ RS h397 v423 xs422 ∧ RS h397 v426 xs425 ∧ OB w398 h397 b1 T2 [v4, vi x405] ∧ OB w398 h397 b71 56 [vi x407, .string x408, v410, v413, v416, vi x418, v420, v423, v426, .bool x428]) ?_ ?_
   ·rintro E w398 ⟨h397, xs401, v402, x405, x407, x408, xs409, v410, xs412, v413, xs415, v416, x418, xs419, v420, xs422, v423, xs425, v426, x428, HF, rfl, S400, le399, rs403, ow404, rs411, rs414, rs417, rs421, rs424, rs427, ob406, ob429⟩
    refine Zc <| Z0 <| Wm rfl rfl ?_
    obtain ⟨r430, hr431, HF⟩ := Z5 HF
    rcases r430 with t432 | r433
    ·obtain rfl := Z02 HF
     refine Z0h rfl (Zd (vs := [pt b1 0, .string b'89]) rfl Z20) (Zn _ hr431 S400.sub (rs5.mono ((s14.le).trans ((le20).trans ((le63).trans ((s73.le).trans le399))))) ob406) ?_
     rintro ch439 w440 ⟨ht441, h442, s443, ob438⟩
     refine Ze <| Zu <| Ze <| Zu <| Ze <| Zs ?_
     have S444 := S400.trans s443 (Zl (.inl (by simp)) Zt)
     exact ⟨_, rfl, ht441, h442, S444, ob438⟩
    replace HF := Z0i HF
    refine Wc rfl (Zd (vs := [pt b1 0, .string b'89]) rfl Z20) (Zn _ hr431 S400.sub (rs5.mono ((s14.le).trans ((le20).trans ((le63).trans ((s73.le).trans le399))))) ob406) ?_
    rintro v434 w435 ⟨h436, s437, rfl, ob445⟩
    have S446 := S400.trans s437 (Zl (.inl (by simp)) Zt)
    refine Z6 <| Z4 <| Z0 <| Wm rfl rfl ?_
    have ob447 := (ob429.step1 s437 (Ne.symm ne75))
    refine Wv rfl (Z2t (cs := [vi x407, .string x408, v410, v413, v416, vi x418, v420, v423, v426, .bool x428]) rfl Z6y Z0u (OB.cells ob447 0 rfl)) <| Z10 (us := [.agg #[vi x407, .string x408, v410, v413, v416, vi x418, v420, v423, v426, .bool x428]]) (cs := [vi x407, .string x408, v410, v413, v416, vi x418, v420, v423, v426, .bool x428]) rfl rfl rfl Z24 Z0u Z38 rfl (Z0c rfl Zci) rfl rfl rfl S446.sub (fun w448 h449 b450 hb451 s452 hk453 hc454 => ?_)
    have S455 := S446.trans0 s452
    have rs456 : RS h449 (sl b450 0 1 1) ([(St.mk x407 x408 xs409 xs412 xs415 x418 xs419 xs422 xs425 x428)] : List St) := RS.litL _ [[vi x407, .string x408, v410, v413, v416, vi x418, v420, v423, v426, .bool x428]] rfl rfl hc454 ⟨(rp_St.2 ⟨_, _, _, _, _, _, rfl, (rs411.mono ((s437.le).trans s452.le)), (rs414.mono ((s437.le).trans s452.le)), (rs417.mono ((s437.le).trans s452.le)), (rs421.mono ((s437.le).trans s452.le)), (rs424.mono ((s437.le).trans s452.le)), (rs427.mono ((s437.le).trans s452.le))⟩), trivial⟩
    have ow457 := Own.lit (base := w0.heap.size) (sz := 10) (m := 1) hk453 hc454 (by rw [hb451]; exact S446.size) rfl (by decide)
    obtain ⟨hl458, HF⟩ := Ze7 HF
    have ob466 := (ob445.step0 s452)
    have ob467 := (ob447.step0 s452)
    refine Zeu (xs := (xs401 : List St)) (ys := [(St.mk x407 x408 xs409 xs412 xs415 x418 xs419 xs422 xs425 x428)]) rfl rfl rfl rfl Z24 Z0u Z38 rfl t_bytes_56 rfl ((ow404.step s437 (Z2 (ow404.ne_old lt8) Z9)).step0 s452) (rs403.mono ((s437.le).trans s452.le)) rs456 hl458 S455.sub S455.size (by rw [S455.eqb]; exact hs0.big) (fun v459 w460 h461 rs462 ow463 s464 at465 => ?_)
    have S468 := S455.trans s464 (fun i hi => .inr (((ow404.step s437 (Z2 (ow404.ne_old lt8) Z9)).step0 s452).base_le i hi))
    refine Wa rfl rfl <| Z6 <| Zy ?_
    have ob479 := (ob466.step s464 (fun hm => absurd (((ow404.step s437 (Z2 (ow404.ne_old lt8) Z9)).step0 s452).base_le _ hm) (Nat.not_le.2 lt8)))
    refine Z2p <| Z99 [0, 3, 4] [(0, pt b1 0), (3, v459), (4, v15)] rfl ?_
    exact IHL29 j28 (Nat.le_refl _) _ _ ⟨h461, xs401 ++ [(St.mk x407 x408 xs409 xs412 xs415 x418 xs419 xs422 xs425 x428)], v459, r433, HF, rfl, S468, (le20).trans ((le63).trans ((s73.le).trans ((le399).trans ((s437.le).trans ((s452.le).trans s464.le))))), rs462, ow463, ob479⟩
   intro J469
   refine Zc <| Z0 <| Wm rfl rfl ?_
   have ob78 := (ob69.step0 s73)
   obtain ⟨r79, hr80, HF⟩ := Z5 HF
   refine Wc rfl (Zd (vs := [pt b1 0]) rfl t_ent_57) (Zcc _ hr80 S77.sub (rs5.mono ((s14.le).trans ((le20).trans ((le63).trans s73.le)))) ob78) ?_
   rintro _ w82 ⟨h83, s84, rfl⟩
   have S85 := S77.trans0 s84
   refine Z6 <| Z4 <| Z15 HF rfl (fun HF => ?_) (fun HF => ?_)
   ·refine Z0 <| Wm rfl rfl ?_
    have ob87 := (ob78.step0 s84)
    obtain ⟨r88, hr89, HF⟩ := Z5 HF
    rcases r88 with t90 | r91
    ·obtain rfl := Z02 HF
     have ob96 := (ob74.step0 s84)
     refine Z0h rfl (Zd (vs := [pt b1 0]) rfl t_ent_59) (Zcf _ hr89 S85.sub (rs5.mono ((s14.le).trans ((le20).trans ((le63).trans ((s73.le).trans s84.le))))) ob87) ?_
     rintro ch98 w99 ⟨ht100, h101, s102, ob97⟩
     refine Ze <| Zu <| Ze <| Zu <| Ze <| Zs ?_
     have S103 := S85.trans s102 (Zl (.inl (by simp)) Zt)
     exact ⟨_, rfl, ht100, h101, S103, ob97⟩
    replace HF := Z0i HF
    refine Wc rfl (Zd (vs := [pt b1 0]) rfl t_ent_59) (Zcf _ hr89 S85.sub (rs5.mono ((s14.le).trans ((le20).trans ((le63).trans ((s73.le).trans s84.le))))) ob87) ?_
    have ob106 := (ob74.step0 s84)
    rintro _ w93 ⟨h94, s95, ⟨cs104, rfl, r105⟩, ob107⟩
    have S108 := S85.trans s95 (Zl (.inl (by simp)) Zt)
    have ob109 := (ob106.step1 s95 (Ne.symm ne75))
    obtain ⟨v110, v112, v114, v116, v118, v120, rfl, rs111, rs113, rs115, rs117, rs119, rs121⟩ := rp_St.1 r105
    refine Zr (vs := [vi r91.1.op, .string r91.1.name, v110, v112, v114, vi r91.1.n, v116, v118, v120, .bool r91.1.els]) rfl rfl rfl rfl Z0u (Z3 rfl (Z3 rfl (Z3 (RS.one rs111) (Z3 (RS.one rs113) (Z3 (RS.one rs115) (Z3 rfl (Z3 (RS.one rs117) (Z3 (RS.one rs119) (Z3 (RS.one rs121) (Z3 rfl Zx)))))))))) ob109 S108.sub (by simp) (ds := [vi r91.1.op, .string r91.1.name, v110, v112, v114, vi r91.1.n, v116, v118, v120, .bool r91.1.els]) rfl (fun w122 s123 ob124 => ?_)
    have S125 := S108.trans1 s123 (.inr g76)
    refine Z6 ?_
    have ob470 := (ob107.step1 s123 ne75)
    refine Z01 [0, 3, 4, 5] _ rfl ?_
    exact J469 ⟨h94, xs65, v66, r91.2, r91.1.op, r91.1.name, r91.1.index, v110, r91.1.fields, v112, r91.1.args, v114, r91.1.n, r91.1.body, v116, r91.1.arms, v118, r91.1.other, v120, r91.1.els, HF, rfl, S125, (s84.le).trans ((s95.le).trans s123.le), (rs67.mono ((s73.le).trans ((s84.le).trans ((s95.le).trans s123.le)))), ((((ow68.step0 s73).step0 s84).step s95 (Z2 (((ow68.step0 s73).step0 s84).ne_old lt8) Z9)).step s123 (Z2 ((((ow68.step0 s73).step0 s84).step s95 (Z2 (((ow68.step0 s73).step0 s84).ne_old lt8) Z9)).ne_obS1 (rs67.mono ((s73.le).trans ((s84.le).trans s95.le))) ob109) Z9)), (rs111.mono (s123.le)), (rs113.mono (s123.le)), (rs115.mono (s123.le)), (rs117.mono (s123.le)), (rs119.mono (s123.le)), (rs121.mono (s123.le)), ob470, ob124⟩
   refine Z0 <| Wm rfl rfl <| Wm rfl rfl ?_
   have ob126 := (ob78.step0 s84)
   obtain ⟨r127, hr128, HF⟩ := Z5 HF
   rcases r127 with t129 | r130
   ·obtain rfl := Z02 HF
    have ob135 := (ob74.step0 s84)
    refine Z0h rfl (Zd (vs := [pt b1 0, v15]) rfl t_ent_60) (Z8y _ hr128 S85.sub (rs5.mono ((s14.le).trans ((le20).trans ((le63).trans ((s73.le).trans s84.le))))) (rm16.mono ((le20).trans ((le63).trans ((s73.le).trans s84.le)))) ob126) ?_
    rintro ch137 w138 ⟨ht139, h140, s141, ob136⟩
    refine Ze <| Zu <| Ze <| Zu <| Ze <| Zs ?_
    have S142 := S85.trans s141 (Zl (.inl (by simp)) Zt)
    exact ⟨_, rfl, ht139, h140, S142, ob136⟩
   replace HF := Z0i HF
   refine Wc rfl (Zd (vs := [pt b1 0, v15]) rfl t_ent_60) (Z8y _ hr128 S85.sub (rs5.mono ((s14.le).trans ((le20).trans ((le63).trans ((s73.le).trans s84.le))))) (rm16.mono ((le20).trans ((le63).trans ((s73.le).trans s84.le)))) ob126) ?_
   have ob143 := (ob74.step0 s84)
   rintro _ w132 ⟨h133, s134, rfl, ob144⟩
   have S145 := S85.trans s134 (Zl (.inl (by simp)) Zt)
   refine Zc0 (b := (r130.1 : Int) == 1) (fun hb146 => ?_) (fun hb146 => ?_)
   ·replace HF := bif_t hb146 HF
    refine WL.know 21 (v' := .func (.func 100) #[pt b1 0] #[]) rfl (by rw [eq_of_beq hb146]; rfl) ?_
    obtain ⟨r147, hr148, HF⟩ := Z5 HF
    rcases r147 with t149 | r150
    ·obtain rfl := Z02 HF
     have ob155 := (ob143.step1 s134 (Ne.symm ne75))
     refine Z0h rfl (Z9y (us := [pt b1 0]) (vs := []) (caps := []) rfl rfl t_ent_100) ((IH _ (Nat.le_trans (Nat.le_of_succ_le hj30) (Nat.le_refl _))).2.2.2.2.1 hr148 S145.sub (rs5.mono ((s14.le).trans ((le20).trans ((le63).trans ((s73.le).trans ((s84.le).trans s134.le)))))) ob144) ?_
     rintro ch157 w158 ⟨ht159, h160, s161, ob156⟩
     refine Ze <| Zu <| Ze <| Zu <| Ze <| Zs ?_
     have S162 := S145.trans s161 (Zl (.inl (by simp)) Zt)
     exact ⟨_, rfl, ht159, h160, S162, ob156⟩
    replace HF := Z0i HF
    refine Wc rfl (Z9y (us := [pt b1 0]) (vs := []) (caps := []) rfl rfl t_ent_100) ((IH _ (Nat.le_trans (Nat.le_of_succ_le hj30) (Nat.le_refl _))).2.2.2.2.1 hr148 S145.sub (rs5.mono ((s14.le).trans ((le20).trans ((le63).trans ((s73.le).trans ((s84.le).trans s134.le)))))) ob144) ?_
    have ob165 := (ob143.step1 s134 (Ne.symm ne75))
    rintro _ w152 ⟨h153, s154, ⟨cs163, rfl, r164⟩, ob166⟩
    have S167 := S145.trans s154 (Zl (.inl (by simp)) Zt)
    have ob168 := (ob165.step1 s154 (Ne.symm ne75))
    obtain ⟨v169, v171, v173, v175, v177, v179, rfl, rs170, rs172, rs174, rs176, rs178, rs180⟩ := rp_St.1 r164
    refine Zr (vs := [vi r150.1.op, .string r150.1.name, v169, v171, v173, vi r150.1.n, v175, v177, v179, .bool r150.1.els]) rfl rfl rfl rfl Z0u (Z3 rfl (Z3 rfl (Z3 (RS.one rs170) (Z3 (RS.one rs172) (Z3 (RS.one rs174) (Z3 rfl (Z3 (RS.one rs176) (Z3 (RS.one rs178) (Z3 (RS.one rs180) (Z3 rfl Zx)))))))))) ob168 S167.sub (by simp) (ds := [vi r150.1.op, .string r150.1.name, v169, v171, v173, vi r150.1.n, v175, v177, v179, .bool r150.1.els]) rfl (fun w181 s182 ob183 => ?_)
    have S184 := S167.trans1 s182 (.inr g76)
    refine Z6 ?_
    have ob471 := (ob166.step1 s182 ne75)
    refine Z01 [0, 3, 4, 5] _ rfl ?_
    exact J469 ⟨h153, xs65, v66, r150.2, r150.1.op, r150.1.name, r150.1.index, v169, r150.1.fields, v171, r150.1.args, v173, r150.1.n, r150.1.body, v175, r150.1.arms, v177, r150.1.other, v179, r150.1.els, HF, rfl, S184, (s84.le).trans ((s134.le).trans ((s154.le).trans s182.le)), (rs67.mono ((s73.le).trans ((s84.le).trans ((s134.le).trans ((s154.le).trans s182.le))))), (((((ow68.step0 s73).step0 s84).step s134 (Z2 (((ow68.step0 s73).step0 s84).ne_old lt8) Z9)).step s154 (Z2 ((((ow68.step0 s73).step0 s84).step s134 (Z2 (((ow68.step0 s73).step0 s84).ne_old lt8) Z9)).ne_old lt8) Z9)).step s182 (Z2 (((((ow68.step0 s73).step0 s84).step s134 (Z2 (((ow68.step0 s73).step0 s84).ne_old lt8) Z9)).step s154 (Z2 ((((ow68.step0 s73).step0 s84).step s134 (Z2 (((ow68.step0 s73).step0 s84).ne_old lt8) Z9)).ne_old lt8) Z9)).ne_obS1 (rs67.mono ((s73.le).trans ((s84.le).trans ((s134.le).trans s154.le)))) ob168) Z9)), (rs170.mono (s182.le)), (rs172.mono (s182.le)), (rs174.mono (s182.le)), (rs176.mono (s182.le)), (rs178.mono (s182.le)), (rs180.mono (s182.le)), ob471, ob183⟩
   replace HF := bif_f hb146 HF
   refine Zc0 (b := (r130.1 : Int) == 2) (fun hb185 => ?_) (fun hb185 => ?_)
   ·replace HF := bif_t hb185 HF
    refine WL.know 21 (v' := .func (.func 101) #[pt b1 0] #[]) rfl (by rw [eq_of_beq hb185]; rfl) ?_
    obtain ⟨r186, hr187, HF⟩ := Z5 HF
    rcases r186 with t188 | r189
    ·obtain rfl := Z02 HF
     have ob194 := (ob143.step1 s134 (Ne.symm ne75))
     refine Z0h rfl (Z9y (us := [pt b1 0]) (vs := []) (caps := []) rfl rfl t_ent_101) ((IH _ (Nat.le_trans (Nat.le_of_succ_le hj30) (Nat.le_refl _))).2.2.2.2.2.1 hr187 S145.sub (rs5.mono ((s14.le).trans ((le20).trans ((le63).trans ((s73.le).trans ((s84.le).trans s134.le)))))) ob144) ?_
     rintro ch196 w197 ⟨ht198, h199, s200, ob195⟩
     refine Ze <| Zu <| Ze <| Zu <| Ze <| Zs ?_
     have S201 := S145.trans s200 (Zl (.inl (by simp)) Zt)
     exact ⟨_, rfl, ht198, h199, S201, ob195⟩
    replace HF := Z0i HF
    refine Wc rfl (Z9y (us := [pt b1 0]) (vs := []) (caps := []) rfl rfl t_ent_101) ((IH _ (Nat.le_trans (Nat.le_of_succ_le hj30) (Nat.le_refl _))).2.2.2.2.2.1 hr187 S145.sub (rs5.mono ((s14.le).trans ((le20).trans ((le63).trans ((s73.le).trans ((s84.le).trans s134.le)))))) ob144) ?_
    have ob204 := (ob143.step1 s134 (Ne.symm ne75))
    rintro _ w191 ⟨h192, s193, ⟨cs202, rfl, r203⟩, ob205⟩
    have S206 := S145.trans s193 (Zl (.inl (by simp)) Zt)
    have ob207 := (ob204.step1 s193 (Ne.symm ne75))
    obtain ⟨v208, v210, v212, v214, v216, v218, rfl, rs209, rs211, rs213, rs215, rs217, rs219⟩ := rp_St.1 r203
    refine Zr (vs := [vi r189.1.op, .string r189.1.name, v208, v210, v212, vi r189.1.n, v214, v216, v218, .bool r189.1.els]) rfl rfl rfl rfl Z0u (Z3 rfl (Z3 rfl (Z3 (RS.one rs209) (Z3 (RS.one rs211) (Z3 (RS.one rs213) (Z3 rfl (Z3 (RS.one rs215) (Z3 (RS.one rs217) (Z3 (RS.one rs219) (Z3 rfl Zx)))))))))) ob207 S206.sub (by simp) (ds := [vi r189.1.op, .string r189.1.name, v208, v210, v212, vi r189.1.n, v214, v216, v218, .bool r189.1.els]) rfl (fun w220 s221 ob222 => ?_)
    have S223 := S206.trans1 s221 (.inr g76)
    refine Z6 ?_
    have ob472 := (ob205.step1 s221 ne75)
    refine Z01 [0, 3, 4, 5] _ rfl ?_
    exact J469 ⟨h192, xs65, v66, r189.2, r189.1.op, r189.1.name, r189.1.index, v208, r189.1.fields, v210, r189.1.args, v212, r189.1.n, r189.1.body, v214, r189.1.arms, v216, r189.1.other, v218, r189.1.els, HF, rfl, S223, (s84.le).trans ((s134.le).trans ((s193.le).trans s221.le)), (rs67.mono ((s73.le).trans ((s84.le).trans ((s134.le).trans ((s193.le).trans s221.le))))), (((((ow68.step0 s73).step0 s84).step s134 (Z2 (((ow68.step0 s73).step0 s84).ne_old lt8) Z9)).step s193 (Z2 ((((ow68.step0 s73).step0 s84).step s134 (Z2 (((ow68.step0 s73).step0 s84).ne_old lt8) Z9)).ne_old lt8) Z9)).step s221 (Z2 (((((ow68.step0 s73).step0 s84).step s134 (Z2 (((ow68.step0 s73).step0 s84).ne_old lt8) Z9)).step s193 (Z2 ((((ow68.step0 s73).step0 s84).step s134 (Z2 (((ow68.step0 s73).step0 s84).ne_old lt8) Z9)).ne_old lt8) Z9)).ne_obS1 (rs67.mono ((s73.le).trans ((s84.le).trans ((s134.le).trans s193.le)))) ob207) Z9)), (rs209.mono (s221.le)), (rs211.mono (s221.le)), (rs213.mono (s221.le)), (rs215.mono (s221.le)), (rs217.mono (s221.le)), (rs219.mono (s221.le)), ob472, ob222⟩
   replace HF := bif_f hb185 HF
   refine Zc0 (b := (r130.1 : Int) == 3) (fun hb224 => ?_) (fun hb224 => ?_)
   ·replace HF := bif_t hb224 HF
    refine WL.know 21 (v' := .func (.func 102) #[pt b1 0] #[]) rfl (by rw [eq_of_beq hb224]; rfl) ?_
    obtain ⟨r225, hr226, HF⟩ := Z5 HF
    rcases r225 with t227 | r228
    ·obtain rfl := Z02 HF
     have ob233 := (ob143.step1 s134 (Ne.symm ne75))
     refine Z0h rfl (Z9y (us := [pt b1 0]) (vs := []) (caps := []) rfl rfl t_ent_102) ((IH _ (Nat.le_trans (Nat.le_of_succ_le hj30) (Nat.le_refl _))).2.1 hr226 S145.sub (rs5.mono ((s14.le).trans ((le20).trans ((le63).trans ((s73.le).trans ((s84.le).trans s134.le)))))) ob144) ?_
     rintro ch235 w236 ⟨ht237, h238, s239, ob234⟩
     refine Ze <| Zu <| Ze <| Zu <| Ze <| Zs ?_
     have S240 := S145.trans s239 (Zl (.inl (by simp)) Zt)
     exact ⟨_, rfl, ht237, h238, S240, ob234⟩
    replace HF := Z0i HF
    refine Wc rfl (Z9y (us := [pt b1 0]) (vs := []) (caps := []) rfl rfl t_ent_102) ((IH _ (Nat.le_trans (Nat.le_of_succ_le hj30) (Nat.le_refl _))).2.1 hr226 S145.sub (rs5.mono ((s14.le).trans ((le20).trans ((le63).trans ((s73.le).trans ((s84.le).trans s134.le)))))) ob144) ?_
    have ob243 := (ob143.step1 s134 (Ne.symm ne75))
    rintro _ w230 ⟨h231, s232, ⟨cs241, rfl, r242⟩, ob244⟩
    have S245 := S145.trans s232 (Zl (.inl (by simp)) Zt)
    have ob246 := (ob243.step1 s232 (Ne.symm ne75))
    obtain ⟨v247, v249, v251, v253, v255, v257, rfl, rs248, rs250, rs252, rs254, rs256, rs258⟩ := rp_St.1 r242
    refine Zr (vs := [vi r228.1.op, .string r228.1.name, v247, v249, v251, vi r228.1.n, v253, v255, v257, .bool r228.1.els]) rfl rfl rfl rfl Z0u (Z3 rfl (Z3 rfl (Z3 (RS.one rs248) (Z3 (RS.one rs250) (Z3 (RS.one rs252) (Z3 rfl (Z3 (RS.one rs254) (Z3 (RS.one rs256) (Z3 (RS.one rs258) (Z3 rfl Zx)))))))))) ob246 S245.sub (by simp) (ds := [vi r228.1.op, .string r228.1.name, v247, v249, v251, vi r228.1.n, v253, v255, v257, .bool r228.1.els]) rfl (fun w259 s260 ob261 => ?_)
    have S262 := S245.trans1 s260 (.inr g76)
    refine Z6 ?_
    have ob473 := (ob244.step1 s260 ne75)
    refine Z01 [0, 3, 4, 5] _ rfl ?_
    exact J469 ⟨h231, xs65, v66, r228.2, r228.1.op, r228.1.name, r228.1.index, v247, r228.1.fields, v249, r228.1.args, v251, r228.1.n, r228.1.body, v253, r228.1.arms, v255, r228.1.other, v257, r228.1.els, HF, rfl, S262, (s84.le).trans ((s134.le).trans ((s232.le).trans s260.le)), (rs67.mono ((s73.le).trans ((s84.le).trans ((s134.le).trans ((s232.le).trans s260.le))))), (((((ow68.step0 s73).step0 s84).step s134 (Z2 (((ow68.step0 s73).step0 s84).ne_old lt8) Z9)).step s232 (Z2 ((((ow68.step0 s73).step0 s84).step s134 (Z2 (((ow68.step0 s73).step0 s84).ne_old lt8) Z9)).ne_old lt8) Z9)).step s260 (Z2 (((((ow68.step0 s73).step0 s84).step s134 (Z2 (((ow68.step0 s73).step0 s84).ne_old lt8) Z9)).step s232 (Z2 ((((ow68.step0 s73).step0 s84).step s134 (Z2 (((ow68.step0 s73).step0 s84).ne_old lt8) Z9)).ne_old lt8) Z9)).ne_obS1 (rs67.mono ((s73.le).trans ((s84.le).trans ((s134.le).trans s232.le)))) ob246) Z9)), (rs248.mono (s260.le)), (rs250.mono (s260.le)), (rs252.mono (s260.le)), (rs254.mono (s260.le)), (rs256.mono (s260.le)), (rs258.mono (s260.le)), ob473, ob261⟩
   replace HF := bif_f hb224 HF
   refine Zc0 (b := (r130.1 : Int) == 4) (fun hb263 => ?_) (fun hb263 => ?_)
   ·replace HF := bif_t hb263 HF
    refine WL.know 21 (v' := .func (.func 103) #[pt b1 0] #[]) rfl (by rw [eq_of_beq hb263]; rfl) ?_
    obtain ⟨r264, hr265, HF⟩ := Z5 HF
    rcases r264 with t266 | r267
    ·obtain rfl := Z02 HF
     have ob272 := (ob143.step1 s134 (Ne.symm ne75))
     refine Z0h rfl (Z9y (us := [pt b1 0]) (vs := []) (caps := []) rfl rfl t_ent_103) ((IH _ (Nat.le_trans (Nat.le_of_succ_le hj30) (Nat.le_refl _))).2.2.2.1 hr265 S145.sub (rs5.mono ((s14.le).trans ((le20).trans ((le63).trans ((s73.le).trans ((s84.le).trans s134.le)))))) ob144) ?_
     rintro ch274 w275 ⟨ht276, h277, s278, ob273⟩
     refine Ze <| Zu <| Ze <| Zu <| Ze <| Zs ?_
     have S279 := S145.trans s278 (Zl (.inl (by simp)) Zt)
     exact ⟨_, rfl, ht276, h277, S279, ob273⟩
    replace HF := Z0i HF
    refine Wc rfl (Z9y (us := [pt b1 0]) (vs := []) (caps := []) rfl rfl t_ent_103) ((IH _ (Nat.le_trans (Nat.le_of_succ_le hj30) (Nat.le_refl _))).2.2.2.1 hr265 S145.sub (rs5.mono ((s14.le).trans ((le20).trans ((le63).trans ((s73.le).trans ((s84.le).trans s134.le)))))) ob144) ?_
    have ob282 := (ob143.step1 s134 (Ne.symm ne75))
    rintro _ w269 ⟨h270, s271, ⟨cs280, rfl, r281⟩, ob283⟩
    have S284 := S145.trans s271 (Zl (.inl (by simp)) Zt)
    have ob285 := (ob282.step1 s271 (Ne.symm ne75))
    obtain ⟨v286, v288, v290, v292, v294, v296, rfl, rs287, rs289, rs291, rs293, rs295, rs297⟩ := rp_St.1 r281
    refine Zr (vs := [vi r267.1.op, .string r267.1.name, v286, v288, v290, vi r267.1.n, v292, v294, v296, .bool r267.1.els]) rfl rfl rfl rfl Z0u (Z3 rfl (Z3 rfl (Z3 (RS.one rs287) (Z3 (RS.one rs289) (Z3 (RS.one rs291) (Z3 rfl (Z3 (RS.one rs293) (Z3 (RS.one rs295) (Z3 (RS.one rs297) (Z3 rfl Zx)))))))))) ob285 S284.sub (by simp) (ds := [vi r267.1.op, .string r267.1.name, v286, v288, v290, vi r267.1.n, v292, v294, v296, .bool r267.1.els]) rfl (fun w298 s299 ob300 => ?_)
    have S301 := S284.trans1 s299 (.inr g76)
    refine Z6 ?_
    have ob474 := (ob283.step1 s299 ne75)
    refine Z01 [0, 3, 4, 5] _ rfl ?_
    exact J469 ⟨h270, xs65, v66, r267.2, r267.1.op, r267.1.name, r267.1.index, v286, r267.1.fields, v288, r267.1.args, v290, r267.1.n, r267.1.body, v292, r267.1.arms, v294, r267.1.other, v296, r267.1.els, HF, rfl, S301, (s84.le).trans ((s134.le).trans ((s271.le).trans s299.le)), (rs67.mono ((s73.le).trans ((s84.le).trans ((s134.le).trans ((s271.le).trans s299.le))))), (((((ow68.step0 s73).step0 s84).step s134 (Z2 (((ow68.step0 s73).step0 s84).ne_old lt8) Z9)).step s271 (Z2 ((((ow68.step0 s73).step0 s84).step s134 (Z2 (((ow68.step0 s73).step0 s84).ne_old lt8) Z9)).ne_old lt8) Z9)).step s299 (Z2 (((((ow68.step0 s73).step0 s84).step s134 (Z2 (((ow68.step0 s73).step0 s84).ne_old lt8) Z9)).step s271 (Z2 ((((ow68.step0 s73).step0 s84).step s134 (Z2 (((ow68.step0 s73).step0 s84).ne_old lt8) Z9)).ne_old lt8) Z9)).ne_obS1 (rs67.mono ((s73.le).trans ((s84.le).trans ((s134.le).trans s271.le)))) ob285) Z9)), (rs287.mono (s299.le)), (rs289.mono (s299.le)), (rs291.mono (s299.le)), (rs293.mono (s299.le)), (rs295.mono (s299.le)), (rs297.mono (s299.le)), ob474, ob300⟩
   replace HF := bif_f hb263 HF
   refine Zc0 (b := (r130.1 : Int) == 5) (fun hb302 => ?_) (fun hb302 => ?_)
   ·replace HF := bif_t hb302 HF
    refine WL.know 21 (v' := .func (.func 104) #[pt b1 0] #[]) rfl (by rw [eq_of_beq hb302]; rfl) ?_
    obtain ⟨r303, hr304, HF⟩ := Z5 HF
    rcases r303 with t305 | r306
    ·obtain rfl := Z02 HF
     have ob311 := (ob143.step1 s134 (Ne.symm ne75))
     refine Z0h rfl (Z9y (us := [pt b1 0]) (vs := []) (caps := []) rfl rfl t_ent_104) ((IH _ (Nat.le_trans (Nat.le_of_succ_le hj30) (Nat.le_refl _))).2.2.2.2.2.2 hr304 S145.sub (rs5.mono ((s14.le).trans ((le20).trans ((le63).trans ((s73.le).trans ((s84.le).trans s134.le)))))) ob144) ?_
     rintro ch313 w314 ⟨ht315, h316, s317, ob312⟩
     refine Ze <| Zu <| Ze <| Zu <| Ze <| Zs ?_
     have S318 := S145.trans s317 (Zl (.inl (by simp)) Zt)
     exact ⟨_, rfl, ht315, h316, S318, ob312⟩
    replace HF := Z0i HF
    refine Wc rfl (Z9y (us := [pt b1 0]) (vs := []) (caps := []) rfl rfl t_ent_104) ((IH _ (Nat.le_trans (Nat.le_of_succ_le hj30) (Nat.le_refl _))).2.2.2.2.2.2 hr304 S145.sub (rs5.mono ((s14.le).trans ((le20).trans ((le63).trans ((s73.le).trans ((s84.le).trans s134.le)))))) ob144) ?_
    have ob321 := (ob143.step1 s134 (Ne.symm ne75))
    rintro _ w308 ⟨h309, s310, ⟨cs319, rfl, r320⟩, ob322⟩
    have S323 := S145.trans s310 (Zl (.inl (by simp)) Zt)
    have ob324 := (ob321.step1 s310 (Ne.symm ne75))
    obtain ⟨v325, v327, v329, v331, v333, v335, rfl, rs326, rs328, rs330, rs332, rs334, rs336⟩ := rp_St.1 r320
    refine Zr (vs := [vi r306.1.op, .string r306.1.name, v325, v327, v329, vi r306.1.n, v331, v333, v335, .bool r306.1.els]) rfl rfl rfl rfl Z0u (Z3 rfl (Z3 rfl (Z3 (RS.one rs326) (Z3 (RS.one rs328) (Z3 (RS.one rs330) (Z3 rfl (Z3 (RS.one rs332) (Z3 (RS.one rs334) (Z3 (RS.one rs336) (Z3 rfl Zx)))))))))) ob324 S323.sub (by simp) (ds := [vi r306.1.op, .string r306.1.name, v325, v327, v329, vi r306.1.n, v331, v333, v335, .bool r306.1.els]) rfl (fun w337 s338 ob339 => ?_)
    have S340 := S323.trans1 s338 (.inr g76)
    refine Z6 ?_
    have ob475 := (ob322.step1 s338 ne75)
    refine Z01 [0, 3, 4, 5] _ rfl ?_
    exact J469 ⟨h309, xs65, v66, r306.2, r306.1.op, r306.1.name, r306.1.index, v325, r306.1.fields, v327, r306.1.args, v329, r306.1.n, r306.1.body, v331, r306.1.arms, v333, r306.1.other, v335, r306.1.els, HF, rfl, S340, (s84.le).trans ((s134.le).trans ((s310.le).trans s338.le)), (rs67.mono ((s73.le).trans ((s84.le).trans ((s134.le).trans ((s310.le).trans s338.le))))), (((((ow68.step0 s73).step0 s84).step s134 (Z2 (((ow68.step0 s73).step0 s84).ne_old lt8) Z9)).step s310 (Z2 ((((ow68.step0 s73).step0 s84).step s134 (Z2 (((ow68.step0 s73).step0 s84).ne_old lt8) Z9)).ne_old lt8) Z9)).step s338 (Z2 (((((ow68.step0 s73).step0 s84).step s134 (Z2 (((ow68.step0 s73).step0 s84).ne_old lt8) Z9)).step s310 (Z2 ((((ow68.step0 s73).step0 s84).step s134 (Z2 (((ow68.step0 s73).step0 s84).ne_old lt8) Z9)).ne_old lt8) Z9)).ne_obS1 (rs67.mono ((s73.le).trans ((s84.le).trans ((s134.le).trans s310.le)))) ob324) Z9)), (rs326.mono (s338.le)), (rs328.mono (s338.le)), (rs330.mono (s338.le)), (rs332.mono (s338.le)), (rs334.mono (s338.le)), (rs336.mono (s338.le)), ob475, ob339⟩
   replace HF := bif_f hb302 HF
   refine Zc0 (b := (r130.1 : Int) == 6) (fun hb341 => ?_) (fun hb341 => ?_)
   ·replace HF := bif_t hb341 HF
    refine WL.know 21 (v' := .func (.func 105) #[] #[]) rfl (by rw [eq_of_beq hb341]; rfl) ?_
    obtain ⟨r342, hr343, HF⟩ := Z5 HF
    refine Wc rfl (oc_val (vs := []) (caps := []) rfl rfl t_ent_105) (Zgi _ hr343 S145.sub) ?_
    have ob350 := (ob143.step1 s134 (Ne.symm ne75))
    rintro _ w345 ⟨h346, s347, ⟨cs348, rfl, r349⟩⟩
    have S351 := S145.trans0 s347
    have ob352 := (ob350.step0 s347)
    obtain ⟨v353, v355, v357, v359, v361, v363, rfl, rs354, rs356, rs358, rs360, rs362, rs364⟩ := rp_St.1 r349
    refine Zr (vs := [vi r342.op, .string r342.name, v353, v355, v357, vi r342.n, v359, v361, v363, .bool r342.els]) rfl rfl rfl rfl Z0u (Z3 rfl (Z3 rfl (Z3 (RS.one rs354) (Z3 (RS.one rs356) (Z3 (RS.one rs358) (Z3 rfl (Z3 (RS.one rs360) (Z3 (RS.one rs362) (Z3 (RS.one rs364) (Z3 rfl Zx)))))))))) ob352 S351.sub (by simp) (ds := [vi r342.op, .string r342.name, v353, v355, v357, vi r342.n, v359, v361, v363, .bool r342.els]) rfl (fun w365 s366 ob367 => ?_)
    have S368 := S351.trans1 s366 (.inr g76)
    refine Z6 ?_
    have ob476 := ((ob144.step0 s347).step1 s366 ne75)
    refine Z01 [0, 3, 4, 5] _ rfl ?_
    exact J469 ⟨h346, xs65, v66, r130.2, r342.op, r342.name, r342.index, v353, r342.fields, v355, r342.args, v357, r342.n, r342.body, v359, r342.arms, v361, r342.other, v363, r342.els, HF, rfl, S368, (s84.le).trans ((s134.le).trans ((s347.le).trans s366.le)), (rs67.mono ((s73.le).trans ((s84.le).trans ((s134.le).trans ((s347.le).trans s366.le))))), (((((ow68.step0 s73).step0 s84).step s134 (Z2 (((ow68.step0 s73).step0 s84).ne_old lt8) Z9)).step0 s347).step s366 (Z2 (((((ow68.step0 s73).step0 s84).step s134 (Z2 (((ow68.step0 s73).step0 s84).ne_old lt8) Z9)).step0 s347).ne_obS1 (rs67.mono ((s73.le).trans ((s84.le).trans ((s134.le).trans s347.le)))) ob352) Z9)), (rs354.mono (s366.le)), (rs356.mono (s366.le)), (rs358.mono (s366.le)), (rs360.mono (s366.le)), (rs362.mono (s366.le)), (rs364.mono (s366.le)), ob476, ob367⟩
   replace HF := bif_f hb341 HF
   refine Zc0 (b := (r130.1 : Int) == 7) (fun hb369 => ?_) (fun hb369 => ?_)
   ·replace HF := bif_t hb369 HF
    refine WL.know 21 (v' := .func (.func 106) #[] #[]) rfl (by rw [eq_of_beq hb369]; rfl) ?_
    obtain ⟨r370, hr371, HF⟩ := Z5 HF
    refine Wc rfl (oc_val (vs := []) (caps := []) rfl rfl t_ent_106) (Zg2 _ hr371 S145.sub) ?_
    have ob378 := (ob143.step1 s134 (Ne.symm ne75))
    rintro _ w373 ⟨h374, s375, ⟨cs376, rfl, r377⟩⟩
    have S379 := S145.trans0 s375
    have ob380 := (ob378.step0 s375)
    obtain ⟨v381, v383, v385, v387, v389, v391, rfl, rs382, rs384, rs386, rs388, rs390, rs392⟩ := rp_St.1 r377
    refine Zr (vs := [vi r370.op, .string r370.name, v381, v383, v385, vi r370.n, v387, v389, v391, .bool r370.els]) rfl rfl rfl rfl Z0u (Z3 rfl (Z3 rfl (Z3 (RS.one rs382) (Z3 (RS.one rs384) (Z3 (RS.one rs386) (Z3 rfl (Z3 (RS.one rs388) (Z3 (RS.one rs390) (Z3 (RS.one rs392) (Z3 rfl Zx)))))))))) ob380 S379.sub (by simp) (ds := [vi r370.op, .string r370.name, v381, v383, v385, vi r370.n, v387, v389, v391, .bool r370.els]) rfl (fun w393 s394 ob395 => ?_)
    have S396 := S379.trans1 s394 (.inr g76)
    refine Z6 ?_
    have ob477 := ((ob144.step0 s375).step1 s394 ne75)
    refine Z01 [0, 3, 4, 5] _ rfl ?_
    exact J469 ⟨h374, xs65, v66, r130.2, r370.op, r370.name, r370.index, v381, r370.fields, v383, r370.args, v385, r370.n, r370.body, v387, r370.arms, v389, r370.other, v391, r370.els, HF, rfl, S396, (s84.le).trans ((s134.le).trans ((s375.le).trans s394.le)), (rs67.mono ((s73.le).trans ((s84.le).trans ((s134.le).trans ((s375.le).trans s394.le))))), (((((ow68.step0 s73).step0 s84).step s134 (Z2 (((ow68.step0 s73).step0 s84).ne_old lt8) Z9)).step0 s375).step s394 (Z2 (((((ow68.step0 s73).step0 s84).step s134 (Z2 (((ow68.step0 s73).step0 s84).ne_old lt8) Z9)).step0 s375).ne_obS1 (rs67.mono ((s73.le).trans ((s84.le).trans ((s134.le).trans s375.le)))) ob380) Z9)), (rs382.mono (s394.le)), (rs384.mono (s394.le)), (rs386.mono (s394.le)), (rs388.mono (s394.le)), (rs390.mono (s394.le)), (rs392.mono (s394.le)), ob477, ob395⟩
   replace HF := bif_f hb369 HF
   cases HF
  intro J478
  refine Z09 (fun E w48 => ∃ (h47 : Hp) (xs51 : List St) (v52 : Value) (x55 : Bool), Z9v j28 (Z8 j28) xs3 r9 x26 xs51 x55 = some r ∧ E = [(0, pt b1 0), (3, v52), (4, v15), (14, .bool x55)] ∧ Stp [b1] w0 h0 w48 h47 ∧ Hle h18 h47 ∧ RS h47 v52 xs51 ∧ Own w48 h47 w0.heap.size 56 10 v52 xs51.length ∧ OB w48 h47 b1 T2 [v4, vi x26]) ?_ ?_
  ·rintro E w48 ⟨h47, xs51, v52, x55, HF, rfl, S50, le49, rs53, ow54, ob56⟩
   refine Z15 HF rfl (fun HF => ?_) (fun HF => ?_)
   ·refine Zq <| Z01 [0, 3, 4] _ rfl ?_
    exact J478 ⟨h47, xs51, v52, HF, rfl, S50, le49, rs53, ow54, ob56⟩
   refine Z66 <| Z05 <| Z05 <| Z1m <| Z4 <| Zc <| Z0 <| Wm rfl rfl <| Wa rfl rfl <| Z6 <| Z4 <| Z0b <| Z07 rfl rfl ?_
   obtain rfl := Option.some.inj HF
   exact ⟨_, rfl, h47, S50, rs53, ob56⟩
  intro J58
  refine Z0 <| Wm rfl rfl ?_
  obtain ⟨r31, hr32, HF⟩ := Z5 HF
  refine Wc rfl (Zd (vs := [pt b1 0]) rfl t_ent_57) (Zcc _ hr32 S21.sub (rs5.mono ((s14.le).trans le20)) ob27) ?_
  rintro _ w34 ⟨h35, s36, rfl⟩
  have S37 := S21.trans0 s36
  refine Wm rfl rfl <| Z27 10 HF rfl (fun HF => ?_) (fun HF => ?_)
  ·refine Wp rfl <| Wp rfl <| Wp rfl <| Wv rfl (Zj rfl rfl) <| Z6 ?_
   have ob59 := (ob27.step0 s36)
   refine Z01 [0, 3, 4, 14] _ rfl ?_
   exact J58 ⟨h35, xs22, v23, true, HF, rfl, S37, s36.le, (rs24.mono (s36.le)), (ow25.step0 s36), ob59⟩
  refine Wm rfl rfl <| Wm rfl rfl ?_
  have ob39 := (ob27.step0 s36)
  obtain ⟨r40, hr41, HF⟩ := Z5 HF
  refine Wc rfl (Zd (vs := [pt b1 0, v15]) rfl t_ent_58) (Zd9 _ hr41 S37.sub (rs5.mono ((s14.le).trans ((le20).trans s36.le))) (rm16.mono ((le20).trans s36.le)) ob39) ?_
  rintro _ w43 ⟨h44, s45, rfl⟩
  have S46 := S37.trans0 s45
  refine Wv rfl (Zi rfl rfl) <| Z6 ?_
  have ob60 := (ob39.step0 s45)
  refine Z01 [0, 3, 4, 14] _ rfl ?_
  exact J58 ⟨h44, xs22, v23, r40, HF, rfl, S46, (s36.le).trans s45.le, (rs24.mono ((s36.le).trans s45.le)), ((ow25.step0 s36).step0 s45), ob60⟩
 have ob480 := (ob7.step0 s14)
 exact ⟨h13, ([] : List St), .slice none 0 0, x6, HF, rfl, S17, Hle.refl _, (RS.nil _), (Own.nil _ _ _ _ _), ob480⟩
theorem s_parse_Parser_count (k : Nat) (IH : ∀ j, j ≤ k → Z2e (Z8 j).parse_Parser_Text ∧ Z2g (Z8 j).parse_Parser_count ∧ Z2i (Z8 j).parse_Parser_other ∧ Z2k (Z8 j).parse_Parser_while ∧ Z28 (Z8 j).parse_Parser_branch ∧ Z2a (Z8 j).parse_Parser_choice ∧ Z29 (Z8 j).parse_Parser_repeat) : Z2g (Ze8 k (Z8 k)) := by
 intro xs3 x6 r HF w0 h0 b1 T2 v4 hs0 rs5 ob7
 have S0 : Stp [b1] w0 h0 w0 h0 := Stp.refl hs0 _
 have lt8 : b1 < w0.heap.size := OB.lt ob7
 refine Z4o (n := 52) Tryz.func102 rfl Tryz.ntmps102 rfl [(0, pt b1 0)] rfl <| Zc <| Z0 <| Z19 (zs := [vi 0, .string Z1e, .slice none 0 0, .slice none 0 0, .slice none 0 0, vi 0, .slice none 0 0, .slice none 0 0, .slice none 0 0, .bool false]) rfl rfl Z38 rfl S0.sub (fun w9 b10 hb11 s12 ob13 => ?_)
 have ne14 : b1 ≠ b10 := ob7.ne_new hb11
 have g15 : w0.heap.size ≤ b10 := by rw [hb11]; exact S0.size
 have S16 := S0.trans0 s12
 refine Z6 <| Z4 <| Zc <| Z0 <| Wm rfl rfl ?_
 have ob17 := (ob7.step0 s12)
 obtain ⟨r18, hr19, HF⟩ := Z5 HF
 rcases r18 with t20 | r21
 ·obtain rfl := Z02 HF
  refine Z0h rfl (Zd (vs := [pt b1 0]) rfl Zbw) (Z26 _ hr19 S16.sub (rs5.mono (s12.le)) ob17) ?_
  rintro ch27 w28 ⟨ht29, h30, s31, ob26⟩
  refine Ze <| Zs ?_
  have S32 := S16.trans s31 (Zl (.inl (by simp)) Zt)
  exact ⟨_, rfl, ht29, h30, S32, ob26⟩
 replace HF := Z0i HF
 refine Wc rfl (Zd (vs := [pt b1 0]) rfl Zbw) (Z26 _ hr19 S16.sub (rs5.mono (s12.le)) ob17) ?_
 rintro _ w23 ⟨h24, s25, rfl, ob33⟩
 have S34 := S16.trans s25 (Zl (.inl (by simp)) Zt)
 refine Wv rfl (Z3b (vs := [(0, vi 5), (1, .string r21.1), (5, vi 1)]) (cs := [vi 5, .string r21.1, .slice none 0 0, .slice none 0 0, .slice none 0 0, vi 1, .slice none 0 0, .slice none 0 0, .slice none 0 0, .bool false]) rfl Za1 Z38 rfl) ?_
 have ob35 := (ob13.step1 s25 (Ne.symm ne14))
 refine Z19 (zs := [vi 0, .string Z1e, .slice none 0 0, .slice none 0 0, .slice none 0 0, vi 0, .slice none 0 0, .slice none 0 0, .slice none 0 0, .bool false]) rfl rfl Z38 rfl S34.sub (fun w36 b37 hb38 s39 ob40 => ?_)
 have ne41 : b1 ≠ b37 := ob33.ne_new hb38
 have ne42 : b10 ≠ b37 := ob35.ne_new hb38
 have g43 : w0.heap.size ≤ b37 := by rw [hb38]; exact S34.size
 have S44 := S34.trans0 s39
 refine Zr (vs := [vi 5, .string r21.1, .slice none 0 0, .slice none 0 0, .slice none 0 0, vi 1, .slice none 0 0, .slice none 0 0, .slice none 0 0, .bool false]) rfl rfl rfl rfl Z0u (Z3 rfl (Z3 rfl (Z3 rfl (Z3 rfl (Z3 rfl (Z3 rfl (Z3 rfl (Z3 rfl (Z3 rfl (Z3 rfl Zx)))))))))) ob40 S44.sub (by simp) (ds := [vi 5, .string r21.1, .slice none 0 0, .slice none 0 0, .slice none 0 0, vi 1, .slice none 0 0, .slice none 0 0, .slice none 0 0, .bool false]) rfl (fun w45 s46 ob47 => ?_)
 have S48 := S44.trans1 s46 (.inr g43)
 refine Z6 <| Z4 <| Zc <| Z0 <| Wm rfl rfl ?_
 have ob49 := ((ob33.step0 s39).step1 s46 ne41)
 obtain ⟨r50, hr51, HF⟩ := Z5 HF
 rcases r50 with t52 | r53
 ·obtain rfl := Z02 HF
  refine Z0h rfl (Zd (vs := [pt b1 0, .string b'87]) rfl Z20) (Zn _ hr51 S48.sub (rs5.mono ((s12.le).trans ((s25.le).trans ((s39.le).trans s46.le)))) ob49) ?_
  rintro ch59 w60 ⟨ht61, h62, s63, ob58⟩
  refine Ze <| Zs ?_
  have S64 := S48.trans s63 (Zl (.inl (by simp)) Zt)
  exact ⟨_, rfl, ht61, h62, S64, ob58⟩
 replace HF := Z0i HF
 refine Wc rfl (Zd (vs := [pt b1 0, .string b'87]) rfl Z20) (Zn _ hr51 S48.sub (rs5.mono ((s12.le).trans ((s25.le).trans ((s39.le).trans s46.le)))) ob49) ?_
 rintro v54 w55 ⟨h56, s57, rfl, ob65⟩
 have S66 := S48.trans s57 (Zl (.inl (by simp)) Zt)
 refine Z6 <| Z4 <| Zc <| Z0 <| Wm rfl rfl ?_
 obtain ⟨r67, hr68, HF⟩ := Z5 HF
 rcases r67 with t69 | r70
 ·obtain rfl := Z02 HF
  refine Z0h rfl (Zd (vs := [pt b1 0]) rfl Z3l) (Z08 _ hr68 S66.sub (rs5.mono ((s12.le).trans ((s25.le).trans ((s39.le).trans ((s46.le).trans s57.le))))) ob65) ?_
  rintro ch76 w77 ⟨ht78, h79, s80, ob75⟩
  refine Ze <| Zs ?_
  have S81 := S66.trans s80 (Zl (.inl (by simp)) Zt)
  exact ⟨_, rfl, ht78, h79, S81, ob75⟩
 replace HF := Z0i HF
 refine Wc rfl (Zd (vs := [pt b1 0]) rfl Z3l) (Z08 _ hr68 S66.sub (rs5.mono ((s12.le).trans ((s25.le).trans ((s39.le).trans ((s46.le).trans s57.le))))) ob65) ?_
 rintro _ w72 ⟨h73, s74, ⟨cs82, rfl, r83⟩, ob84⟩
 have S85 := S66.trans s74 (Zl (.inl (by simp)) Zt)
 have ob86 := ((((ob35.step0 s39).step1 s46 ne42).step1 s57 (Ne.symm ne14)).step1 s74 (Ne.symm ne14))
 have ob87 := ((ob47.step1 s57 (Ne.symm ne41)).step1 s74 (Ne.symm ne41))
 refine Z19 (zs := [vi 0, vi 0, vi 0, .string Z1e, .string Z1e, .slice none 0 0]) rfl rfl Z1w rfl S85.sub (fun w88 b89 hb90 s91 ob92 => ?_)
 have ne93 : b1 ≠ b89 := ob84.ne_new hb90
 have ne94 : b10 ≠ b89 := ob86.ne_new hb90
 have ne95 : b37 ≠ b89 := ob87.ne_new hb90
 have g96 : w0.heap.size ≤ b89 := by rw [hb90]; exact S85.size
 have S97 := S85.trans0 s91
 obtain ⟨v98, rfl, rs99⟩ := Zab.1 (Rp.mono (s91.le) r83)
 refine Zr (vs := [vi r70.1.op, vi r70.1.kind, vi r70.1.n, .string r70.1.s, .string r70.1.f, v98]) rfl rfl rfl rfl Z0l (Z3 rfl (Z3 rfl (Z3 rfl (Z3 rfl (Z3 rfl (Z3 (RS.one rs99) Zx)))))) ob92 S97.sub (by simp) (ds := [vi r70.1.op, vi r70.1.kind, vi r70.1.n, .string r70.1.s, .string r70.1.f, v98]) rfl (fun w100 s101 ob102 => ?_)
 have S103 := S97.trans1 s101 (.inr g96)
 refine Z6 <| Z4 <| Zc <| Z0 <| Wm rfl rfl ?_
 have ob104 := ((ob84.step0 s91).step1 s101 ne93)
 obtain ⟨r105, hr106, HF⟩ := Z5 HF
 rcases r105 with t107 | r108
 ·obtain rfl := Z02 HF
  refine Z0h rfl (Zd (vs := [pt b1 0, .string b'69]) rfl Z20) (Zn _ hr106 S103.sub (rs5.mono ((s12.le).trans ((s25.le).trans ((s39.le).trans ((s46.le).trans ((s57.le).trans ((s74.le).trans ((s91.le).trans s101.le)))))))) ob104) ?_
  rintro ch114 w115 ⟨ht116, h117, s118, ob113⟩
  refine Ze <| Zs ?_
  have S119 := S103.trans s118 (Zl (.inl (by simp)) Zt)
  exact ⟨_, rfl, ht116, h117, S119, ob113⟩
 replace HF := Z0i HF
 refine Wc rfl (Zd (vs := [pt b1 0, .string b'69]) rfl Z20) (Zn _ hr106 S103.sub (rs5.mono ((s12.le).trans ((s25.le).trans ((s39.le).trans ((s46.le).trans ((s57.le).trans ((s74.le).trans ((s91.le).trans s101.le)))))))) ob104) ?_
 rintro v109 w110 ⟨h111, s112, rfl, ob120⟩
 have S121 := S103.trans s112 (Zl (.inl (by simp)) Zt)
 refine Z6 <| Z4 <| Z09 (fun E w248 => ∃ (h247 : Hp) (x251 : Int) (xs254 : List Ex) (v255 : Value), Zcv k (Z8 k) xs3 r21 x251 xs254 = some r ∧ E = [(0, pt b1 0), (2, pt b10 0), (3, pt b37 0)] ∧ Stp [b1] w0 h0 w248 h247 ∧ Hle h111 h247 ∧ RS h247 v255 xs254 ∧ Own w248 h247 w0.heap.size 47 6 v255 xs254.length ∧ OB w248 h247 b1 T2 [v4, vi x251] ∧ OB w248 h247 b10 56 [vi 0, .string Z1e, .slice none 0 0, .slice none 0 0, .slice none 0 0, vi 0, .slice none 0 0, .slice none 0 0, .slice none 0 0, .bool false] ∧ OB w248 h247 b37 56 [vi 5, .string r21.1, .slice none 0 0, .slice none 0 0, v255, vi 1, .slice none 0 0, .slice none 0 0, .slice none 0 0, .bool false]) ?_ ?_
 ·rintro E w248 ⟨h247, x251, xs254, v255, HF, rfl, S250, le249, rs256, ow257, ob252, ob253, ob258⟩
  refine Z09 (fun E w381 => ∃ (h380 : Hp) (x384 : Int) (xs387 : List Ex) (v388 : Value) (x391 : Int), Z6m k (Z8 k) xs3 r21 x384 xs387 x391 = some r ∧ E = [(0, pt b1 0), (2, pt b10 0), (3, pt b37 0)] ∧ Stp [b1] w0 h0 w381 h380 ∧ Hle h247 h380 ∧ RS h380 v388 xs387 ∧ Own w381 h380 w0.heap.size 47 6 v388 xs387.length ∧ OB w381 h380 b1 T2 [v4, vi x384] ∧ OB w381 h380 b10 56 [vi 0, .string Z1e, .slice none 0 0, .slice none 0 0, .slice none 0 0, vi 0, .slice none 0 0, .slice none 0 0, .slice none 0 0, .bool false] ∧ OB w381 h380 b37 56 [vi 5, .string r21.1, .slice none 0 0, .slice none 0 0, v388, vi x391, .slice none 0 0, .slice none 0 0, .slice none 0 0, .bool false]) ?_ ?_
  ·rintro E w381 ⟨h380, x384, xs387, v388, x391, HF, rfl, S383, le382, rs389, ow390, ob385, ob386, ob392⟩
   refine Zc <| Z0 <| Wm rfl rfl ?_
   obtain ⟨r393, hr394, HF⟩ := Z5 HF
   rcases r393 with t395 | r396
   ·obtain rfl := Z02 HF
    refine Z0h rfl (Zd (vs := [pt b1 0, .string b'2]) rfl Z20) (Zn _ hr394 S383.sub (rs5.mono ((s12.le).trans ((s25.le).trans ((s39.le).trans ((s46.le).trans ((s57.le).trans ((s74.le).trans ((s91.le).trans ((s101.le).trans ((s112.le).trans ((le249).trans le382))))))))))) ob385) ?_
    rintro ch402 w403 ⟨ht404, h405, s406, ob401⟩
    refine Ze <| Zs ?_
    have S407 := S383.trans s406 (Zl (.inl (by simp)) Zt)
    exact ⟨_, rfl, ht404, h405, S407, ob401⟩
   replace HF := Z0i HF
   refine Wc rfl (Zd (vs := [pt b1 0, .string b'2]) rfl Z20) (Zn _ hr394 S383.sub (rs5.mono ((s12.le).trans ((s25.le).trans ((s39.le).trans ((s46.le).trans ((s57.le).trans ((s74.le).trans ((s91.le).trans ((s101.le).trans ((s112.le).trans ((le249).trans le382))))))))))) ob385) ?_
   rintro v397 w398 ⟨h399, s400, rfl, ob408⟩
   have S409 := S383.trans s400 (Zl (.inl (by simp)) Zt)
   refine Z6 <| Z4 <| Zc <| Z0 <| Wm rfl rfl ?_
   obtain ⟨r410, hr411, HF⟩ := Z5 HF
   rcases r410 with t412 | r413
   ·obtain rfl := Z02 HF
    have ob418 := (ob386.step1 s400 (Ne.symm ne14))
    have ob419 := (ob392.step1 s400 (Ne.symm ne41))
    refine Z0h rfl (Zd (vs := [pt b1 0]) rfl Z92) ((IH _ (Nat.le_refl _)).1 hr411 S409.sub (rs5.mono ((s12.le).trans ((s25.le).trans ((s39.le).trans ((s46.le).trans ((s57.le).trans ((s74.le).trans ((s91.le).trans ((s101.le).trans ((s112.le).trans ((le249).trans ((le382).trans s400.le)))))))))))) ob408) ?_
    rintro ch421 w422 ⟨ht423, h424, s425, ob420⟩
    refine Ze <| Zs ?_
    have S426 := S409.trans s425 (Zl (.inl (by simp)) Zt)
    exact ⟨_, rfl, ht423, h424, S426, ob420⟩
   replace HF := Z0i HF
   refine Wc rfl (Zd (vs := [pt b1 0]) rfl Z92) ((IH _ (Nat.le_refl _)).1 hr411 S409.sub (rs5.mono ((s12.le).trans ((s25.le).trans ((s39.le).trans ((s46.le).trans ((s57.le).trans ((s74.le).trans ((s91.le).trans ((s101.le).trans ((s112.le).trans ((le249).trans ((le382).trans s400.le)))))))))))) ob408) ?_
   have ob429 := (ob386.step1 s400 (Ne.symm ne14))
   have ob430 := (ob392.step1 s400 (Ne.symm ne41))
   rintro v427 w415 ⟨h416, s417, rs428, ob431⟩
   have S432 := S409.trans s417 (Zl (.inl (by simp)) Zt)
   refine Wv rfl (Z1 rfl Z84) ?_
   have ob433 := (ob430.step1 s417 (Ne.symm ne41))
   refine Zr (vs := [v427]) rfl rfl rfl (RS.cellsL rs428) Zga (Z3 (RS.one rs428) Zx) ob433 S432.sub (by simp) (ds := [vi 5, .string r21.1, .slice none 0 0, .slice none 0 0, v388, vi x391, v427, .slice none 0 0, .slice none 0 0, .bool false]) rfl (fun w434 s435 ob436 => ?_)
   have S437 := S432.trans1 s435 (.inr g43)
   refine Z6 <| Z4 <| Zc <| Z0 <| Wm rfl rfl ?_
   have ob438 := (ob431.step1 s435 ne41)
   obtain ⟨r439, hr440, HF⟩ := Z5 HF
   rcases r439 with t441 | r442
   ·obtain rfl := Z02 HF
    have ob447 := ((ob429.step1 s417 (Ne.symm ne14)).step1 s435 ne42)
    refine Z0h rfl (Zd (vs := [pt b1 0, .string b'5]) rfl Z20) (Zn _ hr440 S437.sub (rs5.mono ((s12.le).trans ((s25.le).trans ((s39.le).trans ((s46.le).trans ((s57.le).trans ((s74.le).trans ((s91.le).trans ((s101.le).trans ((s112.le).trans ((le249).trans ((le382).trans ((s400.le).trans ((s417.le).trans s435.le)))))))))))))) ob438) ?_
    rintro ch449 w450 ⟨ht451, h452, s453, ob448⟩
    refine Ze <| Zs ?_
    have S454 := S437.trans s453 (Zl (.inl (by simp)) Zt)
    exact ⟨_, rfl, ht451, h452, S454, ob448⟩
   replace HF := Z0i HF
   refine Wc rfl (Zd (vs := [pt b1 0, .string b'5]) rfl Z20) (Zn _ hr440 S437.sub (rs5.mono ((s12.le).trans ((s25.le).trans ((s39.le).trans ((s46.le).trans ((s57.le).trans ((s74.le).trans ((s91.le).trans ((s101.le).trans ((s112.le).trans ((le249).trans ((le382).trans ((s400.le).trans ((s417.le).trans s435.le)))))))))))))) ob438) ?_
   have ob455 := ((ob429.step1 s417 (Ne.symm ne14)).step1 s435 ne42)
   rintro v443 w444 ⟨h445, s446, rfl, ob456⟩
   have S457 := S437.trans s446 (Zl (.inl (by simp)) Zt)
   refine Z6 <| Z4 <| Zc <| Z0 ?_
   have ob458 := (ob436.step1 s446 (Ne.symm ne41))
   refine Wv rfl (Z2t (cs := [vi 5, .string r21.1, .slice none 0 0, .slice none 0 0, v388, vi x391, v427, .slice none 0 0, .slice none 0 0, .bool false]) rfl Z6y Z0u (OB.cells ob458 0 rfl)) ?_
   have ob459 := (ob455.step1 s446 (Ne.symm ne14))
   refine Zr (vs := [vi 5, .string r21.1, .slice none 0 0, .slice none 0 0, v388, vi x391, v427, .slice none 0 0, .slice none 0 0, .bool false]) rfl rfl rfl rfl Z0u (Z3 rfl (Z3 rfl (Z3 rfl (Z3 rfl (Z3 (RS.one (rs389.mono ((s400.le).trans ((s417.le).trans ((s435.le).trans s446.le))))) (Z3 rfl (Z3 (RS.one (rs428.mono ((s435.le).trans s446.le))) (Z3 rfl (Z3 rfl (Z3 rfl Zx)))))))))) ob459 S457.sub (by simp) (ds := [vi 5, .string r21.1, .slice none 0 0, .slice none 0 0, v388, vi x391, v427, .slice none 0 0, .slice none 0 0, .bool false]) rfl (fun w460 s461 ob462 => ?_)
   have S463 := S457.trans1 s461 (.inr g15)
   refine Z6 <| Z4 <| Z0b ?_
   have ob464 := (ob456.step1 s461 ne14)
   refine Z5k rfl rfl (Z0x (cs := [vi 5, .string r21.1, .slice none 0 0, .slice none 0 0, v388, vi x391, v427, .slice none 0 0, .slice none 0 0, .bool false]) Z6y Z0u (OB.cells ob462 0 rfl)) ?_
   obtain rfl := Option.some.inj HF
   exact ⟨_, rfl, h445, S463, ⟨_, rfl, (rp_St.2 ⟨_, _, _, _, _, _, rfl, (RS.nil _), (RS.nil _), (rs389.mono ((s400.le).trans ((s417.le).trans ((s435.le).trans ((s446.le).trans s461.le))))), (rs428.mono ((s435.le).trans ((s446.le).trans s461.le))), (RS.nil _), (RS.nil _)⟩)⟩, ob464⟩
  intro J465
  refine Zc <| Z0 <| Wm rfl rfl ?_
  obtain ⟨r259, hr260, HF⟩ := Z5 HF
  refine Wc rfl (Zd (vs := [pt b1 0, .string b'105]) rfl Z53) (Z0p _ hr260 S250.sub (rs5.mono ((s12.le).trans ((s25.le).trans ((s39.le).trans ((s46.le).trans ((s57.le).trans ((s74.le).trans ((s91.le).trans ((s101.le).trans ((s112.le).trans le249)))))))))) ob252) ?_
  rintro _ w262 ⟨h263, s264, rfl, ob265⟩
  have S266 := S250.trans s264 (Zl (.inl (by simp)) Zt)
  refine Z6 <| Z4 <| Z15 HF rfl (fun HF => ?_) (fun HF => ?_)
  ·refine Zc <| Z0 <| Wm rfl rfl ?_
   obtain ⟨r268, hr269, HF⟩ := Z5 HF
   refine Wc rfl (Zd (vs := [pt b1 0, .string b'84]) rfl Z53) (Z0p _ hr269 S266.sub (rs5.mono ((s12.le).trans ((s25.le).trans ((s39.le).trans ((s46.le).trans ((s57.le).trans ((s74.le).trans ((s91.le).trans ((s101.le).trans ((s112.le).trans ((le249).trans s264.le))))))))))) ob265) ?_
   have ob274 := (ob253.step1 s264 (Ne.symm ne14))
   have ob275 := (ob258.step1 s264 (Ne.symm ne41))
   rintro _ w271 ⟨h272, s273, rfl, ob276⟩
   have S277 := S266.trans s273 (Zl (.inl (by simp)) Zt)
   refine Wa rfl rfl <| Z6 <| Z4 <| Z09 (fun E w339 => ∃ (h338 : Hp) (xs344 : List Ex) (v345 : Value), Z96 k (Z8 k) xs3 r21 r268 xs344 = some r ∧ E = [(0, pt b1 0), (2, pt b10 0), (3, pt b37 0), (5, .bool r268.1)] ∧ Stp [b1] w0 h0 w339 h338 ∧ Hle h272 h338 ∧ RS h338 v345 xs344 ∧ Own w339 h338 w0.heap.size 47 6 v345 xs344.length ∧ OB w339 h338 b1 T2 [v4, vi r268.2] ∧ OB w339 h338 b10 56 [vi 0, .string Z1e, .slice none 0 0, .slice none 0 0, .slice none 0 0, vi 0, .slice none 0 0, .slice none 0 0, .slice none 0 0, .bool false] ∧ OB w339 h338 b37 56 [vi 5, .string r21.1, .slice none 0 0, .slice none 0 0, v345, vi 1, .slice none 0 0, .slice none 0 0, .slice none 0 0, .bool false]) ?_ ?_
   ·rintro E w339 ⟨h338, xs344, v345, HF, rfl, S341, le340, rs346, ow347, ob342, ob343, ob348⟩
    refine Zc <| Z0 <| Wm rfl rfl ?_
    obtain ⟨r349, hr350, HF⟩ := Z5 HF
    rcases r349 with t351 | r352
    ·obtain rfl := Z02 HF
     refine Z0h rfl (Zd (vs := [pt b1 0]) rfl Zes) (Z3a _ hr350 S341.sub (rs5.mono ((s12.le).trans ((s25.le).trans ((s39.le).trans ((s46.le).trans ((s57.le).trans ((s74.le).trans ((s91.le).trans ((s101.le).trans ((s112.le).trans ((le249).trans ((s264.le).trans ((s273.le).trans le340))))))))))))) ob342) ?_
     rintro ch358 w359 ⟨ht360, h361, s362, ob357⟩
     refine Ze <| Ze <| Zs ?_
     have S363 := S341.trans s362 (Zl (.inl (by simp)) Zt)
     exact ⟨_, rfl, ht360, h361, S363, ob357⟩
    replace HF := Z0i HF
    refine Wc rfl (Zd (vs := [pt b1 0]) rfl Zes) (Z3a _ hr350 S341.sub (rs5.mono ((s12.le).trans ((s25.le).trans ((s39.le).trans ((s46.le).trans ((s57.le).trans ((s74.le).trans ((s91.le).trans ((s101.le).trans ((s112.le).trans ((le249).trans ((s264.le).trans ((s273.le).trans le340))))))))))))) ob342) ?_
    rintro _ w354 ⟨h355, s356, rfl, ob364⟩
    have S365 := S341.trans s356 (Zl (.inl (by simp)) Zt)
    refine Wv rfl (Z1 rfl Z47) ?_
    have ob366 := (ob348.step1 s356 (Ne.symm ne41))
    refine Zr (vs := [vi r352.1]) rfl rfl rfl rfl Z1s (Z3 rfl Zx) ob366 S365.sub (by simp) (ds := [vi 5, .string r21.1, .slice none 0 0, .slice none 0 0, v345, vi r352.1, .slice none 0 0, .slice none 0 0, .slice none 0 0, .bool false]) rfl (fun w367 s368 ob369 => ?_)
    have S370 := S365.trans1 s368 (.inr g43)
    refine Z6 <| Z4 <| Zc <| Z0 <| Wm rfl rfl <| Z6 <| Z4 <| Z15 HF rfl (fun HF => ?_) (fun HF => ?_)
    ·refine Z0 <| Wv rfl (Z1 rfl Z47) <| Wv rfl (Zb rfl Z04 (OB.cell ob369 (j := 5) rfl)) <| Wv rfl (ov_neg rfl) <| Wv rfl (Z1 rfl Z47) <| Zr (vs := [vi (IntKind.i64.wrap (0 - r352.1))]) rfl rfl rfl rfl Z1s (Z3 rfl Zx) ob369 S370.sub (by simp) (ds := [vi 5, .string r21.1, .slice none 0 0, .slice none 0 0, v345, vi (IntKind.i64.wrap (0 - r352.1)), .slice none 0 0, .slice none 0 0, .slice none 0 0, .bool false]) rfl (fun w372 s373 ob374 => ?_)
     have S375 := S370.trans1 s373 (.inr g43)
     refine Z6 ?_
     have ob466 := ((ob364.step1 s368 ne41).step1 s373 ne41)
     have ob467 := (((ob343.step1 s356 (Ne.symm ne14)).step1 s368 ne42).step1 s373 ne42)
     refine Z01 [0, 2, 3] _ rfl ?_
     exact J465 ⟨h355, r352.2, xs344, v345, IntKind.i64.wrap (0 - r352.1), HF, rfl, S375, (s264.le).trans ((s273.le).trans ((le340).trans ((s356.le).trans ((s368.le).trans s373.le)))), (rs346.mono ((s356.le).trans ((s368.le).trans s373.le))), (((ow347.step s356 (Z2 (ow347.ne_old lt8) Z9)).step s368 (Z2 ((ow347.step s356 (Z2 (ow347.ne_old lt8) Z9)).ne_ob ob366 (by decide)) Z9)).step s373 (Z2 (((ow347.step s356 (Z2 (ow347.ne_old lt8) Z9)).step s368 (Z2 ((ow347.step s356 (Z2 (ow347.ne_old lt8) Z9)).ne_ob ob366 (by decide)) Z9)).ne_ob ob369 (by decide)) Z9)), ob466, ob467, ob374⟩
    refine Zq ?_
    have ob468 := (ob364.step1 s368 ne41)
    have ob469 := ((ob343.step1 s356 (Ne.symm ne14)).step1 s368 ne42)
    refine Z01 [0, 2, 3] _ rfl ?_
    exact J465 ⟨h355, r352.2, xs344, v345, r352.1, HF, rfl, S370, (s264.le).trans ((s273.le).trans ((le340).trans ((s356.le).trans s368.le))), (rs346.mono ((s356.le).trans s368.le)), ((ow347.step s356 (Z2 (ow347.ne_old lt8) Z9)).step s368 (Z2 ((ow347.step s356 (Z2 (ow347.ne_old lt8) Z9)).ne_ob ob366 (by decide)) Z9)), ob468, ob469, ob369⟩
   intro J376
   refine Z09 (fun E w303 => ∃ (h302 : Hp) (x306 : Bool) (xs309 : List Ex) (v310 : Value), Z94 k (Z8 k) xs3 r21 r268 x306 xs309 = some r ∧ E = [(0, pt b1 0), (2, pt b10 0), (3, pt b37 0), (5, .bool r268.1), (33, .bool x306)] ∧ Stp [b1] w0 h0 w303 h302 ∧ Hle h272 h302 ∧ RS h302 v310 xs309 ∧ Own w303 h302 w0.heap.size 47 6 v310 xs309.length ∧ OB w303 h302 b1 T2 [v4, vi r268.2] ∧ OB w303 h302 b10 56 [vi 0, .string Z1e, .slice none 0 0, .slice none 0 0, .slice none 0 0, vi 0, .slice none 0 0, .slice none 0 0, .slice none 0 0, .bool false] ∧ OB w303 h302 b37 56 [vi 5, .string r21.1, .slice none 0 0, .slice none 0 0, v310, vi 1, .slice none 0 0, .slice none 0 0, .slice none 0 0, .bool false]) ?_ ?_
   ·rintro E w303 ⟨h302, x306, xs309, v310, HF, rfl, S305, le304, rs311, ow312, ob307, ob308, ob313⟩
    refine Z15 HF rfl (fun HF => ?_) (fun HF => ?_)
    ·refine Z0 <| Wm rfl rfl ?_
     obtain ⟨r315, hr316, HF⟩ := Z5 HF
     rcases r315 with t317 | r318
     ·obtain rfl := Z02 HF
      refine Z0h rfl (Zd (vs := [pt b1 0]) rfl Z9l) (Z1o _ hr316 S305.sub (rs5.mono ((s12.le).trans ((s25.le).trans ((s39.le).trans ((s46.le).trans ((s57.le).trans ((s74.le).trans ((s91.le).trans ((s101.le).trans ((s112.le).trans ((le249).trans ((s264.le).trans ((s273.le).trans le304))))))))))))) ob307) ?_
      rintro ch323 w324 ⟨ht325, h326, s327⟩
      refine Ze <| Ze <| Zs ?_
      have S328 := S305.trans0 s327
      have ob329 := (ob307.step0 s327)
      exact ⟨_, rfl, ht325, h326, S328, ob329⟩
     replace HF := Z0i HF
     refine Wc rfl (Zd (vs := [pt b1 0]) rfl Z9l) (Z1o _ hr316 S305.sub (rs5.mono ((s12.le).trans ((s25.le).trans ((s39.le).trans ((s46.le).trans ((s57.le).trans ((s74.le).trans ((s91.le).trans ((s101.le).trans ((s112.le).trans ((le249).trans ((s264.le).trans ((s273.le).trans le304))))))))))))) ob307) ?_
     rintro v319 w320 ⟨h321, s322, rfl⟩
     have S330 := S305.trans0 s322
     refine Z6 ?_
     have ob377 := (ob307.step0 s322)
     have ob378 := (ob308.step0 s322)
     have ob379 := (ob313.step0 s322)
     refine Z01 [0, 2, 3, 5] _ rfl ?_
     exact J376 ⟨h321, xs309, v310, HF, rfl, S330, (le304).trans s322.le, (rs311.mono (s322.le)), (ow312.step0 s322), ob377, ob378, ob379⟩
    refine Zq <| Z01 [0, 2, 3, 5] _ rfl ?_
    exact J376 ⟨h302, xs309, v310, HF, rfl, S305, le304, rs311, ow312, ob307, ob308, ob313⟩
   intro J331
   refine Z0 <| Wm rfl rfl ?_
   obtain ⟨r278, hr279, HF⟩ := Z5 HF
   refine Wc rfl (Zd (vs := [pt b1 0]) rfl Z7u) (Z1a _ hr279 S277.sub (rs5.mono ((s12.le).trans ((s25.le).trans ((s39.le).trans ((s46.le).trans ((s57.le).trans ((s74.le).trans ((s91.le).trans ((s101.le).trans ((s112.le).trans ((le249).trans ((s264.le).trans s273.le)))))))))))) ob276) ?_
   have ob286 := (ob274.step1 s273 (Ne.symm ne14))
   have ob287 := (ob275.step1 s273 (Ne.symm ne41))
   rintro _ w281 ⟨h282, s283, ⟨cs284, rfl, r285⟩⟩
   have S288 := S277.trans0 s283
   obtain rfl := Z67.1 r285
   refine Wv rfl (Z9k rfl Zdr Z04 rfl) <| Wv rfl (Z1g rfl rfl) <| Wm rfl rfl <| Z27 28 HF rfl (fun HF => ?_) (fun HF => ?_)
   ·refine Wm rfl rfl ?_
    have ob290 := (ob276.step0 s283)
    obtain ⟨r291, hr292, HF⟩ := Z5 HF
    refine Wc rfl (Zd (vs := [pt b1 0]) rfl Z7u) (Z1a _ hr292 S288.sub (rs5.mono ((s12.le).trans ((s25.le).trans ((s39.le).trans ((s46.le).trans ((s57.le).trans ((s74.le).trans ((s91.le).trans ((s101.le).trans ((s112.le).trans ((le249).trans ((s264.le).trans ((s273.le).trans s283.le))))))))))))) ob290) ?_
    have ob299 := (ob286.step0 s283)
    have ob300 := (ob287.step0 s283)
    rintro _ w294 ⟨h295, s296, ⟨cs297, rfl, r298⟩⟩
    have S301 := S288.trans0 s296
    obtain rfl := Z67.1 r298
    refine Wv rfl (Z9k rfl t_fld_38_1 Z32 rfl) <| Wv rfl (Z0d rfl rfl) <| Wv rfl (Zj rfl rfl) <| Z6 ?_
    have ob332 := (ob290.step0 s296)
    have ob333 := (ob299.step0 s296)
    have ob334 := (ob300.step0 s296)
    refine Z01 [0, 2, 3, 5, 33] _ rfl ?_
    exact J331 ⟨h295, bEq r291.text (⟨#[48]⟩ : ByteArray), xs254, v255, HF, rfl, S301, (s283.le).trans s296.le, (rs256.mono ((s264.le).trans ((s273.le).trans ((s283.le).trans s296.le)))), ((((ow257.step s264 (Z2 (ow257.ne_old lt8) Z9)).step s273 (Z2 ((ow257.step s264 (Z2 (ow257.ne_old lt8) Z9)).ne_old lt8) Z9)).step0 s283).step0 s296), ob332, ob333, ob334⟩
   refine Wp rfl <| Wp rfl <| Wp rfl <| Wp rfl <| Wv rfl (Zi rfl rfl) <| Z6 ?_
   have ob335 := (ob276.step0 s283)
   have ob336 := (ob286.step0 s283)
   have ob337 := (ob287.step0 s283)
   refine Z01 [0, 2, 3, 5, 33] _ rfl ?_
   exact J331 ⟨h282, false, xs254, v255, HF, rfl, S288, s283.le, (rs256.mono ((s264.le).trans ((s273.le).trans s283.le))), (((ow257.step s264 (Z2 (ow257.ne_old lt8) Z9)).step s273 (Z2 ((ow257.step s264 (Z2 (ow257.ne_old lt8) Z9)).ne_old lt8) Z9)).step0 s283), ob335, ob336, ob337⟩
  refine Zq ?_
  have ob470 := (ob253.step1 s264 (Ne.symm ne14))
  have ob471 := (ob258.step1 s264 (Ne.symm ne41))
  refine Z01 [0, 2, 3] _ rfl ?_
  exact J465 ⟨h263, r259.2, xs254, v255, 1, HF, rfl, S266, s264.le, (rs256.mono (s264.le)), (ow257.step s264 (Z2 (ow257.ne_old lt8) Z9)), ob265, ob470, ob471⟩
 intro J472
 refine WC.drawnA Z6h S121.sub (fun w122 s123 => ?_)
 have S124 := S121.trans0 s123
 refine WA.two (i := 0) (j := 1) (by kernel_rfl) rfl rfl ?_ ?_
 ·skip
  have ob125 := ((ob102.step1 s112 (Ne.symm ne93)).step0 s123)
  refine Wv rfl (Z2t (cs := [vi r70.1.op, vi r70.1.kind, vi r70.1.n, .string r70.1.s, .string r70.1.f, v98]) rfl Z54 Z0l (OB.cells ob125 0 rfl)) <| Z6 <| Z1h <| WA.one (i := 1) (by kernel_rfl) rfl <| Wm rfl rfl <| Z6 <| Z1h <| WA.one (i := 2) (by kernel_rfl) rfl ?_
  have ob126 := (ob120.step0 s123)
  obtain ⟨r127, hr128, HF⟩ := Z5 HF
  rcases r127 with t129 | r130
  ·obtain rfl := Z02 HF
   refine Z0h rfl (Zd (vs := [pt b1 0]) rfl Z3l) (Z08 _ hr128 S124.sub (rs5.mono ((s12.le).trans ((s25.le).trans ((s39.le).trans ((s46.le).trans ((s57.le).trans ((s74.le).trans ((s91.le).trans ((s101.le).trans ((s112.le).trans s123.le)))))))))) ob126) ?_
   rintro ch136 w137 ⟨ht138, h139, s140, ob135⟩
   refine WQ.anyPanic <| Ze <| Zs ?_
   have S141 := S124.trans s140 (Zl (.inl (by simp)) Zt)
   exact ⟨_, rfl, ht138, h139, S141, ob135⟩
  replace HF := Z0i HF
  refine Wc rfl (Zd (vs := [pt b1 0]) rfl Z3l) (Z08 _ hr128 S124.sub (rs5.mono ((s12.le).trans ((s25.le).trans ((s39.le).trans ((s46.le).trans ((s57.le).trans ((s74.le).trans ((s91.le).trans ((s101.le).trans ((s112.le).trans s123.le)))))))))) ob126) ?_
  rintro _ w132 ⟨h133, s134, ⟨cs142, rfl, r143⟩, ob144⟩
  have S145 := S124.trans s134 (Zl (.inl (by simp)) Zt)
  refine Z6 <| Z1h <| WA.one (i := 3) (by kernel_rfl) rfl ?_
  obtain ⟨v146, rfl, rs147⟩ := Zab.1 r143
  have ob155 := (((((ob86.step0 s91).step1 s101 ne94).step1 s112 (Ne.symm ne14)).step0 s123).step1 s134 (Ne.symm ne14))
  have ob156 := (((((ob87.step0 s91).step1 s101 ne95).step1 s112 (Ne.symm ne41)).step0 s123).step1 s134 (Ne.symm ne41))
  have ob157 := (ob125.step1 s134 (Ne.symm ne93))
  refine Z10 (us := [.agg #[vi r70.1.op, vi r70.1.kind, vi r70.1.n, .string r70.1.s, .string r70.1.f, v98], .agg #[vi r130.1.op, vi r130.1.kind, vi r130.1.n, .string r130.1.s, .string r130.1.f, v146]]) (cs := [vi r70.1.op, vi r70.1.kind, vi r70.1.n, .string r70.1.s, .string r70.1.f, v98, vi r130.1.op, vi r130.1.kind, vi r130.1.n, .string r130.1.s, .string r130.1.f, v146]) rfl rfl rfl Z0v Z0l Z1w rfl (Z0c rfl (Z0c rfl Zci)) rfl rfl rfl S145.sub (fun w148 h149 b150 hb151 s152 hk153 hc154 => ?_)
  have S158 := S145.trans0 s152
  have rs159 : RS h149 (sl b150 0 2 2) ([(Ex.mk r70.1.op r70.1.kind r70.1.n r70.1.s r70.1.f r70.1.args), r130.1] : List Ex) := RS.litL _ [[vi r70.1.op, vi r70.1.kind, vi r70.1.n, .string r70.1.s, .string r70.1.f, v98], [vi r130.1.op, vi r130.1.kind, vi r130.1.n, .string r130.1.s, .string r130.1.f, v146]] rfl rfl hc154 ⟨(Zab.2 ⟨_, rfl, (rs99.mono ((s101.le).trans ((s112.le).trans ((s123.le).trans ((s134.le).trans s152.le)))))⟩), (Zab.2 ⟨_, rfl, (rs147.mono (s152.le))⟩), trivial⟩
  have ow160 := Own.lit (base := w0.heap.size) (sz := 6) (m := 2) hk153 hc154 (by rw [hb151]; exact S145.size) rfl (by decide)
  refine Z6 <| Z1h <| WA.one (i := 4) (by kernel_rfl) rfl <| Wv rfl (Z1 rfl Z3u) <| Z6 <| Z1h <| WA.one (i := 5) (by kernel_rfl) rfl ?_
  have ob161 := (ob156.step0 s152)
  refine Zr (vs := [sl b150 0 2 2]) rfl rfl rfl rfl Zdc (Z3 rfl Zx) ob161 S158.sub (by simp) (ds := [vi 5, .string r21.1, .slice none 0 0, .slice none 0 0, sl b150 0 2 2, vi 1, .slice none 0 0, .slice none 0 0, .slice none 0 0, .bool false]) rfl (fun w162 s163 ob164 => ?_)
  have S165 := S158.trans1 s163 (.inr g43)
  refine Z6 <| Z1h <| WA.fin (by kernel_rfl) ?_
  have ob473 := ((ob144.step0 s152).step1 s163 ne41)
  have ob474 := ((ob155.step0 s152).step1 s163 ne42)
  refine Z01 [0, 2, 3] _ rfl ?_
  exact J472 ⟨h149, r130.2, [(Ex.mk r70.1.op r70.1.kind r70.1.n r70.1.s r70.1.f r70.1.args), r130.1], sl b150 0 2 2, HF, rfl, S165, (s123.le).trans ((s134.le).trans ((s152.le).trans s163.le)), (rs159.mono (s163.le)), (ow160.step s163 (Z2 (ow160.ne_ob ob161 (by decide)) Z9)), ob473, ob474, ob164⟩
 skip
 refine Wm rfl rfl <| Z6 <| Z1h <| WA.two (i := 0) (j := 2) (by kernel_rfl) rfl rfl ?_ ?_
 ·skip
  have ob166 := ((ob102.step1 s112 (Ne.symm ne93)).step0 s123)
  refine Wv rfl (Z2t (cs := [vi r70.1.op, vi r70.1.kind, vi r70.1.n, .string r70.1.s, .string r70.1.f, v98]) rfl Z54 Z0l (OB.cells ob166 0 rfl)) <| Z6 <| Z1h <| WA.one (i := 2) (by kernel_rfl) rfl ?_
  have ob167 := (ob120.step0 s123)
  obtain ⟨r168, hr169, HF⟩ := Z5 HF
  rcases r168 with t170 | r171
  ·obtain rfl := Z02 HF
   refine Z0h rfl (Zd (vs := [pt b1 0]) rfl Z3l) (Z08 _ hr169 S124.sub (rs5.mono ((s12.le).trans ((s25.le).trans ((s39.le).trans ((s46.le).trans ((s57.le).trans ((s74.le).trans ((s91.le).trans ((s101.le).trans ((s112.le).trans s123.le)))))))))) ob167) ?_
   rintro ch177 w178 ⟨ht179, h180, s181, ob176⟩
   refine WQ.anyPanic <| Ze <| Zs ?_
   have S182 := S124.trans s181 (Zl (.inl (by simp)) Zt)
   exact ⟨_, rfl, ht179, h180, S182, ob176⟩
  replace HF := Z0i HF
  refine Wc rfl (Zd (vs := [pt b1 0]) rfl Z3l) (Z08 _ hr169 S124.sub (rs5.mono ((s12.le).trans ((s25.le).trans ((s39.le).trans ((s46.le).trans ((s57.le).trans ((s74.le).trans ((s91.le).trans ((s101.le).trans ((s112.le).trans s123.le)))))))))) ob167) ?_
  rintro _ w173 ⟨h174, s175, ⟨cs183, rfl, r184⟩, ob185⟩
  have S186 := S124.trans s175 (Zl (.inl (by simp)) Zt)
  refine Z6 <| Z1h <| WA.one (i := 3) (by kernel_rfl) rfl ?_
  obtain ⟨v187, rfl, rs188⟩ := Zab.1 r184
  have ob196 := (((((ob86.step0 s91).step1 s101 ne94).step1 s112 (Ne.symm ne14)).step0 s123).step1 s175 (Ne.symm ne14))
  have ob197 := (((((ob87.step0 s91).step1 s101 ne95).step1 s112 (Ne.symm ne41)).step0 s123).step1 s175 (Ne.symm ne41))
  have ob198 := (ob166.step1 s175 (Ne.symm ne93))
  refine Z10 (us := [.agg #[vi r70.1.op, vi r70.1.kind, vi r70.1.n, .string r70.1.s, .string r70.1.f, v98], .agg #[vi r171.1.op, vi r171.1.kind, vi r171.1.n, .string r171.1.s, .string r171.1.f, v187]]) (cs := [vi r70.1.op, vi r70.1.kind, vi r70.1.n, .string r70.1.s, .string r70.1.f, v98, vi r171.1.op, vi r171.1.kind, vi r171.1.n, .string r171.1.s, .string r171.1.f, v187]) rfl rfl rfl Z0v Z0l Z1w rfl (Z0c rfl (Z0c rfl Zci)) rfl rfl rfl S186.sub (fun w189 h190 b191 hb192 s193 hk194 hc195 => ?_)
  have S199 := S186.trans0 s193
  have rs200 : RS h190 (sl b191 0 2 2) ([(Ex.mk r70.1.op r70.1.kind r70.1.n r70.1.s r70.1.f r70.1.args), r171.1] : List Ex) := RS.litL _ [[vi r70.1.op, vi r70.1.kind, vi r70.1.n, .string r70.1.s, .string r70.1.f, v98], [vi r171.1.op, vi r171.1.kind, vi r171.1.n, .string r171.1.s, .string r171.1.f, v187]] rfl rfl hc195 ⟨(Zab.2 ⟨_, rfl, (rs99.mono ((s101.le).trans ((s112.le).trans ((s123.le).trans ((s175.le).trans s193.le)))))⟩), (Zab.2 ⟨_, rfl, (rs188.mono (s193.le))⟩), trivial⟩
  have ow201 := Own.lit (base := w0.heap.size) (sz := 6) (m := 2) hk194 hc195 (by rw [hb192]; exact S186.size) rfl (by decide)
  refine Z6 <| Z1h <| WA.one (i := 4) (by kernel_rfl) rfl <| Wv rfl (Z1 rfl Z3u) <| Z6 <| Z1h <| WA.one (i := 5) (by kernel_rfl) rfl ?_
  have ob202 := (ob197.step0 s193)
  refine Zr (vs := [sl b191 0 2 2]) rfl rfl rfl rfl Zdc (Z3 rfl Zx) ob202 S199.sub (by simp) (ds := [vi 5, .string r21.1, .slice none 0 0, .slice none 0 0, sl b191 0 2 2, vi 1, .slice none 0 0, .slice none 0 0, .slice none 0 0, .bool false]) rfl (fun w203 s204 ob205 => ?_)
  have S206 := S199.trans1 s204 (.inr g43)
  refine Z6 <| Z1h <| WA.fin (by kernel_rfl) ?_
  have ob475 := ((ob185.step0 s193).step1 s204 ne41)
  have ob476 := ((ob196.step0 s193).step1 s204 ne42)
  refine Z01 [0, 2, 3] _ rfl ?_
  exact J472 ⟨h190, r171.2, [(Ex.mk r70.1.op r70.1.kind r70.1.n r70.1.s r70.1.f r70.1.args), r171.1], sl b191 0 2 2, HF, rfl, S206, (s123.le).trans ((s175.le).trans ((s193.le).trans s204.le)), (rs200.mono (s204.le)), (ow201.step s204 (Z2 (ow201.ne_ob ob202 (by decide)) Z9)), ob475, ob476, ob205⟩
 skip
 have ob207 := (ob120.step0 s123)
 obtain ⟨r208, hr209, HF⟩ := Z5 HF
 rcases r208 with t210 | r211
 ·obtain rfl := Z02 HF
  refine Z0h rfl (Zd (vs := [pt b1 0]) rfl Z3l) (Z08 _ hr209 S124.sub (rs5.mono ((s12.le).trans ((s25.le).trans ((s39.le).trans ((s46.le).trans ((s57.le).trans ((s74.le).trans ((s91.le).trans ((s101.le).trans ((s112.le).trans s123.le)))))))))) ob207) ?_
  rintro ch217 w218 ⟨ht219, h220, s221, ob216⟩
  refine WQ.anyPanic <| Ze <| Zs ?_
  have S222 := S124.trans s221 (Zl (.inl (by simp)) Zt)
  exact ⟨_, rfl, ht219, h220, S222, ob216⟩
 replace HF := Z0i HF
 refine Wc rfl (Zd (vs := [pt b1 0]) rfl Z3l) (Z08 _ hr209 S124.sub (rs5.mono ((s12.le).trans ((s25.le).trans ((s39.le).trans ((s46.le).trans ((s57.le).trans ((s74.le).trans ((s91.le).trans ((s101.le).trans ((s112.le).trans s123.le)))))))))) ob207) ?_
 rintro _ w213 ⟨h214, s215, ⟨cs223, rfl, r224⟩, ob225⟩
 have S226 := S124.trans s215 (Zl (.inl (by simp)) Zt)
 refine Z6 <| Z1h <| WA.one (i := 0) (by kernel_rfl) rfl ?_
 have ob227 := (((ob102.step1 s112 (Ne.symm ne93)).step0 s123).step1 s215 (Ne.symm ne93))
 refine Wv rfl (Z2t (cs := [vi r70.1.op, vi r70.1.kind, vi r70.1.n, .string r70.1.s, .string r70.1.f, v98]) rfl Z54 Z0l (OB.cells ob227 0 rfl)) <| Z6 <| Z1h <| WA.one (i := 3) (by kernel_rfl) rfl ?_
 obtain ⟨v228, rfl, rs229⟩ := Zab.1 r224
 have ob237 := (((((ob86.step0 s91).step1 s101 ne94).step1 s112 (Ne.symm ne14)).step0 s123).step1 s215 (Ne.symm ne14))
 have ob238 := (((((ob87.step0 s91).step1 s101 ne95).step1 s112 (Ne.symm ne41)).step0 s123).step1 s215 (Ne.symm ne41))
 refine Z10 (us := [.agg #[vi r70.1.op, vi r70.1.kind, vi r70.1.n, .string r70.1.s, .string r70.1.f, v98], .agg #[vi r211.1.op, vi r211.1.kind, vi r211.1.n, .string r211.1.s, .string r211.1.f, v228]]) (cs := [vi r70.1.op, vi r70.1.kind, vi r70.1.n, .string r70.1.s, .string r70.1.f, v98, vi r211.1.op, vi r211.1.kind, vi r211.1.n, .string r211.1.s, .string r211.1.f, v228]) rfl rfl rfl Z0v Z0l Z1w rfl (Z0c rfl (Z0c rfl Zci)) rfl rfl rfl S226.sub (fun w230 h231 b232 hb233 s234 hk235 hc236 => ?_)
 have S239 := S226.trans0 s234
 have rs240 : RS h231 (sl b232 0 2 2) ([(Ex.mk r70.1.op r70.1.kind r70.1.n r70.1.s r70.1.f r70.1.args), r211.1] : List Ex) := RS.litL _ [[vi r70.1.op, vi r70.1.kind, vi r70.1.n, .string r70.1.s, .string r70.1.f, v98], [vi r211.1.op, vi r211.1.kind, vi r211.1.n, .string r211.1.s, .string r211.1.f, v228]] rfl rfl hc236 ⟨(Zab.2 ⟨_, rfl, (rs99.mono ((s101.le).trans ((s112.le).trans ((s123.le).trans ((s215.le).trans s234.le)))))⟩), (Zab.2 ⟨_, rfl, (rs229.mono (s234.le))⟩), trivial⟩
 have ow241 := Own.lit (base := w0.heap.size) (sz := 6) (m := 2) hk235 hc236 (by rw [hb233]; exact S226.size) rfl (by decide)
 refine Z6 <| Z1h <| WA.one (i := 4) (by kernel_rfl) rfl <| Wv rfl (Z1 rfl Z3u) <| Z6 <| Z1h <| WA.one (i := 5) (by kernel_rfl) rfl ?_
 have ob242 := (ob238.step0 s234)
 refine Zr (vs := [sl b232 0 2 2]) rfl rfl rfl rfl Zdc (Z3 rfl Zx) ob242 S239.sub (by simp) (ds := [vi 5, .string r21.1, .slice none 0 0, .slice none 0 0, sl b232 0 2 2, vi 1, .slice none 0 0, .slice none 0 0, .slice none 0 0, .bool false]) rfl (fun w243 s244 ob245 => ?_)
 have S246 := S239.trans1 s244 (.inr g43)
 refine Z6 <| Z1h <| WA.fin (by kernel_rfl) ?_
 have ob477 := ((ob225.step0 s234).step1 s244 ne41)
 have ob478 := ((ob237.step0 s234).step1 s244 ne42)
 refine Z01 [0, 2, 3] _ rfl ?_
 exact J472 ⟨h231, r211.2, [(Ex.mk r70.1.op r70.1.kind r70.1.n r70.1.s r70.1.f r70.1.args), r211.1], sl b232 0 2 2, HF, rfl, S246, (s123.le).trans ((s215.le).trans ((s234.le).trans s244.le)), (rs240.mono (s244.le)), (ow241.step s244 (Z2 (ow241.ne_ob ob242 (by decide)) Z9)), ob477, ob478, ob245⟩
theorem s_parse_Parser_other (k : Nat) (IH : ∀ j, j ≤ k → Z2e (Z8 j).parse_Parser_Text ∧ Z2g (Z8 j).parse_Parser_count ∧ Z2i (Z8 j).parse_Parser_other ∧ Z2k (Z8 j).parse_Parser_while ∧ Z28 (Z8 j).parse_Parser_branch ∧ Z2a (Z8 j).parse_Parser_choice ∧ Z29 (Z8 j).parse_Parser_repeat) : Z2i (Ze0 k (Z8 k)) := by
 intro xs3 x6 x10 x11 xs12 xs15 xs18 x21 xs22 xs25 xs28 x31 r HF w0 h0 b1 T2 v4 b8 T9 v13 v16 v19 v23 v26 v29 hs0 rs5 rs14 rs17 rs20 rs24 rs27 rs30 ob7 ob32 ne33
 have S0 : Stp [b1, b8] w0 h0 w0 h0 := Stp.refl hs0 _
 have lt34 : b1 < w0.heap.size := OB.lt ob7
 have lt35 : b8 < w0.heap.size := OB.lt ob32
 refine Z4o (n := 14) Tryz.func156 rfl Tryz.ntmps156 rfl [(0, pt b1 0), (1, pt b8 0)] rfl <| Zc <| Z0 <| Wm rfl rfl ?_
 obtain ⟨r36, hr37, HF⟩ := Z5 HF
 refine Wc rfl (Zd (vs := [pt b1 0, .string b'3]) rfl Z53) (Z0p _ hr37 S0.sub rs5 ob7) ?_
 rintro _ w39 ⟨h40, s41, rfl, ob42⟩
 have S43 := S0.trans s41 (Zl (.inl (by simp)) Zt)
 refine Z6 <| Z4 <| Z15 HF rfl (fun HF => ?_) (fun HF => ?_)
 ·refine Zc <| Z0 <| Wm rfl rfl <| Wv rfl (Zp rfl) <| Wv rfl (Z1 rfl Z3f) ?_
  have ob45 := (ob32.step1 s41 (Ne.symm ne33))
  refine Zr (vs := [.bool true]) rfl rfl rfl rfl t_size_4 (Z3 rfl Zx) ob45 S43.sub (by simp) (ds := [vi x10, .string x11, v13, v16, v19, vi x21, v23, v26, v29, .bool true]) rfl (fun w46 s47 ob48 => ?_)
  have S49 := S43.trans1 s47 (.inl (by simp))
  refine Z6 <| Z4 <| Z0 <| Wm rfl rfl <| Wm rfl rfl ?_
  have ob50 := (ob42.step1 s47 ne33)
  obtain ⟨r51, hr52, HF⟩ := Z5 HF
  rcases r51 with t53 | r54
  ·obtain rfl := Z02 HF
   refine Z0h rfl (Zd (vs := [pt b1 0]) rfl Z92) ((IH _ (Nat.le_refl _)).1 hr52 S49.sub (rs5.mono ((s41.le).trans s47.le)) ob50) ?_
   rintro ch60 w61 ⟨ht62, h63, s64, ob59⟩
   refine Zs ?_
   have S65 := S49.trans s64 (Zl (.inl (by simp)) Zt)
   have ob66 := (ob48.step1 s64 (Ne.symm ne33))
   exact ⟨_, rfl, ht62, h63, S65, ob59, ⟨_, (rs30.mono ((s41.le).trans ((s47.le).trans s64.le))), ob66⟩⟩
  replace HF := Z0i HF
  refine Wc rfl (Zd (vs := [pt b1 0]) rfl Z92) ((IH _ (Nat.le_refl _)).1 hr52 S49.sub (rs5.mono ((s41.le).trans s47.le)) ob50) ?_
  rintro v67 w56 ⟨h57, s58, rs68, ob69⟩
  have S70 := S49.trans s58 (Zl (.inl (by simp)) Zt)
  refine Wv rfl (Zp rfl) <| Wv rfl (Z1 rfl Z3s) ?_
  have ob71 := (ob48.step1 s58 (Ne.symm ne33))
  refine Zr (vs := [v67]) rfl rfl rfl (RS.cellsL rs68) Zga (Z3 (RS.one rs68) Zx) ob71 S70.sub (by simp) (ds := [vi x10, .string x11, v13, v16, v19, vi x21, v23, v26, v67, .bool true]) rfl (fun w72 s73 ob74 => ?_)
  have S75 := S70.trans1 s73 (.inl (by simp))
  refine Z6 ?_
  have ob76 := (ob69.step1 s73 ne33)
  refine Z6j rfl ?_
  obtain rfl := Option.some.inj HF
  exact ⟨_, rfl, h57, S75, rfl, ob76, ⟨_, (rs68.mono (s73.le)), ob74⟩⟩
 refine Zq ?_
 have ob77 := (ob32.step1 s41 (Ne.symm ne33))
 refine Z6j rfl ?_
 obtain rfl := Option.some.inj HF
 exact ⟨_, rfl, h40, S43, rfl, ob42, ⟨_, (rs30.mono (s41.le)), ob77⟩⟩
theorem s_parse_Parser_while (k : Nat) (IH : ∀ j, j ≤ k → Z2e (Z8 j).parse_Parser_Text ∧ Z2g (Z8 j).parse_Parser_count ∧ Z2i (Z8 j).parse_Parser_other ∧ Z2k (Z8 j).parse_Parser_while ∧ Z28 (Z8 j).parse_Parser_branch ∧ Z2a (Z8 j).parse_Parser_choice ∧ Z29 (Z8 j).parse_Parser_repeat) : Z2k (Zdx k (Z8 k)) := by
 intro xs3 x6 r HF w0 h0 b1 T2 v4 hs0 rs5 ob7
 have S0 : Stp [b1] w0 h0 w0 h0 := Stp.refl hs0 _
 have lt8 : b1 < w0.heap.size := OB.lt ob7
 refine Z4o (n := 16) Tryz.func103 rfl Tryz.ntmps103 rfl [(0, pt b1 0)] rfl <| Zc <| Z0 <| Z19 (zs := [vi 0, .string Z1e, .slice none 0 0, .slice none 0 0, .slice none 0 0, vi 0, .slice none 0 0, .slice none 0 0, .slice none 0 0, .bool false]) rfl rfl Z38 rfl S0.sub (fun w9 b10 hb11 s12 ob13 => ?_)
 have ne14 : b1 ≠ b10 := ob7.ne_new hb11
 have g15 : w0.heap.size ≤ b10 := by rw [hb11]; exact S0.size
 have S16 := S0.trans0 s12
 refine Z6 <| Z4 <| Zc <| Z0 <| Wm rfl rfl ?_
 have ob17 := (ob7.step0 s12)
 obtain ⟨r18, hr19, HF⟩ := Z5 HF
 rcases r18 with t20 | r21
 ·obtain rfl := Z02 HF
  refine Z0h rfl (Zd (vs := [pt b1 0]) rfl Z3l) (Z08 _ hr19 S16.sub (rs5.mono (s12.le)) ob17) ?_
  rintro ch27 w28 ⟨ht29, h30, s31, ob26⟩
  refine Ze <| Zs ?_
  have S32 := S16.trans s31 (Zl (.inl (by simp)) Zt)
  exact ⟨_, rfl, ht29, h30, S32, ob26⟩
 replace HF := Z0i HF
 refine Wc rfl (Zd (vs := [pt b1 0]) rfl Z3l) (Z08 _ hr19 S16.sub (rs5.mono (s12.le)) ob17) ?_
 rintro _ w23 ⟨h24, s25, ⟨cs33, rfl, r34⟩, ob35⟩
 have S36 := S16.trans s25 (Zl (.inl (by simp)) Zt)
 obtain ⟨v37, rfl, rs38⟩ := Zab.1 r34
 have ob46 := (ob13.step1 s25 (Ne.symm ne14))
 refine Z10 (us := [.agg #[vi r21.1.op, vi r21.1.kind, vi r21.1.n, .string r21.1.s, .string r21.1.f, v37]]) (cs := [vi r21.1.op, vi r21.1.kind, vi r21.1.n, .string r21.1.s, .string r21.1.f, v37]) rfl rfl rfl Z0v Z0l Z1w rfl (Z0c rfl Zci) rfl rfl rfl S36.sub (fun w39 h40 b41 hb42 s43 hk44 hc45 => ?_)
 have S47 := S36.trans0 s43
 have rs48 : RS h40 (sl b41 0 1 1) ([r21.1] : List Ex) := RS.litL _ [[vi r21.1.op, vi r21.1.kind, vi r21.1.n, .string r21.1.s, .string r21.1.f, v37]] rfl rfl hc45 ⟨(Zab.2 ⟨_, rfl, (rs38.mono (s43.le))⟩), trivial⟩
 have ow49 := Own.lit (base := w0.heap.size) (sz := 6) (m := 1) hk44 hc45 (by rw [hb42]; exact S36.size) rfl (by decide)
 refine Wv rfl (Z3b (vs := [(0, vi 6), (4, sl b41 0 1 1)]) (cs := [vi 6, .string Z1e, .slice none 0 0, .slice none 0 0, sl b41 0 1 1, vi 0, .slice none 0 0, .slice none 0 0, .slice none 0 0, .bool false]) rfl Za1 Z38 rfl) ?_
 have ob50 := (ob35.step0 s43)
 have ob51 := (ob46.step0 s43)
 refine Z19 (zs := [vi 0, .string Z1e, .slice none 0 0, .slice none 0 0, .slice none 0 0, vi 0, .slice none 0 0, .slice none 0 0, .slice none 0 0, .bool false]) rfl rfl Z38 rfl S47.sub (fun w52 b53 hb54 s55 ob56 => ?_)
 have ne57 : b1 ≠ b53 := ob50.ne_new hb54
 have ne58 : b10 ≠ b53 := ob51.ne_new hb54
 have g59 : w0.heap.size ≤ b53 := by rw [hb54]; exact S47.size
 have S60 := S47.trans0 s55
 refine Zr (vs := [vi 6, .string Z1e, .slice none 0 0, .slice none 0 0, sl b41 0 1 1, vi 0, .slice none 0 0, .slice none 0 0, .slice none 0 0, .bool false]) rfl rfl rfl rfl Z0u (Z3 rfl (Z3 rfl (Z3 rfl (Z3 rfl (Z3 rfl (Z3 rfl (Z3 rfl (Z3 rfl (Z3 rfl (Z3 rfl Zx)))))))))) ob56 S60.sub (by simp) (ds := [vi 6, .string Z1e, .slice none 0 0, .slice none 0 0, sl b41 0 1 1, vi 0, .slice none 0 0, .slice none 0 0, .slice none 0 0, .bool false]) rfl (fun w61 s62 ob63 => ?_)
 have S64 := S60.trans1 s62 (.inr g59)
 refine Z6 <| Z4 <| Zc <| Z0 <| Wm rfl rfl ?_
 have ob65 := ((ob50.step0 s55).step1 s62 ne57)
 obtain ⟨r66, hr67, HF⟩ := Z5 HF
 rcases r66 with t68 | r69
 ·obtain rfl := Z02 HF
  have ob74 := ((ob51.step0 s55).step1 s62 ne58)
  refine Z0h rfl (Zd (vs := [pt b1 0, .string b'2]) rfl Z20) (Zn _ hr67 S64.sub (rs5.mono ((s12.le).trans ((s25.le).trans ((s43.le).trans ((s55.le).trans s62.le))))) ob65) ?_
  rintro ch76 w77 ⟨ht78, h79, s80, ob75⟩
  refine Ze <| Zs ?_
  have S81 := S64.trans s80 (Zl (.inl (by simp)) Zt)
  exact ⟨_, rfl, ht78, h79, S81, ob75⟩
 replace HF := Z0i HF
 refine Wc rfl (Zd (vs := [pt b1 0, .string b'2]) rfl Z20) (Zn _ hr67 S64.sub (rs5.mono ((s12.le).trans ((s25.le).trans ((s43.le).trans ((s55.le).trans s62.le))))) ob65) ?_
 have ob82 := ((ob51.step0 s55).step1 s62 ne58)
 rintro v70 w71 ⟨h72, s73, rfl, ob83⟩
 have S84 := S64.trans s73 (Zl (.inl (by simp)) Zt)
 refine Z6 <| Z4 <| Zc <| Z0 <| Wm rfl rfl ?_
 obtain ⟨r85, hr86, HF⟩ := Z5 HF
 rcases r85 with t87 | r88
 ·obtain rfl := Z02 HF
  have ob93 := (ob82.step1 s73 (Ne.symm ne14))
  have ob94 := (ob63.step1 s73 (Ne.symm ne57))
  refine Z0h rfl (Zd (vs := [pt b1 0]) rfl Z92) ((IH _ (Nat.le_refl _)).1 hr86 S84.sub (rs5.mono ((s12.le).trans ((s25.le).trans ((s43.le).trans ((s55.le).trans ((s62.le).trans s73.le)))))) ob83) ?_
  rintro ch96 w97 ⟨ht98, h99, s100, ob95⟩
  refine Ze <| Zs ?_
  have S101 := S84.trans s100 (Zl (.inl (by simp)) Zt)
  exact ⟨_, rfl, ht98, h99, S101, ob95⟩
 replace HF := Z0i HF
 refine Wc rfl (Zd (vs := [pt b1 0]) rfl Z92) ((IH _ (Nat.le_refl _)).1 hr86 S84.sub (rs5.mono ((s12.le).trans ((s25.le).trans ((s43.le).trans ((s55.le).trans ((s62.le).trans s73.le)))))) ob83) ?_
 have ob104 := (ob82.step1 s73 (Ne.symm ne14))
 have ob105 := (ob63.step1 s73 (Ne.symm ne57))
 rintro v102 w90 ⟨h91, s92, rs103, ob106⟩
 have S107 := S84.trans s92 (Zl (.inl (by simp)) Zt)
 refine Wv rfl (Z1 rfl Z84) ?_
 have ob108 := (ob105.step1 s92 (Ne.symm ne57))
 refine Zr (vs := [v102]) rfl rfl rfl (RS.cellsL rs103) Zga (Z3 (RS.one rs103) Zx) ob108 S107.sub (by simp) (ds := [vi 6, .string Z1e, .slice none 0 0, .slice none 0 0, sl b41 0 1 1, vi 0, v102, .slice none 0 0, .slice none 0 0, .bool false]) rfl (fun w109 s110 ob111 => ?_)
 have S112 := S107.trans1 s110 (.inr g59)
 refine Z6 <| Z4 <| Zc <| Z0 <| Wm rfl rfl ?_
 have ob113 := (ob106.step1 s110 ne57)
 obtain ⟨r114, hr115, HF⟩ := Z5 HF
 rcases r114 with t116 | r117
 ·obtain rfl := Z02 HF
  have ob122 := ((ob104.step1 s92 (Ne.symm ne14)).step1 s110 ne58)
  refine Z0h rfl (Zd (vs := [pt b1 0, .string b'8]) rfl Z20) (Zn _ hr115 S112.sub (rs5.mono ((s12.le).trans ((s25.le).trans ((s43.le).trans ((s55.le).trans ((s62.le).trans ((s73.le).trans ((s92.le).trans s110.le)))))))) ob113) ?_
  rintro ch124 w125 ⟨ht126, h127, s128, ob123⟩
  refine Ze <| Zs ?_
  have S129 := S112.trans s128 (Zl (.inl (by simp)) Zt)
  exact ⟨_, rfl, ht126, h127, S129, ob123⟩
 replace HF := Z0i HF
 refine Wc rfl (Zd (vs := [pt b1 0, .string b'8]) rfl Z20) (Zn _ hr115 S112.sub (rs5.mono ((s12.le).trans ((s25.le).trans ((s43.le).trans ((s55.le).trans ((s62.le).trans ((s73.le).trans ((s92.le).trans s110.le)))))))) ob113) ?_
 have ob130 := ((ob104.step1 s92 (Ne.symm ne14)).step1 s110 ne58)
 rintro v118 w119 ⟨h120, s121, rfl, ob131⟩
 have S132 := S112.trans s121 (Zl (.inl (by simp)) Zt)
 refine Z6 <| Z4 <| Zc <| Z0 ?_
 have ob133 := (ob111.step1 s121 (Ne.symm ne57))
 refine Wv rfl (Z2t (cs := [vi 6, .string Z1e, .slice none 0 0, .slice none 0 0, sl b41 0 1 1, vi 0, v102, .slice none 0 0, .slice none 0 0, .bool false]) rfl Z6y Z0u (OB.cells ob133 0 rfl)) ?_
 have ob134 := (ob130.step1 s121 (Ne.symm ne14))
 refine Zr (vs := [vi 6, .string Z1e, .slice none 0 0, .slice none 0 0, sl b41 0 1 1, vi 0, v102, .slice none 0 0, .slice none 0 0, .bool false]) rfl rfl rfl rfl Z0u (Z3 rfl (Z3 rfl (Z3 rfl (Z3 rfl (Z3 rfl (Z3 rfl (Z3 (RS.one (rs103.mono ((s110.le).trans s121.le))) (Z3 rfl (Z3 rfl (Z3 rfl Zx)))))))))) ob134 S132.sub (by simp) (ds := [vi 6, .string Z1e, .slice none 0 0, .slice none 0 0, sl b41 0 1 1, vi 0, v102, .slice none 0 0, .slice none 0 0, .bool false]) rfl (fun w135 s136 ob137 => ?_)
 have S138 := S132.trans1 s136 (.inr g15)
 refine Z6 <| Z4 <| Z0b ?_
 have ob139 := (ob131.step1 s136 ne14)
 refine Z5k rfl rfl (Z0x (cs := [vi 6, .string Z1e, .slice none 0 0, .slice none 0 0, sl b41 0 1 1, vi 0, v102, .slice none 0 0, .slice none 0 0, .bool false]) Z6y Z0u (OB.cells ob137 0 rfl)) ?_
 obtain rfl := Option.some.inj HF
 exact ⟨_, rfl, h120, S138, ⟨_, rfl, (rp_St.2 ⟨_, _, _, _, _, _, rfl, (RS.nil _), (RS.nil _), (rs48.mono ((s55.le).trans ((s62.le).trans ((s73.le).trans ((s92.le).trans ((s110.le).trans ((s121.le).trans s136.le))))))), (rs103.mono ((s110.le).trans ((s121.le).trans s136.le))), (RS.nil _), (RS.nil _)⟩)⟩, ob139⟩
theorem s_parse_Parser_branch (k : Nat) (IH : ∀ j, j ≤ k → Z2e (Z8 j).parse_Parser_Text ∧ Z2g (Z8 j).parse_Parser_count ∧ Z2i (Z8 j).parse_Parser_other ∧ Z2k (Z8 j).parse_Parser_while ∧ Z28 (Z8 j).parse_Parser_branch ∧ Z2a (Z8 j).parse_Parser_choice ∧ Z29 (Z8 j).parse_Parser_repeat) : Z28 (Zct k (Z8 k)) := by
 intro xs3 x6 r HF w0 h0 b1 T2 v4 hs0 rs5 ob7
 have S0 : Stp [b1] w0 h0 w0 h0 := Stp.refl hs0 _
 have lt8 : b1 < w0.heap.size := OB.lt ob7
 refine Z4o (n := 36) Tryz.func100 rfl Tryz.ntmps100 rfl [(0, pt b1 0)] rfl <| Zc <| Z0 <| Z19 (zs := [vi 0, .string Z1e, .slice none 0 0, .slice none 0 0, .slice none 0 0, vi 0, .slice none 0 0, .slice none 0 0, .slice none 0 0, .bool false]) rfl rfl Z38 rfl S0.sub (fun w9 b10 hb11 s12 ob13 => ?_)
 have ne14 : b1 ≠ b10 := ob7.ne_new hb11
 have g15 : w0.heap.size ≤ b10 := by rw [hb11]; exact S0.size
 have S16 := S0.trans0 s12
 refine Z6 <| Z4 <| Zc <| Z0 <| Wm rfl rfl ?_
 have ob17 := (ob7.step0 s12)
 obtain ⟨r18, hr19, HF⟩ := Z5 HF
 rcases r18 with t20 | r21
 ·obtain rfl := Z02 HF
  refine Z0h rfl (Zd (vs := [pt b1 0]) rfl Z3l) (Z08 _ hr19 S16.sub (rs5.mono (s12.le)) ob17) ?_
  rintro ch27 w28 ⟨ht29, h30, s31, ob26⟩
  refine Ze <| Zs ?_
  have S32 := S16.trans s31 (Zl (.inl (by simp)) Zt)
  exact ⟨_, rfl, ht29, h30, S32, ob26⟩
 replace HF := Z0i HF
 refine Wc rfl (Zd (vs := [pt b1 0]) rfl Z3l) (Z08 _ hr19 S16.sub (rs5.mono (s12.le)) ob17) ?_
 rintro _ w23 ⟨h24, s25, ⟨cs33, rfl, r34⟩, ob35⟩
 have S36 := S16.trans s25 (Zl (.inl (by simp)) Zt)
 obtain ⟨v37, rfl, rs38⟩ := Zab.1 r34
 have ob46 := (ob13.step1 s25 (Ne.symm ne14))
 refine Z10 (us := [.agg #[vi r21.1.op, vi r21.1.kind, vi r21.1.n, .string r21.1.s, .string r21.1.f, v37]]) (cs := [vi r21.1.op, vi r21.1.kind, vi r21.1.n, .string r21.1.s, .string r21.1.f, v37]) rfl rfl rfl Z0v Z0l Z1w rfl (Z0c rfl Zci) rfl rfl rfl S36.sub (fun w39 h40 b41 hb42 s43 hk44 hc45 => ?_)
 have S47 := S36.trans0 s43
 have rs48 : RS h40 (sl b41 0 1 1) ([r21.1] : List Ex) := RS.litL _ [[vi r21.1.op, vi r21.1.kind, vi r21.1.n, .string r21.1.s, .string r21.1.f, v37]] rfl rfl hc45 ⟨(Zab.2 ⟨_, rfl, (rs38.mono (s43.le))⟩), trivial⟩
 have ow49 := Own.lit (base := w0.heap.size) (sz := 6) (m := 1) hk44 hc45 (by rw [hb42]; exact S36.size) rfl (by decide)
 refine Wv rfl (Z3b (vs := [(0, vi 3), (4, sl b41 0 1 1)]) (cs := [vi 3, .string Z1e, .slice none 0 0, .slice none 0 0, sl b41 0 1 1, vi 0, .slice none 0 0, .slice none 0 0, .slice none 0 0, .bool false]) rfl Za1 Z38 rfl) ?_
 have ob50 := (ob35.step0 s43)
 have ob51 := (ob46.step0 s43)
 refine Z19 (zs := [vi 0, .string Z1e, .slice none 0 0, .slice none 0 0, .slice none 0 0, vi 0, .slice none 0 0, .slice none 0 0, .slice none 0 0, .bool false]) rfl rfl Z38 rfl S47.sub (fun w52 b53 hb54 s55 ob56 => ?_)
 have ne57 : b1 ≠ b53 := ob50.ne_new hb54
 have ne58 : b10 ≠ b53 := ob51.ne_new hb54
 have g59 : w0.heap.size ≤ b53 := by rw [hb54]; exact S47.size
 have S60 := S47.trans0 s55
 refine Zr (vs := [vi 3, .string Z1e, .slice none 0 0, .slice none 0 0, sl b41 0 1 1, vi 0, .slice none 0 0, .slice none 0 0, .slice none 0 0, .bool false]) rfl rfl rfl rfl Z0u (Z3 rfl (Z3 rfl (Z3 rfl (Z3 rfl (Z3 rfl (Z3 rfl (Z3 rfl (Z3 rfl (Z3 rfl (Z3 rfl Zx)))))))))) ob56 S60.sub (by simp) (ds := [vi 3, .string Z1e, .slice none 0 0, .slice none 0 0, sl b41 0 1 1, vi 0, .slice none 0 0, .slice none 0 0, .slice none 0 0, .bool false]) rfl (fun w61 s62 ob63 => ?_)
 have S64 := S60.trans1 s62 (.inr g59)
 refine Z6 <| Z4 <| Zc <| Z0 <| Wm rfl rfl ?_
 have ob65 := ((ob50.step0 s55).step1 s62 ne57)
 obtain ⟨r66, hr67, HF⟩ := Z5 HF
 rcases r66 with t68 | r69
 ·obtain rfl := Z02 HF
  have ob74 := ((ob51.step0 s55).step1 s62 ne58)
  refine Z0h rfl (Zd (vs := [pt b1 0, .string b'67]) rfl Z20) (Zn _ hr67 S64.sub (rs5.mono ((s12.le).trans ((s25.le).trans ((s43.le).trans ((s55.le).trans s62.le))))) ob65) ?_
  rintro ch76 w77 ⟨ht78, h79, s80, ob75⟩
  refine Ze <| Zs ?_
  have S81 := S64.trans s80 (Zl (.inl (by simp)) Zt)
  exact ⟨_, rfl, ht78, h79, S81, ob75⟩
 replace HF := Z0i HF
 refine Wc rfl (Zd (vs := [pt b1 0, .string b'67]) rfl Z20) (Zn _ hr67 S64.sub (rs5.mono ((s12.le).trans ((s25.le).trans ((s43.le).trans ((s55.le).trans s62.le))))) ob65) ?_
 have ob82 := ((ob51.step0 s55).step1 s62 ne58)
 rintro v70 w71 ⟨h72, s73, rfl, ob83⟩
 have S84 := S64.trans s73 (Zl (.inl (by simp)) Zt)
 refine Z6 <| Z4 <| Zc <| Z0 <| Wm rfl rfl ?_
 obtain ⟨r85, hr86, HF⟩ := Z5 HF
 rcases r85 with t87 | r88
 ·obtain rfl := Z02 HF
  have ob93 := (ob82.step1 s73 (Ne.symm ne14))
  have ob94 := (ob63.step1 s73 (Ne.symm ne57))
  refine Z0h rfl (Zd (vs := [pt b1 0]) rfl Z92) ((IH _ (Nat.le_refl _)).1 hr86 S84.sub (rs5.mono ((s12.le).trans ((s25.le).trans ((s43.le).trans ((s55.le).trans ((s62.le).trans s73.le)))))) ob83) ?_
  rintro ch96 w97 ⟨ht98, h99, s100, ob95⟩
  refine Ze <| Zs ?_
  have S101 := S84.trans s100 (Zl (.inl (by simp)) Zt)
  exact ⟨_, rfl, ht98, h99, S101, ob95⟩
 replace HF := Z0i HF
 refine Wc rfl (Zd (vs := [pt b1 0]) rfl Z92) ((IH _ (Nat.le_refl _)).1 hr86 S84.sub (rs5.mono ((s12.le).trans ((s25.le).trans ((s43.le).trans ((s55.le).trans ((s62.le).trans s73.le)))))) ob83) ?_
 have ob104 := (ob82.step1 s73 (Ne.symm ne14))
 have ob105 := (ob63.step1 s73 (Ne.symm ne57))
 rintro v102 w90 ⟨h91, s92, rs103, ob106⟩
 have S107 := S84.trans s92 (Zl (.inl (by simp)) Zt)
 refine Wv rfl (Z1 rfl Z84) ?_
 have ob108 := (ob105.step1 s92 (Ne.symm ne57))
 refine Zr (vs := [v102]) rfl rfl rfl (RS.cellsL rs103) Zga (Z3 (RS.one rs103) Zx) ob108 S107.sub (by simp) (ds := [vi 3, .string Z1e, .slice none 0 0, .slice none 0 0, sl b41 0 1 1, vi 0, v102, .slice none 0 0, .slice none 0 0, .bool false]) rfl (fun w109 s110 ob111 => ?_)
 have S112 := S107.trans1 s110 (.inr g59)
 refine Z6 <| Z4 <| Zc <| Z0r <| Z5v <| Z99 [0, 2, 3] [(0, pt b1 0), (2, pt b10 0), (3, pt b53 0)] rfl <| Z5u (K := k) (fun j E w114 => ∃ (h113 : Hp) (x117 : Int) (xs120 : List Ex) (v121 : Value) (xs124 : List Ar) (v125 : Value), (Z8 j).parse_Parser_branch_l1 xs3 r88 x117 xs120 xs124 = some r ∧ E = [(0, pt b1 0), (2, pt b10 0), (3, pt b53 0)] ∧ Stp [b1] w0 h0 w114 h113 ∧ Hle h91 h113 ∧ RS h113 v121 xs120 ∧ Own w114 h113 w0.heap.size 47 6 v121 xs120.length ∧ RS h113 v125 xs124 ∧ Own w114 h113 w0.heap.size 77 3 v125 xs124.length ∧ OB w114 h113 b1 T2 [v4, vi x117] ∧ OB w114 h113 b10 56 [vi 0, .string Z1e, .slice none 0 0, .slice none 0 0, .slice none 0 0, vi 0, .slice none 0 0, .slice none 0 0, .slice none 0 0, .bool false] ∧ OB w114 h113 b53 56 [vi 3, .string Z1e, .slice none 0 0, .slice none 0 0, v121, vi 0, v102, v125, .slice none 0 0, .bool false]) ?_ ?_ (j := k) (Nat.le_refl _) ?_
 ·rintro E w114 ⟨_, _, _, _, _, _, HF, _⟩; cases HF
 ·rintro j129 hj131 IHL130 E w114 ⟨h113, x117, xs120, v121, xs124, v125, HF, rfl, S116, le115, rs122, ow123, rs126, ow127, ob118, ob119, ob128⟩
  refine Z09 (fun E w194 => ∃ (h193 : Hp) (x197 : Int) (xs200 : List Ex) (v201 : Value) (xs204 : List Ar) (v205 : Value), Zbz j129 (Z8 j129) xs3 r88 x197 xs200 xs204 = some r ∧ E = [(0, pt b1 0), (2, pt b10 0), (3, pt b53 0)] ∧ Stp [b1] w0 h0 w194 h193 ∧ Hle h113 h193 ∧ RS h193 v201 xs200 ∧ Own w194 h193 w0.heap.size 47 6 v201 xs200.length ∧ RS h193 v205 xs204 ∧ Own w194 h193 w0.heap.size 77 3 v205 xs204.length ∧ OB w194 h193 b1 T2 [v4, vi x197] ∧ OB w194 h193 b10 56 [vi 0, .string Z1e, .slice none 0 0, .slice none 0 0, .slice none 0 0, vi 0, .slice none 0 0, .slice none 0 0, .slice none 0 0, .bool false] ∧ OB w194 h193 b53 56 [vi 3, .string Z1e, .slice none 0 0, .slice none 0 0, v201, vi 0, v102, v205, .slice none 0 0, .bool false]) ?_ ?_
  ·rintro E w194 ⟨h193, x197, xs200, v201, xs204, v205, HF, rfl, S196, le195, rs202, ow203, rs206, ow207, ob198, ob199, ob208⟩
   refine Z0r <| Zc <| Z0 <| Wm rfl rfl ?_
   obtain ⟨r209, hr210, HF⟩ := Z5 HF
   rcases r209 with t211 | r212
   ·obtain rfl := Z02 HF
    refine Z0h rfl (Zd (vs := [pt b1 0]) rfl Z3l) (Z08 _ hr210 S196.sub (rs5.mono ((s12.le).trans ((s25.le).trans ((s43.le).trans ((s55.le).trans ((s62.le).trans ((s73.le).trans ((s92.le).trans ((s110.le).trans ((le115).trans le195)))))))))) ob198) ?_
    rintro ch218 w219 ⟨ht220, h221, s222, ob217⟩
    refine Ze <| Zu <| Ze <| Zu <| Ze <| Zs ?_
    have S223 := S196.trans s222 (Zl (.inl (by simp)) Zt)
    exact ⟨_, rfl, ht220, h221, S223, ob217⟩
   replace HF := Z0i HF
   refine Wc rfl (Zd (vs := [pt b1 0]) rfl Z3l) (Z08 _ hr210 S196.sub (rs5.mono ((s12.le).trans ((s25.le).trans ((s43.le).trans ((s55.le).trans ((s62.le).trans ((s73.le).trans ((s92.le).trans ((s110.le).trans ((le115).trans le195)))))))))) ob198) ?_
   rintro _ w214 ⟨h215, s216, ⟨cs224, rfl, r225⟩, ob226⟩
   have S227 := S196.trans s216 (Zl (.inl (by simp)) Zt)
   obtain ⟨v228, rfl, rs229⟩ := Zab.1 r225
   have ob237 := (ob199.step1 s216 (Ne.symm ne14))
   have ob238 := (ob208.step1 s216 (Ne.symm ne57))
   refine Z10 (us := [.agg #[vi r212.1.op, vi r212.1.kind, vi r212.1.n, .string r212.1.s, .string r212.1.f, v228]]) (cs := [vi r212.1.op, vi r212.1.kind, vi r212.1.n, .string r212.1.s, .string r212.1.f, v228]) rfl rfl rfl Z0v Z0l Z1w rfl (Z0c rfl Zci) rfl rfl rfl S227.sub (fun w230 h231 b232 hb233 s234 hk235 hc236 => ?_)
   have S239 := S227.trans0 s234
   have rs240 : RS h231 (sl b232 0 1 1) ([r212.1] : List Ex) := RS.litL _ [[vi r212.1.op, vi r212.1.kind, vi r212.1.n, .string r212.1.s, .string r212.1.f, v228]] rfl rfl hc236 ⟨(Zab.2 ⟨_, rfl, (rs229.mono (s234.le))⟩), trivial⟩
   have ow241 := Own.lit (base := w0.heap.size) (sz := 6) (m := 1) hk235 hc236 (by rw [hb233]; exact S227.size) rfl (by decide)
   refine Wv rfl (Z3b (vs := [(0, sl b232 0 1 1)]) (cs := [sl b232 0 1 1, .slice none 0 0, .slice none 0 0]) rfl t_places_77 Zdd rfl) ?_
   have ob242 := (ob226.step0 s234)
   have ob243 := (ob237.step0 s234)
   have ob244 := (ob238.step0 s234)
   refine Z19 (zs := [.slice none 0 0, .slice none 0 0, .slice none 0 0]) rfl rfl Zdd rfl S239.sub (fun w245 b246 hb247 s248 ob249 => ?_)
   have ne250 : b1 ≠ b246 := ob242.ne_new hb247
   have ne251 : b10 ≠ b246 := ob243.ne_new hb247
   have ne252 : b53 ≠ b246 := ob244.ne_new hb247
   have g253 : w0.heap.size ≤ b246 := by rw [hb247]; exact S239.size
   have S254 := S239.trans0 s248
   refine Zr (vs := [sl b232 0 1 1, .slice none 0 0, .slice none 0 0]) rfl rfl rfl rfl Z6c (Z3 rfl (Z3 rfl (Z3 rfl Zx))) ob249 S254.sub (by simp) (ds := [sl b232 0 1 1, .slice none 0 0, .slice none 0 0]) rfl (fun w255 s256 ob257 => ?_)
   have S258 := S254.trans1 s256 (.inr g253)
   refine Z6 <| Z4 <| Zc <| Z0 <| Wm rfl rfl ?_
   have ob259 := ((ob242.step0 s248).step1 s256 ne250)
   obtain ⟨r260, hr261, HF⟩ := Z5 HF
   rcases r260 with t262 | r263
   ·obtain rfl := Z02 HF
    have ob268 := ((ob243.step0 s248).step1 s256 ne251)
    have ob269 := ((ob244.step0 s248).step1 s256 ne252)
    refine Z0h rfl (Zd (vs := [pt b1 0, .string b'67]) rfl Z20) (Zn _ hr261 S258.sub (rs5.mono ((s12.le).trans ((s25.le).trans ((s43.le).trans ((s55.le).trans ((s62.le).trans ((s73.le).trans ((s92.le).trans ((s110.le).trans ((le115).trans ((le195).trans ((s216.le).trans ((s234.le).trans ((s248.le).trans s256.le)))))))))))))) ob259) ?_
    rintro ch271 w272 ⟨ht273, h274, s275, ob270⟩
    refine Ze <| Zu <| Ze <| Zu <| Ze <| Zs ?_
    have S276 := S258.trans s275 (Zl (.inl (by simp)) Zt)
    exact ⟨_, rfl, ht273, h274, S276, ob270⟩
   replace HF := Z0i HF
   refine Wc rfl (Zd (vs := [pt b1 0, .string b'67]) rfl Z20) (Zn _ hr261 S258.sub (rs5.mono ((s12.le).trans ((s25.le).trans ((s43.le).trans ((s55.le).trans ((s62.le).trans ((s73.le).trans ((s92.le).trans ((s110.le).trans ((le115).trans ((le195).trans ((s216.le).trans ((s234.le).trans ((s248.le).trans s256.le)))))))))))))) ob259) ?_
   have ob277 := ((ob243.step0 s248).step1 s256 ne251)
   have ob278 := ((ob244.step0 s248).step1 s256 ne252)
   rintro v264 w265 ⟨h266, s267, rfl, ob279⟩
   have S280 := S258.trans s267 (Zl (.inl (by simp)) Zt)
   refine Z6 <| Z4 <| Zc <| Z0 <| Wm rfl rfl ?_
   obtain ⟨r281, hr282, HF⟩ := Z5 HF
   rcases r281 with t283 | r284
   ·obtain rfl := Z02 HF
    have ob289 := (ob277.step1 s267 (Ne.symm ne14))
    have ob290 := (ob278.step1 s267 (Ne.symm ne57))
    have ob291 := (ob257.step1 s267 (Ne.symm ne250))
    refine Z0h rfl (Zd (vs := [pt b1 0]) rfl Z92) ((IH _ (Nat.le_trans (Nat.le_of_succ_le hj131) (Nat.le_refl _))).1 hr282 S280.sub (rs5.mono ((s12.le).trans ((s25.le).trans ((s43.le).trans ((s55.le).trans ((s62.le).trans ((s73.le).trans ((s92.le).trans ((s110.le).trans ((le115).trans ((le195).trans ((s216.le).trans ((s234.le).trans ((s248.le).trans ((s256.le).trans s267.le))))))))))))))) ob279) ?_
    rintro ch293 w294 ⟨ht295, h296, s297, ob292⟩
    refine Ze <| Zu <| Ze <| Zu <| Ze <| Zs ?_
    have S298 := S280.trans s297 (Zl (.inl (by simp)) Zt)
    exact ⟨_, rfl, ht295, h296, S298, ob292⟩
   replace HF := Z0i HF
   refine Wc rfl (Zd (vs := [pt b1 0]) rfl Z92) ((IH _ (Nat.le_trans (Nat.le_of_succ_le hj131) (Nat.le_refl _))).1 hr282 S280.sub (rs5.mono ((s12.le).trans ((s25.le).trans ((s43.le).trans ((s55.le).trans ((s62.le).trans ((s73.le).trans ((s92.le).trans ((s110.le).trans ((le115).trans ((le195).trans ((s216.le).trans ((s234.le).trans ((s248.le).trans ((s256.le).trans s267.le))))))))))))))) ob279) ?_
   have ob301 := (ob277.step1 s267 (Ne.symm ne14))
   have ob302 := (ob278.step1 s267 (Ne.symm ne57))
   have ob303 := (ob257.step1 s267 (Ne.symm ne250))
   rintro v299 w286 ⟨h287, s288, rs300, ob304⟩
   have S305 := S280.trans s288 (Zl (.inl (by simp)) Zt)
   refine Wv rfl (Z1 rfl Ze3) ?_
   have ob306 := (ob303.step1 s288 (Ne.symm ne250))
   refine Zr (vs := [v299]) rfl rfl rfl (RS.cellsL rs300) Zga (Z3 (RS.one rs300) Zx) ob306 S305.sub (by simp) (ds := [sl b232 0 1 1, .slice none 0 0, v299]) rfl (fun w307 s308 ob309 => ?_)
   have S310 := S305.trans1 s308 (.inr g253)
   refine Z6 <| Z4 <| Z0 <| Wv rfl (Z1 rfl Z3g) ?_
   have ob311 := ((ob302.step1 s288 (Ne.symm ne57)).step1 s308 ne252)
   refine Wv rfl (Zb rfl Zbt (OB.cell ob311 (j := 7) rfl)) <| Wv rfl (Z2t (cs := [sl b232 0 1 1, .slice none 0 0, v299]) rfl t_agg_77 Z6c (OB.cells ob309 0 rfl)) ?_
   have ob319 := (ob304.step1 s308 ne250)
   have ob320 := ((ob301.step1 s288 (Ne.symm ne14)).step1 s308 ne251)
   refine Z10 (us := [.agg #[sl b232 0 1 1, .slice none 0 0, v299]]) (cs := [sl b232 0 1 1, .slice none 0 0, v299]) rfl rfl rfl Z4u Z6c Zdd rfl (Z0c rfl Zci) rfl rfl rfl S310.sub (fun w312 h313 b314 hb315 s316 hk317 hc318 => ?_)
   have S321 := S310.trans0 s316
   have rs322 : RS h313 (sl b314 0 1 1) ([(Ar.mk [r212.1] [] r284.1)] : List Ar) := RS.litL _ [[sl b232 0 1 1, .slice none 0 0, v299]] rfl rfl hc318 ⟨(rp_Ar.2 ⟨_, _, _, rfl, (rs240.mono ((s248.le).trans ((s256.le).trans ((s267.le).trans ((s288.le).trans ((s308.le).trans s316.le)))))), (RS.nil _), (rs300.mono ((s308.le).trans s316.le))⟩), trivial⟩
   have ow323 := Own.lit (base := w0.heap.size) (sz := 3) (m := 1) hk317 hc318 (by rw [hb315]; exact S310.size) rfl (by decide)
   obtain ⟨hl324, HF⟩ := Ze7 HF
   have ob332 := (ob319.step0 s316)
   have ob333 := (ob320.step0 s316)
   have ob334 := (ob311.step0 s316)
   have ob335 := (ob309.step0 s316)
   refine Zeu (xs := (xs204 : List Ar)) (ys := [(Ar.mk [r212.1] [] r284.1)]) rfl rfl rfl rfl Z4u Z6c Zdd rfl t_bytes_77 rfl ((((((((ow207.step s216 (Z2 (ow207.ne_old lt8) Z9)).step0 s234).step0 s248).step s256 (Z2 ((((ow207.step s216 (Z2 (ow207.ne_old lt8) Z9)).step0 s234).step0 s248).ne_obS1 (rs206.mono ((s216.le).trans ((s234.le).trans s248.le))) ob249) Z9)).step s267 (Z2 (((((ow207.step s216 (Z2 (ow207.ne_old lt8) Z9)).step0 s234).step0 s248).step s256 (Z2 ((((ow207.step s216 (Z2 (ow207.ne_old lt8) Z9)).step0 s234).step0 s248).ne_obS1 (rs206.mono ((s216.le).trans ((s234.le).trans s248.le))) ob249) Z9)).ne_old lt8) Z9)).step s288 (Z2 ((((((ow207.step s216 (Z2 (ow207.ne_old lt8) Z9)).step0 s234).step0 s248).step s256 (Z2 ((((ow207.step s216 (Z2 (ow207.ne_old lt8) Z9)).step0 s234).step0 s248).ne_obS1 (rs206.mono ((s216.le).trans ((s234.le).trans s248.le))) ob249) Z9)).step s267 (Z2 (((((ow207.step s216 (Z2 (ow207.ne_old lt8) Z9)).step0 s234).step0 s248).step s256 (Z2 ((((ow207.step s216 (Z2 (ow207.ne_old lt8) Z9)).step0 s234).step0 s248).ne_obS1 (rs206.mono ((s216.le).trans ((s234.le).trans s248.le))) ob249) Z9)).ne_old lt8) Z9)).ne_old lt8) Z9)).step s308 (Z2 (((((((ow207.step s216 (Z2 (ow207.ne_old lt8) Z9)).step0 s234).step0 s248).step s256 (Z2 ((((ow207.step s216 (Z2 (ow207.ne_old lt8) Z9)).step0 s234).step0 s248).ne_obS1 (rs206.mono ((s216.le).trans ((s234.le).trans s248.le))) ob249) Z9)).step s267 (Z2 (((((ow207.step s216 (Z2 (ow207.ne_old lt8) Z9)).step0 s234).step0 s248).step s256 (Z2 ((((ow207.step s216 (Z2 (ow207.ne_old lt8) Z9)).step0 s234).step0 s248).ne_obS1 (rs206.mono ((s216.le).trans ((s234.le).trans s248.le))) ob249) Z9)).ne_old lt8) Z9)).step s288 (Z2 ((((((ow207.step s216 (Z2 (ow207.ne_old lt8) Z9)).step0 s234).step0 s248).step s256 (Z2 ((((ow207.step s216 (Z2 (ow207.ne_old lt8) Z9)).step0 s234).step0 s248).ne_obS1 (rs206.mono ((s216.le).trans ((s234.le).trans s248.le))) ob249) Z9)).step s267 (Z2 (((((ow207.step s216 (Z2 (ow207.ne_old lt8) Z9)).step0 s234).step0 s248).step s256 (Z2 ((((ow207.step s216 (Z2 (ow207.ne_old lt8) Z9)).step0 s234).step0 s248).ne_obS1 (rs206.mono ((s216.le).trans ((s234.le).trans s248.le))) ob249) Z9)).ne_old lt8) Z9)).ne_old lt8) Z9)).ne_obS1 (rs206.mono ((s216.le).trans ((s234.le).trans ((s248.le).trans ((s256.le).trans ((s267.le).trans s288.le)))))) ob306) Z9)).step0 s316) (rs206.mono ((s216.le).trans ((s234.le).trans ((s248.le).trans ((s256.le).trans ((s267.le).trans ((s288.le).trans ((s308.le).trans s316.le)))))))) rs322 hl324 S321.sub S321.size (by rw [S321.eqb]; exact hs0.big) (fun v325 w326 h327 rs328 ow329 s330 at331 => ?_)
   have S336 := S321.trans s330 (fun i hi => .inr (((((((((ow207.step s216 (Z2 (ow207.ne_old lt8) Z9)).step0 s234).step0 s248).step s256 (Z2 ((((ow207.step s216 (Z2 (ow207.ne_old lt8) Z9)).step0 s234).step0 s248).ne_obS1 (rs206.mono ((s216.le).trans ((s234.le).trans s248.le))) ob249) Z9)).step s267 (Z2 (((((ow207.step s216 (Z2 (ow207.ne_old lt8) Z9)).step0 s234).step0 s248).step s256 (Z2 ((((ow207.step s216 (Z2 (ow207.ne_old lt8) Z9)).step0 s234).step0 s248).ne_obS1 (rs206.mono ((s216.le).trans ((s234.le).trans s248.le))) ob249) Z9)).ne_old lt8) Z9)).step s288 (Z2 ((((((ow207.step s216 (Z2 (ow207.ne_old lt8) Z9)).step0 s234).step0 s248).step s256 (Z2 ((((ow207.step s216 (Z2 (ow207.ne_old lt8) Z9)).step0 s234).step0 s248).ne_obS1 (rs206.mono ((s216.le).trans ((s234.le).trans s248.le))) ob249) Z9)).step s267 (Z2 (((((ow207.step s216 (Z2 (ow207.ne_old lt8) Z9)).step0 s234).step0 s248).step s256 (Z2 ((((ow207.step s216 (Z2 (ow207.ne_old lt8) Z9)).step0 s234).step0 s248).ne_obS1 (rs206.mono ((s216.le).trans ((s234.le).trans s248.le))) ob249) Z9)).ne_old lt8) Z9)).ne_old lt8) Z9)).step s308 (Z2 (((((((ow207.step s216 (Z2 (ow207.ne_old lt8) Z9)).step0 s234).step0 s248).step s256 (Z2 ((((ow207.step s216 (Z2 (ow207.ne_old lt8) Z9)).step0 s234).step0 s248).ne_obS1 (rs206.mono ((s216.le).trans ((s234.le).trans s248.le))) ob249) Z9)).step s267 (Z2 (((((ow207.step s216 (Z2 (ow207.ne_old lt8) Z9)).step0 s234).step0 s248).step s256 (Z2 ((((ow207.step s216 (Z2 (ow207.ne_old lt8) Z9)).step0 s234).step0 s248).ne_obS1 (rs206.mono ((s216.le).trans ((s234.le).trans s248.le))) ob249) Z9)).ne_old lt8) Z9)).step s288 (Z2 ((((((ow207.step s216 (Z2 (ow207.ne_old lt8) Z9)).step0 s234).step0 s248).step s256 (Z2 ((((ow207.step s216 (Z2 (ow207.ne_old lt8) Z9)).step0 s234).step0 s248).ne_obS1 (rs206.mono ((s216.le).trans ((s234.le).trans s248.le))) ob249) Z9)).step s267 (Z2 (((((ow207.step s216 (Z2 (ow207.ne_old lt8) Z9)).step0 s234).step0 s248).step s256 (Z2 ((((ow207.step s216 (Z2 (ow207.ne_old lt8) Z9)).step0 s234).step0 s248).ne_obS1 (rs206.mono ((s216.le).trans ((s234.le).trans s248.le))) ob249) Z9)).ne_old lt8) Z9)).ne_old lt8) Z9)).ne_obS1 (rs206.mono ((s216.le).trans ((s234.le).trans ((s248.le).trans ((s256.le).trans ((s267.le).trans s288.le)))))) ob306) Z9)).step0 s316).base_le i hi))
   refine Wv rfl (Z1 rfl Z3g) ?_
   have ob337 := (ob334.step s330 (fun hm => ((((((((ow207.step s216 (Z2 (ow207.ne_old lt8) Z9)).step0 s234).step0 s248).step s256 (Z2 ((((ow207.step s216 (Z2 (ow207.ne_old lt8) Z9)).step0 s234).step0 s248).ne_obS1 (rs206.mono ((s216.le).trans ((s234.le).trans s248.le))) ob249) Z9)).step s267 (Z2 (((((ow207.step s216 (Z2 (ow207.ne_old lt8) Z9)).step0 s234).step0 s248).step s256 (Z2 ((((ow207.step s216 (Z2 (ow207.ne_old lt8) Z9)).step0 s234).step0 s248).ne_obS1 (rs206.mono ((s216.le).trans ((s234.le).trans s248.le))) ob249) Z9)).ne_old lt8) Z9)).step s288 (Z2 ((((((ow207.step s216 (Z2 (ow207.ne_old lt8) Z9)).step0 s234).step0 s248).step s256 (Z2 ((((ow207.step s216 (Z2 (ow207.ne_old lt8) Z9)).step0 s234).step0 s248).ne_obS1 (rs206.mono ((s216.le).trans ((s234.le).trans s248.le))) ob249) Z9)).step s267 (Z2 (((((ow207.step s216 (Z2 (ow207.ne_old lt8) Z9)).step0 s234).step0 s248).step s256 (Z2 ((((ow207.step s216 (Z2 (ow207.ne_old lt8) Z9)).step0 s234).step0 s248).ne_obS1 (rs206.mono ((s216.le).trans ((s234.le).trans s248.le))) ob249) Z9)).ne_old lt8) Z9)).ne_old lt8) Z9)).step s308 (Z2 (((((((ow207.step s216 (Z2 (ow207.ne_old lt8) Z9)).step0 s234).step0 s248).step s256 (Z2 ((((ow207.step s216 (Z2 (ow207.ne_old lt8) Z9)).step0 s234).step0 s248).ne_obS1 (rs206.mono ((s216.le).trans ((s234.le).trans s248.le))) ob249) Z9)).step s267 (Z2 (((((ow207.step s216 (Z2 (ow207.ne_old lt8) Z9)).step0 s234).step0 s248).step s256 (Z2 ((((ow207.step s216 (Z2 (ow207.ne_old lt8) Z9)).step0 s234).step0 s248).ne_obS1 (rs206.mono ((s216.le).trans ((s234.le).trans s248.le))) ob249) Z9)).ne_old lt8) Z9)).step s288 (Z2 ((((((ow207.step s216 (Z2 (ow207.ne_old lt8) Z9)).step0 s234).step0 s248).step s256 (Z2 ((((ow207.step s216 (Z2 (ow207.ne_old lt8) Z9)).step0 s234).step0 s248).ne_obS1 (rs206.mono ((s216.le).trans ((s234.le).trans s248.le))) ob249) Z9)).step s267 (Z2 (((((ow207.step s216 (Z2 (ow207.ne_old lt8) Z9)).step0 s234).step0 s248).step s256 (Z2 ((((ow207.step s216 (Z2 (ow207.ne_old lt8) Z9)).step0 s234).step0 s248).ne_obS1 (rs206.mono ((s216.le).trans ((s234.le).trans s248.le))) ob249) Z9)).ne_old lt8) Z9)).ne_old lt8) Z9)).ne_obS1 (rs206.mono ((s216.le).trans ((s234.le).trans ((s248.le).trans ((s256.le).trans ((s267.le).trans s288.le)))))) ob306) Z9)).step0 s316).ne ob334 (by decide) _ hm rfl))
   refine Zr (vs := [v325]) rfl rfl rfl (RS.cellsL rs328) t_size_54 (Z3 (RS.one rs328) Zx) ob337 S336.sub (by simp) (ds := [vi 3, .string Z1e, .slice none 0 0, .slice none 0 0, v201, vi 0, v102, v325, .slice none 0 0, .bool false]) rfl (fun w338 s339 ob340 => ?_)
   have S341 := S336.trans1 s339 (.inr g59)
   refine Z6 <| Zy ?_
   have ob345 := ((ob332.step s330 (fun hm => absurd (((((((((ow207.step s216 (Z2 (ow207.ne_old lt8) Z9)).step0 s234).step0 s248).step s256 (Z2 ((((ow207.step s216 (Z2 (ow207.ne_old lt8) Z9)).step0 s234).step0 s248).ne_obS1 (rs206.mono ((s216.le).trans ((s234.le).trans s248.le))) ob249) Z9)).step s267 (Z2 (((((ow207.step s216 (Z2 (ow207.ne_old lt8) Z9)).step0 s234).step0 s248).step s256 (Z2 ((((ow207.step s216 (Z2 (ow207.ne_old lt8) Z9)).step0 s234).step0 s248).ne_obS1 (rs206.mono ((s216.le).trans ((s234.le).trans s248.le))) ob249) Z9)).ne_old lt8) Z9)).step s288 (Z2 ((((((ow207.step s216 (Z2 (ow207.ne_old lt8) Z9)).step0 s234).step0 s248).step s256 (Z2 ((((ow207.step s216 (Z2 (ow207.ne_old lt8) Z9)).step0 s234).step0 s248).ne_obS1 (rs206.mono ((s216.le).trans ((s234.le).trans s248.le))) ob249) Z9)).step s267 (Z2 (((((ow207.step s216 (Z2 (ow207.ne_old lt8) Z9)).step0 s234).step0 s248).step s256 (Z2 ((((ow207.step s216 (Z2 (ow207.ne_old lt8) Z9)).step0 s234).step0 s248).ne_obS1 (rs206.mono ((s216.le).trans ((s234.le).trans s248.le))) ob249) Z9)).ne_old lt8) Z9)).ne_old lt8) Z9)).step s308 (Z2 (((((((ow207.step s216 (Z2 (ow207.ne_old lt8) Z9)).step0 s234).step0 s248).step s256 (Z2 ((((ow207.step s216 (Z2 (ow207.ne_old lt8) Z9)).step0 s234).step0 s248).ne_obS1 (rs206.mono ((s216.le).trans ((s234.le).trans s248.le))) ob249) Z9)).step s267 (Z2 (((((ow207.step s216 (Z2 (ow207.ne_old lt8) Z9)).step0 s234).step0 s248).step s256 (Z2 ((((ow207.step s216 (Z2 (ow207.ne_old lt8) Z9)).step0 s234).step0 s248).ne_obS1 (rs206.mono ((s216.le).trans ((s234.le).trans s248.le))) ob249) Z9)).ne_old lt8) Z9)).step s288 (Z2 ((((((ow207.step s216 (Z2 (ow207.ne_old lt8) Z9)).step0 s234).step0 s248).step s256 (Z2 ((((ow207.step s216 (Z2 (ow207.ne_old lt8) Z9)).step0 s234).step0 s248).ne_obS1 (rs206.mono ((s216.le).trans ((s234.le).trans s248.le))) ob249) Z9)).step s267 (Z2 (((((ow207.step s216 (Z2 (ow207.ne_old lt8) Z9)).step0 s234).step0 s248).step s256 (Z2 ((((ow207.step s216 (Z2 (ow207.ne_old lt8) Z9)).step0 s234).step0 s248).ne_obS1 (rs206.mono ((s216.le).trans ((s234.le).trans s248.le))) ob249) Z9)).ne_old lt8) Z9)).ne_old lt8) Z9)).ne_obS1 (rs206.mono ((s216.le).trans ((s234.le).trans ((s248.le).trans ((s256.le).trans ((s267.le).trans s288.le)))))) ob306) Z9)).step0 s316).base_le _ hm) (Nat.not_le.2 lt8))).step1 s339 ne57)
   have ob346 := ((ob333.step s330 (fun hm => ((((((((ow207.step s216 (Z2 (ow207.ne_old lt8) Z9)).step0 s234).step0 s248).step s256 (Z2 ((((ow207.step s216 (Z2 (ow207.ne_old lt8) Z9)).step0 s234).step0 s248).ne_obS1 (rs206.mono ((s216.le).trans ((s234.le).trans s248.le))) ob249) Z9)).step s267 (Z2 (((((ow207.step s216 (Z2 (ow207.ne_old lt8) Z9)).step0 s234).step0 s248).step s256 (Z2 ((((ow207.step s216 (Z2 (ow207.ne_old lt8) Z9)).step0 s234).step0 s248).ne_obS1 (rs206.mono ((s216.le).trans ((s234.le).trans s248.le))) ob249) Z9)).ne_old lt8) Z9)).step s288 (Z2 ((((((ow207.step s216 (Z2 (ow207.ne_old lt8) Z9)).step0 s234).step0 s248).step s256 (Z2 ((((ow207.step s216 (Z2 (ow207.ne_old lt8) Z9)).step0 s234).step0 s248).ne_obS1 (rs206.mono ((s216.le).trans ((s234.le).trans s248.le))) ob249) Z9)).step s267 (Z2 (((((ow207.step s216 (Z2 (ow207.ne_old lt8) Z9)).step0 s234).step0 s248).step s256 (Z2 ((((ow207.step s216 (Z2 (ow207.ne_old lt8) Z9)).step0 s234).step0 s248).ne_obS1 (rs206.mono ((s216.le).trans ((s234.le).trans s248.le))) ob249) Z9)).ne_old lt8) Z9)).ne_old lt8) Z9)).step s308 (Z2 (((((((ow207.step s216 (Z2 (ow207.ne_old lt8) Z9)).step0 s234).step0 s248).step s256 (Z2 ((((ow207.step s216 (Z2 (ow207.ne_old lt8) Z9)).step0 s234).step0 s248).ne_obS1 (rs206.mono ((s216.le).trans ((s234.le).trans s248.le))) ob249) Z9)).step s267 (Z2 (((((ow207.step s216 (Z2 (ow207.ne_old lt8) Z9)).step0 s234).step0 s248).step s256 (Z2 ((((ow207.step s216 (Z2 (ow207.ne_old lt8) Z9)).step0 s234).step0 s248).ne_obS1 (rs206.mono ((s216.le).trans ((s234.le).trans s248.le))) ob249) Z9)).ne_old lt8) Z9)).step s288 (Z2 ((((((ow207.step s216 (Z2 (ow207.ne_old lt8) Z9)).step0 s234).step0 s248).step s256 (Z2 ((((ow207.step s216 (Z2 (ow207.ne_old lt8) Z9)).step0 s234).step0 s248).ne_obS1 (rs206.mono ((s216.le).trans ((s234.le).trans s248.le))) ob249) Z9)).step s267 (Z2 (((((ow207.step s216 (Z2 (ow207.ne_old lt8) Z9)).step0 s234).step0 s248).step s256 (Z2 ((((ow207.step s216 (Z2 (ow207.ne_old lt8) Z9)).step0 s234).step0 s248).ne_obS1 (rs206.mono ((s216.le).trans ((s234.le).trans s248.le))) ob249) Z9)).ne_old lt8) Z9)).ne_old lt8) Z9)).ne_obS1 (rs206.mono ((s216.le).trans ((s234.le).trans ((s248.le).trans ((s256.le).trans ((s267.le).trans s288.le)))))) ob306) Z9)).step0 s316).ne ob333 (by decide) _ hm rfl)).step1 s339 ne58)
   refine Z2p <| Z99 [0, 2, 3] [(0, pt b1 0), (2, pt b10 0), (3, pt b53 0)] rfl ?_
   exact IHL130 j129 (Nat.le_refl _) _ _ ⟨h327, r284.2, xs200, v201, xs204 ++ [(Ar.mk [r212.1] [] r284.1)], v325, HF, rfl, S341, (le115).trans ((le195).trans ((s216.le).trans ((s234.le).trans ((s248.le).trans ((s256.le).trans ((s267.le).trans ((s288.le).trans ((s308.le).trans ((s316.le).trans ((s330.le).trans s339.le)))))))))), (rs202.mono ((s216.le).trans ((s234.le).trans ((s248.le).trans ((s256.le).trans ((s267.le).trans ((s288.le).trans ((s308.le).trans ((s316.le).trans ((s330.le).trans s339.le)))))))))), ((((((((((ow203.step s216 (Z2 (ow203.ne_old lt8) Z9)).step0 s234).step0 s248).step s256 (Z2 ((((ow203.step s216 (Z2 (ow203.ne_old lt8) Z9)).step0 s234).step0 s248).ne_ob ob249 (by decide)) Z9)).step s267 (Z2 (((((ow203.step s216 (Z2 (ow203.ne_old lt8) Z9)).step0 s234).step0 s248).step s256 (Z2 ((((ow203.step s216 (Z2 (ow203.ne_old lt8) Z9)).step0 s234).step0 s248).ne_ob ob249 (by decide)) Z9)).ne_old lt8) Z9)).step s288 (Z2 ((((((ow203.step s216 (Z2 (ow203.ne_old lt8) Z9)).step0 s234).step0 s248).step s256 (Z2 ((((ow203.step s216 (Z2 (ow203.ne_old lt8) Z9)).step0 s234).step0 s248).ne_ob ob249 (by decide)) Z9)).step s267 (Z2 (((((ow203.step s216 (Z2 (ow203.ne_old lt8) Z9)).step0 s234).step0 s248).step s256 (Z2 ((((ow203.step s216 (Z2 (ow203.ne_old lt8) Z9)).step0 s234).step0 s248).ne_ob ob249 (by decide)) Z9)).ne_old lt8) Z9)).ne_old lt8) Z9)).step s308 (Z2 (((((((ow203.step s216 (Z2 (ow203.ne_old lt8) Z9)).step0 s234).step0 s248).step s256 (Z2 ((((ow203.step s216 (Z2 (ow203.ne_old lt8) Z9)).step0 s234).step0 s248).ne_ob ob249 (by decide)) Z9)).step s267 (Z2 (((((ow203.step s216 (Z2 (ow203.ne_old lt8) Z9)).step0 s234).step0 s248).step s256 (Z2 ((((ow203.step s216 (Z2 (ow203.ne_old lt8) Z9)).step0 s234).step0 s248).ne_ob ob249 (by decide)) Z9)).ne_old lt8) Z9)).step s288 (Z2 ((((((ow203.step s216 (Z2 (ow203.ne_old lt8) Z9)).step0 s234).step0 s248).step s256 (Z2 ((((ow203.step s216 (Z2 (ow203.ne_old lt8) Z9)).step0 s234).step0 s248).ne_ob ob249 (by decide)) Z9)).step s267 (Z2 (((((ow203.step s216 (Z2 (ow203.ne_old lt8) Z9)).step0 s234).step0 s248).step s256 (Z2 ((((ow203.step s216 (Z2 (ow203.ne_old lt8) Z9)).step0 s234).step0 s248).ne_ob ob249 (by decide)) Z9)).ne_old lt8) Z9)).ne_old lt8) Z9)).ne_ob ob306 (by decide)) Z9)).step0 s316).step s330 (((((((((ow203.step s216 (Z2 (ow203.ne_old lt8) Z9)).step0 s234).step0 s248).step s256 (Z2 ((((ow203.step s216 (Z2 (ow203.ne_old lt8) Z9)).step0 s234).step0 s248).ne_ob ob249 (by decide)) Z9)).step s267 (Z2 (((((ow203.step s216 (Z2 (ow203.ne_old lt8) Z9)).step0 s234).step0 s248).step s256 (Z2 ((((ow203.step s216 (Z2 (ow203.ne_old lt8) Z9)).step0 s234).step0 s248).ne_ob ob249 (by decide)) Z9)).ne_old lt8) Z9)).step s288 (Z2 ((((((ow203.step s216 (Z2 (ow203.ne_old lt8) Z9)).step0 s234).step0 s248).step s256 (Z2 ((((ow203.step s216 (Z2 (ow203.ne_old lt8) Z9)).step0 s234).step0 s248).ne_ob ob249 (by decide)) Z9)).step s267 (Z2 (((((ow203.step s216 (Z2 (ow203.ne_old lt8) Z9)).step0 s234).step0 s248).step s256 (Z2 ((((ow203.step s216 (Z2 (ow203.ne_old lt8) Z9)).step0 s234).step0 s248).ne_ob ob249 (by decide)) Z9)).ne_old lt8) Z9)).ne_old lt8) Z9)).step s308 (Z2 (((((((ow203.step s216 (Z2 (ow203.ne_old lt8) Z9)).step0 s234).step0 s248).step s256 (Z2 ((((ow203.step s216 (Z2 (ow203.ne_old lt8) Z9)).step0 s234).step0 s248).ne_ob ob249 (by decide)) Z9)).step s267 (Z2 (((((ow203.step s216 (Z2 (ow203.ne_old lt8) Z9)).step0 s234).step0 s248).step s256 (Z2 ((((ow203.step s216 (Z2 (ow203.ne_old lt8) Z9)).step0 s234).step0 s248).ne_ob ob249 (by decide)) Z9)).ne_old lt8) Z9)).step s288 (Z2 ((((((ow203.step s216 (Z2 (ow203.ne_old lt8) Z9)).step0 s234).step0 s248).step s256 (Z2 ((((ow203.step s216 (Z2 (ow203.ne_old lt8) Z9)).step0 s234).step0 s248).ne_ob ob249 (by decide)) Z9)).step s267 (Z2 (((((ow203.step s216 (Z2 (ow203.ne_old lt8) Z9)).step0 s234).step0 s248).step s256 (Z2 ((((ow203.step s216 (Z2 (ow203.ne_old lt8) Z9)).step0 s234).step0 s248).ne_ob ob249 (by decide)) Z9)).ne_old lt8) Z9)).ne_old lt8) Z9)).ne_ob ob306 (by decide)) Z9)).step0 s316).ne_own ((((((((ow207.step s216 (Z2 (ow207.ne_old lt8) Z9)).step0 s234).step0 s248).step s256 (Z2 ((((ow207.step s216 (Z2 (ow207.ne_old lt8) Z9)).step0 s234).step0 s248).ne_obS1 (rs206.mono ((s216.le).trans ((s234.le).trans s248.le))) ob249) Z9)).step s267 (Z2 (((((ow207.step s216 (Z2 (ow207.ne_old lt8) Z9)).step0 s234).step0 s248).step s256 (Z2 ((((ow207.step s216 (Z2 (ow207.ne_old lt8) Z9)).step0 s234).step0 s248).ne_obS1 (rs206.mono ((s216.le).trans ((s234.le).trans s248.le))) ob249) Z9)).ne_old lt8) Z9)).step s288 (Z2 ((((((ow207.step s216 (Z2 (ow207.ne_old lt8) Z9)).step0 s234).step0 s248).step s256 (Z2 ((((ow207.step s216 (Z2 (ow207.ne_old lt8) Z9)).step0 s234).step0 s248).ne_obS1 (rs206.mono ((s216.le).trans ((s234.le).trans s248.le))) ob249) Z9)).step s267 (Z2 (((((ow207.step s216 (Z2 (ow207.ne_old lt8) Z9)).step0 s234).step0 s248).step s256 (Z2 ((((ow207.step s216 (Z2 (ow207.ne_old lt8) Z9)).step0 s234).step0 s248).ne_obS1 (rs206.mono ((s216.le).trans ((s234.le).trans s248.le))) ob249) Z9)).ne_old lt8) Z9)).ne_old lt8) Z9)).step s308 (Z2 (((((((ow207.step s216 (Z2 (ow207.ne_old lt8) Z9)).step0 s234).step0 s248).step s256 (Z2 ((((ow207.step s216 (Z2 (ow207.ne_old lt8) Z9)).step0 s234).step0 s248).ne_obS1 (rs206.mono ((s216.le).trans ((s234.le).trans s248.le))) ob249) Z9)).step s267 (Z2 (((((ow207.step s216 (Z2 (ow207.ne_old lt8) Z9)).step0 s234).step0 s248).step s256 (Z2 ((((ow207.step s216 (Z2 (ow207.ne_old lt8) Z9)).step0 s234).step0 s248).ne_obS1 (rs206.mono ((s216.le).trans ((s234.le).trans s248.le))) ob249) Z9)).ne_old lt8) Z9)).step s288 (Z2 ((((((ow207.step s216 (Z2 (ow207.ne_old lt8) Z9)).step0 s234).step0 s248).step s256 (Z2 ((((ow207.step s216 (Z2 (ow207.ne_old lt8) Z9)).step0 s234).step0 s248).ne_obS1 (rs206.mono ((s216.le).trans ((s234.le).trans s248.le))) ob249) Z9)).step s267 (Z2 (((((ow207.step s216 (Z2 (ow207.ne_old lt8) Z9)).step0 s234).step0 s248).step s256 (Z2 ((((ow207.step s216 (Z2 (ow207.ne_old lt8) Z9)).step0 s234).step0 s248).ne_obS1 (rs206.mono ((s216.le).trans ((s234.le).trans s248.le))) ob249) Z9)).ne_old lt8) Z9)).ne_old lt8) Z9)).ne_obS1 (rs206.mono ((s216.le).trans ((s234.le).trans ((s248.le).trans ((s256.le).trans ((s267.le).trans s288.le)))))) ob306) Z9)).step0 s316) (by decide))).step s339 (Z2 ((((((((((ow203.step s216 (Z2 (ow203.ne_old lt8) Z9)).step0 s234).step0 s248).step s256 (Z2 ((((ow203.step s216 (Z2 (ow203.ne_old lt8) Z9)).step0 s234).step0 s248).ne_ob ob249 (by decide)) Z9)).step s267 (Z2 (((((ow203.step s216 (Z2 (ow203.ne_old lt8) Z9)).step0 s234).step0 s248).step s256 (Z2 ((((ow203.step s216 (Z2 (ow203.ne_old lt8) Z9)).step0 s234).step0 s248).ne_ob ob249 (by decide)) Z9)).ne_old lt8) Z9)).step s288 (Z2 ((((((ow203.step s216 (Z2 (ow203.ne_old lt8) Z9)).step0 s234).step0 s248).step s256 (Z2 ((((ow203.step s216 (Z2 (ow203.ne_old lt8) Z9)).step0 s234).step0 s248).ne_ob ob249 (by decide)) Z9)).step s267 (Z2 (((((ow203.step s216 (Z2 (ow203.ne_old lt8) Z9)).step0 s234).step0 s248).step s256 (Z2 ((((ow203.step s216 (Z2 (ow203.ne_old lt8) Z9)).step0 s234).step0 s248).ne_ob ob249 (by decide)) Z9)).ne_old lt8) Z9)).ne_old lt8) Z9)).step s308 (Z2 (((((((ow203.step s216 (Z2 (ow203.ne_old lt8) Z9)).step0 s234).step0 s248).step s256 (Z2 ((((ow203.step s216 (Z2 (ow203.ne_old lt8) Z9)).step0 s234).step0 s248).ne_ob ob249 (by decide)) Z9)).step s267 (Z2 (((((ow203.step s216 (Z2 (ow203.ne_old lt8) Z9)).step0 s234).step0 s248).step s256 (Z2 ((((ow203.step s216 (Z2 (ow203.ne_old lt8) Z9)).step0 s234).step0 s248).ne_ob ob249 (by decide)) Z9)).ne_old lt8) Z9)).step s288 (Z2 ((((((ow203.step s216 (Z2 (ow203.ne_old lt8) Z9)).step0 s234).step0 s248).step s256 (Z2 ((((ow203.step s216 (Z2 (ow203.ne_old lt8) Z9)).step0 s234).step0 s248).ne_ob ob249 (by decide)) Z9)).step s267 (Z2 (((((ow203.step s216 (Z2 (ow203.ne_old lt8) Z9)).step0 s234).step0 s248).step s256 (Z2 ((((ow203.step s216 (Z2 (ow203.ne_old lt8) Z9)).step0 s234).step0 s248).ne_ob ob249 (by decide)) Z9)).ne_old lt8) Z9)).ne_old lt8) Z9)).ne_ob ob306 (by decide)) Z9)).step0 s316).step s330 (((((((((ow203.step s216 (Z2 (ow203.ne_old lt8) Z9)).step0 s234).step0 s248).step s256 (Z2 ((((ow203.step s216 (Z2 (ow203.ne_old lt8) Z9)).step0 s234).step0 s248).ne_ob ob249 (by decide)) Z9)).step s267 (Z2 (((((ow203.step s216 (Z2 (ow203.ne_old lt8) Z9)).step0 s234).step0 s248).step s256 (Z2 ((((ow203.step s216 (Z2 (ow203.ne_old lt8) Z9)).step0 s234).step0 s248).ne_ob ob249 (by decide)) Z9)).ne_old lt8) Z9)).step s288 (Z2 ((((((ow203.step s216 (Z2 (ow203.ne_old lt8) Z9)).step0 s234).step0 s248).step s256 (Z2 ((((ow203.step s216 (Z2 (ow203.ne_old lt8) Z9)).step0 s234).step0 s248).ne_ob ob249 (by decide)) Z9)).step s267 (Z2 (((((ow203.step s216 (Z2 (ow203.ne_old lt8) Z9)).step0 s234).step0 s248).step s256 (Z2 ((((ow203.step s216 (Z2 (ow203.ne_old lt8) Z9)).step0 s234).step0 s248).ne_ob ob249 (by decide)) Z9)).ne_old lt8) Z9)).ne_old lt8) Z9)).step s308 (Z2 (((((((ow203.step s216 (Z2 (ow203.ne_old lt8) Z9)).step0 s234).step0 s248).step s256 (Z2 ((((ow203.step s216 (Z2 (ow203.ne_old lt8) Z9)).step0 s234).step0 s248).ne_ob ob249 (by decide)) Z9)).step s267 (Z2 (((((ow203.step s216 (Z2 (ow203.ne_old lt8) Z9)).step0 s234).step0 s248).step s256 (Z2 ((((ow203.step s216 (Z2 (ow203.ne_old lt8) Z9)).step0 s234).step0 s248).ne_ob ob249 (by decide)) Z9)).ne_old lt8) Z9)).step s288 (Z2 ((((((ow203.step s216 (Z2 (ow203.ne_old lt8) Z9)).step0 s234).step0 s248).step s256 (Z2 ((((ow203.step s216 (Z2 (ow203.ne_old lt8) Z9)).step0 s234).step0 s248).ne_ob ob249 (by decide)) Z9)).step s267 (Z2 (((((ow203.step s216 (Z2 (ow203.ne_old lt8) Z9)).step0 s234).step0 s248).step s256 (Z2 ((((ow203.step s216 (Z2 (ow203.ne_old lt8) Z9)).step0 s234).step0 s248).ne_ob ob249 (by decide)) Z9)).ne_old lt8) Z9)).ne_old lt8) Z9)).ne_ob ob306 (by decide)) Z9)).step0 s316).ne_own ((((((((ow207.step s216 (Z2 (ow207.ne_old lt8) Z9)).step0 s234).step0 s248).step s256 (Z2 ((((ow207.step s216 (Z2 (ow207.ne_old lt8) Z9)).step0 s234).step0 s248).ne_obS1 (rs206.mono ((s216.le).trans ((s234.le).trans s248.le))) ob249) Z9)).step s267 (Z2 (((((ow207.step s216 (Z2 (ow207.ne_old lt8) Z9)).step0 s234).step0 s248).step s256 (Z2 ((((ow207.step s216 (Z2 (ow207.ne_old lt8) Z9)).step0 s234).step0 s248).ne_obS1 (rs206.mono ((s216.le).trans ((s234.le).trans s248.le))) ob249) Z9)).ne_old lt8) Z9)).step s288 (Z2 ((((((ow207.step s216 (Z2 (ow207.ne_old lt8) Z9)).step0 s234).step0 s248).step s256 (Z2 ((((ow207.step s216 (Z2 (ow207.ne_old lt8) Z9)).step0 s234).step0 s248).ne_obS1 (rs206.mono ((s216.le).trans ((s234.le).trans s248.le))) ob249) Z9)).step s267 (Z2 (((((ow207.step s216 (Z2 (ow207.ne_old lt8) Z9)).step0 s234).step0 s248).step s256 (Z2 ((((ow207.step s216 (Z2 (ow207.ne_old lt8) Z9)).step0 s234).step0 s248).ne_obS1 (rs206.mono ((s216.le).trans ((s234.le).trans s248.le))) ob249) Z9)).ne_old lt8) Z9)).ne_old lt8) Z9)).step s308 (Z2 (((((((ow207.step s216 (Z2 (ow207.ne_old lt8) Z9)).step0 s234).step0 s248).step s256 (Z2 ((((ow207.step s216 (Z2 (ow207.ne_old lt8) Z9)).step0 s234).step0 s248).ne_obS1 (rs206.mono ((s216.le).trans ((s234.le).trans s248.le))) ob249) Z9)).step s267 (Z2 (((((ow207.step s216 (Z2 (ow207.ne_old lt8) Z9)).step0 s234).step0 s248).step s256 (Z2 ((((ow207.step s216 (Z2 (ow207.ne_old lt8) Z9)).step0 s234).step0 s248).ne_obS1 (rs206.mono ((s216.le).trans ((s234.le).trans s248.le))) ob249) Z9)).ne_old lt8) Z9)).step s288 (Z2 ((((((ow207.step s216 (Z2 (ow207.ne_old lt8) Z9)).step0 s234).step0 s248).step s256 (Z2 ((((ow207.step s216 (Z2 (ow207.ne_old lt8) Z9)).step0 s234).step0 s248).ne_obS1 (rs206.mono ((s216.le).trans ((s234.le).trans s248.le))) ob249) Z9)).step s267 (Z2 (((((ow207.step s216 (Z2 (ow207.ne_old lt8) Z9)).step0 s234).step0 s248).step s256 (Z2 ((((ow207.step s216 (Z2 (ow207.ne_old lt8) Z9)).step0 s234).step0 s248).ne_obS1 (rs206.mono ((s216.le).trans ((s234.le).trans s248.le))) ob249) Z9)).ne_old lt8) Z9)).ne_old lt8) Z9)).ne_obS1 (rs206.mono ((s216.le).trans ((s234.le).trans ((s248.le).trans ((s256.le).trans ((s267.le).trans s288.le)))))) ob306) Z9)).step0 s316) (by decide))).ne_ob ob337 (by decide)) Z9)), (rs328.mono (s339.le)), (ow329.step s339 (Z2 (ow329.ne_ob ob337 (by decide)) Z9)), ob345, ob346, ob340⟩
  intro J342
  refine Zc <| Z0 <| Wm rfl rfl ?_
  obtain ⟨r132, hr133, HF⟩ := Z5 HF
  refine Wc rfl (Zd (vs := [pt b1 0, .string b'4]) rfl Z53) (Z0p _ hr133 S116.sub (rs5.mono ((s12.le).trans ((s25.le).trans ((s43.le).trans ((s55.le).trans ((s62.le).trans ((s73.le).trans ((s92.le).trans ((s110.le).trans le115))))))))) ob118) ?_
  rintro _ w135 ⟨h136, s137, rfl, ob138⟩
  have S139 := S116.trans s137 (Zl (.inl (by simp)) Zt)
  refine Z6 <| Z4 <| Z15 HF rfl (fun HF => ?_) (fun HF => ?_)
  ·refine Zq ?_
   have ob343 := (ob119.step1 s137 (Ne.symm ne14))
   have ob344 := (ob128.step1 s137 (Ne.symm ne57))
   refine Z01 [0, 2, 3] _ rfl ?_
   exact J342 ⟨h136, r132.2, xs120, v121, xs124, v125, HF, rfl, S139, s137.le, (rs122.mono (s137.le)), (ow123.step s137 (Z2 (ow123.ne_old lt8) Z9)), (rs126.mono (s137.le)), (ow127.step s137 (Z2 (ow127.ne_old lt8) Z9)), ob138, ob343, ob344⟩
  refine Z66 <| Z05 <| Z05 <| Z1m <| Z4 <| Zc <| Z0 <| Wm rfl rfl ?_
  have ob141 := (ob128.step1 s137 (Ne.symm ne57))
  obtain ⟨r142, hr143, HF⟩ := Z5 HF
  rcases r142 with t144 | r145
  ·obtain rfl := Z02 HF
   have ob150 := (ob119.step1 s137 (Ne.symm ne14))
   refine Z0h rfl (Zd (vs := [pt b1 0, pt b53 0]) rfl t_ent_156) ((IH _ (Nat.le_trans (Nat.le_of_succ_le hj131) (Nat.le_refl _))).2.2.1 hr143 S139.sub (rs5.mono ((s12.le).trans ((s25.le).trans ((s43.le).trans ((s55.le).trans ((s62.le).trans ((s73.le).trans ((s92.le).trans ((s110.le).trans ((le115).trans s137.le)))))))))) (RS.nil _) (RS.nil _) (rs122.mono (s137.le)) (rs103.mono ((s110.le).trans ((le115).trans s137.le))) (rs126.mono (s137.le)) (RS.nil _) ob138 ob141 ne57) ?_
   rintro ch155 w156 ⟨ht157, h158, s159, ob151, ⟨v152, rs153, ob154⟩⟩
   refine Ze <| Zs ?_
   have S160 := S139.trans s159 (Zl (.inl (by simp)) (Zl (.inr g59) Zt))
   exact ⟨_, rfl, ht157, h158, S160, ob151⟩
  replace HF := Z0i HF
  refine Wc rfl (Zd (vs := [pt b1 0, pt b53 0]) rfl t_ent_156) ((IH _ (Nat.le_trans (Nat.le_of_succ_le hj131) (Nat.le_refl _))).2.2.1 hr143 S139.sub (rs5.mono ((s12.le).trans ((s25.le).trans ((s43.le).trans ((s55.le).trans ((s62.le).trans ((s73.le).trans ((s92.le).trans ((s110.le).trans ((le115).trans s137.le)))))))))) (RS.nil _) (RS.nil _) (rs122.mono (s137.le)) (rs103.mono ((s110.le).trans ((le115).trans s137.le))) (rs126.mono (s137.le)) (RS.nil _) ob138 ob141 ne57) ?_
  have ob161 := (ob119.step1 s137 (Ne.symm ne14))
  rintro v146 w147 ⟨h148, s149, rfl, ob162, ⟨v163, rs164, ob165⟩⟩
  have S166 := S139.trans s149 (Zl (.inl (by simp)) (Zl (.inr g59) Zt))
  refine Z6 <| Z4 <| Zc <| Z0 <| Wm rfl rfl ?_
  obtain ⟨r167, hr168, HF⟩ := Z5 HF
  rcases r167 with t169 | r170
  ·obtain rfl := Z02 HF
   have ob175 := (ob161.step s149 (Z5w (Ne.symm ne14) (Z5w ne58 ni_nil)))
   refine Z0h rfl (Zd (vs := [pt b1 0, .string b'6]) rfl Z20) (Zn _ hr168 S166.sub (rs5.mono ((s12.le).trans ((s25.le).trans ((s43.le).trans ((s55.le).trans ((s62.le).trans ((s73.le).trans ((s92.le).trans ((s110.le).trans ((le115).trans ((s137.le).trans s149.le))))))))))) ob162) ?_
   rintro ch177 w178 ⟨ht179, h180, s181, ob176⟩
   refine Ze <| Zs ?_
   have S182 := S166.trans s181 (Zl (.inl (by simp)) Zt)
   exact ⟨_, rfl, ht179, h180, S182, ob176⟩
  replace HF := Z0i HF
  refine Wc rfl (Zd (vs := [pt b1 0, .string b'6]) rfl Z20) (Zn _ hr168 S166.sub (rs5.mono ((s12.le).trans ((s25.le).trans ((s43.le).trans ((s55.le).trans ((s62.le).trans ((s73.le).trans ((s92.le).trans ((s110.le).trans ((le115).trans ((s137.le).trans s149.le))))))))))) ob162) ?_
  have ob183 := (ob161.step s149 (Z5w (Ne.symm ne14) (Z5w ne58 ni_nil)))
  rintro v171 w172 ⟨h173, s174, rfl, ob184⟩
  have S185 := S166.trans s174 (Zl (.inl (by simp)) Zt)
  refine Z6 <| Z4 <| Zc <| Z0 ?_
  have ob186 := (ob165.step1 s174 (Ne.symm ne57))
  refine Wv rfl (Z2t (cs := [vi 3, .string Z1e, .slice none 0 0, .slice none 0 0, v121, vi 0, v102, v125, v163, .bool r145.2.2]) rfl Z6y Z0u (OB.cells ob186 0 rfl)) ?_
  have ob187 := (ob183.step1 s174 (Ne.symm ne14))
  refine Zr (vs := [vi 3, .string Z1e, .slice none 0 0, .slice none 0 0, v121, vi 0, v102, v125, v163, .bool r145.2.2]) rfl rfl rfl rfl Z0u (Z3 rfl (Z3 rfl (Z3 rfl (Z3 rfl (Z3 (RS.one (rs122.mono ((s137.le).trans ((s149.le).trans s174.le)))) (Z3 rfl (Z3 (RS.one (rs103.mono ((s110.le).trans ((le115).trans ((s137.le).trans ((s149.le).trans s174.le)))))) (Z3 (RS.one (rs126.mono ((s137.le).trans ((s149.le).trans s174.le)))) (Z3 (RS.one (rs164.mono (s174.le))) (Z3 rfl Zx)))))))))) ob187 S185.sub (by simp) (ds := [vi 3, .string Z1e, .slice none 0 0, .slice none 0 0, v121, vi 0, v102, v125, v163, .bool r145.2.2]) rfl (fun w188 s189 ob190 => ?_)
  have S191 := S185.trans1 s189 (.inr g15)
  refine Z6 <| Z4 <| Z0b ?_
  have ob192 := (ob184.step1 s189 ne14)
  refine Z5k rfl rfl (Z0x (cs := [vi 3, .string Z1e, .slice none 0 0, .slice none 0 0, v121, vi 0, v102, v125, v163, .bool r145.2.2]) Z6y Z0u (OB.cells ob190 0 rfl)) ?_
  obtain rfl := Option.some.inj HF
  exact ⟨_, rfl, h173, S191, ⟨_, rfl, (rp_St.2 ⟨_, _, _, _, _, _, rfl, (RS.nil _), (RS.nil _), (rs122.mono ((s137.le).trans ((s149.le).trans ((s174.le).trans s189.le)))), (rs103.mono ((s110.le).trans ((le115).trans ((s137.le).trans ((s149.le).trans ((s174.le).trans s189.le)))))), (rs126.mono ((s137.le).trans ((s149.le).trans ((s174.le).trans s189.le)))), (rs164.mono ((s174.le).trans s189.le))⟩)⟩, ob192⟩
 have ob347 := (ob106.step1 s110 ne57)
 have ob348 := ((ob104.step1 s92 (Ne.symm ne14)).step1 s110 ne58)
 exact ⟨h91, r88.2, [r21.1], sl b41 0 1 1, ([] : List Ar), .slice none 0 0, HF, rfl, S112, Hle.refl _, (rs48.mono ((s55.le).trans ((s62.le).trans ((s73.le).trans ((s92.le).trans s110.le))))), (((((ow49.step0 s55).step s62 (Z2 ((ow49.step0 s55).ne_ob ob56 (by decide)) Z9)).step s73 (Z2 (((ow49.step0 s55).step s62 (Z2 ((ow49.step0 s55).ne_ob ob56 (by decide)) Z9)).ne_old lt8) Z9)).step s92 (Z2 ((((ow49.step0 s55).step s62 (Z2 ((ow49.step0 s55).ne_ob ob56 (by decide)) Z9)).step s73 (Z2 (((ow49.step0 s55).step s62 (Z2 ((ow49.step0 s55).ne_ob ob56 (by decide)) Z9)).ne_old lt8) Z9)).ne_old lt8) Z9)).step s110 (Z2 (((((ow49.step0 s55).step s62 (Z2 ((ow49.step0 s55).ne_ob ob56 (by decide)) Z9)).step s73 (Z2 (((ow49.step0 s55).step s62 (Z2 ((ow49.step0 s55).ne_ob ob56 (by decide)) Z9)).ne_old lt8) Z9)).step s92 (Z2 ((((ow49.step0 s55).step s62 (Z2 ((ow49.step0 s55).ne_ob ob56 (by decide)) Z9)).step s73 (Z2 (((ow49.step0 s55).step s62 (Z2 ((ow49.step0 s55).ne_ob ob56 (by decide)) Z9)).ne_old lt8) Z9)).ne_old lt8) Z9)).ne_ob ob108 (by decide)) Z9)), (RS.nil _), (Own.nil _ _ _ _ _), ob347, ob348, ob111⟩
theorem s_parse_Parser_choice (k : Nat) (IH : ∀ j, j ≤ k → Z2e (Z8 j).parse_Parser_Text ∧ Z2g (Z8 j).parse_Parser_count ∧ Z2i (Z8 j).parse_Parser_other ∧ Z2k (Z8 j).parse_Parser_while ∧ Z28 (Z8 j).parse_Parser_branch ∧ Z2a (Z8 j).parse_Parser_choice ∧ Z29 (Z8 j).parse_Parser_repeat) : Z2a (Zcp k (Z8 k)) := by
 intro xs3 x6 r HF w0 h0 b1 T2 v4 hs0 rs5 ob7
 have S0 : Stp [b1] w0 h0 w0 h0 := Stp.refl hs0 _
 have lt8 : b1 < w0.heap.size := OB.lt ob7
 refine Z4o (n := 50) Tryz.func101 rfl Tryz.ntmps101 rfl [(0, pt b1 0)] rfl <| Zc <| Z0 <| Z19 (zs := [vi 0, .string Z1e, .slice none 0 0, .slice none 0 0, .slice none 0 0, vi 0, .slice none 0 0, .slice none 0 0, .slice none 0 0, .bool false]) rfl rfl Z38 rfl S0.sub (fun w9 b10 hb11 s12 ob13 => ?_)
 have ne14 : b1 ≠ b10 := ob7.ne_new hb11
 have g15 : w0.heap.size ≤ b10 := by rw [hb11]; exact S0.size
 have S16 := S0.trans0 s12
 refine Z6 <| Z4 <| Zc <| Z0 <| Wm rfl rfl ?_
 have ob17 := (ob7.step0 s12)
 obtain ⟨r18, hr19, HF⟩ := Z5 HF
 rcases r18 with t20 | r21
 ·obtain rfl := Z02 HF
  refine Z0h rfl (Zd (vs := [pt b1 0]) rfl Z3l) (Z08 _ hr19 S16.sub (rs5.mono (s12.le)) ob17) ?_
  rintro ch27 w28 ⟨ht29, h30, s31, ob26⟩
  refine Ze <| Zs ?_
  have S32 := S16.trans s31 (Zl (.inl (by simp)) Zt)
  exact ⟨_, rfl, ht29, h30, S32, ob26⟩
 replace HF := Z0i HF
 refine Wc rfl (Zd (vs := [pt b1 0]) rfl Z3l) (Z08 _ hr19 S16.sub (rs5.mono (s12.le)) ob17) ?_
 rintro _ w23 ⟨h24, s25, ⟨cs33, rfl, r34⟩, ob35⟩
 have S36 := S16.trans s25 (Zl (.inl (by simp)) Zt)
 obtain ⟨v37, rfl, rs38⟩ := Zab.1 r34
 have ob46 := (ob13.step1 s25 (Ne.symm ne14))
 refine Z10 (us := [.agg #[vi r21.1.op, vi r21.1.kind, vi r21.1.n, .string r21.1.s, .string r21.1.f, v37]]) (cs := [vi r21.1.op, vi r21.1.kind, vi r21.1.n, .string r21.1.s, .string r21.1.f, v37]) rfl rfl rfl Z0v Z0l Z1w rfl (Z0c rfl Zci) rfl rfl rfl S36.sub (fun w39 h40 b41 hb42 s43 hk44 hc45 => ?_)
 have S47 := S36.trans0 s43
 have rs48 : RS h40 (sl b41 0 1 1) ([r21.1] : List Ex) := RS.litL _ [[vi r21.1.op, vi r21.1.kind, vi r21.1.n, .string r21.1.s, .string r21.1.f, v37]] rfl rfl hc45 ⟨(Zab.2 ⟨_, rfl, (rs38.mono (s43.le))⟩), trivial⟩
 have ow49 := Own.lit (base := w0.heap.size) (sz := 6) (m := 1) hk44 hc45 (by rw [hb42]; exact S36.size) rfl (by decide)
 refine Wv rfl (Z3b (vs := [(0, vi 4), (4, sl b41 0 1 1)]) (cs := [vi 4, .string Z1e, .slice none 0 0, .slice none 0 0, sl b41 0 1 1, vi 0, .slice none 0 0, .slice none 0 0, .slice none 0 0, .bool false]) rfl Za1 Z38 rfl) ?_
 have ob50 := (ob35.step0 s43)
 have ob51 := (ob46.step0 s43)
 refine Z19 (zs := [vi 0, .string Z1e, .slice none 0 0, .slice none 0 0, .slice none 0 0, vi 0, .slice none 0 0, .slice none 0 0, .slice none 0 0, .bool false]) rfl rfl Z38 rfl S47.sub (fun w52 b53 hb54 s55 ob56 => ?_)
 have ne57 : b1 ≠ b53 := ob50.ne_new hb54
 have ne58 : b10 ≠ b53 := ob51.ne_new hb54
 have g59 : w0.heap.size ≤ b53 := by rw [hb54]; exact S47.size
 have S60 := S47.trans0 s55
 refine Zr (vs := [vi 4, .string Z1e, .slice none 0 0, .slice none 0 0, sl b41 0 1 1, vi 0, .slice none 0 0, .slice none 0 0, .slice none 0 0, .bool false]) rfl rfl rfl rfl Z0u (Z3 rfl (Z3 rfl (Z3 rfl (Z3 rfl (Z3 rfl (Z3 rfl (Z3 rfl (Z3 rfl (Z3 rfl (Z3 rfl Zx)))))))))) ob56 S60.sub (by simp) (ds := [vi 4, .string Z1e, .slice none 0 0, .slice none 0 0, sl b41 0 1 1, vi 0, .slice none 0 0, .slice none 0 0, .slice none 0 0, .bool false]) rfl (fun w61 s62 ob63 => ?_)
 have S64 := S60.trans1 s62 (.inr g59)
 refine Z6 <| Z4 <| Zc <| Z0 <| Wm rfl rfl ?_
 have ob65 := ((ob50.step0 s55).step1 s62 ne57)
 obtain ⟨r66, hr67, HF⟩ := Z5 HF
 rcases r66 with t68 | r69
 ·obtain rfl := Z02 HF
  have ob74 := ((ob51.step0 s55).step1 s62 ne58)
  refine Z0h rfl (Zd (vs := [pt b1 0, .string b'44]) rfl Z20) (Zn _ hr67 S64.sub (rs5.mono ((s12.le).trans ((s25.le).trans ((s43.le).trans ((s55.le).trans s62.le))))) ob65) ?_
  rintro ch76 w77 ⟨ht78, h79, s80, ob75⟩
  refine Ze <| Zs ?_
  have S81 := S64.trans s80 (Zl (.inl (by simp)) Zt)
  exact ⟨_, rfl, ht78, h79, S81, ob75⟩
 replace HF := Z0i HF
 refine Wc rfl (Zd (vs := [pt b1 0, .string b'44]) rfl Z20) (Zn _ hr67 S64.sub (rs5.mono ((s12.le).trans ((s25.le).trans ((s43.le).trans ((s55.le).trans s62.le))))) ob65) ?_
 have ob82 := ((ob51.step0 s55).step1 s62 ne58)
 rintro v70 w71 ⟨h72, s73, rfl, ob83⟩
 have S84 := S64.trans s73 (Zl (.inl (by simp)) Zt)
 refine Z6 <| Z4 <| Zc <| Z0r <| Z5v <| Z99 [0, 2, 3] [(0, pt b1 0), (2, pt b10 0), (3, pt b53 0)] rfl <| Z5u (K := k) (fun j E w86 => ∃ (h85 : Hp) (x89 : Int) (xs92 : List Ex) (v93 : Value) (xs96 : List Ar) (v97 : Value), (Z8 j).parse_Parser_choice_l1 xs3 x89 xs92 xs96 = some r ∧ E = [(0, pt b1 0), (2, pt b10 0), (3, pt b53 0)] ∧ Stp [b1] w0 h0 w86 h85 ∧ Hle h72 h85 ∧ RS h85 v93 xs92 ∧ Own w86 h85 w0.heap.size 47 6 v93 xs92.length ∧ RS h85 v97 xs96 ∧ Own w86 h85 w0.heap.size 77 3 v97 xs96.length ∧ OB w86 h85 b1 T2 [v4, vi x89] ∧ OB w86 h85 b10 56 [vi 0, .string Z1e, .slice none 0 0, .slice none 0 0, .slice none 0 0, vi 0, .slice none 0 0, .slice none 0 0, .slice none 0 0, .bool false] ∧ OB w86 h85 b53 56 [vi 4, .string Z1e, .slice none 0 0, .slice none 0 0, v93, vi 0, .slice none 0 0, v97, .slice none 0 0, .bool false]) ?_ ?_ (j := k) (Nat.le_refl _) ?_
 ·rintro E w86 ⟨_, _, _, _, _, _, HF, _⟩; cases HF
 ·rintro j101 hj103 IHL102 E w86 ⟨h85, x89, xs92, v93, xs96, v97, HF, rfl, S88, le87, rs94, ow95, rs98, ow99, ob90, ob91, ob100⟩
  refine Z09 (fun E w198 => ∃ (h197 : Hp) (xs203 : List Ex) (v204 : Value) (xs207 : List Ar) (v208 : Value), Zc1 j101 (Z8 j101) xs3 x89 xs203 xs207 = some r ∧ E = [(0, pt b1 0), (2, pt b10 0), (3, pt b53 0)] ∧ Stp [b1] w0 h0 w198 h197 ∧ Hle h85 h197 ∧ RS h197 v204 xs203 ∧ Own w198 h197 w0.heap.size 47 6 v204 xs203.length ∧ RS h197 v208 xs207 ∧ Own w198 h197 w0.heap.size 77 3 v208 xs207.length ∧ OB w198 h197 b1 T2 [v4, vi x89] ∧ OB w198 h197 b10 56 [vi 0, .string Z1e, .slice none 0 0, .slice none 0 0, .slice none 0 0, vi 0, .slice none 0 0, .slice none 0 0, .slice none 0 0, .bool false] ∧ OB w198 h197 b53 56 [vi 4, .string Z1e, .slice none 0 0, .slice none 0 0, v204, vi 0, .slice none 0 0, v208, .slice none 0 0, .bool false]) ?_ ?_
  ·rintro E w198 ⟨h197, xs203, v204, xs207, v208, HF, rfl, S200, le199, rs205, ow206, rs209, ow210, ob201, ob202, ob211⟩
   refine Z0r <| Zc <| Z0 <| Wm rfl rfl ?_
   obtain ⟨r212, hr213, HF⟩ := Z5 HF
   rcases r212 with t214 | r215
   ·obtain rfl := Z02 HF
    refine Z0h rfl (Zd (vs := [pt b1 0]) rfl t_ent_158) (Z6n _ hr213 S200.sub (rs5.mono ((s12.le).trans ((s25.le).trans ((s43.le).trans ((s55.le).trans ((s62.le).trans ((s73.le).trans ((le87).trans le199)))))))) ob201) ?_
    rintro ch221 w222 ⟨ht223, h224, s225, ob220⟩
    refine Ze <| Zu <| Ze <| Zu <| Ze <| Zs ?_
    have S226 := S200.trans s225 (Zl (.inl (by simp)) Zt)
    exact ⟨_, rfl, ht223, h224, S226, ob220⟩
   replace HF := Z0i HF
   refine Wc rfl (Zd (vs := [pt b1 0]) rfl t_ent_158) (Z6n _ hr213 S200.sub (rs5.mono ((s12.le).trans ((s25.le).trans ((s43.le).trans ((s55.le).trans ((s62.le).trans ((s73.le).trans ((le87).trans le199)))))))) ob201) ?_
   rintro _ w217 ⟨h218, s219, rfl, ob227⟩
   have S228 := S200.trans s219 (Zl (.inl (by simp)) Zt)
   have ob236 := (ob202.step1 s219 (Ne.symm ne14))
   have ob237 := (ob211.step1 s219 (Ne.symm ne57))
   refine Z10 (us := [vi r215.1]) (cs := [vi r215.1]) rfl rfl rfl Z5o Z1s t_zero_3 rfl (Z0c rfl Zci) rfl rfl rfl S228.sub (fun w229 h230 b231 hb232 s233 hk234 hc235 => ?_)
   have S238 := S228.trans0 s233
   have rs239 : RS h230 (sl b231 0 1 1) ([r215.1] : List Int) := RS.litL _ [[vi r215.1]] rfl rfl hc235 ⟨rfl, trivial⟩
   have ow240 := Own.lit (base := w0.heap.size) (sz := 1) (m := 1) hk234 hc235 (by rw [hb232]; exact S228.size) rfl (by decide)
   refine Wv rfl (Z3b (vs := [(1, sl b231 0 1 1)]) (cs := [.slice none 0 0, sl b231 0 1 1, .slice none 0 0]) rfl t_places_77 Zdd rfl) ?_
   have ob241 := (ob227.step0 s233)
   have ob242 := (ob236.step0 s233)
   have ob243 := (ob237.step0 s233)
   refine Z19 (zs := [.slice none 0 0, .slice none 0 0, .slice none 0 0]) rfl rfl Zdd rfl S238.sub (fun w244 b245 hb246 s247 ob248 => ?_)
   have ne249 : b1 ≠ b245 := ob241.ne_new hb246
   have ne250 : b10 ≠ b245 := ob242.ne_new hb246
   have ne251 : b53 ≠ b245 := ob243.ne_new hb246
   have g252 : w0.heap.size ≤ b245 := by rw [hb246]; exact S238.size
   have S253 := S238.trans0 s247
   refine Zr (vs := [.slice none 0 0, sl b231 0 1 1, .slice none 0 0]) rfl rfl rfl rfl Z6c (Z3 rfl (Z3 rfl (Z3 rfl Zx))) ob248 S253.sub (by simp) (ds := [.slice none 0 0, sl b231 0 1 1, .slice none 0 0]) rfl (fun w254 s255 ob256 => ?_)
   have S257 := S253.trans1 s255 (.inr g252)
   refine Z6 <| Z4 <| Zc <| Z0r <| Z5v <| Z99 [0, 2, 3, 4] [(0, pt b1 0), (2, pt b10 0), (3, pt b53 0), (4, pt b245 0)] rfl <| Z5u (K := j101) (fun j E w259 => ∃ (h258 : Hp) (x262 : Int) (xs265 : List Ex) (v266 : Value) (xs269 : List Ar) (v270 : Value) (xs274 : List Int) (v275 : Value), (Z8 j).parse_Parser_choice_l4 xs3 x262 xs265 xs269 xs274 = some r ∧ E = [(0, pt b1 0), (2, pt b10 0), (3, pt b53 0), (4, pt b245 0)] ∧ Stp [b1] w0 h0 w259 h258 ∧ Hle h230 h258 ∧ RS h258 v266 xs265 ∧ Own w259 h258 w0.heap.size 47 6 v266 xs265.length ∧ RS h258 v270 xs269 ∧ Own w259 h258 w0.heap.size 77 3 v270 xs269.length ∧ RS h258 v275 xs274 ∧ Own w259 h258 w0.heap.size 3 1 v275 xs274.length ∧ OB w259 h258 b1 T2 [v4, vi x262] ∧ OB w259 h258 b10 56 [vi 0, .string Z1e, .slice none 0 0, .slice none 0 0, .slice none 0 0, vi 0, .slice none 0 0, .slice none 0 0, .slice none 0 0, .bool false] ∧ OB w259 h258 b53 56 [vi 4, .string Z1e, .slice none 0 0, .slice none 0 0, v266, vi 0, .slice none 0 0, v270, .slice none 0 0, .bool false] ∧ OB w259 h258 b245 77 [.slice none 0 0, v275, .slice none 0 0]) ?_ ?_ (j := j101) (Nat.le_refl _) ?_
   ·rintro E w259 ⟨_, _, _, _, _, _, _, _, HF, _⟩; cases HF
   ·rintro j279 hj281 IHL280 E w259 ⟨h258, x262, xs265, v266, xs269, v270, xs274, v275, HF, rfl, S261, le260, rs267, ow268, rs271, ow272, rs276, ow277, ob263, ob264, ob273, ob278⟩
    refine Z09 (fun E w376 => ∃ (h375 : Hp) (x379 : Int) (xs382 : List Ex) (v383 : Value) (xs386 : List Ar) (v387 : Value) (xs391 : List Int) (v392 : Value), Zc4 j279 (Z8 j279) xs3 x379 xs382 xs386 xs391 = some r ∧ E = [(0, pt b1 0), (2, pt b10 0), (3, pt b53 0), (4, pt b245 0)] ∧ Stp [b1] w0 h0 w376 h375 ∧ Hle h258 h375 ∧ RS h375 v383 xs382 ∧ Own w376 h375 w0.heap.size 47 6 v383 xs382.length ∧ RS h375 v387 xs386 ∧ Own w376 h375 w0.heap.size 77 3 v387 xs386.length ∧ RS h375 v392 xs391 ∧ Own w376 h375 w0.heap.size 3 1 v392 xs391.length ∧ OB w376 h375 b1 T2 [v4, vi x379] ∧ OB w376 h375 b10 56 [vi 0, .string Z1e, .slice none 0 0, .slice none 0 0, .slice none 0 0, vi 0, .slice none 0 0, .slice none 0 0, .slice none 0 0, .bool false] ∧ OB w376 h375 b53 56 [vi 4, .string Z1e, .slice none 0 0, .slice none 0 0, v383, vi 0, .slice none 0 0, v387, .slice none 0 0, .bool false] ∧ OB w376 h375 b245 77 [.slice none 0 0, v392, .slice none 0 0]) ?_ ?_
    ·rintro E w376 ⟨h375, x379, xs382, v383, xs386, v387, xs391, v392, HF, rfl, S378, le377, rs384, ow385, rs388, ow389, rs393, ow394, ob380, ob381, ob390, ob395⟩
     refine Z0r <| Zc <| Z0 <| Wm rfl rfl ?_
     obtain ⟨r396, hr397, HF⟩ := Z5 HF
     rcases r396 with t398 | r399
     ·obtain rfl := Z02 HF
      refine Z0h rfl (Zd (vs := [pt b1 0]) rfl t_ent_158) (Z6n _ hr397 S378.sub (rs5.mono ((s12.le).trans ((s25.le).trans ((s43.le).trans ((s55.le).trans ((s62.le).trans ((s73.le).trans ((le87).trans ((le199).trans ((s219.le).trans ((s233.le).trans ((s247.le).trans ((s255.le).trans ((le260).trans le377)))))))))))))) ob380) ?_
      rintro ch405 w406 ⟨ht407, h408, s409, ob404⟩
      refine Ze <| Zu <| Ze <| Zu <| Ze <| Zu <| Ze <| Zu <| Ze <| Zs ?_
      have S410 := S378.trans s409 (Zl (.inl (by simp)) Zt)
      exact ⟨_, rfl, ht407, h408, S410, ob404⟩
     replace HF := Z0i HF
     refine Wc rfl (Zd (vs := [pt b1 0]) rfl t_ent_158) (Z6n _ hr397 S378.sub (rs5.mono ((s12.le).trans ((s25.le).trans ((s43.le).trans ((s55.le).trans ((s62.le).trans ((s73.le).trans ((le87).trans ((le199).trans ((s219.le).trans ((s233.le).trans ((s247.le).trans ((s255.le).trans ((le260).trans le377)))))))))))))) ob380) ?_
     rintro _ w401 ⟨h402, s403, rfl, ob411⟩
     have S412 := S378.trans s403 (Zl (.inl (by simp)) Zt)
     refine Wa rfl rfl <| Z6 <| Z4 <| Z0 <| Wv rfl (Z1 rfl Z40) ?_
     have ob413 := (ob395.step1 s403 (Ne.symm ne249))
     refine Wv rfl (Zb rfl Zcn (OB.cell ob413 (j := 1) rfl)) <| Wm rfl rfl ?_
     have ob421 := (ob381.step1 s403 (Ne.symm ne14))
     have ob422 := (ob390.step1 s403 (Ne.symm ne57))
     refine Z10 (us := [vi r399.1]) (cs := [vi r399.1]) rfl rfl rfl Z5o Z1s t_zero_3 rfl (Z0c rfl Zci) rfl rfl rfl S412.sub (fun w414 h415 b416 hb417 s418 hk419 hc420 => ?_)
     have S423 := S412.trans0 s418
     have rs424 : RS h415 (sl b416 0 1 1) ([r399.1] : List Int) := RS.litL _ [[vi r399.1]] rfl rfl hc420 ⟨rfl, trivial⟩
     have ow425 := Own.lit (base := w0.heap.size) (sz := 1) (m := 1) hk419 hc420 (by rw [hb417]; exact S412.size) rfl (by decide)
     obtain ⟨hl426, HF⟩ := Ze7 HF
     have ob434 := (ob411.step0 s418)
     have ob435 := (ob421.step0 s418)
     have ob436 := (ob422.step0 s418)
     have ob437 := (ob413.step0 s418)
     refine Zeu (xs := (xs391 : List Int)) (ys := [r399.1]) rfl rfl rfl rfl Z5o Z1s t_zero_3 rfl t_bytes_3 rfl ((ow394.step s403 (Z2 (ow394.ne_old lt8) Z9)).step0 s418) (rs393.mono ((s403.le).trans s418.le)) rs424 hl426 S423.sub S423.size (by rw [S423.eqb]; exact hs0.big) (fun v427 w428 h429 rs430 ow431 s432 at433 => ?_)
     have S438 := S423.trans s432 (fun i hi => .inr (((ow394.step s403 (Z2 (ow394.ne_old lt8) Z9)).step0 s418).base_le i hi))
     refine Wv rfl (Z1 rfl Z40) ?_
     have ob439 := (ob437.step s432 (fun hm => ((ow394.step s403 (Z2 (ow394.ne_old lt8) Z9)).step0 s418).ne ob437 (by decide) _ hm rfl))
     refine Zr (vs := [v427]) rfl rfl rfl (RS.cellsL rs430) t_size_75 (Z3 (RS.one rs430) Zx) ob439 S438.sub (by simp) (ds := [.slice none 0 0, v427, .slice none 0 0]) rfl (fun w440 s441 ob442 => ?_)
     have S443 := S438.trans1 s441 (.inr g252)
     refine Z6 <| Zy ?_
     have ob448 := ((ob434.step s432 (fun hm => absurd (((ow394.step s403 (Z2 (ow394.ne_old lt8) Z9)).step0 s418).base_le _ hm) (Nat.not_le.2 lt8))).step1 s441 ne249)
     have ob449 := ((ob435.step s432 (fun hm => ((ow394.step s403 (Z2 (ow394.ne_old lt8) Z9)).step0 s418).ne ob435 (by decide) _ hm rfl)).step1 s441 ne250)
     have ob450 := ((ob436.step s432 (fun hm => ((ow394.step s403 (Z2 (ow394.ne_old lt8) Z9)).step0 s418).ne ob436 (by decide) _ hm rfl)).step1 s441 ne251)
     refine Z2p <| Z99 [0, 2, 3, 4] [(0, pt b1 0), (2, pt b10 0), (3, pt b53 0), (4, pt b245 0)] rfl ?_
     exact IHL280 j279 (Nat.le_refl _) _ _ ⟨h429, r399.2, xs382, v383, xs386, v387, xs391 ++ [r399.1], v427, HF, rfl, S443, (le260).trans ((le377).trans ((s403.le).trans ((s418.le).trans ((s432.le).trans s441.le)))), (rs384.mono ((s403.le).trans ((s418.le).trans ((s432.le).trans s441.le)))), ((((ow385.step s403 (Z2 (ow385.ne_old lt8) Z9)).step0 s418).step s432 (((ow385.step s403 (Z2 (ow385.ne_old lt8) Z9)).step0 s418).ne_own ((ow394.step s403 (Z2 (ow394.ne_old lt8) Z9)).step0 s418) (by decide))).step s441 (Z2 ((((ow385.step s403 (Z2 (ow385.ne_old lt8) Z9)).step0 s418).step s432 (((ow385.step s403 (Z2 (ow385.ne_old lt8) Z9)).step0 s418).ne_own ((ow394.step s403 (Z2 (ow394.ne_old lt8) Z9)).step0 s418) (by decide))).ne_ob ob439 (by decide)) Z9)), (rs388.mono ((s403.le).trans ((s418.le).trans ((s432.le).trans s441.le)))), ((((ow389.step s403 (Z2 (ow389.ne_old lt8) Z9)).step0 s418).step s432 (((ow389.step s403 (Z2 (ow389.ne_old lt8) Z9)).step0 s418).ne_own ((ow394.step s403 (Z2 (ow394.ne_old lt8) Z9)).step0 s418) (by decide))).step s441 (Z2 ((((ow389.step s403 (Z2 (ow389.ne_old lt8) Z9)).step0 s418).step s432 (((ow389.step s403 (Z2 (ow389.ne_old lt8) Z9)).step0 s418).ne_own ((ow394.step s403 (Z2 (ow394.ne_old lt8) Z9)).step0 s418) (by decide))).ne_obS1 (rs388.mono ((s403.le).trans ((s418.le).trans s432.le))) ob439) Z9)), (rs430.mono (s441.le)), (ow431.step s441 (Z2 (ow431.ne_ob ob439 (by decide)) Z9)), ob448, ob449, ob450, ob442⟩
    intro J444
    refine Zc <| Z0 <| Wm rfl rfl ?_
    obtain ⟨r282, hr283, HF⟩ := Z5 HF
    refine Wc rfl (Zd (vs := [pt b1 0, .string b'83]) rfl Z53) (Z0p _ hr283 S261.sub (rs5.mono ((s12.le).trans ((s25.le).trans ((s43.le).trans ((s55.le).trans ((s62.le).trans ((s73.le).trans ((le87).trans ((le199).trans ((s219.le).trans ((s233.le).trans ((s247.le).trans ((s255.le).trans le260))))))))))))) ob263) ?_
    rintro _ w285 ⟨h286, s287, rfl, ob288⟩
    have S289 := S261.trans s287 (Zl (.inl (by simp)) Zt)
    refine Z6 <| Z4 <| Z15 HF rfl (fun HF => ?_) (fun HF => ?_)
    ·refine Zq ?_
     have ob445 := (ob264.step1 s287 (Ne.symm ne14))
     have ob446 := (ob273.step1 s287 (Ne.symm ne57))
     have ob447 := (ob278.step1 s287 (Ne.symm ne249))
     refine Z01 [0, 2, 3, 4] _ rfl ?_
     exact J444 ⟨h286, r282.2, xs265, v266, xs269, v270, xs274, v275, HF, rfl, S289, s287.le, (rs267.mono (s287.le)), (ow268.step s287 (Z2 (ow268.ne_old lt8) Z9)), (rs271.mono (s287.le)), (ow272.step s287 (Z2 (ow272.ne_old lt8) Z9)), (rs276.mono (s287.le)), (ow277.step s287 (Z2 (ow277.ne_old lt8) Z9)), ob288, ob445, ob446, ob447⟩
    refine Z66 <| Z05 <| Z05 <| Z1m <| Z4 <| Zc <| Z0 <| Wm rfl rfl ?_
    obtain ⟨r291, hr292, HF⟩ := Z5 HF
    rcases r291 with t293 | r294
    ·obtain rfl := Z02 HF
     have ob299 := (ob264.step1 s287 (Ne.symm ne14))
     have ob300 := (ob273.step1 s287 (Ne.symm ne57))
     have ob301 := (ob278.step1 s287 (Ne.symm ne249))
     refine Z0h rfl (Zd (vs := [pt b1 0, .string b'88]) rfl Z20) (Zn _ hr292 S289.sub (rs5.mono ((s12.le).trans ((s25.le).trans ((s43.le).trans ((s55.le).trans ((s62.le).trans ((s73.le).trans ((le87).trans ((le199).trans ((s219.le).trans ((s233.le).trans ((s247.le).trans ((s255.le).trans ((le260).trans s287.le)))))))))))))) ob288) ?_
     rintro ch303 w304 ⟨ht305, h306, s307, ob302⟩
     refine Ze <| Zu <| Ze <| Zu <| Ze <| Zs ?_
     have S308 := S289.trans s307 (Zl (.inl (by simp)) Zt)
     exact ⟨_, rfl, ht305, h306, S308, ob302⟩
    replace HF := Z0i HF
    refine Wc rfl (Zd (vs := [pt b1 0, .string b'88]) rfl Z20) (Zn _ hr292 S289.sub (rs5.mono ((s12.le).trans ((s25.le).trans ((s43.le).trans ((s55.le).trans ((s62.le).trans ((s73.le).trans ((le87).trans ((le199).trans ((s219.le).trans ((s233.le).trans ((s247.le).trans ((s255.le).trans ((le260).trans s287.le)))))))))))))) ob288) ?_
    have ob309 := (ob264.step1 s287 (Ne.symm ne14))
    have ob310 := (ob273.step1 s287 (Ne.symm ne57))
    have ob311 := (ob278.step1 s287 (Ne.symm ne249))
    rintro v295 w296 ⟨h297, s298, rfl, ob312⟩
    have S313 := S289.trans s298 (Zl (.inl (by simp)) Zt)
    refine Z6 <| Z4 <| Zc <| Z0 <| Wm rfl rfl ?_
    obtain ⟨r314, hr315, HF⟩ := Z5 HF
    rcases r314 with t316 | r317
    ·obtain rfl := Z02 HF
     have ob322 := (ob309.step1 s298 (Ne.symm ne14))
     have ob323 := (ob310.step1 s298 (Ne.symm ne57))
     have ob324 := (ob311.step1 s298 (Ne.symm ne249))
     refine Z0h rfl (Zd (vs := [pt b1 0]) rfl Z92) ((IH _ (Nat.le_trans (Nat.le_of_succ_le hj281) (Nat.le_trans (Nat.le_of_succ_le hj103) (Nat.le_refl _)))).1 hr315 S313.sub (rs5.mono ((s12.le).trans ((s25.le).trans ((s43.le).trans ((s55.le).trans ((s62.le).trans ((s73.le).trans ((le87).trans ((le199).trans ((s219.le).trans ((s233.le).trans ((s247.le).trans ((s255.le).trans ((le260).trans ((s287.le).trans s298.le))))))))))))))) ob312) ?_
     rintro ch326 w327 ⟨ht328, h329, s330, ob325⟩
     refine Ze <| Zu <| Ze <| Zu <| Ze <| Zs ?_
     have S331 := S313.trans s330 (Zl (.inl (by simp)) Zt)
     exact ⟨_, rfl, ht328, h329, S331, ob325⟩
    replace HF := Z0i HF
    refine Wc rfl (Zd (vs := [pt b1 0]) rfl Z92) ((IH _ (Nat.le_trans (Nat.le_of_succ_le hj281) (Nat.le_trans (Nat.le_of_succ_le hj103) (Nat.le_refl _)))).1 hr315 S313.sub (rs5.mono ((s12.le).trans ((s25.le).trans ((s43.le).trans ((s55.le).trans ((s62.le).trans ((s73.le).trans ((le87).trans ((le199).trans ((s219.le).trans ((s233.le).trans ((s247.le).trans ((s255.le).trans ((le260).trans ((s287.le).trans s298.le))))))))))))))) ob312) ?_
    have ob334 := (ob309.step1 s298 (Ne.symm ne14))
    have ob335 := (ob310.step1 s298 (Ne.symm ne57))
    have ob336 := (ob311.step1 s298 (Ne.symm ne249))
    rintro v332 w319 ⟨h320, s321, rs333, ob337⟩
    have S338 := S313.trans s321 (Zl (.inl (by simp)) Zt)
    refine Wv rfl (Z1 rfl Ze3) ?_
    have ob339 := (ob336.step1 s321 (Ne.symm ne249))
    refine Zr (vs := [v332]) rfl rfl rfl (RS.cellsL rs333) Zga (Z3 (RS.one rs333) Zx) ob339 S338.sub (by simp) (ds := [.slice none 0 0, v275, v332]) rfl (fun w340 s341 ob342 => ?_)
    have S343 := S338.trans1 s341 (.inr g252)
    refine Z6 <| Z4 <| Z0 <| Wv rfl (Z1 rfl Z3g) ?_
    have ob344 := ((ob335.step1 s321 (Ne.symm ne57)).step1 s341 ne251)
    refine Wv rfl (Zb rfl Zbt (OB.cell ob344 (j := 7) rfl)) <| Wv rfl (Z2t (cs := [.slice none 0 0, v275, v332]) rfl t_agg_77 Z6c (OB.cells ob342 0 rfl)) ?_
    have ob352 := (ob337.step1 s341 ne249)
    have ob353 := ((ob334.step1 s321 (Ne.symm ne14)).step1 s341 ne250)
    refine Z10 (us := [.agg #[.slice none 0 0, v275, v332]]) (cs := [.slice none 0 0, v275, v332]) rfl rfl rfl Z4u Z6c Zdd rfl (Z0c rfl Zci) rfl rfl rfl S343.sub (fun w345 h346 b347 hb348 s349 hk350 hc351 => ?_)
    have S354 := S343.trans0 s349
    have rs355 : RS h346 (sl b347 0 1 1) ([(Ar.mk [] xs274 r317.1)] : List Ar) := RS.litL _ [[.slice none 0 0, v275, v332]] rfl rfl hc351 ⟨(rp_Ar.2 ⟨_, _, _, rfl, (RS.nil _), (rs276.mono ((s287.le).trans ((s298.le).trans ((s321.le).trans ((s341.le).trans s349.le))))), (rs333.mono ((s341.le).trans s349.le))⟩), trivial⟩
    have ow356 := Own.lit (base := w0.heap.size) (sz := 3) (m := 1) hk350 hc351 (by rw [hb348]; exact S343.size) rfl (by decide)
    obtain ⟨hl357, HF⟩ := Ze7 HF
    have ob365 := (ob352.step0 s349)
    have ob366 := (ob353.step0 s349)
    have ob367 := (ob344.step0 s349)
    have ob368 := (ob342.step0 s349)
    refine Zeu (xs := (xs269 : List Ar)) (ys := [(Ar.mk [] xs274 r317.1)]) rfl rfl rfl rfl Z4u Z6c Zdd rfl t_bytes_77 rfl (((((ow272.step s287 (Z2 (ow272.ne_old lt8) Z9)).step s298 (Z2 ((ow272.step s287 (Z2 (ow272.ne_old lt8) Z9)).ne_old lt8) Z9)).step s321 (Z2 (((ow272.step s287 (Z2 (ow272.ne_old lt8) Z9)).step s298 (Z2 ((ow272.step s287 (Z2 (ow272.ne_old lt8) Z9)).ne_old lt8) Z9)).ne_old lt8) Z9)).step s341 (Z2 ((((ow272.step s287 (Z2 (ow272.ne_old lt8) Z9)).step s298 (Z2 ((ow272.step s287 (Z2 (ow272.ne_old lt8) Z9)).ne_old lt8) Z9)).step s321 (Z2 (((ow272.step s287 (Z2 (ow272.ne_old lt8) Z9)).step s298 (Z2 ((ow272.step s287 (Z2 (ow272.ne_old lt8) Z9)).ne_old lt8) Z9)).ne_old lt8) Z9)).ne_obS1 (rs271.mono ((s287.le).trans ((s298.le).trans s321.le))) ob339) Z9)).step0 s349) (rs271.mono ((s287.le).trans ((s298.le).trans ((s321.le).trans ((s341.le).trans s349.le))))) rs355 hl357 S354.sub S354.size (by rw [S354.eqb]; exact hs0.big) (fun v358 w359 h360 rs361 ow362 s363 at364 => ?_)
    have S369 := S354.trans s363 (fun i hi => .inr ((((((ow272.step s287 (Z2 (ow272.ne_old lt8) Z9)).step s298 (Z2 ((ow272.step s287 (Z2 (ow272.ne_old lt8) Z9)).ne_old lt8) Z9)).step s321 (Z2 (((ow272.step s287 (Z2 (ow272.ne_old lt8) Z9)).step s298 (Z2 ((ow272.step s287 (Z2 (ow272.ne_old lt8) Z9)).ne_old lt8) Z9)).ne_old lt8) Z9)).step s341 (Z2 ((((ow272.step s287 (Z2 (ow272.ne_old lt8) Z9)).step s298 (Z2 ((ow272.step s287 (Z2 (ow272.ne_old lt8) Z9)).ne_old lt8) Z9)).step s321 (Z2 (((ow272.step s287 (Z2 (ow272.ne_old lt8) Z9)).step s298 (Z2 ((ow272.step s287 (Z2 (ow272.ne_old lt8) Z9)).ne_old lt8) Z9)).ne_old lt8) Z9)).ne_obS1 (rs271.mono ((s287.le).trans ((s298.le).trans s321.le))) ob339) Z9)).step0 s349).base_le i hi))
    refine Wv rfl (Z1 rfl Z3g) ?_
    have ob370 := (ob367.step s363 (fun hm => (((((ow272.step s287 (Z2 (ow272.ne_old lt8) Z9)).step s298 (Z2 ((ow272.step s287 (Z2 (ow272.ne_old lt8) Z9)).ne_old lt8) Z9)).step s321 (Z2 (((ow272.step s287 (Z2 (ow272.ne_old lt8) Z9)).step s298 (Z2 ((ow272.step s287 (Z2 (ow272.ne_old lt8) Z9)).ne_old lt8) Z9)).ne_old lt8) Z9)).step s341 (Z2 ((((ow272.step s287 (Z2 (ow272.ne_old lt8) Z9)).step s298 (Z2 ((ow272.step s287 (Z2 (ow272.ne_old lt8) Z9)).ne_old lt8) Z9)).step s321 (Z2 (((ow272.step s287 (Z2 (ow272.ne_old lt8) Z9)).step s298 (Z2 ((ow272.step s287 (Z2 (ow272.ne_old lt8) Z9)).ne_old lt8) Z9)).ne_old lt8) Z9)).ne_obS1 (rs271.mono ((s287.le).trans ((s298.le).trans s321.le))) ob339) Z9)).step0 s349).ne ob367 (by decide) _ hm rfl))
    refine Zr (vs := [v358]) rfl rfl rfl (RS.cellsL rs361) t_size_54 (Z3 (RS.one rs361) Zx) ob370 S369.sub (by simp) (ds := [vi 4, .string Z1e, .slice none 0 0, .slice none 0 0, v266, vi 0, .slice none 0 0, v358, .slice none 0 0, .bool false]) rfl (fun w371 s372 ob373 => ?_)
    have S374 := S369.trans1 s372 (.inr g59)
    refine Z6 <| Zy ?_
    have ob455 := ((ob365.step s363 (fun hm => absurd ((((((ow272.step s287 (Z2 (ow272.ne_old lt8) Z9)).step s298 (Z2 ((ow272.step s287 (Z2 (ow272.ne_old lt8) Z9)).ne_old lt8) Z9)).step s321 (Z2 (((ow272.step s287 (Z2 (ow272.ne_old lt8) Z9)).step s298 (Z2 ((ow272.step s287 (Z2 (ow272.ne_old lt8) Z9)).ne_old lt8) Z9)).ne_old lt8) Z9)).step s341 (Z2 ((((ow272.step s287 (Z2 (ow272.ne_old lt8) Z9)).step s298 (Z2 ((ow272.step s287 (Z2 (ow272.ne_old lt8) Z9)).ne_old lt8) Z9)).step s321 (Z2 (((ow272.step s287 (Z2 (ow272.ne_old lt8) Z9)).step s298 (Z2 ((ow272.step s287 (Z2 (ow272.ne_old lt8) Z9)).ne_old lt8) Z9)).ne_old lt8) Z9)).ne_obS1 (rs271.mono ((s287.le).trans ((s298.le).trans s321.le))) ob339) Z9)).step0 s349).base_le _ hm) (Nat.not_le.2 lt8))).step1 s372 ne57)
    have ob456 := ((ob366.step s363 (fun hm => (((((ow272.step s287 (Z2 (ow272.ne_old lt8) Z9)).step s298 (Z2 ((ow272.step s287 (Z2 (ow272.ne_old lt8) Z9)).ne_old lt8) Z9)).step s321 (Z2 (((ow272.step s287 (Z2 (ow272.ne_old lt8) Z9)).step s298 (Z2 ((ow272.step s287 (Z2 (ow272.ne_old lt8) Z9)).ne_old lt8) Z9)).ne_old lt8) Z9)).step s341 (Z2 ((((ow272.step s287 (Z2 (ow272.ne_old lt8) Z9)).step s298 (Z2 ((ow272.step s287 (Z2 (ow272.ne_old lt8) Z9)).ne_old lt8) Z9)).step s321 (Z2 (((ow272.step s287 (Z2 (ow272.ne_old lt8) Z9)).step s298 (Z2 ((ow272.step s287 (Z2 (ow272.ne_old lt8) Z9)).ne_old lt8) Z9)).ne_old lt8) Z9)).ne_obS1 (rs271.mono ((s287.le).trans ((s298.le).trans s321.le))) ob339) Z9)).step0 s349).ne ob366 (by decide) _ hm rfl)).step1 s372 ne58)
    refine Z2p <| Z99 [0, 2, 3] [(0, pt b1 0), (2, pt b10 0), (3, pt b53 0)] rfl ?_
    exact IHL102 j279 (Nat.le_trans (Nat.le_of_succ_le hj281) (Nat.le_refl _)) _ _ ⟨h360, r317.2, xs265, v266, xs269 ++ [(Ar.mk [] xs274 r317.1)], v358, HF, rfl, S374, (le87).trans ((le199).trans ((s219.le).trans ((s233.le).trans ((s247.le).trans ((s255.le).trans ((le260).trans ((s287.le).trans ((s298.le).trans ((s321.le).trans ((s341.le).trans ((s349.le).trans ((s363.le).trans s372.le)))))))))))), (rs267.mono ((s287.le).trans ((s298.le).trans ((s321.le).trans ((s341.le).trans ((s349.le).trans ((s363.le).trans s372.le))))))), (((((((ow268.step s287 (Z2 (ow268.ne_old lt8) Z9)).step s298 (Z2 ((ow268.step s287 (Z2 (ow268.ne_old lt8) Z9)).ne_old lt8) Z9)).step s321 (Z2 (((ow268.step s287 (Z2 (ow268.ne_old lt8) Z9)).step s298 (Z2 ((ow268.step s287 (Z2 (ow268.ne_old lt8) Z9)).ne_old lt8) Z9)).ne_old lt8) Z9)).step s341 (Z2 ((((ow268.step s287 (Z2 (ow268.ne_old lt8) Z9)).step s298 (Z2 ((ow268.step s287 (Z2 (ow268.ne_old lt8) Z9)).ne_old lt8) Z9)).step s321 (Z2 (((ow268.step s287 (Z2 (ow268.ne_old lt8) Z9)).step s298 (Z2 ((ow268.step s287 (Z2 (ow268.ne_old lt8) Z9)).ne_old lt8) Z9)).ne_old lt8) Z9)).ne_ob ob339 (by decide)) Z9)).step0 s349).step s363 ((((((ow268.step s287 (Z2 (ow268.ne_old lt8) Z9)).step s298 (Z2 ((ow268.step s287 (Z2 (ow268.ne_old lt8) Z9)).ne_old lt8) Z9)).step s321 (Z2 (((ow268.step s287 (Z2 (ow268.ne_old lt8) Z9)).step s298 (Z2 ((ow268.step s287 (Z2 (ow268.ne_old lt8) Z9)).ne_old lt8) Z9)).ne_old lt8) Z9)).step s341 (Z2 ((((ow268.step s287 (Z2 (ow268.ne_old lt8) Z9)).step s298 (Z2 ((ow268.step s287 (Z2 (ow268.ne_old lt8) Z9)).ne_old lt8) Z9)).step s321 (Z2 (((ow268.step s287 (Z2 (ow268.ne_old lt8) Z9)).step s298 (Z2 ((ow268.step s287 (Z2 (ow268.ne_old lt8) Z9)).ne_old lt8) Z9)).ne_old lt8) Z9)).ne_ob ob339 (by decide)) Z9)).step0 s349).ne_own (((((ow272.step s287 (Z2 (ow272.ne_old lt8) Z9)).step s298 (Z2 ((ow272.step s287 (Z2 (ow272.ne_old lt8) Z9)).ne_old lt8) Z9)).step s321 (Z2 (((ow272.step s287 (Z2 (ow272.ne_old lt8) Z9)).step s298 (Z2 ((ow272.step s287 (Z2 (ow272.ne_old lt8) Z9)).ne_old lt8) Z9)).ne_old lt8) Z9)).step s341 (Z2 ((((ow272.step s287 (Z2 (ow272.ne_old lt8) Z9)).step s298 (Z2 ((ow272.step s287 (Z2 (ow272.ne_old lt8) Z9)).ne_old lt8) Z9)).step s321 (Z2 (((ow272.step s287 (Z2 (ow272.ne_old lt8) Z9)).step s298 (Z2 ((ow272.step s287 (Z2 (ow272.ne_old lt8) Z9)).ne_old lt8) Z9)).ne_old lt8) Z9)).ne_obS1 (rs271.mono ((s287.le).trans ((s298.le).trans s321.le))) ob339) Z9)).step0 s349) (by decide))).step s372 (Z2 (((((((ow268.step s287 (Z2 (ow268.ne_old lt8) Z9)).step s298 (Z2 ((ow268.step s287 (Z2 (ow268.ne_old lt8) Z9)).ne_old lt8) Z9)).step s321 (Z2 (((ow268.step s287 (Z2 (ow268.ne_old lt8) Z9)).step s298 (Z2 ((ow268.step s287 (Z2 (ow268.ne_old lt8) Z9)).ne_old lt8) Z9)).ne_old lt8) Z9)).step s341 (Z2 ((((ow268.step s287 (Z2 (ow268.ne_old lt8) Z9)).step s298 (Z2 ((ow268.step s287 (Z2 (ow268.ne_old lt8) Z9)).ne_old lt8) Z9)).step s321 (Z2 (((ow268.step s287 (Z2 (ow268.ne_old lt8) Z9)).step s298 (Z2 ((ow268.step s287 (Z2 (ow268.ne_old lt8) Z9)).ne_old lt8) Z9)).ne_old lt8) Z9)).ne_ob ob339 (by decide)) Z9)).step0 s349).step s363 ((((((ow268.step s287 (Z2 (ow268.ne_old lt8) Z9)).step s298 (Z2 ((ow268.step s287 (Z2 (ow268.ne_old lt8) Z9)).ne_old lt8) Z9)).step s321 (Z2 (((ow268.step s287 (Z2 (ow268.ne_old lt8) Z9)).step s298 (Z2 ((ow268.step s287 (Z2 (ow268.ne_old lt8) Z9)).ne_old lt8) Z9)).ne_old lt8) Z9)).step s341 (Z2 ((((ow268.step s287 (Z2 (ow268.ne_old lt8) Z9)).step s298 (Z2 ((ow268.step s287 (Z2 (ow268.ne_old lt8) Z9)).ne_old lt8) Z9)).step s321 (Z2 (((ow268.step s287 (Z2 (ow268.ne_old lt8) Z9)).step s298 (Z2 ((ow268.step s287 (Z2 (ow268.ne_old lt8) Z9)).ne_old lt8) Z9)).ne_old lt8) Z9)).ne_ob ob339 (by decide)) Z9)).step0 s349).ne_own (((((ow272.step s287 (Z2 (ow272.ne_old lt8) Z9)).step s298 (Z2 ((ow272.step s287 (Z2 (ow272.ne_old lt8) Z9)).ne_old lt8) Z9)).step s321 (Z2 (((ow272.step s287 (Z2 (ow272.ne_old lt8) Z9)).step s298 (Z2 ((ow272.step s287 (Z2 (ow272.ne_old lt8) Z9)).ne_old lt8) Z9)).ne_old lt8) Z9)).step s341 (Z2 ((((ow272.step s287 (Z2 (ow272.ne_old lt8) Z9)).step s298 (Z2 ((ow272.step s287 (Z2 (ow272.ne_old lt8) Z9)).ne_old lt8) Z9)).step s321 (Z2 (((ow272.step s287 (Z2 (ow272.ne_old lt8) Z9)).step s298 (Z2 ((ow272.step s287 (Z2 (ow272.ne_old lt8) Z9)).ne_old lt8) Z9)).ne_old lt8) Z9)).ne_obS1 (rs271.mono ((s287.le).trans ((s298.le).trans s321.le))) ob339) Z9)).step0 s349) (by decide))).ne_ob ob370 (by decide)) Z9)), (rs361.mono (s372.le)), (ow362.step s372 (Z2 (ow362.ne_ob ob370 (by decide)) Z9)), ob455, ob456, ob373⟩
   have ob451 := ((ob241.step0 s247).step1 s255 ne249)
   have ob452 := ((ob242.step0 s247).step1 s255 ne250)
   have ob453 := ((ob243.step0 s247).step1 s255 ne251)
   exact ⟨h230, r215.2, xs203, v204, xs207, v208, [r215.1], sl b231 0 1 1, HF, rfl, S257, Hle.refl _, (rs205.mono ((s219.le).trans ((s233.le).trans ((s247.le).trans s255.le)))), ((((ow206.step s219 (Z2 (ow206.ne_old lt8) Z9)).step0 s233).step0 s247).step s255 (Z2 ((((ow206.step s219 (Z2 (ow206.ne_old lt8) Z9)).step0 s233).step0 s247).ne_ob ob248 (by decide)) Z9)), (rs209.mono ((s219.le).trans ((s233.le).trans ((s247.le).trans s255.le)))), ((((ow210.step s219 (Z2 (ow210.ne_old lt8) Z9)).step0 s233).step0 s247).step s255 (Z2 ((((ow210.step s219 (Z2 (ow210.ne_old lt8) Z9)).step0 s233).step0 s247).ne_obS1 (rs209.mono ((s219.le).trans ((s233.le).trans s247.le))) ob248) Z9)), (rs239.mono ((s247.le).trans s255.le)), ((ow240.step0 s247).step s255 (Z2 ((ow240.step0 s247).ne_ob ob248 (by decide)) Z9)), ob451, ob452, ob453, ob256⟩
  intro J454
  refine Z09 (fun E w125 => ∃ (h124 : Hp) (x128 : Bool) (xs131 : List Ex) (v132 : Value) (xs135 : List Ar) (v136 : Value), Z86 j101 (Z8 j101) xs3 x89 x128 xs131 xs135 = some r ∧ E = [(0, pt b1 0), (2, pt b10 0), (3, pt b53 0), (19, .bool x128)] ∧ Stp [b1] w0 h0 w125 h124 ∧ Hle h85 h124 ∧ RS h124 v132 xs131 ∧ Own w125 h124 w0.heap.size 47 6 v132 xs131.length ∧ RS h124 v136 xs135 ∧ Own w125 h124 w0.heap.size 77 3 v136 xs135.length ∧ OB w125 h124 b1 T2 [v4, vi x89] ∧ OB w125 h124 b10 56 [vi 0, .string Z1e, .slice none 0 0, .slice none 0 0, .slice none 0 0, vi 0, .slice none 0 0, .slice none 0 0, .slice none 0 0, .bool false] ∧ OB w125 h124 b53 56 [vi 4, .string Z1e, .slice none 0 0, .slice none 0 0, v132, vi 0, .slice none 0 0, v136, .slice none 0 0, .bool false]) ?_ ?_
  ·rintro E w125 ⟨h124, x128, xs131, v132, xs135, v136, HF, rfl, S127, le126, rs133, ow134, rs137, ow138, ob129, ob130, ob139⟩
   refine Z15 HF rfl (fun HF => ?_) (fun HF => ?_)
   ·refine Zq <| Z01 [0, 2, 3] _ rfl ?_
    exact J454 ⟨h124, xs131, v132, xs135, v136, HF, rfl, S127, le126, rs133, ow134, rs137, ow138, ob129, ob130, ob139⟩
   refine Z66 <| Z05 <| Z05 <| Z1m <| Z4 <| Zc <| Z0 <| Wm rfl rfl ?_
   obtain ⟨r141, hr142, HF⟩ := Z5 HF
   rcases r141 with t143 | r144
   ·obtain rfl := Z02 HF
    refine Z0h rfl (Zd (vs := [pt b1 0, pt b53 0]) rfl t_ent_156) ((IH _ (Nat.le_trans (Nat.le_of_succ_le hj103) (Nat.le_refl _))).2.2.1 hr142 S127.sub (rs5.mono ((s12.le).trans ((s25.le).trans ((s43.le).trans ((s55.le).trans ((s62.le).trans ((s73.le).trans ((le87).trans le126)))))))) (RS.nil _) (RS.nil _) rs133 (RS.nil _) rs137 (RS.nil _) ob129 ob139 ne57) ?_
    rintro ch153 w154 ⟨ht155, h156, s157, ob149, ⟨v150, rs151, ob152⟩⟩
    refine Ze <| Zs ?_
    have S158 := S127.trans s157 (Zl (.inl (by simp)) (Zl (.inr g59) Zt))
    exact ⟨_, rfl, ht155, h156, S158, ob149⟩
   replace HF := Z0i HF
   refine Wc rfl (Zd (vs := [pt b1 0, pt b53 0]) rfl t_ent_156) ((IH _ (Nat.le_trans (Nat.le_of_succ_le hj103) (Nat.le_refl _))).2.2.1 hr142 S127.sub (rs5.mono ((s12.le).trans ((s25.le).trans ((s43.le).trans ((s55.le).trans ((s62.le).trans ((s73.le).trans ((le87).trans le126)))))))) (RS.nil _) (RS.nil _) rs133 (RS.nil _) rs137 (RS.nil _) ob129 ob139 ne57) ?_
   rintro v145 w146 ⟨h147, s148, rfl, ob159, ⟨v160, rs161, ob162⟩⟩
   have S163 := S127.trans s148 (Zl (.inl (by simp)) (Zl (.inr g59) Zt))
   refine Z6 <| Z4 <| Zc <| Z0 <| Wm rfl rfl ?_
   obtain ⟨r164, hr165, HF⟩ := Z5 HF
   rcases r164 with t166 | r167
   ·obtain rfl := Z02 HF
    have ob172 := (ob130.step s148 (Z5w (Ne.symm ne14) (Z5w ne58 ni_nil)))
    refine Z0h rfl (Zd (vs := [pt b1 0, .string b'9]) rfl Z20) (Zn _ hr165 S163.sub (rs5.mono ((s12.le).trans ((s25.le).trans ((s43.le).trans ((s55.le).trans ((s62.le).trans ((s73.le).trans ((le87).trans ((le126).trans s148.le))))))))) ob159) ?_
    rintro ch174 w175 ⟨ht176, h177, s178, ob173⟩
    refine Ze <| Zs ?_
    have S179 := S163.trans s178 (Zl (.inl (by simp)) Zt)
    exact ⟨_, rfl, ht176, h177, S179, ob173⟩
   replace HF := Z0i HF
   refine Wc rfl (Zd (vs := [pt b1 0, .string b'9]) rfl Z20) (Zn _ hr165 S163.sub (rs5.mono ((s12.le).trans ((s25.le).trans ((s43.le).trans ((s55.le).trans ((s62.le).trans ((s73.le).trans ((le87).trans ((le126).trans s148.le))))))))) ob159) ?_
   have ob180 := (ob130.step s148 (Z5w (Ne.symm ne14) (Z5w ne58 ni_nil)))
   rintro v168 w169 ⟨h170, s171, rfl, ob181⟩
   have S182 := S163.trans s171 (Zl (.inl (by simp)) Zt)
   refine Z6 <| Z4 <| Zc <| Z0 ?_
   have ob183 := (ob162.step1 s171 (Ne.symm ne57))
   refine Wv rfl (Z2t (cs := [vi 4, .string Z1e, .slice none 0 0, .slice none 0 0, v132, vi 0, .slice none 0 0, v136, v160, .bool r144.2.2]) rfl Z6y Z0u (OB.cells ob183 0 rfl)) ?_
   have ob184 := (ob180.step1 s171 (Ne.symm ne14))
   refine Zr (vs := [vi 4, .string Z1e, .slice none 0 0, .slice none 0 0, v132, vi 0, .slice none 0 0, v136, v160, .bool r144.2.2]) rfl rfl rfl rfl Z0u (Z3 rfl (Z3 rfl (Z3 rfl (Z3 rfl (Z3 (RS.one (rs133.mono ((s148.le).trans s171.le))) (Z3 rfl (Z3 rfl (Z3 (RS.one (rs137.mono ((s148.le).trans s171.le))) (Z3 (RS.one (rs161.mono (s171.le))) (Z3 rfl Zx)))))))))) ob184 S182.sub (by simp) (ds := [vi 4, .string Z1e, .slice none 0 0, .slice none 0 0, v132, vi 0, .slice none 0 0, v136, v160, .bool r144.2.2]) rfl (fun w185 s186 ob187 => ?_)
   have S188 := S182.trans1 s186 (.inr g15)
   refine Z6 <| Z4 <| Z0b ?_
   have ob189 := (ob181.step1 s186 ne14)
   refine Z5k rfl rfl (Z0x (cs := [vi 4, .string Z1e, .slice none 0 0, .slice none 0 0, v132, vi 0, .slice none 0 0, v136, v160, .bool r144.2.2]) Z6y Z0u (OB.cells ob187 0 rfl)) ?_
   obtain rfl := Option.some.inj HF
   exact ⟨_, rfl, h170, S188, ⟨_, rfl, (rp_St.2 ⟨_, _, _, _, _, _, rfl, (RS.nil _), (RS.nil _), (rs133.mono ((s148.le).trans ((s171.le).trans s186.le))), (RS.nil _), (rs137.mono ((s148.le).trans ((s171.le).trans s186.le))), (rs161.mono ((s171.le).trans s186.le))⟩)⟩, ob189⟩
  intro J190
  refine Z0 <| Wm rfl rfl ?_
  obtain ⟨r104, hr105, HF⟩ := Z5 HF
  refine Wc rfl (Zd (vs := [pt b1 0, .string b'84]) rfl t_ent_157) (Z59 _ hr105 S88.sub (rs5.mono ((s12.le).trans ((s25.le).trans ((s43.le).trans ((s55.le).trans ((s62.le).trans ((s73.le).trans le87))))))) ob90) ?_
  rintro _ w107 ⟨h108, s109, rfl⟩
  have S110 := S88.trans0 s109
  refine Wm rfl rfl <| Z27 14 HF rfl (fun HF => ?_) (fun HF => ?_)
  ·refine Wp rfl <| Wp rfl <| Wp rfl <| Wp rfl <| Wv rfl (Zj rfl rfl) <| Z6 ?_
   have ob191 := (ob90.step0 s109)
   have ob192 := (ob91.step0 s109)
   have ob193 := (ob100.step0 s109)
   refine Z01 [0, 2, 3, 19] _ rfl ?_
   exact J190 ⟨h108, true, xs92, v93, xs96, v97, HF, rfl, S110, s109.le, (rs94.mono (s109.le)), (ow95.step0 s109), (rs98.mono (s109.le)), (ow99.step0 s109), ob191, ob192, ob193⟩
  refine Wm rfl rfl ?_
  have ob112 := (ob90.step0 s109)
  obtain ⟨r113, hr114, HF⟩ := Z5 HF
  refine Wc rfl (Zd (vs := [pt b1 0]) rfl Z7u) (Z1a _ hr114 S110.sub (rs5.mono ((s12.le).trans ((s25.le).trans ((s43.le).trans ((s55.le).trans ((s62.le).trans ((s73.le).trans ((le87).trans s109.le)))))))) ob112) ?_
  have ob121 := (ob91.step0 s109)
  have ob122 := (ob100.step0 s109)
  rintro _ w116 ⟨h117, s118, ⟨cs119, rfl, r120⟩⟩
  have S123 := S110.trans0 s118
  obtain rfl := Z67.1 r120
  refine Wv rfl (Z9k rfl Zdr Z04 rfl) <| Wv rfl (Z1g rfl rfl) <| Wv rfl (Zi rfl rfl) <| Z6 ?_
  have ob194 := (ob112.step0 s118)
  have ob195 := (ob121.step0 s118)
  have ob196 := (ob122.step0 s118)
  refine Z01 [0, 2, 3, 19] _ rfl ?_
  exact J190 ⟨h117, (r113.kind : Int) == 2, xs92, v93, xs96, v97, HF, rfl, S123, (s109.le).trans s118.le, (rs94.mono ((s109.le).trans s118.le)), ((ow95.step0 s109).step0 s118), (rs98.mono ((s109.le).trans s118.le)), ((ow99.step0 s109).step0 s118), ob194, ob195, ob196⟩
 have ob457 := (ob82.step1 s73 (Ne.symm ne14))
 have ob458 := (ob63.step1 s73 (Ne.symm ne57))
 exact ⟨h72, r69, [r21.1], sl b41 0 1 1, ([] : List Ar), .slice none 0 0, HF, rfl, S84, Hle.refl _, (rs48.mono ((s55.le).trans ((s62.le).trans s73.le))), (((ow49.step0 s55).step s62 (Z2 ((ow49.step0 s55).ne_ob ob56 (by decide)) Z9)).step s73 (Z2 (((ow49.step0 s55).step s62 (Z2 ((ow49.step0 s55).ne_ob ob56 (by decide)) Z9)).ne_old lt8) Z9)), (RS.nil _), (Own.nil _ _ _ _ _), ob83, ob457, ob458⟩
theorem s_parse_Parser_repeat (k : Nat) (IH : ∀ j, j ≤ k → Z2e (Z8 j).parse_Parser_Text ∧ Z2g (Z8 j).parse_Parser_count ∧ Z2i (Z8 j).parse_Parser_other ∧ Z2k (Z8 j).parse_Parser_while ∧ Z28 (Z8 j).parse_Parser_branch ∧ Z2a (Z8 j).parse_Parser_choice ∧ Z29 (Z8 j).parse_Parser_repeat) : Z29 (Zd2 k (Z8 k)) := by
 intro xs3 x6 r HF w0 h0 b1 T2 v4 hs0 rs5 ob7
 have S0 : Stp [b1] w0 h0 w0 h0 := Stp.refl hs0 _
 have lt8 : b1 < w0.heap.size := OB.lt ob7
 refine Z4o (n := 16) Tryz.func104 rfl Tryz.ntmps104 rfl [(0, pt b1 0)] rfl <| Zc <| Z0 <| Z19 (zs := [vi 0, .string Z1e, .slice none 0 0, .slice none 0 0, .slice none 0 0, vi 0, .slice none 0 0, .slice none 0 0, .slice none 0 0, .bool false]) rfl rfl Z38 rfl S0.sub (fun w9 b10 hb11 s12 ob13 => ?_)
 have ne14 : b1 ≠ b10 := ob7.ne_new hb11
 have g15 : w0.heap.size ≤ b10 := by rw [hb11]; exact S0.size
 have S16 := S0.trans0 s12
 refine Z6 <| Z4 <| Zc <| Z0 <| Wm rfl rfl ?_
 have ob17 := (ob7.step0 s12)
 obtain ⟨r18, hr19, HF⟩ := Z5 HF
 rcases r18 with t20 | r21
 ·obtain rfl := Z02 HF
  refine Z0h rfl (Zd (vs := [pt b1 0]) rfl Z92) ((IH _ (Nat.le_refl _)).1 hr19 S16.sub (rs5.mono (s12.le)) ob17) ?_
  rintro ch27 w28 ⟨ht29, h30, s31, ob26⟩
  refine Ze <| Zs ?_
  have S32 := S16.trans s31 (Zl (.inl (by simp)) Zt)
  exact ⟨_, rfl, ht29, h30, S32, ob26⟩
 replace HF := Z0i HF
 refine Wc rfl (Zd (vs := [pt b1 0]) rfl Z92) ((IH _ (Nat.le_refl _)).1 hr19 S16.sub (rs5.mono (s12.le)) ob17) ?_
 rintro v33 w23 ⟨h24, s25, rs34, ob35⟩
 have S36 := S16.trans s25 (Zl (.inl (by simp)) Zt)
 obtain ⟨A37, c38, rfl, rs39⟩ := RS.form rs34
 refine Wv rfl (Z3b (vs := [(0, vi 7), (6, .slice A37 (r21.1).length c38)]) (cs := [vi 7, .string Z1e, .slice none 0 0, .slice none 0 0, .slice none 0 0, vi 0, .slice A37 (r21.1).length c38, .slice none 0 0, .slice none 0 0, .bool false]) rfl Za1 Z38 rfl) ?_
 have ob40 := (ob13.step1 s25 (Ne.symm ne14))
 refine Z19 (zs := [vi 0, .string Z1e, .slice none 0 0, .slice none 0 0, .slice none 0 0, vi 0, .slice none 0 0, .slice none 0 0, .slice none 0 0, .bool false]) rfl rfl Z38 rfl S36.sub (fun w41 b42 hb43 s44 ob45 => ?_)
 have ne46 : b1 ≠ b42 := ob35.ne_new hb43
 have ne47 : b10 ≠ b42 := ob40.ne_new hb43
 have g48 : w0.heap.size ≤ b42 := by rw [hb43]; exact S36.size
 have S49 := S36.trans0 s44
 refine Zr (vs := [vi 7, .string Z1e, .slice none 0 0, .slice none 0 0, .slice none 0 0, vi 0, .slice A37 (r21.1).length c38, .slice none 0 0, .slice none 0 0, .bool false]) rfl rfl rfl rfl Z0u (Z3 rfl (Z3 rfl (Z3 rfl (Z3 rfl (Z3 rfl (Z3 rfl (Z3 rfl (Z3 rfl (Z3 rfl (Z3 rfl Zx)))))))))) ob45 S49.sub (by simp) (ds := [vi 7, .string Z1e, .slice none 0 0, .slice none 0 0, .slice none 0 0, vi 0, .slice A37 (r21.1).length c38, .slice none 0 0, .slice none 0 0, .bool false]) rfl (fun w50 s51 ob52 => ?_)
 have S53 := S49.trans1 s51 (.inr g48)
 refine Z6 <| Z4 <| Zc <| Z0 <| Wm rfl rfl ?_
 have ob54 := ((ob35.step0 s44).step1 s51 ne46)
 obtain ⟨r55, hr56, HF⟩ := Z5 HF
 rcases r55 with t57 | r58
 ·obtain rfl := Z02 HF
  refine Z0h rfl (Zd (vs := [pt b1 0, .string b'74]) rfl Z20) (Zn _ hr56 S53.sub (rs5.mono ((s12.le).trans ((s25.le).trans ((s44.le).trans s51.le)))) ob54) ?_
  rintro ch64 w65 ⟨ht66, h67, s68, ob63⟩
  refine Ze <| Zs ?_
  have S69 := S53.trans s68 (Zl (.inl (by simp)) Zt)
  exact ⟨_, rfl, ht66, h67, S69, ob63⟩
 replace HF := Z0i HF
 refine Wc rfl (Zd (vs := [pt b1 0, .string b'74]) rfl Z20) (Zn _ hr56 S53.sub (rs5.mono ((s12.le).trans ((s25.le).trans ((s44.le).trans s51.le)))) ob54) ?_
 rintro v59 w60 ⟨h61, s62, rfl, ob70⟩
 have S71 := S53.trans s62 (Zl (.inl (by simp)) Zt)
 refine Z6 <| Z4 <| Zc <| Z0 <| Wm rfl rfl ?_
 obtain ⟨r72, hr73, HF⟩ := Z5 HF
 rcases r72 with t74 | r75
 ·obtain rfl := Z02 HF
  refine Z0h rfl (Zd (vs := [pt b1 0]) rfl Z3l) (Z08 _ hr73 S71.sub (rs5.mono ((s12.le).trans ((s25.le).trans ((s44.le).trans ((s51.le).trans s62.le))))) ob70) ?_
  rintro ch81 w82 ⟨ht83, h84, s85, ob80⟩
  refine Ze <| Zs ?_
  have S86 := S71.trans s85 (Zl (.inl (by simp)) Zt)
  exact ⟨_, rfl, ht83, h84, S86, ob80⟩
 replace HF := Z0i HF
 refine Wc rfl (Zd (vs := [pt b1 0]) rfl Z3l) (Z08 _ hr73 S71.sub (rs5.mono ((s12.le).trans ((s25.le).trans ((s44.le).trans ((s51.le).trans s62.le))))) ob70) ?_
 rintro _ w77 ⟨h78, s79, ⟨cs87, rfl, r88⟩, ob89⟩
 have S90 := S71.trans s79 (Zl (.inl (by simp)) Zt)
 obtain ⟨v91, rfl, rs92⟩ := Zab.1 r88
 have ob100 := ((((ob40.step0 s44).step1 s51 ne47).step1 s62 (Ne.symm ne14)).step1 s79 (Ne.symm ne14))
 have ob101 := ((ob52.step1 s62 (Ne.symm ne46)).step1 s79 (Ne.symm ne46))
 refine Z10 (us := [.agg #[vi r75.1.op, vi r75.1.kind, vi r75.1.n, .string r75.1.s, .string r75.1.f, v91]]) (cs := [vi r75.1.op, vi r75.1.kind, vi r75.1.n, .string r75.1.s, .string r75.1.f, v91]) rfl rfl rfl Z0v Z0l Z1w rfl (Z0c rfl Zci) rfl rfl rfl S90.sub (fun w93 h94 b95 hb96 s97 hk98 hc99 => ?_)
 have S102 := S90.trans0 s97
 have rs103 : RS h94 (sl b95 0 1 1) ([r75.1] : List Ex) := RS.litL _ [[vi r75.1.op, vi r75.1.kind, vi r75.1.n, .string r75.1.s, .string r75.1.f, v91]] rfl rfl hc99 ⟨(Zab.2 ⟨_, rfl, (rs92.mono (s97.le))⟩), trivial⟩
 have ow104 := Own.lit (base := w0.heap.size) (sz := 6) (m := 1) hk98 hc99 (by rw [hb96]; exact S90.size) rfl (by decide)
 refine Wv rfl (Z1 rfl Z3u) ?_
 have ob105 := (ob101.step0 s97)
 refine Zr (vs := [sl b95 0 1 1]) rfl rfl rfl rfl Zdc (Z3 rfl Zx) ob105 S102.sub (by simp) (ds := [vi 7, .string Z1e, .slice none 0 0, .slice none 0 0, sl b95 0 1 1, vi 0, .slice A37 (r21.1).length c38, .slice none 0 0, .slice none 0 0, .bool false]) rfl (fun w106 s107 ob108 => ?_)
 have S109 := S102.trans1 s107 (.inr g48)
 refine Z6 <| Z4 <| Zc <| Z0 <| Wm rfl rfl ?_
 have ob110 := ((ob89.step0 s97).step1 s107 ne46)
 obtain ⟨r111, hr112, HF⟩ := Z5 HF
 rcases r111 with t113 | r114
 ·obtain rfl := Z02 HF
  have ob119 := ((ob100.step0 s97).step1 s107 ne47)
  refine Z0h rfl (Zd (vs := [pt b1 0, .string b'7]) rfl Z20) (Zn _ hr112 S109.sub (rs5.mono ((s12.le).trans ((s25.le).trans ((s44.le).trans ((s51.le).trans ((s62.le).trans ((s79.le).trans ((s97.le).trans s107.le)))))))) ob110) ?_
  rintro ch121 w122 ⟨ht123, h124, s125, ob120⟩
  refine Ze <| Zs ?_
  have S126 := S109.trans s125 (Zl (.inl (by simp)) Zt)
  exact ⟨_, rfl, ht123, h124, S126, ob120⟩
 replace HF := Z0i HF
 refine Wc rfl (Zd (vs := [pt b1 0, .string b'7]) rfl Z20) (Zn _ hr112 S109.sub (rs5.mono ((s12.le).trans ((s25.le).trans ((s44.le).trans ((s51.le).trans ((s62.le).trans ((s79.le).trans ((s97.le).trans s107.le)))))))) ob110) ?_
 have ob127 := ((ob100.step0 s97).step1 s107 ne47)
 rintro v115 w116 ⟨h117, s118, rfl, ob128⟩
 have S129 := S109.trans s118 (Zl (.inl (by simp)) Zt)
 refine Z6 <| Z4 <| Zc <| Z0 ?_
 have ob130 := (ob108.step1 s118 (Ne.symm ne46))
 refine Wv rfl (Z2t (cs := [vi 7, .string Z1e, .slice none 0 0, .slice none 0 0, sl b95 0 1 1, vi 0, .slice A37 (r21.1).length c38, .slice none 0 0, .slice none 0 0, .bool false]) rfl Z6y Z0u (OB.cells ob130 0 rfl)) ?_
 have ob131 := (ob127.step1 s118 (Ne.symm ne14))
 refine Zr (vs := [vi 7, .string Z1e, .slice none 0 0, .slice none 0 0, sl b95 0 1 1, vi 0, .slice A37 (r21.1).length c38, .slice none 0 0, .slice none 0 0, .bool false]) rfl rfl rfl rfl Z0u (Z3 rfl (Z3 rfl (Z3 rfl (Z3 rfl (Z3 rfl (Z3 rfl (Z3 rfl (Z3 rfl (Z3 rfl (Z3 rfl Zx)))))))))) ob131 S129.sub (by simp) (ds := [vi 7, .string Z1e, .slice none 0 0, .slice none 0 0, sl b95 0 1 1, vi 0, .slice A37 (r21.1).length c38, .slice none 0 0, .slice none 0 0, .bool false]) rfl (fun w132 s133 ob134 => ?_)
 have S135 := S129.trans1 s133 (.inr g15)
 refine Z6 <| Z4 <| Z0b ?_
 have ob136 := (ob128.step1 s133 ne14)
 refine Z5k rfl rfl (Z0x (cs := [vi 7, .string Z1e, .slice none 0 0, .slice none 0 0, sl b95 0 1 1, vi 0, .slice A37 (r21.1).length c38, .slice none 0 0, .slice none 0 0, .bool false]) Z6y Z0u (OB.cells ob134 0 rfl)) ?_
 obtain rfl := Option.some.inj HF
 exact ⟨_, rfl, h117, S135, ⟨_, rfl, (rp_St.2 ⟨_, _, _, _, _, _, rfl, (RS.nil _), (RS.nil _), (rs103.mono ((s107.le).trans ((s118.le).trans s133.le))), (rs39.mono ((s44.le).trans ((s51.le).trans ((s62.le).trans ((s79.le).trans ((s97.le).trans ((s107.le).trans ((s118.le).trans s133.le)))))))), (RS.nil _), (RS.nil _)⟩)⟩, ob136⟩
theorem all_parse_Parser_Text : ∀ k j, j ≤ k → Z2e (Z8 j).parse_Parser_Text ∧ Z2g (Z8 j).parse_Parser_count ∧ Z2i (Z8 j).parse_Parser_other ∧ Z2k (Z8 j).parse_Parser_while ∧ Z28 (Z8 j).parse_Parser_branch ∧ Z2a (Z8 j).parse_Parser_choice ∧ Z29 (Z8 j).parse_Parser_repeat := by
  intro k
  induction k with
  | zero =>
    intro j hj
    obtain rfl : j = 0 := by omega
    exact ⟨(fun _ _ _ => by intro h; cases h), (fun _ _ _ => by intro h; cases h), (fun _ _ _ _ _ _ _ _ _ _ _ _ _ => by intro h; cases h), (fun _ _ _ => by intro h; cases h), (fun _ _ _ => by intro h; cases h), (fun _ _ _ => by intro h; cases h), (fun _ _ _ => by intro h; cases h)⟩
  | succ k ih =>
    intro j hj
    by_cases h : j ≤ k
    · exact ih j h
    · obtain rfl : j = k + 1 := by omega
      exact ⟨s_parse_Parser_Text k ih, s_parse_Parser_count k ih, s_parse_Parser_other k ih, s_parse_Parser_while k ih, s_parse_Parser_branch k ih, s_parse_Parser_choice k ih, s_parse_Parser_repeat k ih⟩
theorem Zdt (k : Nat) : Z2e (Zex k) := (all_parse_Parser_Text k k (Nat.le_refl _)).1
def Zag (φ : (List Tok) → Int → (List St) → Option (Except (Int × Int × Int × List St) (Int × List St))) : Prop := ∀ ⦃xs3 : List Tok⦄ ⦃x6 : Int⦄ ⦃xs13 : List St⦄ ⦃r : Except (Int × Int × Int × List St) (Int × List St)⦄, φ xs3 x6 xs13 = some r → ∀ ⦃w0 : World⦄ ⦃h0 : Hp⦄ ⦃b1 : Nat⦄ ⦃T2 : Nat⦄ ⦃v4 : Value⦄ ⦃b8 : Nat⦄ ⦃T9 : Nat⦄ ⦃b11 : Nat⦄ ⦃T12 : Nat⦄ ⦃v14 : Value⦄, Sub h0 w0 → RS h0 v4 xs3 → RS h0 v14 xs13 → OB w0 h0 b1 T2 [v4, .int .i64 x6] → OB w0 h0 b8 T9 [.func (.func 33) #[] #[]] → OB w0 h0 b11 T12 [v14] → b1 ≠ b8 → b1 ≠ b11 → b8 ≠ b11 →
  Calls Tryz.prog 55 #[.pointer (some ⟨b1, 0, none⟩), .pointer (some ⟨b8, 0, none⟩), .pointer (some ⟨b11, 0, none⟩)] w0 fun e w1 => match r with | .ok r => ∃ v, e = .returned v ∧ ∃ h1, Stp [b1, b11] w0 h0 w1 h1 ∧ v = .tuple #[] ∧ (OB w1 h1 b1 T2 [v4, .int .i64 r.1]) ∧ (∃ y0 : Value, RS h1 y0 r.2 ∧ OB w1 h1 b11 T12 [y0]) | .error t => ∃ ch, e = .panicked ch ∧ Z8z 138 t.1 t.2.1 ch ∧ ∃ h1, Stp [b1, b11] w0 h0 w1 h1 ∧ (OB w1 h1 b1 T2 [v4, .int .i64 t.2.2.1]) ∧ (∃ y0 : Value, RS h1 y0 t.2.2.2 ∧ OB w1 h1 b11 T12 [y0])
theorem Zgb (k : Nat) : Zag (Z7f k) := by
 intro xs3 x6 xs13 r HF w0 h0 b1 T2 v4 b8 T9 b11 T12 v14 hs0 rs5 rs15 ob7 ob10 ob16 ne17 ne18 ne19
 have S0 : Stp [b1, b11] w0 h0 w0 h0 := Stp.refl hs0 _
 have lt20 : b1 < w0.heap.size := OB.lt ob7
 have lt21 : b8 < w0.heap.size := OB.lt ob10
 have lt22 : b11 < w0.heap.size := OB.lt ob16
 refine Z4o (n := 7) Tryz.func55 rfl Tryz.ntmps55 rfl [(0, pt b1 0), (1, pt b8 0), (2, pt b11 0)] rfl <| Z0 <| Wv rfl (Zb rfl t_agg_65 (OB.cell ob10 (j := 0) rfl)) <| Wm rfl rfl ?_
 obtain ⟨r23, hr24, HF⟩ := Z5 HF
 rcases r23 with t25 | r26
 ·obtain rfl := Z02 HF
  refine Z0h rfl (oc_val (vs := [pt b1 0]) (caps := []) rfl rfl Z92) (Zdt _ hr24 S0.sub rs5 ob7) ?_
  rintro ch32 w33 ⟨ht34, h35, s36, ob31⟩
  refine Zs ?_
  have S37 := S0.trans s36 (Zl (.inl (by simp)) Zt)
  have ob38 := (ob16.step1 s36 (Ne.symm ne18))
  exact ⟨_, rfl, ht34, h35, S37, ob31, ⟨_, (rs15.mono (s36.le)), ob38⟩⟩
 replace HF := Z0i HF
 refine Wc rfl (oc_val (vs := [pt b1 0]) (caps := []) rfl rfl Z92) (Zdt _ hr24 S0.sub rs5 ob7) ?_
 rintro v39 w28 ⟨h29, s30, rs40, ob41⟩
 have S42 := S0.trans s30 (Zl (.inl (by simp)) Zt)
 have ob43 := (ob16.step1 s30 (Ne.symm ne18))
 refine Zr (vs := [v39]) rfl rfl rfl (RS.cellsL rs40) Zga (Z3 (RS.one rs40) Zx) ob43 S42.sub (by simp) (ds := [v39]) rfl (fun w44 s45 ob46 => ?_)
 have S47 := S42.trans1 s45 (.inl (by simp))
 refine Z6 ?_
 have ob48 := (ob41.step1 s45 ne18)
 refine Z6j rfl ?_
 obtain rfl := Option.some.inj HF
 exact ⟨_, rfl, h29, S47, rfl, ob48, ⟨_, (rs40.mono (s45.le)), ob46⟩⟩
theorem Za7 (k : Nat) : Zag (Z7f k) := Zgb k
def Zc5 (φ : Int → Int → Int → Int → Option (Int × Int)) : Prop := ∀ ⦃x3 : Int⦄ ⦃x7 : Int⦄ ⦃x9 : Int⦄ ⦃x10 : Int⦄ ⦃r : Int × Int⦄, φ x3 x7 x9 x10 = some r → ∀ ⦃w0 : World⦄ ⦃h0 : Hp⦄ ⦃b1 : Nat⦄ ⦃T2 : Nat⦄ ⦃b5 : Nat⦄ ⦃T6 : Nat⦄, Sub h0 w0 → OB w0 h0 b1 T2 [.int .i64 x3] → OB w0 h0 b5 T6 [.int .i64 x7] → b1 ≠ b5 →
  CallsD Tryz.prog 98 #[.pointer (some ⟨b1, 0, none⟩), .pointer (some ⟨b5, 0, none⟩)] (.panicking [{ v := .iface 138 (.agg #[.int .i64 x9, .int .i64 x10]), recovered := false }]) w0 fun e u w1 => u = .panicking [{ v := .iface 138 (.agg #[.int .i64 x9, .int .i64 x10]), recovered := true }] ∧ ∃ v, e = .returned v ∧ ∃ h1, Stp [b1, b5] w0 h0 w1 h1 ∧ v = .tuple #[] ∧ (OB w1 h1 b1 T2 [.int .i64 r.1]) ∧ (OB w1 h1 b5 T6 [.int .i64 r.2])
theorem s_parse_Source_1_panic (k : Nat) : Zc5 (Z6b k) := by
 intro x3 x7 x9 x10 r HF w0 h0 b1 T2 b5 T6 hs0 ob4 ob8 ne11
 have S0 : Stp [b1, b5] w0 h0 w0 h0 := Stp.refl hs0 _
 have lt12 : b1 < w0.heap.size := OB.lt ob4
 have lt13 : b5 < w0.heap.size := OB.lt ob8
 refine enterR (n := 15) (dd := 5) (x := .iface 138 (.agg #[vi x9, vi x10])) (.inr ⟨_, rfl, rfl, rfl⟩) Tryz.func98 rfl Tryz.ntmps98 rfl rfl [(5, .iface 138 (.agg #[vi x9, vi x10])), (0, pt b1 0), (1, pt b5 0)] rfl <| Z0r <| Zc <| Z0 <| Wv rfl (ov_eqlHN rfl t_imeth_20) <| Z6 <| Z4 <| WC.condF rfl <| Zc <| Z0 <| Wv rfl (ov_assertT rfl t_conc_138) <| Wv rfl (Z0a rfl rfl) <| Wv rfl (Z0a rfl rfl) <| Z6 <| Z4 <| WC.condT rfl <| Zc <| Z0 <| Z19 (zs := [vi 0, vi 0]) rfl rfl t_zero_138 rfl S0.sub (fun w14 b15 hb16 s17 ob18 => ?_)
 have ne19 : b1 ≠ b15 := ob4.ne_new hb16
 have ne20 : b5 ≠ b15 := ob8.ne_new hb16
 have g21 : w0.heap.size ≤ b15 := by rw [hb16]; exact S0.size
 have S22 := S0.trans0 s17
 refine Zr (vs := [vi x9, vi x10]) rfl rfl rfl rfl t_size_138 (Z3 rfl (Z3 rfl Zx)) ob18 S22.sub (by simp) (ds := [vi x9, vi x10]) rfl (fun w23 s24 ob25 => ?_)
 have S26 := S22.trans1 s24 (.inr g21)
 refine Z6 <| Z4 <| WC.drawnA Z6h S26.sub (fun w27 s28 => ?_)
 have S29 := S26.trans0 s28
 refine WA.two (i := 0) (j := 2) (by kernel_rfl) rfl rfl ?_ ?_
 ·skip
  refine Wv rfl (Z1 rfl t_field_138_1) <| Z6 <| Z1h <| WA.two (i := 1) (j := 2) (by kernel_rfl) rfl rfl ?_ ?_
  ·skip
   have ob30 := (ob25.step0 s28)
   refine Wv rfl (Zb rfl Z04 (OB.cell ob30 (j := 1) rfl)) <| Z6 <| Z1h <| WA.two (i := 2) (j := 4) (by kernel_rfl) rfl rfl ?_ ?_
   ·skip
    refine Wv rfl (Z1 rfl Zeq) <| Z6 <| Z1h <| WA.two (i := 3) (j := 4) (by kernel_rfl) rfl rfl ?_ ?_
    ·skip
     refine Wv rfl (Zb rfl Z5j (OB.cell ob30 (j := 0) rfl)) <| Z6 <| Z1h <| WA.one (i := 4) (by kernel_rfl) rfl ?_
     have ob31 := (((ob4.step0 s17).step1 s24 ne19).step0 s28)
     refine Zr (vs := [vi x10]) rfl rfl rfl rfl Z1s (Z3 rfl Zx) ob31 S29.sub (by simp) (ds := [vi x10]) rfl (fun w32 s33 ob34 => ?_)
     have S35 := S29.trans1 s33 (.inl (by simp))
     refine Z6 <| Z1h <| WA.one (i := 5) (by kernel_rfl) rfl ?_
     have ob36 := ((((ob8.step0 s17).step1 s24 ne20).step0 s28).step1 s33 (Ne.symm ne11))
     refine Zr (vs := [vi x9]) rfl rfl rfl rfl Z5t (Z3 rfl Zx) ob36 S35.sub (by simp) (ds := [vi x9]) rfl (fun w37 s38 ob39 => ?_)
     have S40 := S35.trans1 s38 (.inl (by simp))
     refine Z6 <| Z1h <| WA.fin (by kernel_rfl) <| Zy ?_
     have ob41 := (ob34.step1 s38 ne11)
     refine Z6j rfl ?_
     obtain rfl := Option.some.inj HF
     exact ⟨_, rfl, h0, S40, rfl, ob41, ob39⟩
    skip
    have ob42 := (((ob4.step0 s17).step1 s24 ne19).step0 s28)
    refine Zr (vs := [vi x10]) rfl rfl rfl rfl Z1s (Z3 rfl Zx) ob42 S29.sub (by simp) (ds := [vi x10]) rfl (fun w43 s44 ob45 => ?_)
    have S46 := S29.trans1 s44 (.inl (by simp))
    refine Z6 <| Z1h <| WA.one (i := 3) (by kernel_rfl) rfl ?_
    have ob47 := (ob30.step1 s44 (Ne.symm ne19))
    refine Wv rfl (Zb rfl Z5j (OB.cell ob47 (j := 0) rfl)) <| Z6 <| Z1h <| WA.one (i := 5) (by kernel_rfl) rfl ?_
    have ob48 := ((((ob8.step0 s17).step1 s24 ne20).step0 s28).step1 s44 (Ne.symm ne11))
    refine Zr (vs := [vi x9]) rfl rfl rfl rfl Z5t (Z3 rfl Zx) ob48 S46.sub (by simp) (ds := [vi x9]) rfl (fun w49 s50 ob51 => ?_)
    have S52 := S46.trans1 s50 (.inl (by simp))
    refine Z6 <| Z1h <| WA.fin (by kernel_rfl) <| Zy ?_
    have ob53 := (ob45.step1 s50 ne11)
    refine Z6j rfl ?_
    obtain rfl := Option.some.inj HF
    exact ⟨_, rfl, h0, S52, rfl, ob53, ob51⟩
   skip
   have ob54 := (((ob4.step0 s17).step1 s24 ne19).step0 s28)
   refine Zr (vs := [vi x10]) rfl rfl rfl rfl Z1s (Z3 rfl Zx) ob54 S29.sub (by simp) (ds := [vi x10]) rfl (fun w55 s56 ob57 => ?_)
   have S58 := S29.trans1 s56 (.inl (by simp))
   refine Z6 <| Z1h <| WA.one (i := 2) (by kernel_rfl) rfl <| Wv rfl (Z1 rfl Zeq) <| Z6 <| Z1h <| WA.one (i := 3) (by kernel_rfl) rfl ?_
   have ob59 := (ob30.step1 s56 (Ne.symm ne19))
   refine Wv rfl (Zb rfl Z5j (OB.cell ob59 (j := 0) rfl)) <| Z6 <| Z1h <| WA.one (i := 5) (by kernel_rfl) rfl ?_
   have ob60 := ((((ob8.step0 s17).step1 s24 ne20).step0 s28).step1 s56 (Ne.symm ne11))
   refine Zr (vs := [vi x9]) rfl rfl rfl rfl Z5t (Z3 rfl Zx) ob60 S58.sub (by simp) (ds := [vi x9]) rfl (fun w61 s62 ob63 => ?_)
   have S64 := S58.trans1 s62 (.inl (by simp))
   refine Z6 <| Z1h <| WA.fin (by kernel_rfl) <| Zy ?_
   have ob65 := (ob57.step1 s62 ne11)
   refine Z6j rfl ?_
   obtain rfl := Option.some.inj HF
   exact ⟨_, rfl, h0, S64, rfl, ob65, ob63⟩
  skip
  refine Wv rfl (Z1 rfl Zeq) <| Z6 <| Z1h <| WA.two (i := 1) (j := 3) (by kernel_rfl) rfl rfl ?_ ?_
  ·skip
   have ob66 := (ob25.step0 s28)
   refine Wv rfl (Zb rfl Z04 (OB.cell ob66 (j := 1) rfl)) <| Z6 <| Z1h <| WA.two (i := 3) (j := 4) (by kernel_rfl) rfl rfl ?_ ?_
   ·skip
    refine Wv rfl (Zb rfl Z5j (OB.cell ob66 (j := 0) rfl)) <| Z6 <| Z1h <| WA.one (i := 4) (by kernel_rfl) rfl ?_
    have ob67 := (((ob4.step0 s17).step1 s24 ne19).step0 s28)
    refine Zr (vs := [vi x10]) rfl rfl rfl rfl Z1s (Z3 rfl Zx) ob67 S29.sub (by simp) (ds := [vi x10]) rfl (fun w68 s69 ob70 => ?_)
    have S71 := S29.trans1 s69 (.inl (by simp))
    refine Z6 <| Z1h <| WA.one (i := 5) (by kernel_rfl) rfl ?_
    have ob72 := ((((ob8.step0 s17).step1 s24 ne20).step0 s28).step1 s69 (Ne.symm ne11))
    refine Zr (vs := [vi x9]) rfl rfl rfl rfl Z5t (Z3 rfl Zx) ob72 S71.sub (by simp) (ds := [vi x9]) rfl (fun w73 s74 ob75 => ?_)
    have S76 := S71.trans1 s74 (.inl (by simp))
    refine Z6 <| Z1h <| WA.fin (by kernel_rfl) <| Zy ?_
    have ob77 := (ob70.step1 s74 ne11)
    refine Z6j rfl ?_
    obtain rfl := Option.some.inj HF
    exact ⟨_, rfl, h0, S76, rfl, ob77, ob75⟩
   skip
   have ob78 := (((ob4.step0 s17).step1 s24 ne19).step0 s28)
   refine Zr (vs := [vi x10]) rfl rfl rfl rfl Z1s (Z3 rfl Zx) ob78 S29.sub (by simp) (ds := [vi x10]) rfl (fun w79 s80 ob81 => ?_)
   have S82 := S29.trans1 s80 (.inl (by simp))
   refine Z6 <| Z1h <| WA.one (i := 3) (by kernel_rfl) rfl ?_
   have ob83 := (ob66.step1 s80 (Ne.symm ne19))
   refine Wv rfl (Zb rfl Z5j (OB.cell ob83 (j := 0) rfl)) <| Z6 <| Z1h <| WA.one (i := 5) (by kernel_rfl) rfl ?_
   have ob84 := ((((ob8.step0 s17).step1 s24 ne20).step0 s28).step1 s80 (Ne.symm ne11))
   refine Zr (vs := [vi x9]) rfl rfl rfl rfl Z5t (Z3 rfl Zx) ob84 S82.sub (by simp) (ds := [vi x9]) rfl (fun w85 s86 ob87 => ?_)
   have S88 := S82.trans1 s86 (.inl (by simp))
   refine Z6 <| Z1h <| WA.fin (by kernel_rfl) <| Zy ?_
   have ob89 := (ob81.step1 s86 ne11)
   refine Z6j rfl ?_
   obtain rfl := Option.some.inj HF
   exact ⟨_, rfl, h0, S88, rfl, ob89, ob87⟩
  skip
  have ob90 := (ob25.step0 s28)
  refine Wv rfl (Zb rfl Z5j (OB.cell ob90 (j := 0) rfl)) <| Z6 <| Z1h <| WA.one (i := 1) (by kernel_rfl) rfl <| Wv rfl (Zb rfl Z04 (OB.cell ob90 (j := 1) rfl)) <| Z6 <| Z1h <| WA.one (i := 4) (by kernel_rfl) rfl ?_
  have ob91 := (((ob4.step0 s17).step1 s24 ne19).step0 s28)
  refine Zr (vs := [vi x10]) rfl rfl rfl rfl Z1s (Z3 rfl Zx) ob91 S29.sub (by simp) (ds := [vi x10]) rfl (fun w92 s93 ob94 => ?_)
  have S95 := S29.trans1 s93 (.inl (by simp))
  refine Z6 <| Z1h <| WA.one (i := 5) (by kernel_rfl) rfl ?_
  have ob96 := ((((ob8.step0 s17).step1 s24 ne20).step0 s28).step1 s93 (Ne.symm ne11))
  refine Zr (vs := [vi x9]) rfl rfl rfl rfl Z5t (Z3 rfl Zx) ob96 S95.sub (by simp) (ds := [vi x9]) rfl (fun w97 s98 ob99 => ?_)
  have S100 := S95.trans1 s98 (.inl (by simp))
  refine Z6 <| Z1h <| WA.fin (by kernel_rfl) <| Zy ?_
  have ob101 := (ob94.step1 s98 ne11)
  refine Z6j rfl ?_
  obtain rfl := Option.some.inj HF
  exact ⟨_, rfl, h0, S100, rfl, ob101, ob99⟩
 skip
 refine Wv rfl (Z1 rfl Zeq) <| Z6 <| Z1h <| WA.two (i := 0) (j := 3) (by kernel_rfl) rfl rfl ?_ ?_
 ·skip
  refine Wv rfl (Z1 rfl t_field_138_1) <| Z6 <| Z1h <| WA.two (i := 1) (j := 3) (by kernel_rfl) rfl rfl ?_ ?_
  ·skip
   have ob102 := (ob25.step0 s28)
   refine Wv rfl (Zb rfl Z04 (OB.cell ob102 (j := 1) rfl)) <| Z6 <| Z1h <| WA.two (i := 3) (j := 4) (by kernel_rfl) rfl rfl ?_ ?_
   ·skip
    refine Wv rfl (Zb rfl Z5j (OB.cell ob102 (j := 0) rfl)) <| Z6 <| Z1h <| WA.one (i := 4) (by kernel_rfl) rfl ?_
    have ob103 := (((ob4.step0 s17).step1 s24 ne19).step0 s28)
    refine Zr (vs := [vi x10]) rfl rfl rfl rfl Z1s (Z3 rfl Zx) ob103 S29.sub (by simp) (ds := [vi x10]) rfl (fun w104 s105 ob106 => ?_)
    have S107 := S29.trans1 s105 (.inl (by simp))
    refine Z6 <| Z1h <| WA.one (i := 5) (by kernel_rfl) rfl ?_
    have ob108 := ((((ob8.step0 s17).step1 s24 ne20).step0 s28).step1 s105 (Ne.symm ne11))
    refine Zr (vs := [vi x9]) rfl rfl rfl rfl Z5t (Z3 rfl Zx) ob108 S107.sub (by simp) (ds := [vi x9]) rfl (fun w109 s110 ob111 => ?_)
    have S112 := S107.trans1 s110 (.inl (by simp))
    refine Z6 <| Z1h <| WA.fin (by kernel_rfl) <| Zy ?_
    have ob113 := (ob106.step1 s110 ne11)
    refine Z6j rfl ?_
    obtain rfl := Option.some.inj HF
    exact ⟨_, rfl, h0, S112, rfl, ob113, ob111⟩
   skip
   have ob114 := (((ob4.step0 s17).step1 s24 ne19).step0 s28)
   refine Zr (vs := [vi x10]) rfl rfl rfl rfl Z1s (Z3 rfl Zx) ob114 S29.sub (by simp) (ds := [vi x10]) rfl (fun w115 s116 ob117 => ?_)
   have S118 := S29.trans1 s116 (.inl (by simp))
   refine Z6 <| Z1h <| WA.one (i := 3) (by kernel_rfl) rfl ?_
   have ob119 := (ob102.step1 s116 (Ne.symm ne19))
   refine Wv rfl (Zb rfl Z5j (OB.cell ob119 (j := 0) rfl)) <| Z6 <| Z1h <| WA.one (i := 5) (by kernel_rfl) rfl ?_
   have ob120 := ((((ob8.step0 s17).step1 s24 ne20).step0 s28).step1 s116 (Ne.symm ne11))
   refine Zr (vs := [vi x9]) rfl rfl rfl rfl Z5t (Z3 rfl Zx) ob120 S118.sub (by simp) (ds := [vi x9]) rfl (fun w121 s122 ob123 => ?_)
   have S124 := S118.trans1 s122 (.inl (by simp))
   refine Z6 <| Z1h <| WA.fin (by kernel_rfl) <| Zy ?_
   have ob125 := (ob117.step1 s122 ne11)
   refine Z6j rfl ?_
   obtain rfl := Option.some.inj HF
   exact ⟨_, rfl, h0, S124, rfl, ob125, ob123⟩
  skip
  have ob126 := (ob25.step0 s28)
  refine Wv rfl (Zb rfl Z5j (OB.cell ob126 (j := 0) rfl)) <| Z6 <| Z1h <| WA.one (i := 1) (by kernel_rfl) rfl <| Wv rfl (Zb rfl Z04 (OB.cell ob126 (j := 1) rfl)) <| Z6 <| Z1h <| WA.one (i := 4) (by kernel_rfl) rfl ?_
  have ob127 := (((ob4.step0 s17).step1 s24 ne19).step0 s28)
  refine Zr (vs := [vi x10]) rfl rfl rfl rfl Z1s (Z3 rfl Zx) ob127 S29.sub (by simp) (ds := [vi x10]) rfl (fun w128 s129 ob130 => ?_)
  have S131 := S29.trans1 s129 (.inl (by simp))
  refine Z6 <| Z1h <| WA.one (i := 5) (by kernel_rfl) rfl ?_
  have ob132 := ((((ob8.step0 s17).step1 s24 ne20).step0 s28).step1 s129 (Ne.symm ne11))
  refine Zr (vs := [vi x9]) rfl rfl rfl rfl Z5t (Z3 rfl Zx) ob132 S131.sub (by simp) (ds := [vi x9]) rfl (fun w133 s134 ob135 => ?_)
  have S136 := S131.trans1 s134 (.inl (by simp))
  refine Z6 <| Z1h <| WA.fin (by kernel_rfl) <| Zy ?_
  have ob137 := (ob130.step1 s134 ne11)
  refine Z6j rfl ?_
  obtain rfl := Option.some.inj HF
  exact ⟨_, rfl, h0, S136, rfl, ob137, ob135⟩
 skip
 have ob138 := (ob25.step0 s28)
 refine Wv rfl (Zb rfl Z5j (OB.cell ob138 (j := 0) rfl)) <| Z6 <| Z1h <| WA.one (i := 0) (by kernel_rfl) rfl <| Wv rfl (Z1 rfl t_field_138_1) <| Z6 <| Z1h <| WA.one (i := 1) (by kernel_rfl) rfl <| Wv rfl (Zb rfl Z04 (OB.cell ob138 (j := 1) rfl)) <| Z6 <| Z1h <| WA.one (i := 4) (by kernel_rfl) rfl ?_
 have ob139 := (((ob4.step0 s17).step1 s24 ne19).step0 s28)
 refine Zr (vs := [vi x10]) rfl rfl rfl rfl Z1s (Z3 rfl Zx) ob139 S29.sub (by simp) (ds := [vi x10]) rfl (fun w140 s141 ob142 => ?_)
 have S143 := S29.trans1 s141 (.inl (by simp))
 refine Z6 <| Z1h <| WA.one (i := 5) (by kernel_rfl) rfl ?_
 have ob144 := ((((ob8.step0 s17).step1 s24 ne20).step0 s28).step1 s141 (Ne.symm ne11))
 refine Zr (vs := [vi x9]) rfl rfl rfl rfl Z5t (Z3 rfl Zx) ob144 S143.sub (by simp) (ds := [vi x9]) rfl (fun w145 s146 ob147 => ?_)
 have S148 := S143.trans1 s146 (.inl (by simp))
 refine Z6 <| Z1h <| WA.fin (by kernel_rfl) <| Zy ?_
 have ob149 := (ob142.step1 s146 ne11)
 refine Z6j rfl ?_
 obtain rfl := Option.some.inj HF
 exact ⟨_, rfl, h0, S148, rfl, ob149, ob147⟩
theorem Zbf (k : Nat) : Zc5 (Z6b k) := s_parse_Source_1_panic k
def Z6w (φ : ByteArray → ByteArray → Option Bool) : Prop := ∀ ⦃x1 : ByteArray⦄ ⦃x2 : ByteArray⦄ ⦃r : Bool⦄, φ x1 x2 = some r → ∀ ⦃w0 : World⦄ ⦃h0 : Hp⦄, Sub h0 w0 →
  Calls Tryz.prog 124 #[.string x1, .string x2] w0 fun e w1 => ∃ v, e = .returned v ∧ ∃ h1, Stp [] w0 h0 w1 h1 ∧ v = .bool r
theorem Zbj (k : Nat) : Z6w (Z2x k) := by
 intro x1 x2 r HF w0 h0  hs0 
 have S0 : Stp [] w0 h0 w0 h0 := Stp.refl hs0 _
 refine Z4o (n := 18) Tryz.func124 rfl Tryz.ntmps124 rfl [(0, .string x1), (1, .string x2)] rfl <| Zc <| Z0 <| Wa rfl rfl <| Z6 <| Z4 <| Zc <| Z0 <| Wm rfl rfl <| Wv rfl (Z7w rfl Z00) <| Wm rfl rfl <| Wv rfl (Z7w rfl Z00) <| Wv rfl (ov_geq rfl rfl) <| Wm rfl rfl <| Z27 10 HF rfl (fun HF => ?_) (fun HF => ?_)
 ·refine Wm rfl rfl <| Wm rfl rfl <| Wv rfl (Z7w rfl Z00) ?_
  obtain ⟨t4, ht5, HF⟩ := Z5 HF
  refine Wv rfl (ov_sliceSH rfl rfl Z00 ht5) <| Wm rfl rfl <| Wv rfl (Z0d rfl rfl) <| Wv rfl (Zj rfl rfl) <| Wa rfl rfl <| Z6 <| Z4 <| Z0b <| Z07 rfl rfl ?_
  obtain rfl := Option.some.inj HF
  exact ⟨_, rfl, h0, S0, rfl⟩
 refine Wp rfl <| Wp rfl <| Wp rfl <| Wp rfl <| Wp rfl <| Wp rfl <| Wv rfl (Zi rfl rfl) <| Wa rfl rfl <| Z6 <| Z4 <| Z0b <| Z07 rfl rfl ?_
 obtain rfl := Option.some.inj HF
 exact ⟨_, rfl, h0, S0, rfl⟩
theorem Z6i (k : Nat) : Z6w (Z2x k) := Zbj k
def Z75 (φ : ByteArray → ByteArray → Option (ByteArray × Bool)) : Prop := ∀ ⦃x1 : ByteArray⦄ ⦃x2 : ByteArray⦄ ⦃r : ByteArray × Bool⦄, φ x1 x2 = some r → ∀ ⦃w0 : World⦄ ⦃h0 : Hp⦄, Sub h0 w0 →
  Calls Tryz.prog 182 #[.string x1, .string x2] w0 fun e w1 => ∃ v, e = .returned v ∧ ∃ h1, Stp [] w0 h0 w1 h1 ∧ (∃ u0 u1 : Value, v = .tuple #[u0, u1] ∧ (u0 = .string r.1) ∧ (u1 = .bool r.2))
theorem Zbu (k : Nat) : Z75 (Z45 k) := by
 intro x1 x2 r HF w0 h0  hs0 
 have S0 : Stp [] w0 h0 w0 h0 := Stp.refl hs0 _
 refine Z4o (n := 15) Tryz.func182 rfl Tryz.ntmps182 rfl [(0, .string x1), (1, .string x2)] rfl <| Zc <| Z0 <| Wa rfl rfl <| Wa rfl rfl <| Z6 <| Z4 <| Z09 (fun E w12 => ∃ (h11 : Hp), Z6k k x1 x2 = some r ∧ E = [(0, .string x1), (1, .string x2)] ∧ Stp [] w0 h0 w12 h11 ∧ Hle h0 h11) ?_ ?_
 ·rintro E w12 ⟨h11, HF, rfl, S14, le13⟩
  refine Zc <| Z0 <| Wm rfl rfl <| Wm rfl rfl <| Wv rfl (Z7w rfl Z00) ?_
  obtain ⟨t15, ht16, HF⟩ := Z5 HF
  refine Wv rfl (Zhr rfl rfl Z00 ht16) <| Wa rfl rfl <| Wa rfl rfl <| Z6 <| Z4 <| Z0b <| WQ.ret2 rfl rfl rfl ?_
  obtain rfl := Option.some.inj HF
  exact ⟨_, rfl, h11, S14, _, _, rfl, rfl, rfl⟩
 intro J17
 refine Zc <| Z0 <| Wm rfl rfl <| Wm rfl rfl ?_
 obtain ⟨r3, hr4, HF⟩ := Z5 HF
 refine Wc rfl (Zd (vs := [.string x1, .string x2]) rfl t_ent_124) (Z6i _ hr4 S0.sub) ?_
 rintro _ w6 ⟨h7, s8, rfl⟩
 have S9 := S0.trans0 s8
 refine Wv rfl (Z30 rfl) <| Z6 <| Z4 <| Z15 HF rfl (fun HF => ?_) (fun HF => ?_)
 ·refine Zc <| Z0 <| Wm rfl rfl <| Wa rfl rfl <| Wa rfl rfl <| Z6 <| Z4 <| Z0b <| Zv <| WQ.ret2 rfl rfl rfl ?_
  obtain rfl := Option.some.inj HF
  exact ⟨_, rfl, h7, S9, _, _, rfl, rfl, rfl⟩
 refine Zq <| Z01 [0, 1] _ rfl ?_
 exact J17 ⟨h7, HF, rfl, S9, s8.le⟩
theorem Zb5 (k : Nat) : Z75 (Z45 k) := Zbu k
def Zf3 (φ : ByteArray → ByteArray → Option (ByteArray × Bool)) : Prop := ∀ ⦃x1 : ByteArray⦄ ⦃x2 : ByteArray⦄ ⦃r : ByteArray × Bool⦄, φ x1 x2 = some r → ∀ ⦃w0 : World⦄ ⦃h0 : Hp⦄, Sub h0 w0 →
  Calls Tryz.prog 152 #[.string x1, .string x2] w0 fun e w1 => ∃ v, e = .returned v ∧ ∃ h1, Stp [] w0 h0 w1 h1 ∧ (∃ u0 u1 : Value, v = .tuple #[u0, u1] ∧ (u0 = .string r.1) ∧ (u1 = .bool r.2))
theorem s_strings_CutPrefix (k : Nat) : Zf3 (Zad k) := by
 intro x1 x2 r HF w0 h0  hs0 
 have S0 : Stp [] w0 h0 w0 h0 := Stp.refl hs0 _
 refine Z4o (n := 11) Tryz.func152 rfl Tryz.ntmps152 rfl [(0, .string x1), (1, .string x2)] rfl <| Zc <| Z0 <| Wa rfl rfl <| Wa rfl rfl <| Z6 <| Z4 <| Zc <| Z0 <| Wm rfl rfl <| Wm rfl rfl ?_
 obtain ⟨r3, hr4, HF⟩ := Z5 HF
 refine Wc rfl (Zd (vs := [.string x1, .string x2]) rfl t_ent_182) (Zb5 _ hr4 S0.sub) ?_
 rintro _ w6 ⟨h7, s8, _, _, rfl, rfl, rfl⟩
 have S9 := S0.trans0 s8
 refine Wv rfl (Z0a rfl rfl) <| Wv rfl (Z0a rfl rfl) <| Wa rfl rfl <| Wa rfl rfl <| Z6 <| Z4 <| Z0b <| WQ.ret2 rfl rfl rfl ?_
 obtain rfl := Option.some.inj HF
 exact ⟨_, rfl, h7, S9, _, _, rfl, rfl, rfl⟩
theorem ok_strings_CutPrefix (k : Nat) : Zf3 (Zad k) := s_strings_CutPrefix k
def C_strconv_Itoa (φ : Int → Option ByteArray) : Prop := ∀ ⦃x1 : Int⦄ ⦃r : ByteArray⦄, φ x1 = some r → ∀ ⦃w0 : World⦄ ⦃h0 : Hp⦄, Sub h0 w0 →
  Calls Tryz.prog 151 #[.int .i64 x1] w0 fun e w1 => ∃ v, e = .returned v ∧ ∃ h1, Stp [] w0 h0 w1 h1 ∧ v = .string r
theorem ok_strconv_Itoa (k : Nat) : C_strconv_Itoa (Zh2 k) := by
  intro x1 r HF w0 h0 hs0
  simp only [Zh2] at HF
  obtain ⟨hn, HF⟩ := Ze7 HF
  cases HF
  rw [itoaB_eq hn]
  refine (Tryz.strconv_Itoa x1 hn.1 hn.2 w0 (glob_pow hs0)).mono ?_
  rintro e w1 ⟨rfl, k, os, rfl⟩
  exact ⟨_, rfl, h0, Stp.of_below hs0 (grow_below k os), rfl⟩
def Zh6 (φ : ByteArray → Int → Option Bool) : Prop := ∀ ⦃x1 : ByteArray⦄ ⦃x2 : Int⦄ ⦃r : Bool⦄, φ x1 x2 = some r → ∀ ⦃w0 : World⦄ ⦃h0 : Hp⦄, Sub h0 w0 →
  Calls Tryz.prog 90 #[.string x1, .int .i64 x2] w0 fun e w1 => ∃ v, e = .returned v ∧ ∃ h1, Stp [] w0 h0 w1 h1 ∧ v = .bool r
theorem s_lexis_isNumeral (k : Nat) : Zh6 (Z7k k) := by
 intro x1 x2 r HF w0 h0  hs0 
 have S0 : Stp [] w0 h0 w0 h0 := Stp.refl hs0 _
 refine Z4o (n := 29) Tryz.func90 rfl Tryz.ntmps90 rfl [(0, .string x1), (1, vi x2)] rfl <| Zc <| Z0 <| Wa rfl rfl <| Z6 <| Z4 <| Zc <| Z0 <| Wm rfl rfl ?_
 obtain ⟨r3, hr4, HF⟩ := Z5 HF
 refine Wc rfl (Zd (vs := [.string x1]) rfl t_ent_150) (Zfc _ hr4 S0.sub) ?_
 rintro _ w6 ⟨h7, s8, _, v9, rfl, rfl, ev10⟩
 have S11 := S0.trans0 s8
 refine Wm rfl rfl <| Wv rfl (Z0a rfl rfl) <| Wv rfl (Z0a rfl rfl) <| Wa rfl rfl <| Wa rfl rfl <| Z6 <| Z4 <| Zc <| Z0 <| Wm rfl rfl <| Wv rfl (ov_eqlE rfl ev10 t_imeth_133) <| Wm rfl rfl <| Z27 14 HF rfl (fun HF => ?_) (fun HF => ?_)
 ·refine Wm rfl rfl ?_
  obtain ⟨r13, hr14, HF⟩ := Z5 HF
  refine Wc rfl (Zd (vs := [vi r3.1]) rfl t_ent_151) (ok_strconv_Itoa _ hr14 S11.sub) ?_
  rintro _ w16 ⟨h17, s18, rfl⟩
  have S19 := S11.trans0 s18
  refine Wm rfl rfl <| Wv rfl (Z0d rfl rfl) <| Wv rfl (Zj rfl rfl) <| Wm rfl rfl <| Z27 20 HF rfl (fun HF => ?_) (fun HF => ?_)
  ·refine Wm rfl rfl <| Wv rfl (ov_geq rfl rfl) <| Wv rfl (Zj rfl rfl) <| Wm rfl rfl <| Z27 24 HF rfl (fun HF => ?_) (fun HF => ?_)
   ·refine Wm rfl rfl <| Wm rfl rfl <| Wv rfl (Zh1 rfl rfl) <| Wv rfl (Zj rfl rfl) <| Wa rfl rfl <| Z6 <| Z4 <| Z0b <| Z07 rfl rfl ?_
    obtain rfl := Option.some.inj HF
    exact ⟨_, rfl, h17, S19, rfl⟩
   refine Wp rfl <| Wp rfl <| Wp rfl <| Wv rfl (Zi rfl rfl) <| Wa rfl rfl <| Z6 <| Z4 <| Z0b <| Z07 rfl rfl ?_
   obtain rfl := Option.some.inj HF
   exact ⟨_, rfl, h17, S19, rfl⟩
  refine Wp rfl <| Wp rfl <| Wv rfl (Zi rfl rfl) <| Wm rfl rfl <| Wp rfl <| Wp rfl <| Wp rfl <| Wv rfl (Zi rfl rfl) <| Wa rfl rfl <| Z6 <| Z4 <| Z0b <| Z07 rfl rfl ?_
  obtain rfl := Option.some.inj HF
  exact ⟨_, rfl, h17, S19, rfl⟩
 refine Wp rfl <| Wp rfl <| Wp rfl <| Wp rfl <| Wv rfl (Zi rfl rfl) <| Wm rfl rfl <| Wp rfl <| Wp rfl <| Wv rfl (Zi rfl rfl) <| Wm rfl rfl <| Wp rfl <| Wp rfl <| Wp rfl <| Wv rfl (Zi rfl rfl) <| Wa rfl rfl <| Z6 <| Z4 <| Z0b <| Z07 rfl rfl ?_
 obtain rfl := Option.some.inj HF
 exact ⟨_, rfl, h7, S11, rfl⟩
theorem Zbo (k : Nat) : Zh6 (Z7k k) := s_lexis_isNumeral k
def C_lexis_isTime (φ : ByteArray → Option Bool) : Prop := ∀ ⦃x1 : ByteArray⦄ ⦃r : Bool⦄, φ x1 = some r → ∀ ⦃w0 : World⦄ ⦃h0 : Hp⦄, Sub h0 w0 →
  Calls Tryz.prog 91 #[.string x1] w0 fun e w1 => ∃ v, e = .returned v ∧ ∃ h1, Stp [] w0 h0 w1 h1 ∧ v = .bool r
theorem s_lexis_isTime (k : Nat) : C_lexis_isTime (Zgr k) := by
 intro x1 r HF w0 h0  hs0 
 have S0 : Stp [] w0 h0 w0 h0 := Stp.refl hs0 _
 refine Z4o (n := 15) Tryz.func91 rfl Tryz.ntmps91 rfl [(0, .string x1)] rfl <| Zc <| Z0 <| Wa rfl rfl <| Z6 <| Z4 <| Zc <| Z0 <| Wm rfl rfl ?_
 obtain ⟨r2, hr3, HF⟩ := Z5 HF
 refine Wc rfl (Zd (vs := [.string x1, .string b'72]) rfl t_ent_152) (ok_strings_CutPrefix _ hr3 S0.sub) ?_
 rintro _ w5 ⟨h6, s7, _, _, rfl, rfl, rfl⟩
 have S8 := S0.trans0 s7
 refine Wm rfl rfl <| Wv rfl (Z0a rfl rfl) <| Wv rfl (Z0a rfl rfl) <| Wa rfl rfl <| Wa rfl rfl <| Z6 <| Z4 <| Zc <| Z0 <| Wm rfl rfl <| Wm rfl rfl <| Z27 11 HF rfl (fun HF => ?_) (fun HF => ?_)
 ·refine Wm rfl rfl ?_
  obtain ⟨r10, hr11, HF⟩ := Z5 HF
  refine Wc rfl (Zd (vs := [.string r2.1, vi 2147483647]) rfl t_ent_90) (Zbo _ hr11 S8.sub) ?_
  rintro _ w13 ⟨h14, s15, rfl⟩
  have S16 := S8.trans0 s15
  refine Wv rfl (Zj rfl rfl) <| Wa rfl rfl <| Z6 <| Z4 <| Z0b <| Z07 rfl rfl ?_
  obtain rfl := Option.some.inj HF
  exact ⟨_, rfl, h14, S16, rfl⟩
 refine Wp rfl <| Wp rfl <| Wv rfl (Zi rfl rfl) <| Wa rfl rfl <| Z6 <| Z4 <| Z0b <| Z07 rfl rfl ?_
 obtain rfl := Option.some.inj HF
 exact ⟨_, rfl, h6, S8, rfl⟩
theorem ok_lexis_isTime (k : Nat) : C_lexis_isTime (Zgr k) := s_lexis_isTime k
def Z78 (φ : ByteArray → Int → Int → Option ByteArray) : Prop := ∀ ⦃x3 : ByteArray⦄ ⦃x4 : Int⦄ ⦃x6 : Int⦄ ⦃r : ByteArray⦄, φ x3 x4 x6 = some r → ∀ ⦃w0 : World⦄ ⦃h0 : Hp⦄ ⦃b1 : Nat⦄ ⦃T2 : Nat⦄, Sub h0 w0 → OB w0 h0 b1 T2 [.string x3, .int .i64 x4] →
  Calls Tryz.prog 125 #[.pointer (some ⟨b1, 0, none⟩), .int .i64 x6, .func (.func 72) #[] #[]] w0 fun e w1 => ∃ v, e = .returned v ∧ ∃ h1, Stp [] w0 h0 w1 h1 ∧ v = .string r
theorem s_lexis_scanner_span (k : Nat) (IH : ∀ j, j ≤ k → Z78 (Z1z j).lexis_scanner_span) : Z78 (Zdq k (Z1z k)) := by
 intro x3 x4 x6 r HF w0 h0 b1 T2 hs0 ob5
 have S0 : Stp [] w0 h0 w0 h0 := Stp.refl hs0 _
 have lt7 : b1 < w0.heap.size := OB.lt ob5
 refine Z4o (n := 49) Tryz.func125 rfl Tryz.ntmps125 rfl [(0, pt b1 0), (1, vi x6), (2, .func (.func 72) #[] #[])] rfl <| Zc <| Z0 <| Wa rfl rfl <| Z6 <| Z4 <| Zc <| Z51 (m := 11) [(0, pt b1 0), (1, vi x6), (2, .func (.func 72) #[] #[])] [0, 1, 2] rfl (fun i v w h => match i with | 0 => v = pt b1 0 | 1 => v = pt b1 0 | 2 => v = pt b1 1 | 3 => v = vi x4 | 4 => v = vi x6 | 5 => v = vi (IntKind.i64.wrap (x4 + x6)) | 6 => v = pt b1 0 | 7 => v = pt b1 0 | 8 => v = pt b1 0 | 9 => v = .string x3 | 10 => v = vi (x3.size : Int) | _ => True) Z6h S0.sub rfl rfl rfl rfl rfl ?_ ?_ ?_
 ·intro i v w h w2 h2 hΦ hst
  match i, hΦ with
  | 0, hΦ | 1, hΦ | 2, hΦ | 3, hΦ | 4, hΦ | 5, hΦ | 6, hΦ | 7, hΦ | 8, hΦ | 9, hΦ | 10, hΦ => exact hΦ
  | i + 11, _ => exact trivial
 ·refine ⟨?_, ?_, ?_, ?_, ?_, ?_, ?_, ?_, ?_, ?_, ?_, trivial⟩
  ·intro a w8 h9 s10 hat hF
   exact Za hat rfl (Z0t rfl) s10.sub (by exact rfl)
  ·intro a w8 h9 s10 hat hF
   exact Za (Z7 hat (hF 0 8 rfl rfl)) rfl (Zp rfl) s10.sub (by exact rfl)
  ·intro a w8 h9 s10 hat hF
   exact Za (Z7 hat (hF 1 9 rfl rfl)) rfl (Z1 rfl Z0q) s10.sub (by exact rfl)
  ·intro a w8 h9 s10 hat hF
   have ob11 := (ob5.step0 s10)
   exact Za (Z7 hat (hF 2 10 rfl rfl)) rfl (Zb rfl Z04 (OB.cell ob11 (j := 1) rfl)) s10.sub (by exact rfl)
  ·intro a w8 h9 s10 hat hF
   exact Za hat rfl (Z0t rfl) s10.sub (by exact rfl)
  ·intro a w8 h9 s10 hat hF
   exact Za (Z7 (Z7 hat (hF 3 11 rfl rfl)) (hF 4 12 rfl rfl)) rfl (Z3e rfl rfl) s10.sub (by exact rfl)
  ·intro a w8 h9 s10 hat hF
   exact Za hat rfl (Z0t rfl) s10.sub (by exact rfl)
  ·intro a w8 h9 s10 hat hF
   exact Za (Z7 hat (hF 6 14 rfl rfl)) rfl (Zp rfl) s10.sub (by exact rfl)
  ·intro a w8 h9 s10 hat hF
   exact Za (Z7 hat (hF 7 15 rfl rfl)) rfl (Z1 rfl Z1v) s10.sub (by exact rfl)
  ·intro a w8 h9 s10 hat hF
   have ob12 := (ob5.step0 s10)
   exact Za (Z7 hat (hF 8 16 rfl rfl)) rfl (Zb rfl Z32 (OB.cell ob12 (j := 0) rfl)) s10.sub (by exact rfl)
  intro a w8 h9 s10 hat hF
  exact Za (Z7 hat (hF 9 17 rfl rfl)) rfl (Z7w rfl Z00) s10.sub (by exact rfl)
 intro a w8 h9 s10 hat hF
 obtain hv0 := hF 0 8 (by decide) rfl
 obtain hv1 := hF 1 9 (by decide) rfl
 obtain hv2 := hF 2 10 (by decide) rfl
 obtain hv3 := hF 3 11 (by decide) rfl
 obtain hv4 := hF 4 12 (by decide) rfl
 obtain hv5 := hF 5 13 (by decide) rfl
 obtain hv6 := hF 6 14 (by decide) rfl
 obtain hv7 := hF 7 15 (by decide) rfl
 obtain hv8 := hF 8 16 (by decide) rfl
 obtain hv9 := hF 9 17 (by decide) rfl
 obtain hv10 := hF 10 18 (by decide) rfl
 refine Zdh [(18, vi (x3.size : Int)), (17, .string x3), (16, pt b1 0), (15, pt b1 0), (14, pt b1 0), (13, vi (IntKind.i64.wrap (x4 + x6))), (12, vi x6), (11, vi x4), (10, pt b1 1), (9, pt b1 0), (8, pt b1 0), (0, pt b1 0), (1, vi x6), (2, .func (.func 72) #[] #[])] (Z7 (Z7 (Z7 (Z7 (Z7 (Z7 (Z7 (Z7 (Z7 (Z7 (Z7 hat hv0) hv1) hv2) hv3) hv4) hv5) hv6) hv7) hv8) hv9) hv10) ?_
 have S13 := S0.trans0 s10
 refine Wv rfl (ov_min rfl rfl) <| Wa rfl rfl <| Z6 <| Z4 <| Zc <| Z0r <| Z5v <| Z99 [0, 2, 7] [(0, pt b1 0), (2, .func (.func 72) #[] #[]), (7, vi (imin (IntKind.i64.wrap (x4 + x6)) (x3.size : Int)))] rfl <| Z5u (K := k) (fun j E w15 => ∃ (h14 : Hp) (x18 : Int), (Z1z j).lexis_scanner_span_l1 x3 x4 x18 = some r ∧ E = [(0, pt b1 0), (2, .func (.func 72) #[] #[]), (7, vi x18)] ∧ Stp [] w0 h0 w15 h14 ∧ Hle h9 h14 ∧ OB w15 h14 b1 T2 [.string x3, vi x4]) ?_ ?_ (j := k) (Nat.le_refl _) ?_
 ·rintro E w15 ⟨_, _, HF, _⟩; cases HF
 ·rintro j20 hj22 IHL21 E w15 ⟨h14, x18, HF, rfl, S17, le16, ob19⟩
  refine Z09 (fun E w51 => ∃ (h50 : Hp), Zd7 j20 (Z1z j20) x3 x4 x18 = some r ∧ E = [(0, pt b1 0), (2, .func (.func 72) #[] #[]), (7, vi x18)] ∧ Stp [] w0 h0 w51 h50 ∧ Hle h14 h50 ∧ OB w51 h50 b1 T2 [.string x3, vi x4]) ?_ ?_
  ·rintro E w51 ⟨h50, HF, rfl, S53, le52, ob54⟩
   refine Z0r <| Z0 <| Wm rfl rfl <| Wv rfl (Z3e rfl rfl) <| Wa rfl rfl <| Z6 <| Zy <| Z2p <| Z99 [0, 2, 7] [(0, pt b1 0), (2, .func (.func 72) #[] #[]), (7, vi (IntKind.i64.wrap (x18 + 1)))] rfl ?_
   exact IHL21 j20 (Nat.le_refl _) _ _ ⟨h50, IntKind.i64.wrap (x18 + 1), HF, rfl, S53, (le16).trans le52, ob54⟩
  intro J55
  refine Z09 (fun E w34 => ∃ (h33 : Hp) (x37 : Bool), Z9b j20 (Z1z j20) x3 x4 x18 x37 = some r ∧ E = [(0, pt b1 0), (2, .func (.func 72) #[] #[]), (7, vi x18), (36, .bool x37)] ∧ Stp [] w0 h0 w34 h33 ∧ Hle h14 h33 ∧ OB w34 h33 b1 T2 [.string x3, vi x4]) ?_ ?_
  ·rintro E w34 ⟨h33, x37, HF, rfl, S36, le35, ob38⟩
   refine Z15 HF rfl (fun HF => ?_) (fun HF => ?_)
   ·refine Zq <| Z01 [0, 2, 7] _ rfl ?_
    exact J55 ⟨h33, HF, rfl, S36, le35, ob38⟩
   refine Z66 <| Z05 <| Z05 <| Z1m <| Z4 <| Zc <| Z51 (m := 9) [(0, pt b1 0), (7, vi x18)] [0, 7] rfl (fun i v w h => match i with | 0 => v = pt b1 0 | 1 => v = pt b1 0 | 2 => v = pt b1 0 | 3 => v = .string x3 | 4 => v = pt b1 0 | 5 => v = pt b1 0 | 6 => v = pt b1 1 | 7 => v = vi x4 | 8 => v = vi x18 | _ => True) Z6h S36.sub rfl rfl rfl rfl rfl ?_ ?_ ?_
   ·intro i v w h w2 h2 hΦ hst
    match i, hΦ with
    | 0, hΦ | 1, hΦ | 2, hΦ | 3, hΦ | 4, hΦ | 5, hΦ | 6, hΦ | 7, hΦ | 8, hΦ => exact hΦ
    | i + 9, _ => exact trivial
   ·refine ⟨?_, ?_, ?_, ?_, ?_, ?_, ?_, ?_, ?_, trivial⟩
    ·intro a w40 h41 s42 hat hF
     exact Za hat rfl (Z0t rfl) s42.sub (by exact rfl)
    ·intro a w40 h41 s42 hat hF
     exact Za (Z7 hat (hF 0 39 rfl rfl)) rfl (Zp rfl) s42.sub (by exact rfl)
    ·intro a w40 h41 s42 hat hF
     exact Za (Z7 hat (hF 1 40 rfl rfl)) rfl (Z1 rfl Z1v) s42.sub (by exact rfl)
    ·intro a w40 h41 s42 hat hF
     have ob43 := (ob38.step0 s42)
     exact Za (Z7 hat (hF 2 41 rfl rfl)) rfl (Zb rfl Z32 (OB.cell ob43 (j := 0) rfl)) s42.sub (by exact rfl)
    ·intro a w40 h41 s42 hat hF
     exact Za hat rfl (Z0t rfl) s42.sub (by exact rfl)
    ·intro a w40 h41 s42 hat hF
     exact Za (Z7 hat (hF 4 43 rfl rfl)) rfl (Zp rfl) s42.sub (by exact rfl)
    ·intro a w40 h41 s42 hat hF
     exact Za (Z7 hat (hF 5 44 rfl rfl)) rfl (Z1 rfl Z0q) s42.sub (by exact rfl)
    ·intro a w40 h41 s42 hat hF
     have ob44 := (ob38.step0 s42)
     exact Za (Z7 hat (hF 6 45 rfl rfl)) rfl (Zb rfl Z04 (OB.cell ob44 (j := 1) rfl)) s42.sub (by exact rfl)
    intro a w40 h41 s42 hat hF
    exact Za hat rfl (Z0t rfl) s42.sub (by exact rfl)
   intro a w40 h41 s42 hat hF
   obtain hv0 := hF 0 39 (by decide) rfl
   obtain hv1 := hF 1 40 (by decide) rfl
   obtain hv2 := hF 2 41 (by decide) rfl
   obtain hv3 := hF 3 42 (by decide) rfl
   obtain hv4 := hF 4 43 (by decide) rfl
   obtain hv5 := hF 5 44 (by decide) rfl
   obtain hv6 := hF 6 45 (by decide) rfl
   obtain hv7 := hF 7 46 (by decide) rfl
   obtain hv8 := hF 8 47 (by decide) rfl
   refine Zdh [(47, vi x18), (46, vi x4), (45, pt b1 1), (44, pt b1 0), (43, pt b1 0), (42, .string x3), (41, pt b1 0), (40, pt b1 0), (39, pt b1 0), (0, pt b1 0), (7, vi x18)] (Z7 (Z7 (Z7 (Z7 (Z7 (Z7 (Z7 (Z7 (Z7 hat hv0) hv1) hv2) hv3) hv4) hv5) hv6) hv7) hv8) ?_
   have S45 := S36.trans0 s42
   obtain ⟨t46, ht47, HF⟩ := Z5 HF
   refine Wv rfl (ov_sliceSLH rfl rfl rfl Z00 ht47) <| Wa rfl rfl <| Z6 <| Z4 <| Z0b <| Z07 rfl rfl ?_
   obtain rfl := Option.some.inj HF
   exact ⟨_, rfl, h41, S45, rfl⟩
  intro J48
  refine Z0 <| Wm rfl rfl <| Wm rfl rfl <| Wv rfl (Zp rfl) <| Wv rfl (Z1 rfl Z1v) <| Wv rfl (Zb rfl Z32 (OB.cell ob19 (j := 0) rfl)) <| Wv rfl (Z7w rfl Z00) <| Wv rfl (Zdk rfl rfl) <| Wm rfl rfl <| Z27 27 HF rfl (fun HF => ?_) (fun HF => ?_)
  ·refine Wm rfl rfl <| Wm rfl rfl <| Wv rfl (Zp rfl) <| Wv rfl (Z1 rfl Z1v) <| Wv rfl (Zb rfl Z32 (OB.cell ob19 (j := 0) rfl)) <| Wm rfl rfl ?_
   obtain ⟨c24, hc25, HF⟩ := Z5 HF
   refine Wv rfl (Z73 rfl rfl Z00 hc25) ?_
   obtain ⟨r26, hr27, HF⟩ := Z5 HF
   refine Wc rfl (oc_val (vs := [.int .u8 c24]) (caps := []) rfl rfl t_ent_72) (Zai _ hr27 S17.sub) ?_
   rintro _ w29 ⟨h30, s31, rfl⟩
   have S32 := S17.trans0 s31
   refine Wv rfl (Zj rfl rfl) <| Z6 ?_
   have ob49 := (ob19.step0 s31)
   refine Z01 [0, 2, 7, 36] _ rfl ?_
   exact J48 ⟨h30, r26, HF, rfl, S32, s31.le, ob49⟩
  refine Wp rfl <| Wp rfl <| Wp rfl <| Wp rfl <| Wp rfl <| Wp rfl <| Wp rfl <| Wp rfl <| Wv rfl (Zi rfl rfl) <| Z6 <| Z01 [0, 2, 7, 36] _ rfl ?_
  exact J48 ⟨h14, false, HF, rfl, S17, Hle.refl _, ob19⟩
 have ob56 := (ob5.step0 s10)
 exact ⟨h9, imin (IntKind.i64.wrap (x4 + x6)) (x3.size : Int), HF, rfl, S13, Hle.refl _, ob56⟩
theorem all_lexis_scanner_span : ∀ k j, j ≤ k → Z78 (Z1z j).lexis_scanner_span := by
  intro k
  induction k with
  | zero =>
    intro j hj
    obtain rfl : j = 0 := by omega
    exact (fun _ _ _ _ => by intro h; cases h)
  | succ k ih =>
    intro j hj
    by_cases h : j ≤ k
    · exact ih j h
    · obtain rfl : j = k + 1 := by omega
      exact s_lexis_scanner_span k ih
theorem Zcx (k : Nat) : Z78 (Z9z k) := (all_lexis_scanner_span k k (Nat.le_refl _))
def C_lexis_token (φ : Int → ByteArray → Bool → Option (Tok × Int)) : Prop := ∀ ⦃x1 : Int⦄ ⦃x2 : ByteArray⦄ ⦃x3 : Bool⦄ ⦃r : Tok × Int⦄, φ x1 x2 x3 = some r → ∀ ⦃w0 : World⦄ ⦃h0 : Hp⦄, Sub h0 w0 →
  Calls Tryz.prog 123 #[.int .i64 x1, .string x2, .bool x3] w0 fun e w1 => ∃ v, e = .returned v ∧ ∃ h1, Stp [] w0 h0 w1 h1 ∧ (∃ u0 u1 : Value, v = .tuple #[u0, u1] ∧ (∃ cs : List Value, u0 = .agg cs.toArray ∧ Rp.R h1 r.1 cs) ∧ (u1 = .int .i64 r.2))
theorem s_lexis_token (k : Nat) : C_lexis_token (Z77 k) := by
 intro x1 x2 x3 r HF w0 h0  hs0 
 have S0 : Stp [] w0 h0 w0 h0 := Stp.refl hs0 _
 refine Z4o (n := 16) Tryz.func123 rfl Tryz.ntmps123 rfl [(0, vi x1), (1, .string x2), (2, .bool x3)] rfl <| Zc <| Z0 <| Z19 (zs := [vi 0, .string Z1e, vi 0]) rfl rfl Z64 rfl S0.sub (fun w4 b5 hb6 s7 ob8 => ?_)
 have g9 : w0.heap.size ≤ b5 := by rw [hb6]; exact S0.size
 have S10 := S0.trans0 s7
 refine Wa rfl rfl <| Z6 <| Z4 <| Z09 (fun E w17 => ∃ (h16 : Hp), lexis_token_j1 k x1 x2 = some r ∧ E = [(0, vi x1), (1, .string x2), (6, pt b5 0)] ∧ Stp [] w0 h0 w17 h16 ∧ Hle h0 h16 ∧ OB w17 h16 b5 38 [vi 0, .string Z1e, vi 0]) ?_ ?_
 ·rintro E w17 ⟨h16, HF, rfl, S19, le18, ob20⟩
  refine Zc <| Z0 <| Wm rfl rfl <| Wm rfl rfl <| Wv rfl (Z3b (vs := [(0, vi x1), (1, .string x2)]) (cs := [vi x1, .string x2, vi 0]) rfl t_places_38 Z64 rfl) <| Wm rfl rfl <| Wv rfl (Z7w rfl Z00) <| Zr (vs := [vi x1, .string x2, vi 0]) rfl rfl rfl rfl Z1q (Z3 rfl (Z3 rfl (Z3 rfl Zx))) ob20 S19.sub (by simp) (ds := [vi x1, .string x2, vi 0]) rfl (fun w21 s22 ob23 => ?_)
  have S24 := S19.trans1 s22 (.inr g9)
  refine Wa rfl rfl <| Z6 <| Z4 <| Z0b <| Zh4 (rg2 rfl (Z5x rfl (Z0x (cs := [vi x1, .string x2, vi 0]) Z8c Z1q (OB.cells ob23 0 rfl))) (ri_tmp rfl)) ?_
  obtain rfl := Option.some.inj HF
  exact ⟨_, rfl, h16, S24, _, _, rfl, ⟨_, rfl, (Z67.2 rfl)⟩, rfl⟩
 intro J25
 refine Zc <| Z0 <| Wm rfl rfl <| Wv rfl (Z30 rfl) <| Z6 <| Z4 <| Z15 HF rfl (fun HF => ?_) (fun HF => ?_)
 ·refine Zc <| Z0 <| Wv rfl (Z3b (vs := []) (cs := [vi 0, .string Z1e, vi 0]) rfl t_places_38 Z64 rfl) <| Zr (vs := [vi 0, .string Z1e, vi 0]) rfl rfl rfl rfl Z1q (Z3 rfl (Z3 rfl (Z3 rfl Zx))) ob8 S10.sub (by simp) (ds := [vi 0, .string Z1e, vi 0]) rfl (fun w12 s13 ob14 => ?_)
  have S15 := S10.trans1 s13 (.inr g9)
  refine Wa rfl rfl <| Z6 <| Z4 <| Z0b <| Zv <| Zh4 (rg2 rfl (Z5x rfl (Z0x (cs := [vi 0, .string Z1e, vi 0]) Z8c Z1q (OB.cells ob14 0 rfl))) (ri_tmp rfl)) ?_
  obtain rfl := Option.some.inj HF
  exact ⟨_, rfl, h0, S15, _, _, rfl, ⟨_, rfl, (Z67.2 rfl)⟩, rfl⟩
 refine Zq <| Z01 [0, 1, 6] _ rfl ?_
 exact J25 ⟨h0, HF, rfl, S10, Hle.refl _, ob8⟩
theorem Z8j (k : Nat) : C_lexis_token (Z77 k) := s_lexis_token k
def Zea (φ : ByteArray → Int → Option (Tok × Int)) : Prop := ∀ ⦃x3 : ByteArray⦄ ⦃x4 : Int⦄ ⦃r : Tok × Int⦄, φ x3 x4 = some r → ∀ ⦃w0 : World⦄ ⦃h0 : Hp⦄ ⦃b1 : Nat⦄ ⦃T2 : Nat⦄, Sub h0 w0 → OB w0 h0 b1 T2 [.string x3, .int .i64 x4] →
  Calls Tryz.prog 69 #[.pointer (some ⟨b1, 0, none⟩)] w0 fun e w1 => ∃ v, e = .returned v ∧ ∃ h1, Stp [] w0 h0 w1 h1 ∧ (∃ u0 u1 : Value, v = .tuple #[u0, u1] ∧ (∃ cs : List Value, u0 = .agg cs.toArray ∧ Rp.R h1 r.1 cs) ∧ (u1 = .int .i64 r.2))
theorem s_lexis_scanner_time (k : Nat) : Zea (Z9p k) := by
 intro x3 x4 r HF w0 h0 b1 T2 hs0 ob5
 have S0 : Stp [] w0 h0 w0 h0 := Stp.refl hs0 _
 have lt6 : b1 < w0.heap.size := OB.lt ob5
 refine Z4o (n := 13) Tryz.func69 rfl Tryz.ntmps69 rfl [(0, pt b1 0)] rfl <| Zc <| Z0 <| Z19 (zs := [vi 0, .string Z1e, vi 0]) rfl rfl Z64 rfl S0.sub (fun w7 b8 hb9 s10 ob11 => ?_)
 have ne12 : b1 ≠ b8 := ob5.ne_new hb9
 have g13 : w0.heap.size ≤ b8 := by rw [hb9]; exact S0.size
 have S14 := S0.trans0 s10
 refine Wa rfl rfl <| Z6 <| Z4 <| Zc <| Z0 <| Wm rfl rfl ?_
 have ob15 := (ob5.step0 s10)
 obtain ⟨r16, hr17, HF⟩ := Z5 HF
 refine Wc rfl (Zd (vs := [pt b1 0, vi 2, .func (.func 72) #[] #[]]) rfl t_ent_125) (Zcx _ hr17 S14.sub ob15) ?_
 rintro _ w19 ⟨h20, s21, rfl⟩
 have S22 := S14.trans0 s21
 refine Wa rfl rfl <| Z6 <| Z4 <| Zc <| Z0 <| Wm rfl rfl <| Wm rfl rfl ?_
 obtain ⟨r23, hr24, HF⟩ := Z5 HF
 refine Wc rfl (Zd (vs := [.string r16]) rfl t_ent_91) (ok_lexis_isTime _ hr24 S22.sub) ?_
 rintro _ w26 ⟨h27, s28, rfl⟩
 have S29 := S22.trans0 s28
 obtain ⟨r30, hr31, HF⟩ := Z5 HF
 refine Wc rfl (Zd (vs := [vi 3, .string r16, .bool r23]) rfl t_ent_123) (Z8j _ hr31 S29.sub) ?_
 rintro _ w33 ⟨h34, s35, _, _, rfl, ⟨cs36, rfl, r37⟩, rfl⟩
 have S38 := S29.trans0 s35
 refine Wv rfl (Z0a rfl rfl) <| Wv rfl (Z0a rfl rfl) ?_
 have ob39 := (((ob11.step0 s21).step0 s28).step0 s35)
 obtain rfl := Z67.1 r37
 refine Zr (vs := [vi r30.1.kind, .string r30.1.text, vi r30.1.pos]) rfl rfl rfl rfl Z1q (Z3 rfl (Z3 rfl (Z3 rfl Zx))) ob39 S38.sub (by simp) (ds := [vi r30.1.kind, .string r30.1.text, vi r30.1.pos]) rfl (fun w40 s41 ob42 => ?_)
 have S43 := S38.trans1 s41 (.inr g13)
 refine Wa rfl rfl <| Z6 <| Z4 <| Z0b <| Zh4 (rg2 rfl (Z5x rfl (Z0x (cs := [vi r30.1.kind, .string r30.1.text, vi r30.1.pos]) Z8c Z1q (OB.cells ob42 0 rfl))) (ri_tmp rfl)) ?_
 obtain rfl := Option.some.inj HF
 exact ⟨_, rfl, h34, S43, _, _, rfl, ⟨_, rfl, (Z67.2 rfl)⟩, rfl⟩
theorem ok_lexis_scanner_time (k : Nat) : Zea (Z9p k) := s_lexis_scanner_time k
def C_lexis_isSign (φ : ByteArray → Option Bool) : Prop := ∀ ⦃x1 : ByteArray⦄ ⦃r : Bool⦄, φ x1 = some r → ∀ ⦃w0 : World⦄ ⦃h0 : Hp⦄, Sub h0 w0 →
  Calls Tryz.prog 92 #[.string x1] w0 fun e w1 => ∃ v, e = .returned v ∧ ∃ h1, Stp [] w0 h0 w1 h1 ∧ v = .bool r
theorem s_lexis_isSign (k : Nat) : C_lexis_isSign (Zg5 k) := by
 intro x1 r HF w0 h0  hs0 
 have S0 : Stp [] w0 h0 w0 h0 := Stp.refl hs0 _
 refine Z4o (n := 27) Tryz.func92 rfl Tryz.ntmps92 rfl [(0, .string x1)] rfl <| Zc <| Z0 <| Wa rfl rfl <| Z6 <| Z4 <| Z09 (fun E w31 => ∃ (h30 : Hp), lexis_isSign_j2 k  = some r ∧ E = [] ∧ Stp [] w0 h0 w31 h30 ∧ Hle h0 h30) ?_ ?_
 ·rintro E w31 ⟨h30, HF, rfl, S33, le32⟩
  refine Zc <| Z0 <| Wa rfl rfl <| Z6 <| Z4 <| Z0b <| Z07 rfl rfl ?_
  obtain rfl := Option.some.inj HF
  exact ⟨_, rfl, h30, S33, rfl⟩
 intro J34
 refine Zc <| Z0 <| Wm rfl rfl <| Z6 <| Z4 <| Z0r <| Z09 (fun E w24 => ∃ (h23 : Hp) (x27 : Bool), Z0y k x27 = some r ∧ E = [(4, .bool x27)] ∧ Stp [] w0 h0 w24 h23 ∧ Hle h0 h23) ?_ ?_
 ·rintro E w24 ⟨h23, x27, HF, rfl, S26, le25⟩
  refine Z15 HF rfl (fun HF => ?_) (fun HF => ?_)
  ·refine Zc <| Z0 <| Wa rfl rfl <| Z6 <| Z4 <| Z0b <| Z0k <| Zv <| Z07 rfl rfl ?_
   obtain rfl := Option.some.inj HF
   exact ⟨_, rfl, h23, S26, rfl⟩
  refine Zq <| Zy <| Z01 [] _ rfl ?_
  exact J34 ⟨h23, HF, rfl, S26, le25⟩
 intro J29
 refine Zc <| Z0 <| Wv rfl (Z0d rfl rfl) <| Wa rfl rfl <| Z6 <| Z4 <| Z15 HF rfl (fun HF => ?_) (fun HF => ?_)
 ·refine Zq <| Z01 [4] _ rfl ?_
  exact J29 ⟨h0, bEq x1 b'79, HF, rfl, S0, Hle.refl _⟩
 refine Zc <| Z0 <| Wv rfl (Z0d rfl rfl) <| Wa rfl rfl <| Z6 <| Z4 <| Z15 HF rfl (fun HF => ?_) (fun HF => ?_)
 ·refine Zq <| Z01 [4] _ rfl ?_
  exact J29 ⟨h0, bEq x1 b'80, HF, rfl, S0, Hle.refl _⟩
 refine Zc <| Z0 <| Wv rfl (Z0d rfl rfl) <| Wa rfl rfl <| Z6 <| Z4 <| Z15 HF rfl (fun HF => ?_) (fun HF => ?_)
 ·refine Zq <| Z01 [4] _ rfl ?_
  exact J29 ⟨h0, bEq x1 b'96, HF, rfl, S0, Hle.refl _⟩
 refine Zc <| Z0 <| Wv rfl (Z0d rfl rfl) <| Wa rfl rfl <| Z6 <| Z4 <| Z15 HF rfl (fun HF => ?_) (fun HF => ?_)
 ·refine Zq <| Z01 [4] _ rfl ?_
  exact J29 ⟨h0, bEq x1 b'97, HF, rfl, S0, Hle.refl _⟩
 refine Zc <| Z0 <| Wv rfl (Z0d rfl rfl) <| Wa rfl rfl <| Z6 <| Z4 <| Z15 HF rfl (fun HF => ?_) (fun HF => ?_)
 ·refine Zq <| Z01 [4] _ rfl ?_
  exact J29 ⟨h0, bEq x1 b'83, HF, rfl, S0, Hle.refl _⟩
 refine Zc <| Z0 <| Wv rfl (Z0d rfl rfl) <| Wa rfl rfl <| Z6 <| Z4 <| Z15 HF rfl (fun HF => ?_) (fun HF => ?_)
 ·refine Zq <| Z01 [4] _ rfl ?_
  exact J29 ⟨h0, bEq x1 b'89, HF, rfl, S0, Hle.refl _⟩
 refine Zc <| Z0 <| Wv rfl (Z0d rfl rfl) <| Wa rfl rfl <| Z6 <| Z4 <| Z15 HF rfl (fun HF => ?_) (fun HF => ?_)
 ·refine Zq <| Z01 [4] _ rfl ?_
  exact J29 ⟨h0, bEq x1 b'88, HF, rfl, S0, Hle.refl _⟩
 refine Zc <| Z0 <| Wv rfl (Z0d rfl rfl) <| Wa rfl rfl <| Z6 <| Z4 <| Z15 HF rfl (fun HF => ?_) (fun HF => ?_)
 ·refine Zq <| Z01 [4] _ rfl ?_
  exact J29 ⟨h0, bEq x1 b'85, HF, rfl, S0, Hle.refl _⟩
 refine Zc <| Z0 <| Wv rfl (Z0d rfl rfl) <| Wa rfl rfl <| Z6 <| Z4 <| Z15 HF rfl (fun HF => ?_) (fun HF => ?_)
 ·refine Zq <| Z01 [4] _ rfl ?_
  exact J29 ⟨h0, bEq x1 b'87, HF, rfl, S0, Hle.refl _⟩
 refine Zc <| Z0 <| Wv rfl (Z0d rfl rfl) <| Wa rfl rfl <| Z6 <| Z4 <| Z15 HF rfl (fun HF => ?_) (fun HF => ?_)
 ·refine Zq <| Z01 [4] _ rfl ?_
  exact J29 ⟨h0, bEq x1 b'93, HF, rfl, S0, Hle.refl _⟩
 refine Zc <| Z0 <| Wv rfl (Z0d rfl rfl) <| Wa rfl rfl <| Z6 <| Z4 <| Z15 HF rfl (fun HF => ?_) (fun HF => ?_)
 ·refine Zq <| Z01 [4] _ rfl ?_
  exact J29 ⟨h0, bEq x1 b'91, HF, rfl, S0, Hle.refl _⟩
 refine Zc <| Z0 <| Wv rfl (Z0d rfl rfl) <| Wa rfl rfl <| Z6 <| Z4 <| Z15 HF rfl (fun HF => ?_) (fun HF => ?_)
 ·refine Zq <| Z01 [4] _ rfl ?_
  exact J29 ⟨h0, bEq x1 b'92, HF, rfl, S0, Hle.refl _⟩
 refine Zc <| Z0 <| Wv rfl (Z0d rfl rfl) <| Wa rfl rfl <| Z6 <| Z4 <| Z15 HF rfl (fun HF => ?_) (fun HF => ?_)
 ·refine Zq <| Z01 [4] _ rfl ?_
  exact J29 ⟨h0, bEq x1 b'90, HF, rfl, S0, Hle.refl _⟩
 refine Zc <| Z0 <| Wv rfl (Z0d rfl rfl) <| Wa rfl rfl <| Z6 <| Z4 <| Z15 HF rfl (fun HF => ?_) (fun HF => ?_)
 ·refine Zq <| Z01 [4] _ rfl ?_
  exact J29 ⟨h0, bEq x1 b'95, HF, rfl, S0, Hle.refl _⟩
 refine Zc <| Z0 <| Wv rfl (Z0d rfl rfl) <| Wa rfl rfl <| Z6 <| Z4 <| Z15 HF rfl (fun HF => ?_) (fun HF => ?_)
 ·refine Zq <| Z01 [4] _ rfl ?_
  exact J29 ⟨h0, bEq x1 b'94, HF, rfl, S0, Hle.refl _⟩
 refine Zc <| Z0 <| Wv rfl (Z0d rfl rfl) <| Wa rfl rfl <| Z6 <| Z4 <| Z15 HF rfl (fun HF => ?_) (fun HF => ?_)
 ·refine Zq <| Z01 [4] _ rfl ?_
  exact J29 ⟨h0, bEq x1 b'82, HF, rfl, S0, Hle.refl _⟩
 refine Zc <| Z0 <| Wv rfl (Z0d rfl rfl) <| Wa rfl rfl <| Z6 <| Z4 <| Z15 HF rfl (fun HF => ?_) (fun HF => ?_)
 ·refine Zq <| Z01 [4] _ rfl ?_
  exact J29 ⟨h0, bEq x1 b'84, HF, rfl, S0, Hle.refl _⟩
 refine Zc <| Z0 <| Wv rfl (Z0d rfl rfl) <| Wa rfl rfl <| Z6 <| Z4 <| Z15 HF rfl (fun HF => ?_) (fun HF => ?_)
 ·refine Zq <| Z01 [4] _ rfl ?_
  exact J29 ⟨h0, bEq x1 b'81, HF, rfl, S0, Hle.refl _⟩
 refine Zc <| Z0 <| Wv rfl (Z0d rfl rfl) <| Wa rfl rfl <| Z6 <| Z4 <| Z15 HF rfl (fun HF => ?_) (fun HF => ?_)
 ·refine Zq <| Z01 [4] _ rfl ?_
  exact J29 ⟨h0, bEq x1 b'86, HF, rfl, S0, Hle.refl _⟩
 refine Zc <| Z0 <| Wv rfl (Z0d rfl rfl) <| Wa rfl rfl <| Z6 <| Z4 <| Z15 HF rfl (fun HF => ?_) (fun HF => ?_)
 ·refine Zq <| Z01 [4] _ rfl ?_
  exact J29 ⟨h0, bEq x1 (⟨#[38]⟩ : ByteArray), HF, rfl, S0, Hle.refl _⟩
 refine Zc <| Z0 <| Wv rfl (Z0d rfl rfl) <| Wa rfl rfl <| Z6 <| Z4 <| Z15 HF rfl (fun HF => ?_) (fun HF => ?_)
 ·refine Zq <| Z01 [4] _ rfl ?_
  exact J29 ⟨h0, bEq x1 (⟨#[124]⟩ : ByteArray), HF, rfl, S0, Hle.refl _⟩
 refine Z0 <| Wv rfl (Z0d rfl rfl) <| Wa rfl rfl <| Z6 <| Z01 [4] _ rfl ?_
 exact J29 ⟨h0, bEq x1 (⟨#[45, 62]⟩ : ByteArray), HF, rfl, S0, Hle.refl _⟩
theorem ok_lexis_isSign (k : Nat) : C_lexis_isSign (Zg5 k) := s_lexis_isSign k
def Z7e (φ : ByteArray → Int → Option (Tok × Int)) : Prop := ∀ ⦃x3 : ByteArray⦄ ⦃x4 : Int⦄ ⦃r : Tok × Int⦄, φ x3 x4 = some r → ∀ ⦃w0 : World⦄ ⦃h0 : Hp⦄ ⦃b1 : Nat⦄ ⦃T2 : Nat⦄, Sub h0 w0 → OB w0 h0 b1 T2 [.string x3, .int .i64 x4] →
  Calls Tryz.prog 67 #[.pointer (some ⟨b1, 0, none⟩)] w0 fun e w1 => ∃ v, e = .returned v ∧ ∃ h1, Stp [] w0 h0 w1 h1 ∧ (∃ u0 u1 : Value, v = .tuple #[u0, u1] ∧ (∃ cs : List Value, u0 = .agg cs.toArray ∧ Rp.R h1 r.1 cs) ∧ (u1 = .int .i64 r.2))
theorem s_lexis_scanner_sign (k : Nat) (IH : ∀ j, j ≤ k → Z7e (Z21 j).lexis_scanner_sign) : Z7e (Ze4 k (Z21 k)) := by
 intro x3 x4 r HF w0 h0 b1 T2 hs0 ob5
 have S0 : Stp [] w0 h0 w0 h0 := Stp.refl hs0 _
 have lt6 : b1 < w0.heap.size := OB.lt ob5
 refine Z4o (n := 43) Tryz.func67 rfl Tryz.ntmps67 rfl [(0, pt b1 0)] rfl <| Zc <| Z0 <| Z19 (zs := [vi 0, .string Z1e, vi 0]) rfl rfl Z64 rfl S0.sub (fun w7 b8 hb9 s10 ob11 => ?_)
 have ne12 : b1 ≠ b8 := ob5.ne_new hb9
 have g13 : w0.heap.size ≤ b8 := by rw [hb9]; exact S0.size
 have S14 := S0.trans0 s10
 refine Wa rfl rfl <| Z6 <| Z4 <| Zc <| Zc <| Z51 (m := 9) [(0, pt b1 0), (2, pt b8 0)] [0, 2] rfl (fun i v w h => match i with | 0 => v = pt b1 0 | 1 => v = pt b1 0 | 2 => v = pt b1 0 | 3 => v = .string x3 | 4 => v = vi (x3.size : Int) | 5 => v = pt b1 0 | 6 => v = pt b1 0 | 7 => v = pt b1 1 | 8 => v = vi x4 | _ => True) Z6h S14.sub rfl rfl rfl rfl rfl ?_ ?_ ?_
 ·intro i v w h w2 h2 hΦ hst
  match i, hΦ with
  | 0, hΦ | 1, hΦ | 2, hΦ | 3, hΦ | 4, hΦ | 5, hΦ | 6, hΦ | 7, hΦ | 8, hΦ => exact hΦ
  | i + 9, _ => exact trivial
 ·refine ⟨?_, ?_, ?_, ?_, ?_, ?_, ?_, ?_, ?_, trivial⟩
  ·intro a w15 h16 s17 hat hF
   exact Za hat rfl (Z0t rfl) s17.sub (by exact rfl)
  ·intro a w15 h16 s17 hat hF
   exact Za (Z7 hat (hF 0 6 rfl rfl)) rfl (Zp rfl) s17.sub (by exact rfl)
  ·intro a w15 h16 s17 hat hF
   exact Za (Z7 hat (hF 1 7 rfl rfl)) rfl (Z1 rfl Z1v) s17.sub (by exact rfl)
  ·intro a w15 h16 s17 hat hF
   have ob18 := ((ob5.step0 s10).step0 s17)
   exact Za (Z7 hat (hF 2 8 rfl rfl)) rfl (Zb rfl Z32 (OB.cell ob18 (j := 0) rfl)) s17.sub (by exact rfl)
  ·intro a w15 h16 s17 hat hF
   exact Za (Z7 hat (hF 3 9 rfl rfl)) rfl (Z7w rfl Z00) s17.sub (by exact rfl)
  ·intro a w15 h16 s17 hat hF
   exact Za hat rfl (Z0t rfl) s17.sub (by exact rfl)
  ·intro a w15 h16 s17 hat hF
   exact Za (Z7 hat (hF 5 11 rfl rfl)) rfl (Zp rfl) s17.sub (by exact rfl)
  ·intro a w15 h16 s17 hat hF
   exact Za (Z7 hat (hF 6 12 rfl rfl)) rfl (Z1 rfl Z0q) s17.sub (by exact rfl)
  intro a w15 h16 s17 hat hF
  have ob19 := ((ob5.step0 s10).step0 s17)
  exact Za (Z7 hat (hF 7 13 rfl rfl)) rfl (Zb rfl Z04 (OB.cell ob19 (j := 1) rfl)) s17.sub (by exact rfl)
 intro a w15 h16 s17 hat hF
 obtain hv0 := hF 0 6 (by decide) rfl
 obtain hv1 := hF 1 7 (by decide) rfl
 obtain hv2 := hF 2 8 (by decide) rfl
 obtain hv3 := hF 3 9 (by decide) rfl
 obtain hv4 := hF 4 10 (by decide) rfl
 obtain hv5 := hF 5 11 (by decide) rfl
 obtain hv6 := hF 6 12 (by decide) rfl
 obtain hv7 := hF 7 13 (by decide) rfl
 obtain hv8 := hF 8 14 (by decide) rfl
 refine Zdh [(14, vi x4), (13, pt b1 1), (12, pt b1 0), (11, pt b1 0), (10, vi (x3.size : Int)), (9, .string x3), (8, pt b1 0), (7, pt b1 0), (6, pt b1 0), (0, pt b1 0), (2, pt b8 0)] (Z7 (Z7 (Z7 (Z7 (Z7 (Z7 (Z7 (Z7 (Z7 hat hv0) hv1) hv2) hv3) hv4) hv5) hv6) hv7) hv8) ?_
 have S20 := S14.trans0 s17
 refine Wv rfl (ov_sub rfl rfl) <| Wv rfl (ov_min rfl rfl) <| Wa rfl rfl <| Z6 <| Z4 <| Z0r <| Z5v <| Z99 [0, 2, 4] [(0, pt b1 0), (2, pt b8 0), (4, vi (imin 2 (IntKind.i64.wrap ((x3.size : Int) - x4))))] rfl <| Z5u (K := k) (fun j E w22 => ∃ (h21 : Hp) (x25 : Int), (Z21 j).lexis_scanner_sign_l1 x3 x4 x25 = some r ∧ E = [(0, pt b1 0), (2, pt b8 0), (4, vi x25)] ∧ Stp [] w0 h0 w22 h21 ∧ Hle h16 h21 ∧ OB w22 h21 b1 T2 [.string x3, vi x4] ∧ OB w22 h21 b8 38 [vi 0, .string Z1e, vi 0]) ?_ ?_ (j := k) (Nat.le_refl _) ?_
 ·rintro E w22 ⟨_, _, HF, _⟩; cases HF
 ·rintro j28 hj30 IHL29 E w22 ⟨h21, x25, HF, rfl, S24, le23, ob26, ob27⟩
  refine Z09 (fun E w37 => ∃ (h36 : Hp), Zd3 j28 (Z21 j28) x3 x4 x25 = some r ∧ E = [(0, pt b1 0), (2, pt b8 0), (4, vi x25)] ∧ Stp [] w0 h0 w37 h36 ∧ Hle h21 h36 ∧ OB w37 h36 b1 T2 [.string x3, vi x4] ∧ OB w37 h36 b8 38 [vi 0, .string Z1e, vi 0]) ?_ ?_
  ·rintro E w37 ⟨h36, HF, rfl, S39, le38, ob40, ob41⟩
   refine Z09 (fun E w74 => ∃ (h73 : Hp), Zcr j28 (Z21 j28) x3 x4 x25 = some r ∧ E = [(0, pt b1 0), (2, pt b8 0), (4, vi x25)] ∧ Stp [] w0 h0 w74 h73 ∧ Hle h36 h73 ∧ OB w74 h73 b1 T2 [.string x3, vi x4] ∧ OB w74 h73 b8 38 [vi 0, .string Z1e, vi 0]) ?_ ?_
   ·rintro E w74 ⟨h73, HF, rfl, S76, le75, ob77, ob78⟩
    refine Z0 <| Wm rfl rfl <| Wv rfl (ov_sub rfl rfl) <| Wa rfl rfl <| Z6 <| Z2p <| Z99 [0, 2, 4] [(0, pt b1 0), (2, pt b8 0), (4, vi (IntKind.i64.wrap (x25 - 1)))] rfl ?_
    exact IHL29 j28 (Nat.le_refl _) _ _ ⟨h73, IntKind.i64.wrap (x25 - 1), HF, rfl, S76, (le23).trans ((le38).trans le75), ob77, ob78⟩
   intro J79
   refine Z0r <| Zc <| Z51 (m := 14) [(0, pt b1 0), (2, pt b8 0), (4, vi x25)] [0, 2, 4] rfl (fun i v w h => match i with | 0 => v = pt b1 0 | 1 => v = pt b1 0 | 2 => v = pt b1 0 | 3 => v = .string x3 | 4 => v = pt b1 0 | 5 => v = pt b1 0 | 6 => v = pt b1 1 | 7 => v = vi x4 | 8 => v = pt b1 0 | 9 => v = pt b1 0 | 10 => v = pt b1 1 | 11 => v = vi x4 | 12 => v = vi x25 | 13 => v = vi (IntKind.i64.wrap (x4 + x25)) | _ => True) Z6h S39.sub rfl rfl rfl rfl rfl ?_ ?_ ?_
   ·intro i v w h w2 h2 hΦ hst
    match i, hΦ with
    | 0, hΦ | 1, hΦ | 2, hΦ | 3, hΦ | 4, hΦ | 5, hΦ | 6, hΦ | 7, hΦ | 8, hΦ | 9, hΦ | 10, hΦ | 11, hΦ | 12, hΦ | 13, hΦ => exact hΦ
    | i + 14, _ => exact trivial
   ·refine ⟨?_, ?_, ?_, ?_, ?_, ?_, ?_, ?_, ?_, ?_, ?_, ?_, ?_, ?_, trivial⟩
    ·intro a w42 h43 s44 hat hF
     exact Za hat rfl (Z0t rfl) s44.sub (by exact rfl)
    ·intro a w42 h43 s44 hat hF
     exact Za (Z7 hat (hF 0 21 rfl rfl)) rfl (Zp rfl) s44.sub (by exact rfl)
    ·intro a w42 h43 s44 hat hF
     exact Za (Z7 hat (hF 1 22 rfl rfl)) rfl (Z1 rfl Z1v) s44.sub (by exact rfl)
    ·intro a w42 h43 s44 hat hF
     have ob45 := (ob40.step0 s44)
     exact Za (Z7 hat (hF 2 23 rfl rfl)) rfl (Zb rfl Z32 (OB.cell ob45 (j := 0) rfl)) s44.sub (by exact rfl)
    ·intro a w42 h43 s44 hat hF
     exact Za hat rfl (Z0t rfl) s44.sub (by exact rfl)
    ·intro a w42 h43 s44 hat hF
     exact Za (Z7 hat (hF 4 25 rfl rfl)) rfl (Zp rfl) s44.sub (by exact rfl)
    ·intro a w42 h43 s44 hat hF
     exact Za (Z7 hat (hF 5 26 rfl rfl)) rfl (Z1 rfl Z0q) s44.sub (by exact rfl)
    ·intro a w42 h43 s44 hat hF
     have ob46 := (ob40.step0 s44)
     exact Za (Z7 hat (hF 6 27 rfl rfl)) rfl (Zb rfl Z04 (OB.cell ob46 (j := 1) rfl)) s44.sub (by exact rfl)
    ·intro a w42 h43 s44 hat hF
     exact Za hat rfl (Z0t rfl) s44.sub (by exact rfl)
    ·intro a w42 h43 s44 hat hF
     exact Za (Z7 hat (hF 8 29 rfl rfl)) rfl (Zp rfl) s44.sub (by exact rfl)
    ·intro a w42 h43 s44 hat hF
     exact Za (Z7 hat (hF 9 30 rfl rfl)) rfl (Z1 rfl Z0q) s44.sub (by exact rfl)
    ·intro a w42 h43 s44 hat hF
     have ob47 := (ob40.step0 s44)
     exact Za (Z7 hat (hF 10 31 rfl rfl)) rfl (Zb rfl Z04 (OB.cell ob47 (j := 1) rfl)) s44.sub (by exact rfl)
    ·intro a w42 h43 s44 hat hF
     exact Za hat rfl (Z0t rfl) s44.sub (by exact rfl)
    intro a w42 h43 s44 hat hF
    exact Za (Z7 (Z7 hat (hF 11 32 rfl rfl)) (hF 12 33 rfl rfl)) rfl (Z3e rfl rfl) s44.sub (by exact rfl)
   intro a w42 h43 s44 hat hF
   obtain hv0 := hF 0 21 (by decide) rfl
   obtain hv1 := hF 1 22 (by decide) rfl
   obtain hv2 := hF 2 23 (by decide) rfl
   obtain hv3 := hF 3 24 (by decide) rfl
   obtain hv4 := hF 4 25 (by decide) rfl
   obtain hv5 := hF 5 26 (by decide) rfl
   obtain hv6 := hF 6 27 (by decide) rfl
   obtain hv7 := hF 7 28 (by decide) rfl
   obtain hv8 := hF 8 29 (by decide) rfl
   obtain hv9 := hF 9 30 (by decide) rfl
   obtain hv10 := hF 10 31 (by decide) rfl
   obtain hv11 := hF 11 32 (by decide) rfl
   obtain hv12 := hF 12 33 (by decide) rfl
   obtain hv13 := hF 13 34 (by decide) rfl
   refine Zdh [(34, vi (IntKind.i64.wrap (x4 + x25))), (33, vi x25), (32, vi x4), (31, pt b1 1), (30, pt b1 0), (29, pt b1 0), (28, vi x4), (27, pt b1 1), (26, pt b1 0), (25, pt b1 0), (24, .string x3), (23, pt b1 0), (22, pt b1 0), (21, pt b1 0), (0, pt b1 0), (2, pt b8 0), (4, vi x25)] (Z7 (Z7 (Z7 (Z7 (Z7 (Z7 (Z7 (Z7 (Z7 (Z7 (Z7 (Z7 (Z7 (Z7 hat hv0) hv1) hv2) hv3) hv4) hv5) hv6) hv7) hv8) hv9) hv10) hv11) hv12) hv13) ?_
   have S48 := S39.trans0 s44
   obtain ⟨t49, ht50, HF⟩ := Z5 HF
   refine Wv rfl (ov_sliceSLH rfl rfl rfl Z00 ht50) <| Wa rfl rfl <| Z6 <| Z4 <| Zc <| Z0 <| Wm rfl rfl ?_
   obtain ⟨r51, hr52, HF⟩ := Z5 HF
   refine Wc rfl (Zd (vs := [.string t49]) rfl t_ent_92) (ok_lexis_isSign _ hr52 S48.sub) ?_
   rintro _ w54 ⟨h55, s56, rfl⟩
   have S57 := S48.trans0 s56
   refine Z6 <| Z4 <| Z15 HF rfl (fun HF => ?_) (fun HF => ?_)
   ·refine Zc <| Z0 <| Wm rfl rfl ?_
    obtain ⟨r59, hr60, HF⟩ := Z5 HF
    refine Wc rfl (Zd (vs := [vi 4, .string t49, .bool true]) rfl t_ent_123) (Z8j _ hr60 S57.sub) ?_
    rintro _ w62 ⟨h63, s64, _, _, rfl, ⟨cs65, rfl, r66⟩, rfl⟩
    have S67 := S57.trans0 s64
    refine Wv rfl (Z0a rfl rfl) <| Wv rfl (Z0a rfl rfl) ?_
    have ob68 := (((ob41.step0 s44).step0 s56).step0 s64)
    obtain rfl := Z67.1 r66
    refine Zr (vs := [vi r59.1.kind, .string r59.1.text, vi r59.1.pos]) rfl rfl rfl rfl Z1q (Z3 rfl (Z3 rfl (Z3 rfl Zx))) ob68 S67.sub (by simp) (ds := [vi r59.1.kind, .string r59.1.text, vi r59.1.pos]) rfl (fun w69 s70 ob71 => ?_)
    have S72 := S67.trans1 s70 (.inr g13)
    refine Wa rfl rfl <| Z6 <| Z4 <| Z0b <| Z0k <| Zv <| Zv <| Z0k <| Zv <| Zh4 (rg2 rfl (Z5x rfl (Z0x (cs := [vi r59.1.kind, .string r59.1.text, vi r59.1.pos]) Z8c Z1q (OB.cells ob71 0 rfl))) (ri_tmp rfl)) ?_
    obtain rfl := Option.some.inj HF
    exact ⟨_, rfl, h63, S72, _, _, rfl, ⟨_, rfl, (Z67.2 rfl)⟩, rfl⟩
   refine Zq <| Zy ?_
   have ob80 := ((ob40.step0 s44).step0 s56)
   have ob81 := ((ob41.step0 s44).step0 s56)
   refine Z01 [0, 2, 4] _ rfl ?_
   exact J79 ⟨h55, HF, rfl, S57, (s44.le).trans s56.le, ob80, ob81⟩
  intro J82
  refine Zc <| Z0 <| Wm rfl rfl <| Wv rfl (Zby rfl rfl) <| Z6 <| Z4 <| Z15 HF rfl (fun HF => ?_) (fun HF => ?_)
  ·refine Zq <| Z01 [0, 2, 4] _ rfl ?_
   exact J82 ⟨h21, HF, rfl, S24, Hle.refl _, ob26, ob27⟩
  refine Z66 <| Z05 <| Z05 <| Z1m <| Z4 <| Zc <| Z0 <| Wv rfl (Z3b (vs := []) (cs := [vi 0, .string Z1e, vi 0]) rfl t_places_38 Z64 rfl) <| Zr (vs := [vi 0, .string Z1e, vi 0]) rfl rfl rfl rfl Z1q (Z3 rfl (Z3 rfl (Z3 rfl Zx))) ob27 S24.sub (by simp) (ds := [vi 0, .string Z1e, vi 0]) rfl (fun w32 s33 ob34 => ?_)
  have S35 := S24.trans1 s33 (.inr g13)
  refine Wa rfl rfl <| Z6 <| Z4 <| Z0b <| Zh4 (rg2 rfl (Z5x rfl (Z0x (cs := [vi 0, .string Z1e, vi 0]) Z8c Z1q (OB.cells ob34 0 rfl))) (ri_tmp rfl)) ?_
  obtain rfl := Option.some.inj HF
  exact ⟨_, rfl, h21, S35, _, _, rfl, ⟨_, rfl, (Z67.2 rfl)⟩, rfl⟩
 have ob83 := ((ob5.step0 s10).step0 s17)
 have ob84 := (ob11.step0 s17)
 exact ⟨h16, imin 2 (IntKind.i64.wrap ((x3.size : Int) - x4)), HF, rfl, S20, Hle.refl _, ob83, ob84⟩
theorem all_lexis_scanner_sign : ∀ k j, j ≤ k → Z7e (Z21 j).lexis_scanner_sign := by
  intro k
  induction k with
  | zero =>
    intro j hj
    obtain rfl : j = 0 := by omega
    exact (fun _ _ _ => by intro h; cases h)
  | succ k ih =>
    intro j hj
    by_cases h : j ≤ k
    · exact ih j h
    · obtain rfl : j = k + 1 := by omega
      exact s_lexis_scanner_sign k ih
theorem ok_lexis_scanner_sign (k : Nat) : Z7e (Zdy k) := (all_lexis_scanner_sign k k (Nat.le_refl _))
def Za5 (φ : Int → Option Bool) : Prop := ∀ ⦃x1 : Int⦄ ⦃r : Bool⦄, φ x1 = some r → ∀ ⦃w0 : World⦄ ⦃h0 : Hp⦄, Sub h0 w0 →
  Calls Tryz.prog 127 #[.int .u8 x1] w0 fun e w1 => ∃ v, e = .returned v ∧ ∃ h1, Stp [] w0 h0 w1 h1 ∧ v = .bool r
theorem Zfu (k : Nat) : Za5 (Z71 k) := by
 intro x1 r HF w0 h0  hs0 
 have S0 : Stp [] w0 h0 w0 h0 := Stp.refl hs0 _
 refine Z4o (n := 9) Tryz.func127 rfl Tryz.ntmps127 rfl [(0, .int .u8 x1)] rfl <| Zc <| Z0 <| Wa rfl rfl <| Z6 <| Z4 <| Zc <| Z0 <| Wm rfl rfl ?_
 obtain ⟨r2, hr3, HF⟩ := Z5 HF
 refine Wc rfl (Zd (vs := [.int .u8 x1]) rfl t_ent_70) (Z9o _ hr3 S0.sub) ?_
 rintro _ w5 ⟨h6, s7, rfl⟩
 have S8 := S0.trans0 s7
 refine Wm rfl rfl <| Z27 5 HF rfl (fun HF => ?_) (fun HF => ?_)
 ·refine Wp rfl <| Wp rfl <| Wv rfl (Zj rfl rfl) <| Wa rfl rfl <| Z6 <| Z4 <| Z0b <| Z07 rfl rfl ?_
  obtain rfl := Option.some.inj HF
  exact ⟨_, rfl, h6, S8, rfl⟩
 refine Wm rfl rfl ?_
 obtain ⟨r10, hr11, HF⟩ := Z5 HF
 refine Wc rfl (Zd (vs := [.int .u8 x1]) rfl t_ent_72) (Zai _ hr11 S8.sub) ?_
 rintro _ w13 ⟨h14, s15, rfl⟩
 have S16 := S8.trans0 s15
 refine Wv rfl (Zi rfl rfl) <| Wa rfl rfl <| Z6 <| Z4 <| Z0b <| Z07 rfl rfl ?_
 obtain rfl := Option.some.inj HF
 exact ⟨_, rfl, h14, S16, rfl⟩
theorem Zfi (k : Nat) : Za5 (Z71 k) := Zfu k
def Z5r (φ : ByteArray → Int → Int → Option ByteArray) : Prop := ∀ ⦃x3 : ByteArray⦄ ⦃x4 : Int⦄ ⦃x6 : Int⦄ ⦃r : ByteArray⦄, φ x3 x4 x6 = some r → ∀ ⦃w0 : World⦄ ⦃h0 : Hp⦄ ⦃b1 : Nat⦄ ⦃T2 : Nat⦄, Sub h0 w0 → OB w0 h0 b1 T2 [.string x3, .int .i64 x4] →
  Calls Tryz.prog 125 #[.pointer (some ⟨b1, 0, none⟩), .int .i64 x6, .func (.func 127) #[] #[]] w0 fun e w1 => ∃ v, e = .returned v ∧ ∃ h1, Stp [] w0 h0 w1 h1 ∧ v = .string r
theorem Zhc (k : Nat) (IH : ∀ j, j ≤ k → Z5r (Z1j j).lexis_scanner_span_v2) : Z5r (Zba k (Z1j k)) := by
 intro x3 x4 x6 r HF w0 h0 b1 T2 hs0 ob5
 have S0 : Stp [] w0 h0 w0 h0 := Stp.refl hs0 _
 have lt7 : b1 < w0.heap.size := OB.lt ob5
 refine Z4o (n := 49) Tryz.func125 rfl Tryz.ntmps125 rfl [(0, pt b1 0), (1, vi x6), (2, .func (.func 127) #[] #[])] rfl <| Zc <| Z0 <| Wa rfl rfl <| Z6 <| Z4 <| Zc <| Z51 (m := 11) [(0, pt b1 0), (1, vi x6), (2, .func (.func 127) #[] #[])] [0, 1, 2] rfl (fun i v w h => match i with | 0 => v = pt b1 0 | 1 => v = pt b1 0 | 2 => v = pt b1 1 | 3 => v = vi x4 | 4 => v = vi x6 | 5 => v = vi (IntKind.i64.wrap (x4 + x6)) | 6 => v = pt b1 0 | 7 => v = pt b1 0 | 8 => v = pt b1 0 | 9 => v = .string x3 | 10 => v = vi (x3.size : Int) | _ => True) Z6h S0.sub rfl rfl rfl rfl rfl ?_ ?_ ?_
 ·intro i v w h w2 h2 hΦ hst
  match i, hΦ with
  | 0, hΦ | 1, hΦ | 2, hΦ | 3, hΦ | 4, hΦ | 5, hΦ | 6, hΦ | 7, hΦ | 8, hΦ | 9, hΦ | 10, hΦ => exact hΦ
  | i + 11, _ => exact trivial
 ·refine ⟨?_, ?_, ?_, ?_, ?_, ?_, ?_, ?_, ?_, ?_, ?_, trivial⟩
  ·intro a w8 h9 s10 hat hF
   exact Za hat rfl (Z0t rfl) s10.sub (by exact rfl)
  ·intro a w8 h9 s10 hat hF
   exact Za (Z7 hat (hF 0 8 rfl rfl)) rfl (Zp rfl) s10.sub (by exact rfl)
  ·intro a w8 h9 s10 hat hF
   exact Za (Z7 hat (hF 1 9 rfl rfl)) rfl (Z1 rfl Z0q) s10.sub (by exact rfl)
  ·intro a w8 h9 s10 hat hF
   have ob11 := (ob5.step0 s10)
   exact Za (Z7 hat (hF 2 10 rfl rfl)) rfl (Zb rfl Z04 (OB.cell ob11 (j := 1) rfl)) s10.sub (by exact rfl)
  ·intro a w8 h9 s10 hat hF
   exact Za hat rfl (Z0t rfl) s10.sub (by exact rfl)
  ·intro a w8 h9 s10 hat hF
   exact Za (Z7 (Z7 hat (hF 3 11 rfl rfl)) (hF 4 12 rfl rfl)) rfl (Z3e rfl rfl) s10.sub (by exact rfl)
  ·intro a w8 h9 s10 hat hF
   exact Za hat rfl (Z0t rfl) s10.sub (by exact rfl)
  ·intro a w8 h9 s10 hat hF
   exact Za (Z7 hat (hF 6 14 rfl rfl)) rfl (Zp rfl) s10.sub (by exact rfl)
  ·intro a w8 h9 s10 hat hF
   exact Za (Z7 hat (hF 7 15 rfl rfl)) rfl (Z1 rfl Z1v) s10.sub (by exact rfl)
  ·intro a w8 h9 s10 hat hF
   have ob12 := (ob5.step0 s10)
   exact Za (Z7 hat (hF 8 16 rfl rfl)) rfl (Zb rfl Z32 (OB.cell ob12 (j := 0) rfl)) s10.sub (by exact rfl)
  intro a w8 h9 s10 hat hF
  exact Za (Z7 hat (hF 9 17 rfl rfl)) rfl (Z7w rfl Z00) s10.sub (by exact rfl)
 intro a w8 h9 s10 hat hF
 obtain hv0 := hF 0 8 (by decide) rfl
 obtain hv1 := hF 1 9 (by decide) rfl
 obtain hv2 := hF 2 10 (by decide) rfl
 obtain hv3 := hF 3 11 (by decide) rfl
 obtain hv4 := hF 4 12 (by decide) rfl
 obtain hv5 := hF 5 13 (by decide) rfl
 obtain hv6 := hF 6 14 (by decide) rfl
 obtain hv7 := hF 7 15 (by decide) rfl
 obtain hv8 := hF 8 16 (by decide) rfl
 obtain hv9 := hF 9 17 (by decide) rfl
 obtain hv10 := hF 10 18 (by decide) rfl
 refine Zdh [(18, vi (x3.size : Int)), (17, .string x3), (16, pt b1 0), (15, pt b1 0), (14, pt b1 0), (13, vi (IntKind.i64.wrap (x4 + x6))), (12, vi x6), (11, vi x4), (10, pt b1 1), (9, pt b1 0), (8, pt b1 0), (0, pt b1 0), (1, vi x6), (2, .func (.func 127) #[] #[])] (Z7 (Z7 (Z7 (Z7 (Z7 (Z7 (Z7 (Z7 (Z7 (Z7 (Z7 hat hv0) hv1) hv2) hv3) hv4) hv5) hv6) hv7) hv8) hv9) hv10) ?_
 have S13 := S0.trans0 s10
 refine Wv rfl (ov_min rfl rfl) <| Wa rfl rfl <| Z6 <| Z4 <| Zc <| Z0r <| Z5v <| Z99 [0, 2, 7] [(0, pt b1 0), (2, .func (.func 127) #[] #[]), (7, vi (imin (IntKind.i64.wrap (x4 + x6)) (x3.size : Int)))] rfl <| Z5u (K := k) (fun j E w15 => ∃ (h14 : Hp) (x18 : Int), (Z1j j).lexis_scanner_span_v2_l1 x3 x4 x18 = some r ∧ E = [(0, pt b1 0), (2, .func (.func 127) #[] #[]), (7, vi x18)] ∧ Stp [] w0 h0 w15 h14 ∧ Hle h9 h14 ∧ OB w15 h14 b1 T2 [.string x3, vi x4]) ?_ ?_ (j := k) (Nat.le_refl _) ?_
 ·rintro E w15 ⟨_, _, HF, _⟩; cases HF
 ·rintro j20 hj22 IHL21 E w15 ⟨h14, x18, HF, rfl, S17, le16, ob19⟩
  refine Z09 (fun E w51 => ∃ (h50 : Hp), Zan j20 (Z1j j20) x3 x4 x18 = some r ∧ E = [(0, pt b1 0), (2, .func (.func 127) #[] #[]), (7, vi x18)] ∧ Stp [] w0 h0 w51 h50 ∧ Hle h14 h50 ∧ OB w51 h50 b1 T2 [.string x3, vi x4]) ?_ ?_
  ·rintro E w51 ⟨h50, HF, rfl, S53, le52, ob54⟩
   refine Z0r <| Z0 <| Wm rfl rfl <| Wv rfl (Z3e rfl rfl) <| Wa rfl rfl <| Z6 <| Zy <| Z2p <| Z99 [0, 2, 7] [(0, pt b1 0), (2, .func (.func 127) #[] #[]), (7, vi (IntKind.i64.wrap (x18 + 1)))] rfl ?_
   exact IHL21 j20 (Nat.le_refl _) _ _ ⟨h50, IntKind.i64.wrap (x18 + 1), HF, rfl, S53, (le16).trans le52, ob54⟩
  intro J55
  refine Z09 (fun E w34 => ∃ (h33 : Hp) (x37 : Bool), Z7b j20 (Z1j j20) x3 x4 x18 x37 = some r ∧ E = [(0, pt b1 0), (2, .func (.func 127) #[] #[]), (7, vi x18), (36, .bool x37)] ∧ Stp [] w0 h0 w34 h33 ∧ Hle h14 h33 ∧ OB w34 h33 b1 T2 [.string x3, vi x4]) ?_ ?_
  ·rintro E w34 ⟨h33, x37, HF, rfl, S36, le35, ob38⟩
   refine Z15 HF rfl (fun HF => ?_) (fun HF => ?_)
   ·refine Zq <| Z01 [0, 2, 7] _ rfl ?_
    exact J55 ⟨h33, HF, rfl, S36, le35, ob38⟩
   refine Z66 <| Z05 <| Z05 <| Z1m <| Z4 <| Zc <| Z51 (m := 9) [(0, pt b1 0), (7, vi x18)] [0, 7] rfl (fun i v w h => match i with | 0 => v = pt b1 0 | 1 => v = pt b1 0 | 2 => v = pt b1 0 | 3 => v = .string x3 | 4 => v = pt b1 0 | 5 => v = pt b1 0 | 6 => v = pt b1 1 | 7 => v = vi x4 | 8 => v = vi x18 | _ => True) Z6h S36.sub rfl rfl rfl rfl rfl ?_ ?_ ?_
   ·intro i v w h w2 h2 hΦ hst
    match i, hΦ with
    | 0, hΦ | 1, hΦ | 2, hΦ | 3, hΦ | 4, hΦ | 5, hΦ | 6, hΦ | 7, hΦ | 8, hΦ => exact hΦ
    | i + 9, _ => exact trivial
   ·refine ⟨?_, ?_, ?_, ?_, ?_, ?_, ?_, ?_, ?_, trivial⟩
    ·intro a w40 h41 s42 hat hF
     exact Za hat rfl (Z0t rfl) s42.sub (by exact rfl)
    ·intro a w40 h41 s42 hat hF
     exact Za (Z7 hat (hF 0 39 rfl rfl)) rfl (Zp rfl) s42.sub (by exact rfl)
    ·intro a w40 h41 s42 hat hF
     exact Za (Z7 hat (hF 1 40 rfl rfl)) rfl (Z1 rfl Z1v) s42.sub (by exact rfl)
    ·intro a w40 h41 s42 hat hF
     have ob43 := (ob38.step0 s42)
     exact Za (Z7 hat (hF 2 41 rfl rfl)) rfl (Zb rfl Z32 (OB.cell ob43 (j := 0) rfl)) s42.sub (by exact rfl)
    ·intro a w40 h41 s42 hat hF
     exact Za hat rfl (Z0t rfl) s42.sub (by exact rfl)
    ·intro a w40 h41 s42 hat hF
     exact Za (Z7 hat (hF 4 43 rfl rfl)) rfl (Zp rfl) s42.sub (by exact rfl)
    ·intro a w40 h41 s42 hat hF
     exact Za (Z7 hat (hF 5 44 rfl rfl)) rfl (Z1 rfl Z0q) s42.sub (by exact rfl)
    ·intro a w40 h41 s42 hat hF
     have ob44 := (ob38.step0 s42)
     exact Za (Z7 hat (hF 6 45 rfl rfl)) rfl (Zb rfl Z04 (OB.cell ob44 (j := 1) rfl)) s42.sub (by exact rfl)
    intro a w40 h41 s42 hat hF
    exact Za hat rfl (Z0t rfl) s42.sub (by exact rfl)
   intro a w40 h41 s42 hat hF
   obtain hv0 := hF 0 39 (by decide) rfl
   obtain hv1 := hF 1 40 (by decide) rfl
   obtain hv2 := hF 2 41 (by decide) rfl
   obtain hv3 := hF 3 42 (by decide) rfl
   obtain hv4 := hF 4 43 (by decide) rfl
   obtain hv5 := hF 5 44 (by decide) rfl
   obtain hv6 := hF 6 45 (by decide) rfl
   obtain hv7 := hF 7 46 (by decide) rfl
   obtain hv8 := hF 8 47 (by decide) rfl
   refine Zdh [(47, vi x18), (46, vi x4), (45, pt b1 1), (44, pt b1 0), (43, pt b1 0), (42, .string x3), (41, pt b1 0), (40, pt b1 0), (39, pt b1 0), (0, pt b1 0), (7, vi x18)] (Z7 (Z7 (Z7 (Z7 (Z7 (Z7 (Z7 (Z7 (Z7 hat hv0) hv1) hv2) hv3) hv4) hv5) hv6) hv7) hv8) ?_
   have S45 := S36.trans0 s42
   obtain ⟨t46, ht47, HF⟩ := Z5 HF
   refine Wv rfl (ov_sliceSLH rfl rfl rfl Z00 ht47) <| Wa rfl rfl <| Z6 <| Z4 <| Z0b <| Z07 rfl rfl ?_
   obtain rfl := Option.some.inj HF
   exact ⟨_, rfl, h41, S45, rfl⟩
  intro J48
  refine Z0 <| Wm rfl rfl <| Wm rfl rfl <| Wv rfl (Zp rfl) <| Wv rfl (Z1 rfl Z1v) <| Wv rfl (Zb rfl Z32 (OB.cell ob19 (j := 0) rfl)) <| Wv rfl (Z7w rfl Z00) <| Wv rfl (Zdk rfl rfl) <| Wm rfl rfl <| Z27 27 HF rfl (fun HF => ?_) (fun HF => ?_)
  ·refine Wm rfl rfl <| Wm rfl rfl <| Wv rfl (Zp rfl) <| Wv rfl (Z1 rfl Z1v) <| Wv rfl (Zb rfl Z32 (OB.cell ob19 (j := 0) rfl)) <| Wm rfl rfl ?_
   obtain ⟨c24, hc25, HF⟩ := Z5 HF
   refine Wv rfl (Z73 rfl rfl Z00 hc25) ?_
   obtain ⟨r26, hr27, HF⟩ := Z5 HF
   refine Wc rfl (oc_val (vs := [.int .u8 c24]) (caps := []) rfl rfl t_ent_127) (Zfi _ hr27 S17.sub) ?_
   rintro _ w29 ⟨h30, s31, rfl⟩
   have S32 := S17.trans0 s31
   refine Wv rfl (Zj rfl rfl) <| Z6 ?_
   have ob49 := (ob19.step0 s31)
   refine Z01 [0, 2, 7, 36] _ rfl ?_
   exact J48 ⟨h30, r26, HF, rfl, S32, s31.le, ob49⟩
  refine Wp rfl <| Wp rfl <| Wp rfl <| Wp rfl <| Wp rfl <| Wp rfl <| Wp rfl <| Wp rfl <| Wv rfl (Zi rfl rfl) <| Z6 <| Z01 [0, 2, 7, 36] _ rfl ?_
  exact J48 ⟨h14, false, HF, rfl, S17, Hle.refl _, ob19⟩
 have ob56 := (ob5.step0 s10)
 exact ⟨h9, imin (IntKind.i64.wrap (x4 + x6)) (x3.size : Int), HF, rfl, S13, Hle.refl _, ob56⟩
theorem Zfw : ∀ k j, j ≤ k → Z5r (Z1j j).lexis_scanner_span_v2 := by
  intro k
  induction k with
  | zero =>
    intro j hj
    obtain rfl : j = 0 := by omega
    exact (fun _ _ _ _ => by intro h; cases h)
  | succ k ih =>
    intro j hj
    by_cases h : j ≤ k
    · exact ih j h
    · obtain rfl : j = k + 1 := by omega
      exact Zhc k ih
theorem Zg1 (k : Nat) : Z5r (Zbe k) := (Zfw k k (Nat.le_refl _))
def C_strings_IndexByte (φ : ByteArray → Int → Option Int) : Prop := ∀ ⦃x1 : ByteArray⦄ ⦃x2 : Int⦄ ⦃r : Int⦄, φ x1 x2 = some r → ∀ ⦃w0 : World⦄ ⦃h0 : Hp⦄, Sub h0 w0 →
  Calls Tryz.prog 153 #[.string x1, .int .u8 x2] w0 fun e w1 => ∃ v, e = .returned v ∧ ∃ h1, Stp [] w0 h0 w1 h1 ∧ v = .int .i64 r
theorem ok_strings_IndexByte (k : Nat) : C_strings_IndexByte (Zae k) := by
  intro x1 x2 r HF w0 h0 hs0
  simp only [Zae] at HF
  cases HF
  refine (Tryz.strings_IndexByte x1 x2 w0).mono ?_
  rintro e w1 ⟨rfl, rfl⟩
  exact ⟨_, rfl, h0, Stp.refl hs0 _, rfl⟩
def Zh9 (φ : ByteArray → Option Bool) : Prop := ∀ ⦃x1 : ByteArray⦄ ⦃r : Bool⦄, φ x1 = some r → ∀ ⦃w0 : World⦄ ⦃h0 : Hp⦄, Sub h0 w0 →
  Calls Tryz.prog 94 #[.string x1] w0 fun e w1 => ∃ v, e = .returned v ∧ ∃ h1, Stp [] w0 h0 w1 h1 ∧ v = .bool r
theorem s_lexis_IsAddress (k : Nat) : Zh9 (Zcm k) := by
 intro x1 r HF w0 h0  hs0 
 have S0 : Stp [] w0 h0 w0 h0 := Stp.refl hs0 _
 refine Z4o (n := 22) Tryz.func94 rfl Tryz.ntmps94 rfl [(0, .string x1)] rfl <| Zc <| Z0 <| Wa rfl rfl <| Z6 <| Z4 <| Zc <| Z0 <| Wm rfl rfl <| Wv rfl (Z7w rfl Z00) <| Wv rfl (Zby rfl rfl) <| Wm rfl rfl <| Z27 6 HF rfl (fun HF => ?_) (fun HF => ?_)
 ·refine Wm rfl rfl ?_
  obtain ⟨c3, hc4, HF⟩ := Z5 HF
  refine Wv rfl (Z73 rfl rfl Z00 hc4) <| Wv rfl (Z1g rfl rfl) <| Wv rfl (Zj rfl rfl) <| Wm rfl rfl <| Z27 11 HF rfl (fun HF => ?_) (fun HF => ?_)
  ·refine Wm rfl rfl ?_
   obtain ⟨c6, hc7, HF⟩ := Z5 HF
   refine Wv rfl (Z73 rfl rfl Z00 hc7) ?_
   obtain ⟨r8, hr9, HF⟩ := Z5 HF
   refine Wc rfl (Zd (vs := [.string (⟨#[105, 113, 109]⟩ : ByteArray), .int .u8 c6]) rfl t_ent_153) (ok_strings_IndexByte _ hr9 S0.sub) ?_
   rintro _ w11 ⟨h12, s13, rfl⟩
   have S14 := S0.trans0 s13
   refine Wv rfl (ov_geq rfl rfl) <| Wv rfl (Zj rfl rfl) <| Wm rfl rfl <| Z27 17 HF rfl (fun HF => ?_) (fun HF => ?_)
   ·refine Wm rfl rfl ?_
    obtain ⟨t16, ht17, HF⟩ := Z5 HF
    refine Wv rfl (Zhr rfl rfl Z00 ht17) ?_
    obtain ⟨r18, hr19, HF⟩ := Z5 HF
    refine Wc rfl (Zd (vs := [.string t16, vi 63]) rfl t_ent_90) (Zbo _ hr19 S14.sub) ?_
    rintro _ w21 ⟨h22, s23, rfl⟩
    have S24 := S14.trans0 s23
    refine Wv rfl (Zj rfl rfl) <| Wa rfl rfl <| Z6 <| Z4 <| Z0b <| Z07 rfl rfl ?_
    obtain rfl := Option.some.inj HF
    exact ⟨_, rfl, h22, S24, rfl⟩
   refine Wp rfl <| Wp rfl <| Wp rfl <| Wv rfl (Zi rfl rfl) <| Wa rfl rfl <| Z6 <| Z4 <| Z0b <| Z07 rfl rfl ?_
   obtain rfl := Option.some.inj HF
   exact ⟨_, rfl, h12, S14, rfl⟩
  refine Wp rfl <| Wp rfl <| Wp rfl <| Wp rfl <| Wv rfl (Zi rfl rfl) <| Wm rfl rfl <| Wp rfl <| Wp rfl <| Wp rfl <| Wv rfl (Zi rfl rfl) <| Wa rfl rfl <| Z6 <| Z4 <| Z0b <| Z07 rfl rfl ?_
  obtain rfl := Option.some.inj HF
  exact ⟨_, rfl, h0, S0, rfl⟩
 refine Wp rfl <| Wp rfl <| Wp rfl <| Wv rfl (Zi rfl rfl) <| Wm rfl rfl <| Wp rfl <| Wp rfl <| Wp rfl <| Wp rfl <| Wv rfl (Zi rfl rfl) <| Wm rfl rfl <| Wp rfl <| Wp rfl <| Wp rfl <| Wv rfl (Zi rfl rfl) <| Wa rfl rfl <| Z6 <| Z4 <| Z0b <| Z07 rfl rfl ?_
 obtain rfl := Option.some.inj HF
 exact ⟨_, rfl, h0, S0, rfl⟩
theorem ok_lexis_IsAddress (k : Nat) : Zh9 (Zcm k) := s_lexis_IsAddress k
end Go.Proofs.YtkodnhngllfemaaGreatDoor
