import Derived.Test.YtkodnhngllfemaaGreatDoorE0
import Derived.Test.YtkodnhngllfemaaGreatDoorGP0
set_option linter.unusedVariables false
set_option linter.unusedSimpArgs false
set_option maxRecDepth 20000
set_option maxHeartbeats 4000000
namespace Go.Proofs.YtkodnhngllfemaaGreatDoor
open Go
def Z7l (φ : Int → Int → Ar → Int → Int → Option (Bool × Int × Int)) : Prop := ∀ ⦃x3 : Int⦄ ⦃x4 : Int⦄ ⦃x6 : Ar⦄ ⦃x9 : Int⦄ ⦃x10 : Int⦄ ⦃r : Bool × Int × Int⦄, φ x3 x4 x6 x9 x10 = some r → ∀ ⦃w0 : World⦄ ⦃h0 : Hp⦄ ⦃b1 : Nat⦄ ⦃T2 : Nat⦄ ⦃cs7 : List Value⦄, Sub h0 w0 → Rp.R h0 x6 cs7 → OB w0 h0 b1 T2 [.int .i64 x3, .int .i64 x4] →
  Calls Tryz.prog 133 #[.pointer (some ⟨b1, 0, none⟩), .agg cs7.toArray, .int .i64 x9, .int .i64 x10] w0 fun e w1 => ∃ v, e = .returned v ∧ ∃ h1, Stp [b1] w0 h0 w1 h1 ∧ v = .bool r.1 ∧ (OB w1 h1 b1 T2 [.int .i64 r.2.1, .int .i64 r.2.2])
def Z5h (φ : Int → Int → (List St) → Int → Option (Bool × Int × Int)) : Prop := ∀ ⦃x3 : Int⦄ ⦃x4 : Int⦄ ⦃xs6 : List St⦄ ⦃x9 : Int⦄ ⦃r : Bool × Int × Int⦄, φ x3 x4 xs6 x9 = some r → ∀ ⦃w0 : World⦄ ⦃h0 : Hp⦄ ⦃b1 : Nat⦄ ⦃T2 : Nat⦄ ⦃v7 : Value⦄, Sub h0 w0 → RS h0 v7 xs6 → OB w0 h0 b1 T2 [.int .i64 x3, .int .i64 x4] →
  Calls Tryz.prog 43 #[.pointer (some ⟨b1, 0, none⟩), v7, .int .i64 x9] w0 fun e w1 => ∃ v, e = .returned v ∧ ∃ h1, Stp [b1] w0 h0 w1 h1 ∧ v = .bool r.1 ∧ (OB w1 h1 b1 T2 [.int .i64 r.2.1, .int .i64 r.2.2])
def Z6r (φ : Int → Int → St → Int → Option (Bool × Int × Int)) : Prop := ∀ ⦃x3 : Int⦄ ⦃x4 : Int⦄ ⦃x6 : St⦄ ⦃x9 : Int⦄ ⦃r : Bool × Int × Int⦄, φ x3 x4 x6 x9 = some r → ∀ ⦃w0 : World⦄ ⦃h0 : Hp⦄ ⦃b1 : Nat⦄ ⦃T2 : Nat⦄ ⦃cs7 : List Value⦄, Sub h0 w0 → Rp.R h0 x6 cs7 → OB w0 h0 b1 T2 [.int .i64 x3, .int .i64 x4] →
  Calls Tryz.prog 75 #[.pointer (some ⟨b1, 0, none⟩), .agg cs7.toArray, .int .i64 x9] w0 fun e w1 => ∃ v, e = .returned v ∧ ∃ h1, Stp [b1] w0 h0 w1 h1 ∧ v = .bool r.1 ∧ (OB w1 h1 b1 T2 [.int .i64 r.2.1, .int .i64 r.2.2])
theorem s_ast_Counter_arm (k : Nat) (IH : ∀ j, j ≤ k → Z7l (Zm j).ast_Counter_arm ∧ Z5h (Zm j).ast_Counter_Text ∧ Z6r (Zm j).ast_Counter_stmt) : Z7l (Z9m k (Zm k)) := by
 intro x3 x4 x6 x9 x10 r HF w0 h0 b1 T2 cs7 hs0 r8 ob5
 have S0 : Stp [b1] w0 h0 w0 h0 := Stp.refl hs0 _
 have lt11 : b1 < w0.heap.size := OB.lt ob5
 refine Z4o (n := 62) Tryz.func133 rfl Tryz.ntmps133 rfl [(0, pt b1 0), (1, .agg cs7.toArray), (2, vi x9), (3, vi x10)] rfl <| Zc <| Z0 ?_
 obtain ⟨v12, v14, v16, rfl, rs13, rs15, rs17⟩ := rp_Ar.1 r8
 refine WL.box (cs := [v12, v14, v16]) rfl rfl rfl rfl S0.sub (fun w18 b19 hb20 s21 ob22 => ?_)
 have ne23 : b1 ≠ b19 := ob5.ne_new hb20
 have g24 : w0.heap.size ≤ b19 := by rw [hb20]; exact S0.size
 have S25 := S0.trans0 s21
 refine Wa rfl rfl <| Z6 <| Z4 <| Z09 (fun E w59 => ∃ (h58 : Hp) (x62 : Int) (x63 : Int), Zbs k (Zm k) x6 x9 x10 x62 x63 = some r ∧ E = [(0, pt b1 0), (2, vi x9), (3, vi x10), (5, pt b19 0)] ∧ Stp [b1] w0 h0 w59 h58 ∧ Hle h0 h58 ∧ OB w59 h58 b1 T2 [vi x62, vi x63] ∧ OB w59 h58 b19 77 [v12, v14, v16]) ?_ ?_
 ·rintro E w59 ⟨h58, x62, x63, HF, rfl, S61, le60, ob64, ob65⟩
  refine Z09 (fun E w95 => ∃ (h94 : Hp), Z5e k (Zm k) x6 x10 x62 x63 = some r ∧ E = [(0, pt b1 0), (3, vi x10), (5, pt b19 0)] ∧ Stp [b1] w0 h0 w95 h94 ∧ Hle h58 h94 ∧ OB w95 h94 b1 T2 [vi x62, vi x63] ∧ OB w95 h94 b19 77 [v12, v14, v16]) ?_ ?_
  ·rintro E w95 ⟨h94, HF, rfl, S97, le96, ob98, ob99⟩
   refine Zc <| Z0 <| Wm rfl rfl <| Wv rfl (Z1 rfl Z6d) <| Wv rfl (Zb rfl Z31 (OB.cell ob99 (j := 0) rfl)) <| Wm rfl rfl <| Wv rfl (Z3e rfl rfl) ?_
   obtain ⟨r100, hr101, HF⟩ := Z5 HF
   refine Wc rfl (Zd (vs := [pt b1 0, v12, vi (IntKind.i64.wrap (x10 + 1))]) rfl t_ent_134) (Z9w _ hr101 S97.sub (rs13.mono ((s21.le).trans ((le60).trans le96))) ob98) ?_
   rintro _ w103 ⟨h104, s105, rfl, ob106⟩
   have S107 := S97.trans s105 (Zl (.inl (by simp)) Zt)
   refine Wm rfl rfl <| Z27 54 HF rfl (fun HF => ?_) (fun HF => ?_)
   ·refine Wm rfl rfl <| Wv rfl (Z1 rfl Ze3) ?_
    have ob109 := (ob99.step1 s105 (Ne.symm ne23))
    refine Wv rfl (Zb rfl Z5q (OB.cell ob109 (j := 2) rfl)) <| Wm rfl rfl <| Wv rfl (Z3e rfl rfl) ?_
    obtain ⟨r110, hr111, HF⟩ := Z5 HF
    refine Wc rfl (Zd (vs := [pt b1 0, v16, vi (IntKind.i64.wrap (x10 + 1))]) rfl t_ent_43) ((IH _ (Nat.le_refl _)).2.1 hr111 S107.sub (rs17.mono ((s21.le).trans ((le60).trans ((le96).trans s105.le)))) ob106) ?_
    rintro _ w113 ⟨h114, s115, rfl, ob116⟩
    have S117 := S107.trans s115 (Zl (.inl (by simp)) Zt)
    refine Wv rfl (Zj rfl rfl) <| Wa rfl rfl <| Z6 <| Z4 <| Z0b <| Z07 rfl rfl ?_
    obtain rfl := Option.some.inj HF
    exact ⟨_, rfl, h114, S117, rfl, ob116⟩
   refine Wp rfl <| Wp rfl <| Wp rfl <| Wp rfl <| Wp rfl <| Wp rfl <| Wv rfl (Zi rfl rfl) <| Wa rfl rfl <| Z6 <| Z4 <| Z0b <| Z07 rfl rfl ?_
   obtain rfl := Option.some.inj HF
   exact ⟨_, rfl, h104, S107, rfl, ob106⟩
  intro J118
  refine Z09 (fun E w86 => ∃ (h85 : Hp) (x89 : Bool), Z2o k (Zm k) x6 x10 x62 x63 x89 = some r ∧ E = [(0, pt b1 0), (3, vi x10), (5, pt b19 0), (47, .bool x89)] ∧ Stp [b1] w0 h0 w86 h85 ∧ Hle h58 h85 ∧ OB w86 h85 b1 T2 [vi x62, vi x63] ∧ OB w86 h85 b19 77 [v12, v14, v16]) ?_ ?_
  ·rintro E w86 ⟨h85, x89, HF, rfl, S88, le87, ob90, ob91⟩
   refine Z15 HF rfl (fun HF => ?_) (fun HF => ?_)
   ·refine Zc <| Z0 <| Wa rfl rfl <| Z6 <| Z4 <| Z0b <| Zv <| Z07 rfl rfl ?_
    obtain rfl := Option.some.inj HF
    exact ⟨_, rfl, h85, S88, rfl, ob90⟩
   refine Zq <| Z01 [0, 3, 5] _ rfl ?_
   exact J118 ⟨h85, HF, rfl, S88, le87, ob90, ob91⟩
  intro J93
  refine Z0 <| Wm rfl rfl <| Wv rfl (Z1g rfl rfl) <| Wm rfl rfl <| Z27 20 HF rfl (fun HF => ?_) (fun HF => ?_)
  ·refine Wv rfl (Z1 rfl Z6d) <| Wv rfl (Zb rfl Z31 (OB.cell ob65 (j := 0) rfl)) ?_
   obtain ⟨A67, c68, rfl, rs69⟩ := RS.form (rs13.mono ((s21.le).trans le60))
   refine Wv rfl (Z1i rfl Z0v) <| Wv rfl (Zca rfl rfl) <| Wm rfl rfl <| Z27 25 HF rfl (fun HF => ?_) (fun HF => ?_)
   ·refine Wp rfl <| Wp rfl <| Wp rfl <| Wp rfl <| Wv rfl (Zj rfl rfl) <| Wv rfl (Zj rfl rfl) <| Wm rfl rfl <| Wp rfl <| Wp rfl <| Wp rfl <| Wp rfl <| Wp rfl <| Wp rfl <| Wp rfl <| Wp rfl <| Wp rfl <| Wp rfl <| Wp rfl <| Wp rfl <| Wp rfl <| Wp rfl <| Wv rfl (Zj rfl rfl) <| Z6 <| Z01 [0, 3, 5, 47] _ rfl ?_
    exact J93 ⟨h58, true, HF, rfl, S61, Hle.refl _, ob64, ob65⟩
   refine Wv rfl (Z1 rfl Z40) <| Wv rfl (Zb rfl Zcn (OB.cell ob65 (j := 1) rfl)) ?_
   obtain ⟨A71, c72, rfl, rs73⟩ := RS.form (rs15.mono ((s21.le).trans le60))
   refine Wv rfl (Z1i rfl Z5o) <| Wv rfl (Zby rfl rfl) <| Wv rfl (Zi rfl rfl) <| Wv rfl (Zj rfl rfl) <| Wm rfl rfl <| Z27 32 HF rfl (fun HF => ?_) (fun HF => ?_)
   ·refine Wp rfl <| Wp rfl <| Wp rfl <| Wp rfl <| Wp rfl <| Wp rfl <| Wp rfl <| Wp rfl <| Wp rfl <| Wp rfl <| Wp rfl <| Wp rfl <| Wp rfl <| Wp rfl <| Wv rfl (Zj rfl rfl) <| Z6 <| Z01 [0, 3, 5, 47] _ rfl ?_
    exact J93 ⟨h58, true, HF, rfl, S61, Hle.refl _, ob64, ob65⟩
   refine Wm rfl rfl <| Wv rfl (Z1g rfl rfl) <| Wm rfl rfl <| Z27 35 HF rfl (fun HF => ?_) (fun HF => ?_)
   ·refine Wv rfl (Z1 rfl Z6d) <| Wv rfl (Zb rfl Z31 (OB.cell ob65 (j := 0) rfl)) <| Wv rfl (Z1i rfl Z0v) <| Wv rfl (Zby rfl rfl) <| Wm rfl rfl <| Z27 40 HF rfl (fun HF => ?_) (fun HF => ?_)
    ·refine Wp rfl <| Wp rfl <| Wp rfl <| Wp rfl <| Wv rfl (Zj rfl rfl) <| Wv rfl (Zj rfl rfl) <| Wv rfl (Zi rfl rfl) <| Z6 <| Z01 [0, 3, 5, 47] _ rfl ?_
     exact J93 ⟨h58, true, HF, rfl, S61, Hle.refl _, ob64, ob65⟩
    refine Wv rfl (Z1 rfl Z40) <| Wv rfl (Zb rfl Zcn (OB.cell ob65 (j := 1) rfl)) <| Wv rfl (Z1i rfl Z5o) <| Wv rfl (Z1g rfl rfl) <| Wv rfl (Zi rfl rfl) <| Wv rfl (Zj rfl rfl) <| Wv rfl (Zi rfl rfl) <| Z6 <| Z01 [0, 3, 5, 47] _ rfl ?_
    exact J93 ⟨h58, ((x6.labels.length : Int) : Int) == 0, HF, rfl, S61, Hle.refl _, ob64, ob65⟩
   refine Wp rfl <| Wp rfl <| Wp rfl <| Wp rfl <| Wp rfl <| Wp rfl <| Wp rfl <| Wp rfl <| Wp rfl <| Wp rfl <| Wv rfl (Zi rfl rfl) <| Wv rfl (Zi rfl rfl) <| Z6 <| Z01 [0, 3, 5, 47] _ rfl ?_
   exact J93 ⟨h58, false, HF, rfl, S61, Hle.refl _, ob64, ob65⟩
  refine Wp rfl <| Wp rfl <| Wp rfl <| Wp rfl <| Wp rfl <| Wp rfl <| Wp rfl <| Wp rfl <| Wp rfl <| Wp rfl <| Wv rfl (Zi rfl rfl) <| Wm rfl rfl <| Wm rfl rfl <| Wv rfl (Z1g rfl rfl) <| Wm rfl rfl <| Z27 35 HF rfl (fun HF => ?_) (fun HF => ?_)
  ·refine Wv rfl (Z1 rfl Z6d) <| Wv rfl (Zb rfl Z31 (OB.cell ob65 (j := 0) rfl)) ?_
   obtain ⟨A78, c79, rfl, rs80⟩ := RS.form (rs13.mono ((s21.le).trans le60))
   refine Wv rfl (Z1i rfl Z0v) <| Wv rfl (Zby rfl rfl) <| Wm rfl rfl <| Z27 40 HF rfl (fun HF => ?_) (fun HF => ?_)
   ·refine Wp rfl <| Wp rfl <| Wp rfl <| Wp rfl <| Wv rfl (Zj rfl rfl) <| Wv rfl (Zj rfl rfl) <| Wv rfl (Zi rfl rfl) <| Z6 <| Z01 [0, 3, 5, 47] _ rfl ?_
    exact J93 ⟨h58, true, HF, rfl, S61, Hle.refl _, ob64, ob65⟩
   refine Wv rfl (Z1 rfl Z40) <| Wv rfl (Zb rfl Zcn (OB.cell ob65 (j := 1) rfl)) ?_
   obtain ⟨A82, c83, rfl, rs84⟩ := RS.form (rs15.mono ((s21.le).trans le60))
   refine Wv rfl (Z1i rfl Z5o) <| Wv rfl (Z1g rfl rfl) <| Wv rfl (Zi rfl rfl) <| Wv rfl (Zj rfl rfl) <| Wv rfl (Zi rfl rfl) <| Z6 <| Z01 [0, 3, 5, 47] _ rfl ?_
   exact J93 ⟨h58, ((x6.labels.length : Int) : Int) == 0, HF, rfl, S61, Hle.refl _, ob64, ob65⟩
  refine Wp rfl <| Wp rfl <| Wp rfl <| Wp rfl <| Wp rfl <| Wp rfl <| Wp rfl <| Wp rfl <| Wp rfl <| Wp rfl <| Wv rfl (Zi rfl rfl) <| Wv rfl (Zi rfl rfl) <| Z6 <| Z01 [0, 3, 5, 47] _ rfl ?_
  exact J93 ⟨h58, false, HF, rfl, S61, Hle.refl _, ob64, ob65⟩
 intro J119
 refine Z09 (fun E w45 => ∃ (h44 : Hp) (x48 : Bool) (x49 : Int) (x50 : Int), Z8s k (Zm k) x6 x9 x10 x48 x49 x50 = some r ∧ E = [(0, pt b1 0), (2, vi x9), (3, vi x10), (5, pt b19 0), (17, .bool x48)] ∧ Stp [b1] w0 h0 w45 h44 ∧ Hle h0 h44 ∧ OB w45 h44 b1 T2 [vi x49, vi x50] ∧ OB w45 h44 b19 77 [v12, v14, v16]) ?_ ?_
 ·rintro E w45 ⟨h44, x48, x49, x50, HF, rfl, S47, le46, ob51, ob52⟩
  refine Z15 HF rfl (fun HF => ?_) (fun HF => ?_)
  ·refine Zc <| Z0 <| Wa rfl rfl <| Z6 <| Z4 <| Z0b <| Zv <| Z07 rfl rfl ?_
   obtain rfl := Option.some.inj HF
   exact ⟨_, rfl, h44, S47, rfl, ob51⟩
  refine Zq <| Z01 [0, 2, 3, 5] _ rfl ?_
  exact J119 ⟨h44, x49, x50, HF, rfl, S47, le46, ob51, ob52⟩
 intro J54
 refine Z0 <| Wm rfl rfl <| Wm rfl rfl ?_
 have ob26 := (ob5.step0 s21)
 obtain ⟨r27, hr28, HF⟩ := Z5 HF
 refine Wc rfl (Zd (vs := [pt b1 0, vi x10]) rfl t_ent_128) (Zbi _ hr28 S25.sub ob26) ?_
 rintro _ w30 ⟨h31, s32, rfl, ob33⟩
 have S34 := S25.trans s32 (Zl (.inl (by simp)) Zt)
 refine Wv rfl (Z30 rfl) <| Wm rfl rfl <| Z27 13 HF rfl (fun HF => ?_) (fun HF => ?_)
 ·refine Wp rfl <| Wp rfl <| Wp rfl <| Wv rfl (Zj rfl rfl) <| Z6 ?_
  have ob55 := (ob22.step1 s32 (Ne.symm ne23))
  refine Z01 [0, 2, 3, 5, 17] _ rfl ?_
  exact J54 ⟨h31, true, r27.2.1, r27.2.2, HF, rfl, S34, s32.le, ob33, ob55⟩
 refine Wv rfl (Z1 rfl Z40) ?_
 have ob36 := (ob22.step1 s32 (Ne.symm ne23))
 refine Wv rfl (Zb rfl Zcn (OB.cell ob36 (j := 1) rfl)) ?_
 obtain ⟨r37, hr38, HF⟩ := Z5 HF
 refine Wc rfl (Zd (vs := [v14, .func (.func 172) #[] #[]]) rfl t_ent_171) (Zcj _ hr38 S34.sub (rs15.mono ((s21.le).trans s32.le))) ?_
 rintro _ w40 ⟨h41, s42, rfl⟩
 have S43 := S34.trans0 s42
 refine Wv rfl (Zi rfl rfl) <| Z6 ?_
 have ob56 := (ob33.step0 s42)
 have ob57 := (ob36.step0 s42)
 refine Z01 [0, 2, 3, 5, 17] _ rfl ?_
 exact J54 ⟨h41, r37, r27.2.1, r27.2.2, HF, rfl, S43, (s32.le).trans s42.le, ob56, ob57⟩
theorem s_ast_Counter_Text (k : Nat) (IH : ∀ j, j ≤ k → Z7l (Zm j).ast_Counter_arm ∧ Z5h (Zm j).ast_Counter_Text ∧ Z6r (Zm j).ast_Counter_stmt) : Z5h (Zfs k (Zm k)) := by
 intro x3 x4 xs6 x9 r HF w0 h0 b1 T2 v7 hs0 rs8 ob5
 have S0 : Stp [b1] w0 h0 w0 h0 := Stp.refl hs0 _
 have lt10 : b1 < w0.heap.size := OB.lt ob5
 refine Z4o (n := 21) Tryz.func43 rfl Tryz.ntmps43 rfl [(0, pt b1 0), (1, v7), (2, vi x9)] rfl <| Zc <| Z0 <| Wa rfl rfl <| Z6 <| Z4 <| Zc <| Zc <| Z0 <| Wm rfl rfl ?_
 obtain ⟨A11, c12, rfl, rs13⟩ := RS.form rs8
 refine Wv rfl (Z1i rfl Z24) <| Wm rfl rfl <| Z6 <| Z4 <| Z0r <| Z5v <| Z99 [0, 2, 9, 10, 11] [(0, pt b1 0), (2, vi x9), (9, .slice A11 (xs6).length c12), (10, vi (xs6.length : Int)), (11, vi 0)] rfl <| Z5u (K := k) (fun j E w15 => ∃ (h14 : Hp) (x18 : Int) (x19 : Int) (x20 : Int), (Zm j).ast_Counter_Text_l1 xs6 x9 x18 x19 x20 = some r ∧ E = [(0, pt b1 0), (2, vi x9), (9, .slice A11 (xs6).length c12), (10, vi (xs6.length : Int)), (11, vi x18)] ∧ Stp [b1] w0 h0 w15 h14 ∧ Hle h0 h14 ∧ OB w15 h14 b1 T2 [vi x19, vi x20]) ?_ ?_ (j := k) (Nat.le_refl _) ?_
 ·rintro E w15 ⟨_, _, _, _, HF, _⟩; cases HF
 ·rintro j22 hj24 IHL23 E w15 ⟨h14, x18, x19, x20, HF, rfl, S17, le16, ob21⟩
  refine Zc <| Z0 <| Wv rfl (Zdk rfl rfl) <| Z6 <| Z4 <| Z09 (fun E w27 => ∃ (h26 : Hp), Zaf j22 (Zm j22) xs6 x9 x18 x19 x20 = some r ∧ E = [(0, pt b1 0), (2, vi x9), (9, .slice A11 (xs6).length c12), (10, vi (xs6.length : Int)), (11, vi x18)] ∧ Stp [b1] w0 h0 w27 h26 ∧ Hle h14 h26 ∧ OB w27 h26 b1 T2 [vi x19, vi x20]) ?_ ?_
  ·rintro E w27 ⟨h26, HF, rfl, S29, le28, ob30⟩
   refine Zc <| Z0r <| Zc <| Z0 ?_
   obtain ⟨e31, he32, HF⟩ := Z5 HF
   obtain ⟨b33, o34, rfl, h36, h37, ra35⟩ := RS.atO (rs13.mono ((le16).trans le28)) he32
   obtain ⟨cs38, r39, hc40⟩ := ra35
   refine Wv rfl (Z1p rfl rfl Z24 Z0u h36 h37) <| Wv rfl (Z2t (cs := cs38) rfl Z6y (by rw [Rp.len r39]; exact Z0u) (fun j v hv => S29.sub.at_ _ _ _ (hc40 j v hv))) <| Z19 (zs := [vi 0, .string Z1e, .slice none 0 0, .slice none 0 0, .slice none 0 0, vi 0, .slice none 0 0, .slice none 0 0, .slice none 0 0, .bool false]) rfl rfl Z38 rfl S29.sub (fun w41 b42 hb43 s44 ob45 => ?_)
   have ne46 : b1 ≠ b42 := ob30.ne_new hb43
   have g47 : w0.heap.size ≤ b42 := by rw [hb43]; exact S29.size
   have S48 := S29.trans0 s44
   obtain ⟨v49, v51, v53, v55, v57, v59, rfl, rs50, rs52, rs54, rs56, rs58, rs60⟩ := rp_St.1 (Rp.mono (s44.le) r39)
   refine Zr (vs := [vi e31.op, .string e31.name, v49, v51, v53, vi e31.n, v55, v57, v59, .bool e31.els]) rfl rfl rfl rfl Z0u (Z3 rfl (Z3 rfl (Z3 (RS.one rs50) (Z3 (RS.one rs52) (Z3 (RS.one rs54) (Z3 rfl (Z3 (RS.one rs56) (Z3 (RS.one rs58) (Z3 (RS.one rs60) (Z3 rfl Zx)))))))))) ob45 S48.sub (by simp) (ds := [vi e31.op, .string e31.name, v49, v51, v53, vi e31.n, v55, v57, v59, .bool e31.els]) rfl (fun w61 s62 ob63 => ?_)
   have S64 := S48.trans1 s62 (.inr g47)
   refine Z6 <| Z4 <| Zc <| Z0 <| Wm rfl rfl <| Wv rfl (Z2t (cs := [vi e31.op, .string e31.name, v49, v51, v53, vi e31.n, v55, v57, v59, .bool e31.els]) rfl Z6y Z0u (OB.cells ob63 0 rfl)) <| Wm rfl rfl ?_
   have ob65 := ((ob30.step0 s44).step1 s62 ne46)
   obtain ⟨r66, hr67, HF⟩ := Z5 HF
   refine Wc rfl (Zd (vs := [pt b1 0, .agg #[vi e31.op, .string e31.name, v49, v51, v53, vi e31.n, v55, v57, v59, .bool e31.els], vi x9]) rfl t_ent_75) ((IH _ (Nat.le_trans (Nat.le_of_succ_le hj24) (Nat.le_refl _))).2.2 hr67 S64.sub (rp_St.2 ⟨_, _, _, _, _, _, rfl, (rs50.mono (s62.le)), (rs52.mono (s62.le)), (rs54.mono (s62.le)), (rs56.mono (s62.le)), (rs58.mono (s62.le)), (rs60.mono (s62.le))⟩) ob65) ?_
   rintro _ w69 ⟨h70, s71, rfl, ob72⟩
   have S73 := S64.trans s71 (Zl (.inl (by simp)) Zt)
   refine Wv rfl (Z30 rfl) <| Z6 <| Z4 <| Z15 HF rfl (fun HF => ?_) (fun HF => ?_)
   ·refine Zc <| Z0 <| Wa rfl rfl <| Z6 <| Z4 <| Z0b <| Z0k <| Zv <| Zv <| Z0k <| Zv <| Z07 rfl rfl ?_
    obtain rfl := Option.some.inj HF
    exact ⟨_, rfl, h70, S73, rfl, ob72⟩
   refine Zq <| Zy <| Z4 <| Z0 <| Wv rfl (Z3e rfl rfl) <| Wm rfl rfl <| Z6 <| Z2p <| Z99 [0, 2, 9, 10, 11] [(0, pt b1 0), (2, vi x9), (9, sl b33 o34 (xs6).length c12), (10, vi (xs6.length : Int)), (11, vi (IntKind.i64.wrap (x18 + 1)))] rfl ?_
   exact IHL23 j22 (Nat.le_refl _) _ _ ⟨h70, IntKind.i64.wrap (x18 + 1), r66.2.1, r66.2.2, HF, rfl, S73, (le16).trans ((le28).trans ((s44.le).trans ((s62.le).trans s71.le))), ob72⟩
  intro J75
  refine Z15 HF rfl (fun HF => ?_) (fun HF => ?_)
  ·refine Zq <| Z01 [0, 2, 9, 10, 11] _ rfl ?_
   exact J75 ⟨h14, HF, rfl, S17, Hle.refl _, ob21⟩
  refine Z66 <| Z05 <| Z05 <| Z1m <| Z4 <| Zc <| Z0 <| Wa rfl rfl <| Z6 <| Z4 <| Z0b <| Z07 rfl rfl ?_
  obtain rfl := Option.some.inj HF
  exact ⟨_, rfl, h14, S17, rfl, ob21⟩
 exact ⟨h0, 0, x3, x4, HF, rfl, S0, Hle.refl _, ob5⟩
theorem s_ast_Counter_stmt (k : Nat) (IH : ∀ j, j ≤ k → Z7l (Zm j).ast_Counter_arm ∧ Z5h (Zm j).ast_Counter_Text ∧ Z6r (Zm j).ast_Counter_stmt) : Z6r (Z5g k (Zm k)) := by
 intro x3 x4 x6 x9 r HF w0 h0 b1 T2 cs7 hs0 r8 ob5
 have S0 : Stp [b1] w0 h0 w0 h0 := Stp.refl hs0 _
 have lt10 : b1 < w0.heap.size := OB.lt ob5
 refine Z4o (n := 185) Tryz.func75 rfl Tryz.ntmps75 rfl [(0, pt b1 0), (1, .agg cs7.toArray), (2, vi x9)] rfl <| Zc <| Z0 ?_
 obtain ⟨v11, v13, v15, v17, v19, v21, rfl, rs12, rs14, rs16, rs18, rs20, rs22⟩ := rp_St.1 r8
 refine WL.box (cs := [vi x6.op, .string x6.name, v11, v13, v15, vi x6.n, v17, v19, v21, .bool x6.els]) rfl rfl rfl rfl S0.sub (fun w23 b24 hb25 s26 ob27 => ?_)
 have ne28 : b1 ≠ b24 := ob5.ne_new hb25
 have g29 : w0.heap.size ≤ b24 := by rw [hb25]; exact S0.size
 have S30 := S0.trans0 s26
 refine Wa rfl rfl <| Z6 <| Z4 <| Zc <| Z0 ?_
 obtain ⟨v31, hv32, rm33⟩ := S30.sub.glob.g0
 refine Wv rfl (Zb rfl t_agg_157 (S30.sub.at_ _ _ _ hv32)) <| Wv rfl (Z1 rfl Z1x) <| Wv rfl (Zb rfl Z04 (OB.cell ob27 (j := 0) rfl)) ?_
 obtain ⟨r34, hr35, HF⟩ := Z5 HF
 replace hr35 := Option.some.inj hr35
 refine Wv rfl (ov_lookupI2 (evl := (fun x : Bool × Int × Int × Bool × Bool => .agg #[.bool x.1, vi x.2.1, vi x.2.2.1, .bool x.2.2.2.1, .bool x.2.2.2.2])) (z := (false, 0, 0, false, false)) rfl rfl t_map_157 t_int_3 t_zero_155 rm33 S30.sub hr35) <| Wm rfl rfl <| Wv rfl (Z0a rfl rfl) <| Wv rfl (Z0a rfl rfl) ?_
 have ob36 := (ob5.step0 s26)
 refine Z19 (zs := [.bool false, vi 0, vi 0, .bool false, .bool false]) rfl rfl t_zero_155 rfl S30.sub (fun w37 b38 hb39 s40 ob41 => ?_)
 have ne42 : b1 ≠ b38 := ob36.ne_new hb39
 have ne43 : b24 ≠ b38 := ob27.ne_new hb39
 have g44 : w0.heap.size ≤ b38 := by rw [hb39]; exact S30.size
 have S45 := S30.trans0 s40
 refine Zr (vs := [.bool ((r34.getD (false, 0, 0, false, false)).1), vi ((r34.getD (false, 0, 0, false, false)).2.1), vi ((r34.getD (false, 0, 0, false, false)).2.2.1), .bool ((r34.getD (false, 0, 0, false, false)).2.2.2.1), .bool ((r34.getD (false, 0, 0, false, false)).2.2.2.2)]) rfl rfl rfl rfl t_size_155 (Z3 rfl (Z3 rfl (Z3 rfl (Z3 rfl (Z3 rfl Zx))))) ob41 S45.sub (by simp) (ds := [.bool ((r34.getD (false, 0, 0, false, false)).1), vi ((r34.getD (false, 0, 0, false, false)).2.1), vi ((r34.getD (false, 0, 0, false, false)).2.2.1), .bool ((r34.getD (false, 0, 0, false, false)).2.2.2.1), .bool ((r34.getD (false, 0, 0, false, false)).2.2.2.2)]) rfl (fun w46 s47 ob48 => ?_)
 have S49 := S45.trans1 s47 (.inr g44)
 refine Wa rfl rfl <| Z6 <| Z4 <| Z09 (fun E w106 => ∃ (h105 : Hp) (x109 : Int) (x110 : Int), Z7y k (Zm k) x6 x9 r34 x109 x110 = some r ∧ E = [(0, pt b1 0), (2, vi x9), (4, pt b24 0), (7, pt b38 0)] ∧ Stp [b1] w0 h0 w106 h105 ∧ Hle h0 h105 ∧ OB w106 h105 b1 T2 [vi x109, vi x110] ∧ OB w106 h105 b24 56 [vi x6.op, .string x6.name, v11, v13, v15, vi x6.n, v17, v19, v21, .bool x6.els] ∧ OB w106 h105 b38 155 [.bool ((r34.getD (false, 0, 0, false, false)).1), vi ((r34.getD (false, 0, 0, false, false)).2.1), vi ((r34.getD (false, 0, 0, false, false)).2.2.1), .bool ((r34.getD (false, 0, 0, false, false)).2.2.2.1), .bool ((r34.getD (false, 0, 0, false, false)).2.2.2.2)]) ?_ ?_
 ·rintro E w106 ⟨h105, x109, x110, HF, rfl, S108, le107, ob111, ob112, ob113⟩
  refine Z09 (fun E w153 => ∃ (h152 : Hp), Z4m k (Zm k) x6 x9 r34 x109 x110 = some r ∧ E = [(0, pt b1 0), (2, vi x9), (4, pt b24 0), (7, pt b38 0)] ∧ Stp [b1] w0 h0 w153 h152 ∧ Hle h105 h152 ∧ OB w153 h152 b1 T2 [vi x109, vi x110] ∧ OB w153 h152 b24 56 [vi x6.op, .string x6.name, v11, v13, v15, vi x6.n, v17, v19, v21, .bool x6.els] ∧ OB w153 h152 b38 155 [.bool ((r34.getD (false, 0, 0, false, false)).1), vi ((r34.getD (false, 0, 0, false, false)).2.1), vi ((r34.getD (false, 0, 0, false, false)).2.2.1), .bool ((r34.getD (false, 0, 0, false, false)).2.2.2.1), .bool ((r34.getD (false, 0, 0, false, false)).2.2.2.2)]) ?_ ?_
  ·rintro E w153 ⟨h152, HF, rfl, S155, le154, ob156, ob157, ob158⟩
   refine Z09 (fun E w199 => ∃ (h198 : Hp), Z4k k (Zm k) x6 x9 r34 x109 x110 = some r ∧ E = [(0, pt b1 0), (2, vi x9), (4, pt b24 0), (7, pt b38 0)] ∧ Stp [b1] w0 h0 w199 h198 ∧ Hle h152 h198 ∧ OB w199 h198 b1 T2 [vi x109, vi x110] ∧ OB w199 h198 b24 56 [vi x6.op, .string x6.name, v11, v13, v15, vi x6.n, v17, v19, v21, .bool x6.els] ∧ OB w199 h198 b38 155 [.bool ((r34.getD (false, 0, 0, false, false)).1), vi ((r34.getD (false, 0, 0, false, false)).2.1), vi ((r34.getD (false, 0, 0, false, false)).2.2.1), .bool ((r34.getD (false, 0, 0, false, false)).2.2.2.1), .bool ((r34.getD (false, 0, 0, false, false)).2.2.2.2)]) ?_ ?_
   ·rintro E w199 ⟨h198, HF, rfl, S201, le200, ob202, ob203, ob204⟩
    refine Z09 (fun E w248 => ∃ (h247 : Hp), Z4i k (Zm k) x6 x9 x109 x110 = some r ∧ E = [(0, pt b1 0), (2, vi x9), (4, pt b24 0)] ∧ Stp [b1] w0 h0 w248 h247 ∧ Hle h198 h247 ∧ OB w248 h247 b1 T2 [vi x109, vi x110] ∧ OB w248 h247 b24 56 [vi x6.op, .string x6.name, v11, v13, v15, vi x6.n, v17, v19, v21, .bool x6.els]) ?_ ?_
    ·rintro E w248 ⟨h247, HF, rfl, S250, le249, ob251, ob252⟩
     refine Zc <| Zc <| Z0 <| Wv rfl (Z1 rfl Z3g) <| Wv rfl (Zb rfl Zbt (OB.cell ob252 (j := 7) rfl)) ?_
     obtain ⟨A253, c254, rfl, rs255⟩ := RS.form (rs20.mono ((s26.le).trans ((s40.le).trans ((s47.le).trans ((le107).trans ((le154).trans ((le200).trans le249)))))))
     refine Wv rfl (Z1i rfl Z4u) <| Wm rfl rfl <| Z6 <| Z4 <| Z0r <| Z5v <| Z99 [0, 2, 4, 140, 141, 142] [(0, pt b1 0), (2, vi x9), (4, pt b24 0), (140, .slice A253 (x6.arms).length c254), (141, vi (x6.arms.length : Int)), (142, vi 0)] rfl <| Z5u (K := k) (fun j E w257 => ∃ (h256 : Hp) (x260 : Int) (x261 : Int) (x262 : Int), (Zm j).ast_Counter_stmt_l9 x6 x9 x260 x261 x262 = some r ∧ E = [(0, pt b1 0), (2, vi x9), (4, pt b24 0), (140, .slice A253 (x6.arms).length c254), (141, vi (x6.arms.length : Int)), (142, vi x260)] ∧ Stp [b1] w0 h0 w257 h256 ∧ Hle h247 h256 ∧ OB w257 h256 b1 T2 [vi x261, vi x262] ∧ OB w257 h256 b24 56 [vi x6.op, .string x6.name, v11, v13, v15, vi x6.n, v17, .slice A253 (x6.arms).length c254, v21, .bool x6.els]) ?_ ?_ (j := k) (Nat.le_refl _) ?_
     ·rintro E w257 ⟨_, _, _, _, HF, _⟩; cases HF
     ·rintro j265 hj267 IHL266 E w257 ⟨h256, x260, x261, x262, HF, rfl, S259, le258, ob263, ob264⟩
      refine Zc <| Z0 <| Wv rfl (Zdk rfl rfl) <| Z6 <| Z4 <| Z09 (fun E w308 => ∃ (h307 : Hp), Z9r j265 (Zm j265) x6 x9 x260 x261 x262 = some r ∧ E = [(0, pt b1 0), (2, vi x9), (4, pt b24 0), (140, .slice A253 (x6.arms).length c254), (141, vi (x6.arms.length : Int)), (142, vi x260)] ∧ Stp [b1] w0 h0 w308 h307 ∧ Hle h256 h307 ∧ OB w308 h307 b1 T2 [vi x261, vi x262] ∧ OB w308 h307 b24 56 [vi x6.op, .string x6.name, v11, v13, v15, vi x6.n, v17, .slice A253 (x6.arms).length c254, v21, .bool x6.els]) ?_ ?_
      ·rintro E w308 ⟨h307, HF, rfl, S310, le309, ob311, ob312⟩
       refine Zc <| Z0r <| Zc <| Z0 ?_
       obtain ⟨e313, he314, HF⟩ := Z5 HF
       obtain ⟨b315, o316, rfl, h318, h319, ra317⟩ := RS.atO (rs255.mono ((le258).trans le309)) he314
       obtain ⟨cs320, r321, hc322⟩ := ra317
       refine Wv rfl (Z1p rfl rfl Z4u Z6c h318 h319) <| Wv rfl (Z2t (cs := cs320) rfl t_agg_77 (by rw [Rp.len r321]; exact Z6c) (fun j v hv => S310.sub.at_ _ _ _ (hc322 j v hv))) <| Z19 (zs := [.slice none 0 0, .slice none 0 0, .slice none 0 0]) rfl rfl Zdd rfl S310.sub (fun w323 b324 hb325 s326 ob327 => ?_)
       have ne328 : b1 ≠ b324 := ob311.ne_new hb325
       have ne329 : b24 ≠ b324 := ob312.ne_new hb325
       have g330 : w0.heap.size ≤ b324 := by rw [hb325]; exact S310.size
       have S331 := S310.trans0 s326
       obtain ⟨v332, v334, v336, rfl, rs333, rs335, rs337⟩ := rp_Ar.1 (Rp.mono (s326.le) r321)
       refine Zr (vs := [v332, v334, v336]) rfl rfl rfl rfl Z6c (Z3 (RS.one rs333) (Z3 (RS.one rs335) (Z3 (RS.one rs337) Zx))) ob327 S331.sub (by simp) (ds := [v332, v334, v336]) rfl (fun w338 s339 ob340 => ?_)
       have S341 := S331.trans1 s339 (.inr g330)
       refine Z6 <| Z4 <| Zc <| Z0 <| Wm rfl rfl <| Wv rfl (Z2t (cs := [v332, v334, v336]) rfl t_agg_77 Z6c (OB.cells ob340 0 rfl)) <| Wv rfl (Z1 rfl Z1x) ?_
       have ob342 := ((ob312.step0 s326).step1 s339 ne329)
       refine Wv rfl (Zb rfl Z04 (OB.cell ob342 (j := 0) rfl)) <| Wm rfl rfl <| Wv rfl (Z3e rfl rfl) ?_
       have ob343 := ((ob311.step0 s326).step1 s339 ne328)
       obtain ⟨r344, hr345, HF⟩ := Z5 HF
       refine Wc rfl (Zd (vs := [pt b1 0, .agg #[v332, v334, v336], vi x6.op, vi (IntKind.i64.wrap (x9 + 1))]) rfl t_ent_133) ((IH _ (Nat.le_trans (Nat.le_of_succ_le hj267) (Nat.le_refl _))).1 hr345 S341.sub (rp_Ar.2 ⟨_, _, _, rfl, (rs333.mono (s339.le)), (rs335.mono (s339.le)), (rs337.mono (s339.le))⟩) ob343) ?_
       rintro _ w347 ⟨h348, s349, rfl, ob350⟩
       have S351 := S341.trans s349 (Zl (.inl (by simp)) Zt)
       refine Wv rfl (Z30 rfl) <| Z6 <| Z4 <| Z15 HF rfl (fun HF => ?_) (fun HF => ?_)
       ·refine Zc <| Z0 <| Wa rfl rfl <| Z6 <| Z4 <| Z0b <| Z0k <| Zv <| Zv <| Z0k <| Zv <| Z07 rfl rfl ?_
        obtain rfl := Option.some.inj HF
        exact ⟨_, rfl, h348, S351, rfl, ob350⟩
       refine Zq <| Zy <| Z4 <| Z0 <| Wv rfl (Z3e rfl rfl) <| Wm rfl rfl <| Z6 ?_
       have ob354 := (ob342.step1 s349 (Ne.symm ne28))
       refine Z2p <| Z99 [0, 2, 4, 140, 141, 142] [(0, pt b1 0), (2, vi x9), (4, pt b24 0), (140, sl b315 o316 (x6.arms).length c254), (141, vi (x6.arms.length : Int)), (142, vi (IntKind.i64.wrap (x260 + 1)))] rfl ?_
       exact IHL266 j265 (Nat.le_refl _) _ _ ⟨h348, IntKind.i64.wrap (x260 + 1), r344.2.1, r344.2.2, HF, rfl, S351, (le258).trans ((le309).trans ((s326.le).trans ((s339.le).trans s349.le))), ob350, ob354⟩
      intro J353
      refine Z15 HF rfl (fun HF => ?_) (fun HF => ?_)
      ·refine Zq <| Z01 [0, 2, 4, 140, 141, 142] _ rfl ?_
       exact J353 ⟨h256, HF, rfl, S259, Hle.refl _, ob263, ob264⟩
      refine Z66 <| Z05 <| Z05 <| Z1m <| Z4 <| Zc <| Z0 <| Wm rfl rfl <| Wv rfl (Z1 rfl Z8d) <| Wv rfl (Zb rfl Z31 (OB.cell ob264 (j := 2) rfl)) <| Wm rfl rfl <| Wv rfl (Z3e rfl rfl) ?_
      obtain ⟨r269, hr270, HF⟩ := Z5 HF
      refine Wc rfl (Zd (vs := [pt b1 0, v11, vi (IntKind.i64.wrap (x9 + 1))]) rfl t_ent_134) (Z9w _ hr270 S259.sub (rs12.mono ((s26.le).trans ((s40.le).trans ((s47.le).trans ((le107).trans ((le154).trans ((le200).trans ((le249).trans le258)))))))) ob263) ?_
      rintro _ w272 ⟨h273, s274, rfl, ob275⟩
      have S276 := S259.trans s274 (Zl (.inl (by simp)) Zt)
      refine Wm rfl rfl <| Z27 161 HF rfl (fun HF => ?_) (fun HF => ?_)
      ·refine Wm rfl rfl <| Wv rfl (Z1 rfl Z3u) ?_
       have ob278 := (ob264.step1 s274 (Ne.symm ne28))
       refine Wv rfl (Zb rfl Z31 (OB.cell ob278 (j := 4) rfl)) <| Wm rfl rfl <| Wv rfl (Z3e rfl rfl) ?_
       obtain ⟨r279, hr280, HF⟩ := Z5 HF
       refine Wc rfl (Zd (vs := [pt b1 0, v15, vi (IntKind.i64.wrap (x9 + 1))]) rfl t_ent_134) (Z9w _ hr280 S276.sub (rs16.mono ((s26.le).trans ((s40.le).trans ((s47.le).trans ((le107).trans ((le154).trans ((le200).trans ((le249).trans ((le258).trans s274.le))))))))) ob275) ?_
       rintro _ w282 ⟨h283, s284, rfl, ob285⟩
       have S286 := S276.trans s284 (Zl (.inl (by simp)) Zt)
       refine Wv rfl (Zj rfl rfl) <| Wm rfl rfl <| Z27 169 HF rfl (fun HF => ?_) (fun HF => ?_)
       ·refine Wm rfl rfl <| Wv rfl (Z1 rfl Z84) ?_
        have ob288 := (ob278.step1 s284 (Ne.symm ne28))
        refine Wv rfl (Zb rfl Z5q (OB.cell ob288 (j := 6) rfl)) <| Wm rfl rfl <| Wv rfl (Z3e rfl rfl) ?_
        obtain ⟨r289, hr290, HF⟩ := Z5 HF
        refine Wc rfl (Zd (vs := [pt b1 0, v17, vi (IntKind.i64.wrap (x9 + 1))]) rfl t_ent_43) ((IH _ (Nat.le_trans (Nat.le_of_succ_le hj267) (Nat.le_refl _))).2.1 hr290 S286.sub (rs18.mono ((s26.le).trans ((s40.le).trans ((s47.le).trans ((le107).trans ((le154).trans ((le200).trans ((le249).trans ((le258).trans ((s274.le).trans s284.le)))))))))) ob285) ?_
        rintro _ w292 ⟨h293, s294, rfl, ob295⟩
        have S296 := S286.trans s294 (Zl (.inl (by simp)) Zt)
        refine Wv rfl (Zj rfl rfl) <| Wm rfl rfl <| Z27 177 HF rfl (fun HF => ?_) (fun HF => ?_)
        ·refine Wm rfl rfl <| Wv rfl (Z1 rfl Z3s) ?_
         have ob298 := (ob288.step1 s294 (Ne.symm ne28))
         refine Wv rfl (Zb rfl Z5q (OB.cell ob298 (j := 8) rfl)) <| Wm rfl rfl <| Wv rfl (Z3e rfl rfl) ?_
         obtain ⟨r299, hr300, HF⟩ := Z5 HF
         refine Wc rfl (Zd (vs := [pt b1 0, v21, vi (IntKind.i64.wrap (x9 + 1))]) rfl t_ent_43) ((IH _ (Nat.le_trans (Nat.le_of_succ_le hj267) (Nat.le_refl _))).2.1 hr300 S296.sub (rs22.mono ((s26.le).trans ((s40.le).trans ((s47.le).trans ((le107).trans ((le154).trans ((le200).trans ((le249).trans ((le258).trans ((s274.le).trans ((s284.le).trans s294.le))))))))))) ob295) ?_
         rintro _ w302 ⟨h303, s304, rfl, ob305⟩
         have S306 := S296.trans s304 (Zl (.inl (by simp)) Zt)
         refine Wv rfl (Zj rfl rfl) <| Wa rfl rfl <| Z6 <| Z4 <| Z0b <| Z07 rfl rfl ?_
         obtain rfl := Option.some.inj HF
         exact ⟨_, rfl, h303, S306, rfl, ob305⟩
        refine Wp rfl <| Wp rfl <| Wp rfl <| Wp rfl <| Wp rfl <| Wp rfl <| Wv rfl (Zi rfl rfl) <| Wa rfl rfl <| Z6 <| Z4 <| Z0b <| Z07 rfl rfl ?_
        obtain rfl := Option.some.inj HF
        exact ⟨_, rfl, h293, S296, rfl, ob295⟩
       refine Wp rfl <| Wp rfl <| Wp rfl <| Wp rfl <| Wp rfl <| Wp rfl <| Wv rfl (Zi rfl rfl) <| Wm rfl rfl <| Wp rfl <| Wp rfl <| Wp rfl <| Wp rfl <| Wp rfl <| Wp rfl <| Wv rfl (Zi rfl rfl) <| Wa rfl rfl <| Z6 <| Z4 <| Z0b <| Z07 rfl rfl ?_
       obtain rfl := Option.some.inj HF
       exact ⟨_, rfl, h283, S286, rfl, ob285⟩
      refine Wp rfl <| Wp rfl <| Wp rfl <| Wp rfl <| Wp rfl <| Wp rfl <| Wv rfl (Zi rfl rfl) <| Wm rfl rfl <| Wp rfl <| Wp rfl <| Wp rfl <| Wp rfl <| Wp rfl <| Wp rfl <| Wv rfl (Zi rfl rfl) <| Wm rfl rfl <| Wp rfl <| Wp rfl <| Wp rfl <| Wp rfl <| Wp rfl <| Wp rfl <| Wv rfl (Zi rfl rfl) <| Wa rfl rfl <| Z6 <| Z4 <| Z0b <| Z07 rfl rfl ?_
      obtain rfl := Option.some.inj HF
      exact ⟨_, rfl, h273, S276, rfl, ob275⟩
     exact ⟨h247, 0, x109, x110, HF, rfl, S250, Hle.refl _, ob251, ob252⟩
    intro J355
    refine Z09 (fun E w239 => ∃ (h238 : Hp) (x242 : Bool), Z16 k (Zm k) x6 x9 x109 x110 x242 = some r ∧ E = [(0, pt b1 0), (2, vi x9), (4, pt b24 0), (138, .bool x242)] ∧ Stp [b1] w0 h0 w239 h238 ∧ Hle h198 h238 ∧ OB w239 h238 b1 T2 [vi x109, vi x110] ∧ OB w239 h238 b24 56 [vi x6.op, .string x6.name, v11, v13, v15, vi x6.n, v17, v19, v21, .bool x6.els]) ?_ ?_
    ·rintro E w239 ⟨h238, x242, HF, rfl, S241, le240, ob243, ob244⟩
     refine Z15 HF rfl (fun HF => ?_) (fun HF => ?_)
     ·refine Zc <| Z0 <| Wa rfl rfl <| Z6 <| Z4 <| Z0b <| Zv <| Z07 rfl rfl ?_
      obtain rfl := Option.some.inj HF
      exact ⟨_, rfl, h238, S241, rfl, ob243⟩
     refine Zq <| Z01 [0, 2, 4] _ rfl ?_
     exact J355 ⟨h238, HF, rfl, S241, le240, ob243, ob244⟩
    intro J246
    refine Z0 <| Wv rfl (Z1 rfl t_field_155_3) <| Wv rfl (Zb rfl Z76 (OB.cell ob204 (j := 3) rfl)) <| Wv rfl (Z30 rfl) <| Wm rfl rfl <| Z27 107 HF rfl (fun HF => ?_) (fun HF => ?_)
    ·refine Wv rfl (Z1 rfl Z84) <| Wv rfl (Zb rfl Z5q (OB.cell ob203 (j := 6) rfl)) ?_
     obtain ⟨A206, c207, rfl, rs208⟩ := RS.form (rs18.mono ((s26.le).trans ((s40.le).trans ((s47.le).trans ((le107).trans ((le154).trans le200))))))
     refine Wv rfl (Z1i rfl Z24) <| Wv rfl (Zby rfl rfl) <| Wv rfl (Zj rfl rfl) <| Wm rfl rfl <| Z27 113 HF rfl (fun HF => ?_) (fun HF => ?_)
     ·refine Wp rfl <| Wp rfl <| Wp rfl <| Wp rfl <| Wp rfl <| Wp rfl <| Wp rfl <| Wp rfl <| Wp rfl <| Wp rfl <| Wp rfl <| Wp rfl <| Wp rfl <| Wv rfl (Zj rfl rfl) <| Wm rfl rfl <| Wp rfl <| Wp rfl <| Wp rfl <| Wp rfl <| Wp rfl <| Wp rfl <| Wp rfl <| Wp rfl <| Wp rfl <| Wv rfl (Zj rfl rfl) <| Z6 <| Z01 [0, 2, 4, 138] _ rfl ?_
      exact J246 ⟨h198, true, HF, rfl, S201, Hle.refl _, ob202, ob203⟩
     refine Wv rfl (Z1 rfl t_field_155_4) <| Wv rfl (Zb rfl Z76 (OB.cell ob204 (j := 4) rfl)) <| Wv rfl (Z30 rfl) <| Wm rfl rfl <| Z27 117 HF rfl (fun HF => ?_) (fun HF => ?_)
     ·refine Wv rfl (Z1 rfl Z3g) <| Wv rfl (Zb rfl Zbt (OB.cell ob203 (j := 7) rfl)) ?_
      obtain ⟨A211, c212, rfl, rs213⟩ := RS.form (rs20.mono ((s26.le).trans ((s40.le).trans ((s47.le).trans ((le107).trans ((le154).trans le200))))))
      refine Wv rfl (Z1i rfl Z4u) <| Wv rfl (Zby rfl rfl) <| Wm rfl rfl <| Z27 122 HF rfl (fun HF => ?_) (fun HF => ?_)
      ·refine Wp rfl <| Wp rfl <| Wv rfl (Zj rfl rfl) <| Wv rfl (Zj rfl rfl) <| Wv rfl (Zi rfl rfl) <| Wm rfl rfl <| Wp rfl <| Wp rfl <| Wp rfl <| Wp rfl <| Wp rfl <| Wp rfl <| Wp rfl <| Wp rfl <| Wp rfl <| Wv rfl (Zj rfl rfl) <| Z6 <| Z01 [0, 2, 4, 138] _ rfl ?_
       exact J246 ⟨h198, true, HF, rfl, S201, Hle.refl _, ob202, ob203⟩
      refine Wv rfl (Z1 rfl Z3f) <| Wv rfl (Zb rfl Z76 (OB.cell ob203 (j := 9) rfl)) <| Wv rfl (Zi rfl rfl) <| Wv rfl (Zj rfl rfl) <| Wv rfl (Zi rfl rfl) <| Wm rfl rfl <| Z27 128 HF rfl (fun HF => ?_) (fun HF => ?_)
      ·refine Wp rfl <| Wp rfl <| Wp rfl <| Wp rfl <| Wp rfl <| Wp rfl <| Wp rfl <| Wp rfl <| Wp rfl <| Wv rfl (Zj rfl rfl) <| Z6 <| Z01 [0, 2, 4, 138] _ rfl ?_
       exact J246 ⟨h198, true, HF, rfl, S201, Hle.refl _, ob202, ob203⟩
      refine Wv rfl (Z1 rfl Z3f) <| Wv rfl (Zb rfl Z76 (OB.cell ob203 (j := 9) rfl)) <| Wv rfl (Z30 rfl) <| Wm rfl rfl <| Z27 132 HF rfl (fun HF => ?_) (fun HF => ?_)
      ·refine Wv rfl (Z1 rfl Z3s) <| Wv rfl (Zb rfl Z5q (OB.cell ob203 (j := 8) rfl)) ?_
       obtain ⟨A217, c218, rfl, rs219⟩ := RS.form (rs22.mono ((s26.le).trans ((s40.le).trans ((s47.le).trans ((le107).trans ((le154).trans le200))))))
       refine Wv rfl (Z1i rfl Z24) <| Wv rfl (Zby rfl rfl) <| Wv rfl (Zj rfl rfl) <| Wv rfl (Zi rfl rfl) <| Z6 <| Z01 [0, 2, 4, 138] _ rfl ?_
       exact J246 ⟨h198, decide ((0 : Int) < (x6.other.length : Int)), HF, rfl, S201, Hle.refl _, ob202, ob203⟩
      refine Wp rfl <| Wp rfl <| Wp rfl <| Wp rfl <| Wv rfl (Zi rfl rfl) <| Wv rfl (Zi rfl rfl) <| Z6 <| Z01 [0, 2, 4, 138] _ rfl ?_
      exact J246 ⟨h198, false, HF, rfl, S201, Hle.refl _, ob202, ob203⟩
     refine Wp rfl <| Wp rfl <| Wp rfl <| Wp rfl <| Wp rfl <| Wp rfl <| Wp rfl <| Wp rfl <| Wv rfl (Zi rfl rfl) <| Wv rfl (Zi rfl rfl) <| Wm rfl rfl <| Wv rfl (Z1 rfl Z3f) <| Wv rfl (Zb rfl Z76 (OB.cell ob203 (j := 9) rfl)) <| Wv rfl (Z30 rfl) <| Wm rfl rfl <| Z27 132 HF rfl (fun HF => ?_) (fun HF => ?_)
     ·refine Wv rfl (Z1 rfl Z3s) <| Wv rfl (Zb rfl Z5q (OB.cell ob203 (j := 8) rfl)) ?_
      obtain ⟨A221, c222, rfl, rs223⟩ := RS.form (rs22.mono ((s26.le).trans ((s40.le).trans ((s47.le).trans ((le107).trans ((le154).trans le200))))))
      refine Wv rfl (Z1i rfl Z24) <| Wv rfl (Zby rfl rfl) <| Wv rfl (Zj rfl rfl) <| Wv rfl (Zi rfl rfl) <| Z6 <| Z01 [0, 2, 4, 138] _ rfl ?_
      exact J246 ⟨h198, decide ((0 : Int) < (x6.other.length : Int)), HF, rfl, S201, Hle.refl _, ob202, ob203⟩
     refine Wp rfl <| Wp rfl <| Wp rfl <| Wp rfl <| Wv rfl (Zi rfl rfl) <| Wv rfl (Zi rfl rfl) <| Z6 <| Z01 [0, 2, 4, 138] _ rfl ?_
     exact J246 ⟨h198, false, HF, rfl, S201, Hle.refl _, ob202, ob203⟩
    refine Wp rfl <| Wp rfl <| Wp rfl <| Wp rfl <| Wv rfl (Zi rfl rfl) <| Wm rfl rfl <| Wv rfl (Z1 rfl t_field_155_4) <| Wv rfl (Zb rfl Z76 (OB.cell ob204 (j := 4) rfl)) <| Wv rfl (Z30 rfl) <| Wm rfl rfl <| Z27 117 HF rfl (fun HF => ?_) (fun HF => ?_)
    ·refine Wv rfl (Z1 rfl Z3g) <| Wv rfl (Zb rfl Zbt (OB.cell ob203 (j := 7) rfl)) ?_
     obtain ⟨A225, c226, rfl, rs227⟩ := RS.form (rs20.mono ((s26.le).trans ((s40.le).trans ((s47.le).trans ((le107).trans ((le154).trans le200))))))
     refine Wv rfl (Z1i rfl Z4u) <| Wv rfl (Zby rfl rfl) <| Wm rfl rfl <| Z27 122 HF rfl (fun HF => ?_) (fun HF => ?_)
     ·refine Wp rfl <| Wp rfl <| Wv rfl (Zj rfl rfl) <| Wv rfl (Zj rfl rfl) <| Wv rfl (Zi rfl rfl) <| Wm rfl rfl <| Wp rfl <| Wp rfl <| Wp rfl <| Wp rfl <| Wp rfl <| Wp rfl <| Wp rfl <| Wp rfl <| Wp rfl <| Wv rfl (Zj rfl rfl) <| Z6 <| Z01 [0, 2, 4, 138] _ rfl ?_
      exact J246 ⟨h198, true, HF, rfl, S201, Hle.refl _, ob202, ob203⟩
     refine Wv rfl (Z1 rfl Z3f) <| Wv rfl (Zb rfl Z76 (OB.cell ob203 (j := 9) rfl)) <| Wv rfl (Zi rfl rfl) <| Wv rfl (Zj rfl rfl) <| Wv rfl (Zi rfl rfl) <| Wm rfl rfl <| Z27 128 HF rfl (fun HF => ?_) (fun HF => ?_)
     ·refine Wp rfl <| Wp rfl <| Wp rfl <| Wp rfl <| Wp rfl <| Wp rfl <| Wp rfl <| Wp rfl <| Wp rfl <| Wv rfl (Zj rfl rfl) <| Z6 <| Z01 [0, 2, 4, 138] _ rfl ?_
      exact J246 ⟨h198, true, HF, rfl, S201, Hle.refl _, ob202, ob203⟩
     refine Wv rfl (Z1 rfl Z3f) <| Wv rfl (Zb rfl Z76 (OB.cell ob203 (j := 9) rfl)) <| Wv rfl (Z30 rfl) <| Wm rfl rfl <| Z27 132 HF rfl (fun HF => ?_) (fun HF => ?_)
     ·refine Wv rfl (Z1 rfl Z3s) <| Wv rfl (Zb rfl Z5q (OB.cell ob203 (j := 8) rfl)) ?_
      obtain ⟨A231, c232, rfl, rs233⟩ := RS.form (rs22.mono ((s26.le).trans ((s40.le).trans ((s47.le).trans ((le107).trans ((le154).trans le200))))))
      refine Wv rfl (Z1i rfl Z24) <| Wv rfl (Zby rfl rfl) <| Wv rfl (Zj rfl rfl) <| Wv rfl (Zi rfl rfl) <| Z6 <| Z01 [0, 2, 4, 138] _ rfl ?_
      exact J246 ⟨h198, decide ((0 : Int) < (x6.other.length : Int)), HF, rfl, S201, Hle.refl _, ob202, ob203⟩
     refine Wp rfl <| Wp rfl <| Wp rfl <| Wp rfl <| Wv rfl (Zi rfl rfl) <| Wv rfl (Zi rfl rfl) <| Z6 <| Z01 [0, 2, 4, 138] _ rfl ?_
     exact J246 ⟨h198, false, HF, rfl, S201, Hle.refl _, ob202, ob203⟩
    refine Wp rfl <| Wp rfl <| Wp rfl <| Wp rfl <| Wp rfl <| Wp rfl <| Wp rfl <| Wp rfl <| Wv rfl (Zi rfl rfl) <| Wv rfl (Zi rfl rfl) <| Wm rfl rfl <| Wv rfl (Z1 rfl Z3f) <| Wv rfl (Zb rfl Z76 (OB.cell ob203 (j := 9) rfl)) <| Wv rfl (Z30 rfl) <| Wm rfl rfl <| Z27 132 HF rfl (fun HF => ?_) (fun HF => ?_)
    ·refine Wv rfl (Z1 rfl Z3s) <| Wv rfl (Zb rfl Z5q (OB.cell ob203 (j := 8) rfl)) ?_
     obtain ⟨A235, c236, rfl, rs237⟩ := RS.form (rs22.mono ((s26.le).trans ((s40.le).trans ((s47.le).trans ((le107).trans ((le154).trans le200))))))
     refine Wv rfl (Z1i rfl Z24) <| Wv rfl (Zby rfl rfl) <| Wv rfl (Zj rfl rfl) <| Wv rfl (Zi rfl rfl) <| Z6 <| Z01 [0, 2, 4, 138] _ rfl ?_
     exact J246 ⟨h198, decide ((0 : Int) < (x6.other.length : Int)), HF, rfl, S201, Hle.refl _, ob202, ob203⟩
    refine Wp rfl <| Wp rfl <| Wp rfl <| Wp rfl <| Wv rfl (Zi rfl rfl) <| Wv rfl (Zi rfl rfl) <| Z6 <| Z01 [0, 2, 4, 138] _ rfl ?_
    exact J246 ⟨h198, false, HF, rfl, S201, Hle.refl _, ob202, ob203⟩
   intro J356
   refine Z09 (fun E w182 => ∃ (h181 : Hp) (x185 : Bool), Z37 k (Zm k) x6 x9 r34 x109 x110 x185 = some r ∧ E = [(0, pt b1 0), (2, vi x9), (4, pt b24 0), (7, pt b38 0), (103, .bool x185)] ∧ Stp [b1] w0 h0 w182 h181 ∧ Hle h152 h181 ∧ OB w182 h181 b1 T2 [vi x109, vi x110] ∧ OB w182 h181 b24 56 [vi x6.op, .string x6.name, v11, v13, v15, vi x6.n, v17, v19, v21, .bool x6.els] ∧ OB w182 h181 b38 155 [.bool ((r34.getD (false, 0, 0, false, false)).1), vi ((r34.getD (false, 0, 0, false, false)).2.1), vi ((r34.getD (false, 0, 0, false, false)).2.2.1), .bool ((r34.getD (false, 0, 0, false, false)).2.2.2.1), .bool ((r34.getD (false, 0, 0, false, false)).2.2.2.2)]) ?_ ?_
   ·rintro E w182 ⟨h181, x185, HF, rfl, S184, le183, ob186, ob187, ob188⟩
    refine Z15 HF rfl (fun HF => ?_) (fun HF => ?_)
    ·refine Zc <| Z0 <| Wa rfl rfl <| Z6 <| Z4 <| Z0b <| Zv <| Z07 rfl rfl ?_
     obtain rfl := Option.some.inj HF
     exact ⟨_, rfl, h181, S184, rfl, ob186⟩
    refine Zq <| Z01 [0, 2, 4, 7] _ rfl ?_
    exact J356 ⟨h181, HF, rfl, S184, le183, ob186, ob187, ob188⟩
   intro J190
   refine Z0 <| Wv rfl (Z1 rfl Z1x) <| Wv rfl (Zb rfl Z04 (OB.cell ob157 (j := 0) rfl)) <| Wv rfl (Z1g rfl rfl) <| Wm rfl rfl <| Z27 78 HF rfl (fun HF => ?_) (fun HF => ?_)
   ·refine Wv rfl (Z1 rfl Z8f) <| Wv rfl (Zb rfl t_agg_53 (OB.cell ob157 (j := 3) rfl)) ?_
    obtain ⟨A160, c161, rfl, rs162⟩ := RS.form (rs14.mono ((s26.le).trans ((s40.le).trans ((s47.le).trans ((le107).trans le154)))))
    refine Wv rfl (Z1i rfl Z4v) <| Wv rfl (Z1 rfl Z3u) <| Wv rfl (Zb rfl Z31 (OB.cell ob157 (j := 4) rfl)) ?_
    obtain ⟨A163, c164, rfl, rs165⟩ := RS.form (rs16.mono ((s26.le).trans ((s40.le).trans ((s47.le).trans ((le107).trans le154)))))
    refine Wv rfl (Z1i rfl Z0v) <| Wv rfl (Zca rfl rfl) <| Wm rfl rfl <| Z27 86 HF rfl (fun HF => ?_) (fun HF => ?_)
    ·refine Wp rfl <| Wp rfl <| Wp rfl <| Wp rfl <| Wv rfl (Zj rfl rfl) <| Wv rfl (Zj rfl rfl) <| Wm rfl rfl <| Wp rfl <| Wp rfl <| Wp rfl <| Wp rfl <| Wp rfl <| Wp rfl <| Wp rfl <| Wp rfl <| Wp rfl <| Wv rfl (Zj rfl rfl) <| Z6 <| Z01 [0, 2, 4, 7, 103] _ rfl ?_
     exact J190 ⟨h152, true, HF, rfl, S155, Hle.refl _, ob156, ob157, ob158⟩
    refine Wv rfl (Z1 rfl Z8f) <| Wv rfl (Zb rfl t_agg_53 (OB.cell ob157 (j := 3) rfl)) ?_
    obtain ⟨r167, hr168, HF⟩ := Z5 HF
    refine Wc rfl (Zd (vs := [.slice A160 (x6.fields).length c161]) rfl t_ent_132) (ok_ast_AreNames _ hr168 S155.sub rs162) ?_
    rintro _ w170 ⟨h171, s172, rfl⟩
    have S173 := S155.trans0 s172
    refine Wv rfl (Z30 rfl) <| Wv rfl (Zi rfl rfl) <| Wv rfl (Zj rfl rfl) <| Wm rfl rfl <| Z27 93 HF rfl (fun HF => ?_) (fun HF => ?_)
    ·refine Wp rfl <| Wp rfl <| Wp rfl <| Wp rfl <| Wp rfl <| Wp rfl <| Wp rfl <| Wp rfl <| Wp rfl <| Wv rfl (Zj rfl rfl) <| Z6 ?_
     have ob191 := (ob156.step0 s172)
     have ob192 := (ob157.step0 s172)
     have ob193 := (ob158.step0 s172)
     refine Z01 [0, 2, 4, 7, 103] _ rfl ?_
     exact J190 ⟨h171, true, HF, rfl, S173, s172.le, ob191, ob192, ob193⟩
    refine Wv rfl (Z1 rfl Z1x) ?_
    have ob175 := (ob157.step0 s172)
    refine Wv rfl (Zb rfl Z04 (OB.cell ob175 (j := 0) rfl)) <| Wv rfl (Zca rfl rfl) <| Wm rfl rfl <| Z27 97 HF rfl (fun HF => ?_) (fun HF => ?_)
    ·refine Wv rfl (Z1 rfl Z8f) <| Wv rfl (Zb rfl t_agg_53 (OB.cell ob175 (j := 3) rfl)) <| Wv rfl (Z1i rfl Z4v) <| Wv rfl (Zby rfl rfl) <| Wv rfl (Zj rfl rfl) <| Wv rfl (Zi rfl rfl) <| Z6 ?_
     have ob194 := (ob156.step0 s172)
     have ob195 := (ob158.step0 s172)
     refine Z01 [0, 2, 4, 7, 103] _ rfl ?_
     exact J190 ⟨h171, decide ((0 : Int) < (x6.fields.length : Int)), HF, rfl, S173, s172.le, ob194, ob175, ob195⟩
    refine Wp rfl <| Wp rfl <| Wp rfl <| Wp rfl <| Wv rfl (Zi rfl rfl) <| Wv rfl (Zi rfl rfl) <| Z6 ?_
    have ob196 := (ob156.step0 s172)
    have ob197 := (ob158.step0 s172)
    refine Z01 [0, 2, 4, 7, 103] _ rfl ?_
    exact J190 ⟨h171, false, HF, rfl, S173, s172.le, ob196, ob175, ob197⟩
   refine Wp rfl <| Wp rfl <| Wp rfl <| Wp rfl <| Wp rfl <| Wp rfl <| Wp rfl <| Wp rfl <| Wp rfl <| Wp rfl <| Wp rfl <| Wp rfl <| Wp rfl <| Wv rfl (Zi rfl rfl) <| Wm rfl rfl <| Wv rfl (Z1 rfl Z1x) <| Wv rfl (Zb rfl Z04 (OB.cell ob157 (j := 0) rfl)) <| Wv rfl (Zca rfl rfl) <| Wm rfl rfl <| Z27 97 HF rfl (fun HF => ?_) (fun HF => ?_)
   ·refine Wv rfl (Z1 rfl Z8f) <| Wv rfl (Zb rfl t_agg_53 (OB.cell ob157 (j := 3) rfl)) ?_
    obtain ⟨A178, c179, rfl, rs180⟩ := RS.form (rs14.mono ((s26.le).trans ((s40.le).trans ((s47.le).trans ((le107).trans le154)))))
    refine Wv rfl (Z1i rfl Z4v) <| Wv rfl (Zby rfl rfl) <| Wv rfl (Zj rfl rfl) <| Wv rfl (Zi rfl rfl) <| Z6 <| Z01 [0, 2, 4, 7, 103] _ rfl ?_
    exact J190 ⟨h152, decide ((0 : Int) < (x6.fields.length : Int)), HF, rfl, S155, Hle.refl _, ob156, ob157, ob158⟩
   refine Wp rfl <| Wp rfl <| Wp rfl <| Wp rfl <| Wv rfl (Zi rfl rfl) <| Wv rfl (Zi rfl rfl) <| Z6 <| Z01 [0, 2, 4, 7, 103] _ rfl ?_
   exact J190 ⟨h152, false, HF, rfl, S155, Hle.refl _, ob156, ob157, ob158⟩
  intro J357
  refine Z09 (fun E w137 => ∃ (h136 : Hp) (x140 : Bool), Z3c k (Zm k) x6 x9 r34 x109 x110 x140 = some r ∧ E = [(0, pt b1 0), (2, vi x9), (4, pt b24 0), (7, pt b38 0), (74, .bool x140)] ∧ Stp [b1] w0 h0 w137 h136 ∧ Hle h105 h136 ∧ OB w137 h136 b1 T2 [vi x109, vi x110] ∧ OB w137 h136 b24 56 [vi x6.op, .string x6.name, v11, v13, v15, vi x6.n, v17, v19, v21, .bool x6.els] ∧ OB w137 h136 b38 155 [.bool ((r34.getD (false, 0, 0, false, false)).1), vi ((r34.getD (false, 0, 0, false, false)).2.1), vi ((r34.getD (false, 0, 0, false, false)).2.2.1), .bool ((r34.getD (false, 0, 0, false, false)).2.2.2.1), .bool ((r34.getD (false, 0, 0, false, false)).2.2.2.2)]) ?_ ?_
  ·rintro E w137 ⟨h136, x140, HF, rfl, S139, le138, ob141, ob142, ob143⟩
   refine Z15 HF rfl (fun HF => ?_) (fun HF => ?_)
   ·refine Zc <| Z0 <| Wa rfl rfl <| Z6 <| Z4 <| Z0b <| Zv <| Z07 rfl rfl ?_
    obtain rfl := Option.some.inj HF
    exact ⟨_, rfl, h136, S139, rfl, ob141⟩
   refine Zq <| Z01 [0, 2, 4, 7] _ rfl ?_
   exact J357 ⟨h136, HF, rfl, S139, le138, ob141, ob142, ob143⟩
  intro J145
  refine Z0 <| Wv rfl (Z1 rfl Z8d) <| Wv rfl (Zb rfl Z31 (OB.cell ob112 (j := 2) rfl)) ?_
  obtain ⟨A114, c115, rfl, rs116⟩ := RS.form (rs12.mono ((s26.le).trans ((s40.le).trans ((s47.le).trans le107))))
  refine Wv rfl (Z1i rfl Z0v) <| Wv rfl (Zby rfl rfl) <| Wm rfl rfl <| Z27 49 HF rfl (fun HF => ?_) (fun HF => ?_)
  ·refine Wv rfl (Z1 rfl Z1x) <| Wv rfl (Zb rfl Z04 (OB.cell ob112 (j := 0) rfl)) <| Wv rfl (Zca rfl rfl) <| Wm rfl rfl <| Z27 53 HF rfl (fun HF => ?_) (fun HF => ?_)
   ·refine Wp rfl <| Wp rfl <| Wp rfl <| Wp rfl <| Wv rfl (Zj rfl rfl) <| Wv rfl (Zj rfl rfl) <| Wm rfl rfl <| Wp rfl <| Wp rfl <| Wp rfl <| Wp rfl <| Wp rfl <| Wp rfl <| Wp rfl <| Wv rfl (Zj rfl rfl) <| Wm rfl rfl <| Wp rfl <| Wp rfl <| Wp rfl <| Wp rfl <| Wv rfl (Zj rfl rfl) <| Z6 <| Z01 [0, 2, 4, 7, 74] _ rfl ?_
    exact J145 ⟨h105, true, HF, rfl, S108, Hle.refl _, ob111, ob112, ob113⟩
   refine Wv rfl (Z1 rfl Z8d) <| Wv rfl (Zb rfl Z31 (OB.cell ob112 (j := 2) rfl)) <| Wv rfl (Z1i rfl Z0v) <| Wv rfl (Zby rfl rfl) <| Wv rfl (Zi rfl rfl) <| Wv rfl (Zj rfl rfl) <| Wm rfl rfl <| Z27 60 HF rfl (fun HF => ?_) (fun HF => ?_)
   ·refine Wp rfl <| Wp rfl <| Wp rfl <| Wp rfl <| Wp rfl <| Wp rfl <| Wp rfl <| Wv rfl (Zj rfl rfl) <| Wm rfl rfl <| Wp rfl <| Wp rfl <| Wp rfl <| Wp rfl <| Wv rfl (Zj rfl rfl) <| Z6 <| Z01 [0, 2, 4, 7, 74] _ rfl ?_
    exact J145 ⟨h105, true, HF, rfl, S108, Hle.refl _, ob111, ob112, ob113⟩
   refine Wv rfl (Z1 rfl Z1x) <| Wv rfl (Zb rfl Z04 (OB.cell ob112 (j := 0) rfl)) <| Wv rfl (Z1g rfl rfl) <| Wv rfl (Z1 rfl Z47) <| Wv rfl (Zb rfl Z04 (OB.cell ob112 (j := 5) rfl)) <| Wv rfl (Zca rfl rfl) <| Wv rfl (ov_neqB rfl rfl t_bool_4) <| Wv rfl (Zi rfl rfl) <| Wm rfl rfl <| Z27 69 HF rfl (fun HF => ?_) (fun HF => ?_)
   ·refine Wp rfl <| Wp rfl <| Wp rfl <| Wp rfl <| Wv rfl (Zj rfl rfl) <| Z6 <| Z01 [0, 2, 4, 7, 74] _ rfl ?_
    exact J145 ⟨h105, true, HF, rfl, S108, Hle.refl _, ob111, ob112, ob113⟩
   refine Wv rfl (Z1 rfl Z47) <| Wv rfl (Zb rfl Z04 (OB.cell ob112 (j := 5) rfl)) ?_
   obtain ⟨r121, hr122, HF⟩ := Z5 HF
   refine Wc rfl (Zd (vs := [vi x6.n]) rfl t_ent_131) (Zgs _ hr122 S108.sub) ?_
   rintro _ w124 ⟨h125, s126, rfl⟩
   have S127 := S108.trans0 s126
   refine Wv rfl (Z30 rfl) <| Wv rfl (Zi rfl rfl) <| Z6 ?_
   have ob146 := (ob111.step0 s126)
   have ob147 := (ob112.step0 s126)
   have ob148 := (ob113.step0 s126)
   refine Z01 [0, 2, 4, 7, 74] _ rfl ?_
   exact J145 ⟨h125, !r121, HF, rfl, S127, s126.le, ob146, ob147, ob148⟩
  refine Wp rfl <| Wp rfl <| Wp rfl <| Wp rfl <| Wp rfl <| Wp rfl <| Wp rfl <| Wp rfl <| Wp rfl <| Wv rfl (Zi rfl rfl) <| Wm rfl rfl <| Wv rfl (Z1 rfl Z1x) <| Wv rfl (Zb rfl Z04 (OB.cell ob112 (j := 0) rfl)) <| Wv rfl (Z1g rfl rfl) <| Wv rfl (Z1 rfl Z47) <| Wv rfl (Zb rfl Z04 (OB.cell ob112 (j := 5) rfl)) <| Wv rfl (Zca rfl rfl) <| Wv rfl (ov_neqB rfl rfl t_bool_4) <| Wv rfl (Zi rfl rfl) <| Wm rfl rfl <| Z27 69 HF rfl (fun HF => ?_) (fun HF => ?_)
  ·refine Wp rfl <| Wp rfl <| Wp rfl <| Wp rfl <| Wv rfl (Zj rfl rfl) <| Z6 <| Z01 [0, 2, 4, 7, 74] _ rfl ?_
   exact J145 ⟨h105, true, HF, rfl, S108, Hle.refl _, ob111, ob112, ob113⟩
  refine Wv rfl (Z1 rfl Z47) <| Wv rfl (Zb rfl Z04 (OB.cell ob112 (j := 5) rfl)) ?_
  obtain ⟨r129, hr130, HF⟩ := Z5 HF
  refine Wc rfl (Zd (vs := [vi x6.n]) rfl t_ent_131) (Zgs _ hr130 S108.sub) ?_
  rintro _ w132 ⟨h133, s134, rfl⟩
  have S135 := S108.trans0 s134
  refine Wv rfl (Z30 rfl) <| Wv rfl (Zi rfl rfl) <| Z6 ?_
  have ob149 := (ob111.step0 s134)
  have ob150 := (ob112.step0 s134)
  have ob151 := (ob113.step0 s134)
  refine Z01 [0, 2, 4, 7, 74] _ rfl ?_
  exact J145 ⟨h133, !r129, HF, rfl, S135, s134.le, ob149, ob150, ob151⟩
 intro J358
 refine Z09 (fun E w84 => ∃ (h83 : Hp) (x87 : Bool) (x88 : Int) (x89 : Int), Z3q k (Zm k) x6 x9 r34 x87 x88 x89 = some r ∧ E = [(0, pt b1 0), (2, vi x9), (4, pt b24 0), (7, pt b38 0), (44, .bool x87)] ∧ Stp [b1] w0 h0 w84 h83 ∧ Hle h0 h83 ∧ OB w84 h83 b1 T2 [vi x88, vi x89] ∧ OB w84 h83 b24 56 [vi x6.op, .string x6.name, v11, v13, v15, vi x6.n, v17, v19, v21, .bool x6.els] ∧ OB w84 h83 b38 155 [.bool ((r34.getD (false, 0, 0, false, false)).1), vi ((r34.getD (false, 0, 0, false, false)).2.1), vi ((r34.getD (false, 0, 0, false, false)).2.2.1), .bool ((r34.getD (false, 0, 0, false, false)).2.2.2.1), .bool ((r34.getD (false, 0, 0, false, false)).2.2.2.2)]) ?_ ?_
 ·rintro E w84 ⟨h83, x87, x88, x89, HF, rfl, S86, le85, ob90, ob91, ob92⟩
  refine Z15 HF rfl (fun HF => ?_) (fun HF => ?_)
  ·refine Zc <| Z0 <| Wa rfl rfl <| Z6 <| Z4 <| Z0b <| Zv <| Z07 rfl rfl ?_
   obtain rfl := Option.some.inj HF
   exact ⟨_, rfl, h83, S86, rfl, ob90⟩
  refine Zq <| Z01 [0, 2, 4, 7] _ rfl ?_
  exact J358 ⟨h83, x88, x89, HF, rfl, S86, le85, ob90, ob91, ob92⟩
 intro J94
 refine Z0 <| Wm rfl rfl <| Wv rfl (Z30 rfl) <| Wm rfl rfl <| Z27 20 HF rfl (fun HF => ?_) (fun HF => ?_)
 ·refine Wp rfl <| Wp rfl <| Wp rfl <| Wp rfl <| Wv rfl (Zj rfl rfl) <| Wm rfl rfl <| Wp rfl <| Wp rfl <| Wp rfl <| Wp rfl <| Wp rfl <| Wp rfl <| Wv rfl (Zj rfl rfl) <| Wm rfl rfl <| Wp rfl <| Wp rfl <| Wp rfl <| Wp rfl <| Wp rfl <| Wp rfl <| Wp rfl <| Wp rfl <| Wp rfl <| Wv rfl (Zj rfl rfl) <| Z6 ?_
  have ob95 := ((ob36.step0 s40).step1 s47 ne42)
  have ob96 := ((ob27.step0 s40).step1 s47 ne43)
  refine Z01 [0, 2, 4, 7, 44] _ rfl ?_
  exact J94 ⟨h0, true, x3, x4, HF, rfl, S49, Hle.refl _, ob95, ob96, ob48⟩
 refine Wm rfl rfl <| Wm rfl rfl ?_
 have ob51 := ((ob36.step0 s40).step1 s47 ne42)
 obtain ⟨r52, hr53, HF⟩ := Z5 HF
 refine Wc rfl (Zd (vs := [pt b1 0, vi x9]) rfl t_ent_128) (Zbi _ hr53 S49.sub ob51) ?_
 rintro _ w55 ⟨h56, s57, rfl, ob58⟩
 have S59 := S49.trans s57 (Zl (.inl (by simp)) Zt)
 refine Wv rfl (Z30 rfl) <| Wv rfl (Zi rfl rfl) <| Wm rfl rfl <| Z27 26 HF rfl (fun HF => ?_) (fun HF => ?_)
 ·refine Wp rfl <| Wp rfl <| Wp rfl <| Wp rfl <| Wp rfl <| Wp rfl <| Wv rfl (Zj rfl rfl) <| Wm rfl rfl <| Wp rfl <| Wp rfl <| Wp rfl <| Wp rfl <| Wp rfl <| Wp rfl <| Wp rfl <| Wp rfl <| Wp rfl <| Wv rfl (Zj rfl rfl) <| Z6 ?_
  have ob97 := (((ob27.step0 s40).step1 s47 ne43).step1 s57 (Ne.symm ne28))
  have ob98 := (ob48.step1 s57 (Ne.symm ne42))
  refine Z01 [0, 2, 4, 7, 44] _ rfl ?_
  exact J94 ⟨h56, true, r52.2.1, r52.2.2, HF, rfl, S59, s57.le, ob58, ob97, ob98⟩
 refine Wv rfl (Z1 rfl Zgd) ?_
 have ob61 := (((ob27.step0 s40).step1 s47 ne43).step1 s57 (Ne.symm ne28))
 refine Wv rfl (Zb rfl Z32 (OB.cell ob61 (j := 1) rfl)) <| Wv rfl (Z1 rfl t_field_155_0) ?_
 have ob62 := (ob48.step1 s57 (Ne.symm ne42))
 refine Wv rfl (Zb rfl Z76 (OB.cell ob62 (j := 0) rfl)) ?_
 obtain ⟨r63, hr64, HF⟩ := Z5 HF
 refine Wc rfl (Zd (vs := [.string x6.name, .bool ((r34.getD (false, 0, 0, false, false)).1)]) rfl t_ent_129) (Zg0 _ hr64 S59.sub) ?_
 rintro _ w66 ⟨h67, s68, rfl⟩
 have S69 := S59.trans0 s68
 refine Wv rfl (Z30 rfl) <| Wv rfl (Zi rfl rfl) <| Wm rfl rfl <| Z27 34 HF rfl (fun HF => ?_) (fun HF => ?_)
 ·refine Wp rfl <| Wp rfl <| Wp rfl <| Wp rfl <| Wp rfl <| Wp rfl <| Wp rfl <| Wp rfl <| Wp rfl <| Wv rfl (Zj rfl rfl) <| Z6 ?_
  have ob99 := (ob58.step0 s68)
  have ob100 := (ob61.step0 s68)
  have ob101 := (ob62.step0 s68)
  refine Z01 [0, 2, 4, 7, 44] _ rfl ?_
  exact J94 ⟨h67, true, r52.2.1, r52.2.2, HF, rfl, S69, (s57.le).trans s68.le, ob99, ob100, ob101⟩
 refine Wv rfl (Z1 rfl Z3u) ?_
 have ob71 := (ob61.step0 s68)
 refine Wv rfl (Zb rfl Z31 (OB.cell ob71 (j := 4) rfl)) ?_
 obtain ⟨A72, c73, rfl, rs74⟩ := RS.form (rs16.mono ((s26.le).trans ((s40.le).trans ((s47.le).trans ((s57.le).trans s68.le)))))
 refine Wv rfl (Z1i rfl Z0v) <| Wv rfl (Z1 rfl t_field_155_1) ?_
 have ob75 := (ob62.step0 s68)
 refine Wv rfl (Zb rfl Z04 (OB.cell ob75 (j := 1) rfl)) <| Wv rfl (Z1 rfl t_field_155_2) <| Wv rfl (Zb rfl Z04 (OB.cell ob75 (j := 2) rfl)) ?_
 obtain ⟨r76, hr77, HF⟩ := Z5 HF
 refine Wc rfl (Zd (vs := [vi (x6.args.length : Int), vi ((r34.getD (false, 0, 0, false, false)).2.1), vi ((r34.getD (false, 0, 0, false, false)).2.2.1)]) rfl t_ent_130) (Zc7 _ hr77 S69.sub) ?_
 rintro _ w79 ⟨h80, s81, rfl⟩
 have S82 := S69.trans0 s81
 refine Wv rfl (Z30 rfl) <| Wv rfl (Zi rfl rfl) <| Z6 ?_
 have ob102 := ((ob58.step0 s68).step0 s81)
 have ob103 := (ob71.step0 s81)
 have ob104 := (ob75.step0 s81)
 refine Z01 [0, 2, 4, 7, 44] _ rfl ?_
 exact J94 ⟨h80, !r76, r52.2.1, r52.2.2, HF, rfl, S82, (s57.le).trans ((s68.le).trans s81.le), ob102, ob103, ob104⟩
theorem all_ast_Counter_arm : ∀ k j, j ≤ k → Z7l (Zm j).ast_Counter_arm ∧ Z5h (Zm j).ast_Counter_Text ∧ Z6r (Zm j).ast_Counter_stmt := by
  intro k
  induction k with
  | zero =>
    intro j hj
    obtain rfl : j = 0 := by omega
    exact ⟨(fun _ _ _ _ _ _ => by intro h; cases h), (fun _ _ _ _ _ => by intro h; cases h), (fun _ _ _ _ _ => by intro h; cases h)⟩
  | succ k ih =>
    intro j hj
    by_cases h : j ≤ k
    · exact ih j h
    · obtain rfl : j = k + 1 := by omega
      exact ⟨s_ast_Counter_arm k ih, s_ast_Counter_Text k ih, s_ast_Counter_stmt k ih⟩
theorem Zek (k : Nat) : Z5h (Z1k k) := (all_ast_Counter_arm k k (Nat.le_refl _)).2.1
def C_ast_IsText (φ : (List St) → Option Bool) : Prop := ∀ ⦃xs1 : List St⦄ ⦃r : Bool⦄, φ xs1 = some r → ∀ ⦃w0 : World⦄ ⦃h0 : Hp⦄ ⦃v2 : Value⦄, Sub h0 w0 → RS h0 v2 xs1 →
  Calls Tryz.prog 34 #[v2] w0 fun e w1 => ∃ v, e = .returned v ∧ ∃ h1, Stp [] w0 h0 w1 h1 ∧ v = .bool r
theorem s_ast_IsText (k : Nat) : C_ast_IsText (Zds k) := by
 intro xs1 r HF w0 h0 v2 hs0 rs3
 have S0 : Stp [] w0 h0 w0 h0 := Stp.refl hs0 _
 refine Z4o (n := 6) Tryz.func34 rfl Tryz.ntmps34 rfl [(0, v2)] rfl <| Zc <| Z0 <| Wa rfl rfl <| Z6 <| Z4 <| Zc <| Z0 <| Z19 (zs := [vi 0, vi 0]) rfl rfl t_zero_87 rfl S0.sub (fun w4 b5 hb6 s7 ob8 => ?_)
 have g9 : w0.heap.size ≤ b5 := by rw [hb6]; exact S0.size
 have S10 := S0.trans0 s7
 refine Z6 <| Z4 <| Zc <| Z0 <| Wm rfl rfl ?_
 obtain ⟨r11, hr12, HF⟩ := Z5 HF
 refine Wc rfl (Zd (vs := [pt b5 0, v2, vi 1]) rfl t_ent_43) (Zek _ hr12 S10.sub (rs3.mono (s7.le)) ob8) ?_
 rintro _ w14 ⟨h15, s16, rfl, ob17⟩
 have S18 := S10.trans s16 (Zl (.inr g9) Zt)
 refine Wa rfl rfl <| Z6 <| Z4 <| Z0b <| Z07 rfl rfl ?_
 obtain rfl := Option.some.inj HF
 exact ⟨_, rfl, h15, S18, rfl⟩
theorem ok_ast_IsText (k : Nat) : C_ast_IsText (Zds k) := s_ast_IsText k
def C_syntax_Check (φ : (List St) → Option Int) : Prop := ∀ ⦃xs1 : List St⦄ ⦃r : Int⦄, φ xs1 = some r → ∀ ⦃w0 : World⦄ ⦃h0 : Hp⦄ ⦃v2 : Value⦄, Sub h0 w0 → RS h0 v2 xs1 →
  Calls Tryz.prog 20 #[v2] w0 fun e w1 => ∃ v, e = .returned v ∧ ∃ h1, Stp [] w0 h0 w1 h1 ∧ v = .int .i64 r
theorem s_syntax_Check (k : Nat) : C_syntax_Check (Zdf k) := by
 intro xs1 r HF w0 h0 v2 hs0 rs3
 have S0 : Stp [] w0 h0 w0 h0 := Stp.refl hs0 _
 refine Z4o (n := 6) Tryz.func20 rfl Tryz.ntmps20 rfl [(0, v2)] rfl <| Zc <| Z0 <| Wa rfl rfl <| Z6 <| Z4 <| Z09 (fun E w13 => ∃ (h12 : Hp), Zf9 k  = some r ∧ E = [] ∧ Stp [] w0 h0 w13 h12 ∧ Hle h0 h12) ?_ ?_
 ·rintro E w13 ⟨h12, HF, rfl, S15, le14⟩
  refine Zc <| Z0 <| Wa rfl rfl <| Z6 <| Z4 <| Z0b <| Z07 rfl rfl ?_
  obtain rfl := Option.some.inj HF
  exact ⟨_, rfl, h12, S15, rfl⟩
 intro J16
 refine Zc <| Z0 <| Wm rfl rfl ?_
 obtain ⟨r4, hr5, HF⟩ := Z5 HF
 refine Wc rfl (Zd (vs := [v2]) rfl t_ent_34) (ok_ast_IsText _ hr5 S0.sub rs3) ?_
 rintro _ w7 ⟨h8, s9, rfl⟩
 have S10 := S0.trans0 s9
 refine Wv rfl (Z30 rfl) <| Z6 <| Z4 <| Z15 HF rfl (fun HF => ?_) (fun HF => ?_)
 ·refine Zc <| Z0 <| Wa rfl rfl <| Z6 <| Z4 <| Z0b <| Zv <| Z07 rfl rfl ?_
  obtain rfl := Option.some.inj HF
  exact ⟨_, rfl, h8, S10, rfl⟩
 refine Zq <| Z01 [] _ rfl ?_
 exact J16 ⟨h8, HF, rfl, S10, s9.le⟩
theorem ok_syntax_Check (k : Nat) : C_syntax_Check (Zdf k) := s_syntax_Check k
def C_ref02_Well (φ : (List St) → Option Bool) : Prop := ∀ ⦃xs1 : List St⦄ ⦃r : Bool⦄, φ xs1 = some r → ∀ ⦃w0 : World⦄ ⦃h0 : Hp⦄ ⦃v2 : Value⦄, Sub h0 w0 → RS h0 v2 xs1 →
  Calls Tryz.prog 17 #[v2] w0 fun e w1 => ∃ v, e = .returned v ∧ ∃ h1, Stp [] w0 h0 w1 h1 ∧ v = .bool r
theorem s_ref02_Well (k : Nat) : C_ref02_Well (Zgg k) := by
 intro xs1 r HF w0 h0 v2 hs0 rs3
 have S0 : Stp [] w0 h0 w0 h0 := Stp.refl hs0 _
 refine Z4o (n := 7) Tryz.func17 rfl Tryz.ntmps17 rfl [(0, v2)] rfl <| Zc <| Z0 <| Wa rfl rfl <| Z6 <| Z4 <| Zc <| Z0 <| Wm rfl rfl ?_
 obtain ⟨r4, hr5, HF⟩ := Z5 HF
 refine Wc rfl (Zd (vs := [v2]) rfl t_ent_22) (ok_ref02_Measure _ hr5 S0.sub rs3) ?_
 rintro _ w7 ⟨h8, s9, rfl⟩
 have S10 := S0.trans0 s9
 refine Wv rfl (Z9k rfl t_fld_43_2 Z76 rfl) <| Wv rfl (Z30 rfl) <| Wa rfl rfl <| Z6 <| Z4 <| Z0b <| Z07 rfl rfl ?_
 obtain rfl := Option.some.inj HF
 exact ⟨_, rfl, h8, S10, rfl⟩
theorem ok_ref02_Well (k : Nat) : C_ref02_Well (Zgg k) := s_ref02_Well k
def C_syntax_Nodes (φ : (List St) → Option (Int × Int × Int)) : Prop := ∀ ⦃xs1 : List St⦄ ⦃r : Int × Int × Int⦄, φ xs1 = some r → ∀ ⦃w0 : World⦄ ⦃h0 : Hp⦄ ⦃v2 : Value⦄, Sub h0 w0 → RS h0 v2 xs1 →
  Calls Tryz.prog 21 #[v2] w0 fun e w1 => ∃ v, e = .returned v ∧ ∃ h1, Stp [] w0 h0 w1 h1 ∧ (∃ u0 u1 u2 : Value, v = .tuple #[u0, u1, u2] ∧ (u0 = .int .i64 r.1) ∧ (u1 = .int .i64 r.2.1) ∧ (u2 = .int .i64 r.2.2))
theorem s_syntax_Nodes (k : Nat) : C_syntax_Nodes (Zar k) := by
 intro xs1 r HF w0 h0 v2 hs0 rs3
 have S0 : Stp [] w0 h0 w0 h0 := Stp.refl hs0 _
 refine Z4o (n := 13) Tryz.func21 rfl Tryz.ntmps21 rfl [(0, v2)] rfl <| Zc <| Z0 <| Wa rfl rfl <| Wa rfl rfl <| Wa rfl rfl <| Z6 <| Z4 <| Zc <| Z0 <| Z19 (zs := [vi 0, vi 0]) rfl rfl t_zero_87 rfl S0.sub (fun w4 b5 hb6 s7 ob8 => ?_)
 have g9 : w0.heap.size ≤ b5 := by rw [hb6]; exact S0.size
 have S10 := S0.trans0 s7
 refine Z6 <| Z4 <| Z09 (fun E w21 => ∃ (h20 : Hp) (x24 : Int) (x25 : Int), Zfe k x24 x25 = some r ∧ E = [(5, pt b5 0)] ∧ Stp [] w0 h0 w21 h20 ∧ Hle h0 h20 ∧ OB w21 h20 b5 87 [vi x24, vi x25]) ?_ ?_
 ·rintro E w21 ⟨h20, x24, x25, HF, rfl, S23, le22, ob26⟩
  refine Zc <| Z51 (m := 5) [(5, pt b5 0)] [5] rfl (fun i v w h => match i with | 0 => v = pt b5 0 | 1 => v = vi x24 | 2 => v = pt b5 1 | 3 => v = vi x25 | 4 => v = vi x24 | _ => True) Z6h S23.sub rfl rfl rfl rfl rfl ?_ ?_ ?_
  ·intro i v w h w2 h2 hΦ hst
   match i, hΦ with
   | 0, hΦ | 1, hΦ | 2, hΦ | 3, hΦ | 4, hΦ => exact hΦ
   | i + 5, _ => exact trivial
  ·refine ⟨?_, ?_, ?_, ?_, ?_, trivial⟩
   ·intro a w27 h28 s29 hat hF
    exact Za hat rfl (Z1 rfl Zg9) s29.sub (by exact rfl)
   ·intro a w27 h28 s29 hat hF
    have ob30 := (ob26.step0 s29)
    exact Za (Z7 hat (hF 0 9 rfl rfl)) rfl (Zb rfl Z04 (OB.cell ob30 (j := 0) rfl)) s29.sub (by exact rfl)
   ·intro a w27 h28 s29 hat hF
    exact Za hat rfl (Z1 rfl t_field_87_1) s29.sub (by exact rfl)
   ·intro a w27 h28 s29 hat hF
    have ob31 := (ob26.step0 s29)
    exact Za (Z7 hat (hF 2 11 rfl rfl)) rfl (Zb rfl Z04 (OB.cell ob31 (j := 1) rfl)) s29.sub (by exact rfl)
   intro a w27 h28 s29 hat hF
   exact Za (Z7 hat (hF 1 10 rfl rfl)) rfl (ov_assign rfl) s29.sub (by exact rfl)
  intro a w27 h28 s29 hat hF
  obtain hv0 := hF 0 9 (by decide) rfl
  obtain hv1 := hF 1 10 (by decide) rfl
  obtain hv2 := hF 2 11 (by decide) rfl
  obtain hv3 := hF 3 12 (by decide) rfl
  obtain hv4 := hF 4 2 (by decide) rfl
  refine Zdh [(2, vi x24), (12, vi x25), (11, pt b5 1), (10, vi x24), (9, pt b5 0), (5, pt b5 0)] (Z7 (Z7 (Z7 (Z7 (Z7 hat hv0) hv1) hv2) hv3) hv4) ?_
  have S32 := S23.trans0 s29
  refine Wa rfl rfl <| Wa rfl rfl <| Z6 <| Z4 <| Z0b <| WQ.ret3 rfl rfl rfl rfl ?_
  obtain rfl := Option.some.inj HF
  exact ⟨_, rfl, h28, S32, _, _, _, rfl, rfl, rfl, rfl⟩
 intro J33
 refine Zc <| Z0 <| Wm rfl rfl ?_
 obtain ⟨r11, hr12, HF⟩ := Z5 HF
 refine Wc rfl (Zd (vs := [pt b5 0, v2, vi 1]) rfl t_ent_43) (Zek _ hr12 S10.sub (rs3.mono (s7.le)) ob8) ?_
 rintro _ w14 ⟨h15, s16, rfl, ob17⟩
 have S18 := S10.trans s16 (Zl (.inr g9) Zt)
 refine Wv rfl (Z30 rfl) <| Z6 <| Z4 <| Z15 HF rfl (fun HF => ?_) (fun HF => ?_)
 ·refine Zc <| Z0 <| Wa rfl rfl <| Wa rfl rfl <| Wa rfl rfl <| Z6 <| Z4 <| Z0b <| Zv <| WQ.ret3 rfl rfl rfl rfl ?_
  obtain rfl := Option.some.inj HF
  exact ⟨_, rfl, h15, S18, _, _, _, rfl, rfl, rfl, rfl⟩
 refine Zq <| Z01 [5] _ rfl ?_
 exact J33 ⟨h15, r11.2.1, r11.2.2, HF, rfl, S18, s16.le, ob17⟩
theorem ok_syntax_Nodes (k : Nat) : C_syntax_Nodes (Zar k) := s_syntax_Nodes k
def Zfm (φ : (List Tok) → Int → Option Tok) : Prop := ∀ ⦃xs3 : List Tok⦄ ⦃x6 : Int⦄ ⦃r : Tok⦄, φ xs3 x6 = some r → ∀ ⦃w0 : World⦄ ⦃h0 : Hp⦄ ⦃b1 : Nat⦄ ⦃T2 : Nat⦄ ⦃v4 : Value⦄, Sub h0 w0 → RS h0 v4 xs3 → OB w0 h0 b1 T2 [v4, .int .i64 x6] →
  Calls Tryz.prog 107 #[.pointer (some ⟨b1, 0, none⟩)] w0 fun e w1 => ∃ v, e = .returned v ∧ ∃ h1, Stp [] w0 h0 w1 h1 ∧ (∃ cs : List Value, v = .agg cs.toArray ∧ Rp.R h1 r cs)
theorem s_parse_Parser_Now (k : Nat) : Zfm (Z18 k) := by
 intro xs3 x6 r HF w0 h0 b1 T2 v4 hs0 rs5 ob7
 have S0 : Stp [] w0 h0 w0 h0 := Stp.refl hs0 _
 have lt8 : b1 < w0.heap.size := OB.lt ob7
 refine Z4o (n := 13) Tryz.func107 rfl Tryz.ntmps107 rfl [(0, pt b1 0)] rfl <| Zc <| Z0 <| Z19 (zs := [vi 0, .string Z1e, vi 0]) rfl rfl Z64 rfl S0.sub (fun w9 b10 hb11 s12 ob13 => ?_)
 have ne14 : b1 ≠ b10 := ob7.ne_new hb11
 have g15 : w0.heap.size ≤ b10 := by rw [hb11]; exact S0.size
 have S16 := S0.trans0 s12
 refine Z6 <| Z4 <| Zc <| Z51 (m := 8) [(0, pt b1 0), (2, pt b10 0)] [0, 2] rfl (fun i v w h => match i with | 0 => v = pt b1 0 | 1 => v = pt b1 0 | 2 => v = pt b1 0 | 3 => v = v4 | 4 => v = pt b1 0 | 5 => v = pt b1 0 | 6 => v = pt b1 1 | 7 => v = vi x6 | _ => True) Z6h S16.sub rfl rfl rfl rfl rfl ?_ ?_ ?_
 ·intro i v w h w2 h2 hΦ hst
  match i, hΦ with
  | 0, hΦ | 1, hΦ | 2, hΦ | 3, hΦ | 4, hΦ | 5, hΦ | 6, hΦ | 7, hΦ => exact hΦ
  | i + 8, _ => exact trivial
 ·refine ⟨?_, ?_, ?_, ?_, ?_, ?_, ?_, ?_, trivial⟩
  ·intro a w17 h18 s19 hat hF
   exact Za hat rfl (Z0t rfl) s19.sub (by exact rfl)
  ·intro a w17 h18 s19 hat hF
   exact Za (Z7 hat (hF 0 3 rfl rfl)) rfl (Zp rfl) s19.sub (by exact rfl)
  ·intro a w17 h18 s19 hat hF
   exact Za (Z7 hat (hF 1 4 rfl rfl)) rfl (Z1 rfl t_field_140_0) s19.sub (by exact rfl)
  ·intro a w17 h18 s19 hat hF
   have ob20 := ((ob7.step0 s12).step0 s19)
   exact Za (Z7 hat (hF 2 5 rfl rfl)) rfl (Zb rfl t_agg_34 (OB.cell ob20 (j := 0) rfl)) s19.sub (by exact rfl)
  ·intro a w17 h18 s19 hat hF
   exact Za hat rfl (Z0t rfl) s19.sub (by exact rfl)
  ·intro a w17 h18 s19 hat hF
   exact Za (Z7 hat (hF 4 7 rfl rfl)) rfl (Zp rfl) s19.sub (by exact rfl)
  ·intro a w17 h18 s19 hat hF
   exact Za (Z7 hat (hF 5 8 rfl rfl)) rfl (Z1 rfl Z65) s19.sub (by exact rfl)
  intro a w17 h18 s19 hat hF
  have ob21 := ((ob7.step0 s12).step0 s19)
  exact Za (Z7 hat (hF 6 9 rfl rfl)) rfl (Zb rfl Z04 (OB.cell ob21 (j := 1) rfl)) s19.sub (by exact rfl)
 intro a w17 h18 s19 hat hF
 obtain hv0 := hF 0 3 (by decide) rfl
 obtain hv1 := hF 1 4 (by decide) rfl
 obtain hv2 := hF 2 5 (by decide) rfl
 obtain hv3 := hF 3 6 (by decide) rfl
 obtain hv4 := hF 4 7 (by decide) rfl
 obtain hv5 := hF 5 8 (by decide) rfl
 obtain hv6 := hF 6 9 (by decide) rfl
 obtain hv7 := hF 7 10 (by decide) rfl
 refine Zdh [(10, vi x6), (9, pt b1 1), (8, pt b1 0), (7, pt b1 0), (6, v4), (5, pt b1 0), (4, pt b1 0), (3, pt b1 0), (0, pt b1 0), (2, pt b10 0)] (Z7 (Z7 (Z7 (Z7 (Z7 (Z7 (Z7 (Z7 hat hv0) hv1) hv2) hv3) hv4) hv5) hv6) hv7) ?_
 have S22 := S16.trans0 s19
 obtain ⟨A23, c24, rfl, rs25⟩ := RS.form (rs5.mono ((s12.le).trans s19.le))
 obtain ⟨e26, he27, HF⟩ := Z5 HF
 obtain ⟨b28, o29, rfl, h31, h32, ra30⟩ := RS.atO rs25 he27
 obtain ⟨cs33, r34, hc35⟩ := ra30
 refine Wv rfl (Z1p rfl rfl Zfr Z1q h31 h32) <| Wv rfl (Z2t (cs := cs33) rfl Z8c (by rw [Rp.len r34]; exact Z1q) (fun j v hv => S22.sub.at_ _ _ _ (hc35 j v hv))) ?_
 have ob36 := (ob13.step0 s19)
 obtain rfl := Z67.1 r34
 refine Zr (vs := [vi e26.kind, .string e26.text, vi e26.pos]) rfl rfl rfl rfl Z1q (Z3 rfl (Z3 rfl (Z3 rfl Zx))) ob36 S22.sub (by simp) (ds := [vi e26.kind, .string e26.text, vi e26.pos]) rfl (fun w37 s38 ob39 => ?_)
 have S40 := S22.trans1 s38 (.inr g15)
 refine Z6 <| Z4 <| Z0b <| Z5k rfl rfl (Z0x (cs := [vi e26.kind, .string e26.text, vi e26.pos]) Z8c Z1q (OB.cells ob39 0 rfl)) ?_
 obtain rfl := Option.some.inj HF
 exact ⟨_, rfl, h18, S40, ⟨_, rfl, (Z67.2 rfl)⟩⟩
theorem Z1a (k : Nat) : Zfm (Z18 k) := s_parse_Parser_Now k
def C_parse_is (φ : Tok → ByteArray → Option Bool) : Prop := ∀ ⦃x1 : Tok⦄ ⦃x4 : ByteArray⦄ ⦃r : Bool⦄, φ x1 x4 = some r → ∀ ⦃w0 : World⦄ ⦃h0 : Hp⦄ ⦃cs2 : List Value⦄, Sub h0 w0 → Rp.R h0 x1 cs2 →
  Calls Tryz.prog 186 #[.agg cs2.toArray, .string x4] w0 fun e w1 => ∃ v, e = .returned v ∧ ∃ h1, Stp [] w0 h0 w1 h1 ∧ v = .bool r
theorem s_parse_is (k : Nat) : C_parse_is (F_parse_is k) := by
 intro x1 x4 r HF w0 h0 cs2 hs0 r3
 have S0 : Stp [] w0 h0 w0 h0 := Stp.refl hs0 _
 refine Z4o (n := 19) Tryz.func186 rfl Tryz.ntmps186 rfl [(0, .agg cs2.toArray), (1, .string x4)] rfl <| Zc <| Z0 ?_
 obtain rfl := Z67.1 r3
 refine WL.box (cs := [vi x1.kind, .string x1.text, vi x1.pos]) rfl rfl rfl rfl S0.sub (fun w5 b6 hb7 s8 ob9 => ?_)
 have g10 : w0.heap.size ≤ b6 := by rw [hb7]; exact S0.size
 have S11 := S0.trans0 s8
 refine Wa rfl rfl <| Z6 <| Z4 <| Zc <| Z0 <| Wv rfl (Z1 rfl Zdv) <| Wv rfl (Zb rfl Z04 (OB.cell ob9 (j := 0) rfl)) <| Wv rfl (Z1g rfl rfl) <| Wm rfl rfl <| Z27 8 HF rfl (fun HF => ?_) (fun HF => ?_)
 ·refine Wp rfl <| Wp rfl <| Wp rfl <| Wv rfl (Zj rfl rfl) <| Wm rfl rfl <| Wv rfl (Z1 rfl Zgu) <| Wv rfl (Zb rfl Z32 (OB.cell ob9 (j := 1) rfl)) <| Wm rfl rfl <| Wv rfl (Z0d rfl rfl) <| Wv rfl (Zj rfl rfl) <| Wa rfl rfl <| Z6 <| Z4 <| Z0b <| Z07 rfl rfl ?_
  obtain rfl := Option.some.inj HF
  exact ⟨_, rfl, h0, S11, rfl⟩
 refine Wv rfl (Z1 rfl Zdv) <| Wv rfl (Zb rfl Z04 (OB.cell ob9 (j := 0) rfl)) <| Wv rfl (Z1g rfl rfl) <| Wv rfl (Zi rfl rfl) <| Wm rfl rfl <| Z27 13 HF rfl (fun HF => ?_) (fun HF => ?_)
 ·refine Wv rfl (Z1 rfl Zgu) <| Wv rfl (Zb rfl Z32 (OB.cell ob9 (j := 1) rfl)) <| Wm rfl rfl <| Wv rfl (Z0d rfl rfl) <| Wv rfl (Zj rfl rfl) <| Wa rfl rfl <| Z6 <| Z4 <| Z0b <| Z07 rfl rfl ?_
  obtain rfl := Option.some.inj HF
  exact ⟨_, rfl, h0, S11, rfl⟩
 refine Wp rfl <| Wp rfl <| Wp rfl <| Wp rfl <| Wv rfl (Zi rfl rfl) <| Wa rfl rfl <| Z6 <| Z4 <| Z0b <| Z07 rfl rfl ?_
 obtain rfl := Option.some.inj HF
 exact ⟨_, rfl, h0, S11, rfl⟩
theorem ok_parse_is (k : Nat) : C_parse_is (F_parse_is k) := s_parse_is k
def Zhb (φ : (List Tok) → Int → ByteArray → Option Bool) : Prop := ∀ ⦃xs3 : List Tok⦄ ⦃x6 : Int⦄ ⦃x8 : ByteArray⦄ ⦃r : Bool⦄, φ xs3 x6 x8 = some r → ∀ ⦃w0 : World⦄ ⦃h0 : Hp⦄ ⦃b1 : Nat⦄ ⦃T2 : Nat⦄ ⦃v4 : Value⦄, Sub h0 w0 → RS h0 v4 xs3 → OB w0 h0 b1 T2 [v4, .int .i64 x6] →
  Calls Tryz.prog 157 #[.pointer (some ⟨b1, 0, none⟩), .string x8] w0 fun e w1 => ∃ v, e = .returned v ∧ ∃ h1, Stp [] w0 h0 w1 h1 ∧ v = .bool r
theorem s_parse_Parser_Is (k : Nat) : Zhb (Z3w k) := by
 intro xs3 x6 x8 r HF w0 h0 b1 T2 v4 hs0 rs5 ob7
 have S0 : Stp [] w0 h0 w0 h0 := Stp.refl hs0 _
 have lt9 : b1 < w0.heap.size := OB.lt ob7
 refine Z4o (n := 9) Tryz.func157 rfl Tryz.ntmps157 rfl [(0, pt b1 0), (1, .string x8)] rfl <| Zc <| Z0 <| Wa rfl rfl <| Z6 <| Z4 <| Zc <| Z0 <| Wm rfl rfl ?_
 obtain ⟨r10, hr11, HF⟩ := Z5 HF
 refine Wc rfl (Zd (vs := [pt b1 0]) rfl Z7u) (Z1a _ hr11 S0.sub rs5 ob7) ?_
 rintro _ w13 ⟨h14, s15, ⟨cs16, rfl, r17⟩⟩
 have S18 := S0.trans0 s15
 refine Wm rfl rfl ?_
 obtain ⟨r19, hr20, HF⟩ := Z5 HF
 refine Wc rfl (Zd (vs := [.agg cs16.toArray, .string x8]) rfl t_ent_186) (ok_parse_is _ hr20 S18.sub r17) ?_
 rintro _ w22 ⟨h23, s24, rfl⟩
 have S25 := S18.trans0 s24
 refine Wa rfl rfl <| Z6 <| Z4 <| Z0b <| Z07 rfl rfl ?_
 obtain rfl := Option.some.inj HF
 exact ⟨_, rfl, h23, S25, rfl⟩
theorem Z59 (k : Nat) : Zhb (Z3w k) := s_parse_Parser_Is k
def Zer (φ : (List Tok) → Int → ByteArray → Option (Bool × Int)) : Prop := ∀ ⦃xs3 : List Tok⦄ ⦃x6 : Int⦄ ⦃x8 : ByteArray⦄ ⦃r : Bool × Int⦄, φ xs3 x6 x8 = some r → ∀ ⦃w0 : World⦄ ⦃h0 : Hp⦄ ⦃b1 : Nat⦄ ⦃T2 : Nat⦄ ⦃v4 : Value⦄, Sub h0 w0 → RS h0 v4 xs3 → OB w0 h0 b1 T2 [v4, .int .i64 x6] →
  Calls Tryz.prog 109 #[.pointer (some ⟨b1, 0, none⟩), .string x8] w0 fun e w1 => ∃ v, e = .returned v ∧ ∃ h1, Stp [b1] w0 h0 w1 h1 ∧ v = .bool r.1 ∧ (OB w1 h1 b1 T2 [v4, .int .i64 r.2])
theorem s_parse_Parser_Skip (k : Nat) : Zer (Z0m k) := by
 intro xs3 x6 x8 r HF w0 h0 b1 T2 v4 hs0 rs5 ob7
 have S0 : Stp [b1] w0 h0 w0 h0 := Stp.refl hs0 _
 have lt9 : b1 < w0.heap.size := OB.lt ob7
 refine Z4o (n := 16) Tryz.func109 rfl Tryz.ntmps109 rfl [(0, pt b1 0), (1, .string x8)] rfl <| Zc <| Z0 <| Wa rfl rfl <| Z6 <| Z4 <| Z09 (fun E w20 => ∃ (h19 : Hp), Zdj k x6 = some r ∧ E = [(0, pt b1 0)] ∧ Stp [b1] w0 h0 w20 h19 ∧ Hle h0 h19 ∧ OB w20 h19 b1 T2 [v4, vi x6]) ?_ ?_
 ·rintro E w20 ⟨h19, HF, rfl, S22, le21, ob23⟩
  refine Zc <| Z0 <| Wm rfl rfl <| Wv rfl (Zp rfl) <| Wv rfl (Z1 rfl Z65) <| Wv rfl (Zb rfl Z04 (OB.cell ob23 (j := 1) rfl)) <| Wv rfl (Z3e rfl rfl) <| Wv rfl (Zp rfl) <| Wv rfl (Z1 rfl Z65) <| Zr (vs := [vi (IntKind.i64.wrap (x6 + 1))]) rfl rfl rfl rfl Z1s (Z3 rfl Zx) ob23 S22.sub (by simp) (ds := [v4, vi (IntKind.i64.wrap (x6 + 1))]) rfl (fun w24 s25 ob26 => ?_)
  have S27 := S22.trans1 s25 (.inl (by simp))
  refine Z6 <| Z4 <| Zc <| Z0 <| Wa rfl rfl <| Z6 <| Z4 <| Z0b <| Z07 rfl rfl ?_
  obtain rfl := Option.some.inj HF
  exact ⟨_, rfl, h19, S27, rfl, ob26⟩
 intro J28
 refine Zc <| Z0 <| Wm rfl rfl <| Wm rfl rfl ?_
 obtain ⟨r10, hr11, HF⟩ := Z5 HF
 refine Wc rfl (Zd (vs := [pt b1 0, .string x8]) rfl t_ent_157) (Z59 _ hr11 S0.sub rs5 ob7) ?_
 rintro _ w13 ⟨h14, s15, rfl⟩
 have S16 := S0.trans0 s15
 refine Wv rfl (Z30 rfl) <| Z6 <| Z4 <| Z15 HF rfl (fun HF => ?_) (fun HF => ?_)
 ·refine Zc <| Z0 <| Wa rfl rfl <| Z6 <| Z4 <| Z0b <| Zv ?_
  have ob18 := (ob7.step0 s15)
  refine Z07 rfl rfl ?_
  obtain rfl := Option.some.inj HF
  exact ⟨_, rfl, h14, S16, rfl, ob18⟩
 refine Zq ?_
 have ob29 := (ob7.step0 s15)
 refine Z01 [0] _ rfl ?_
 exact J28 ⟨h14, HF, rfl, S16, s15.le, ob29⟩
theorem Z0p (k : Nat) : Zer (Z0m k) := s_parse_Parser_Skip k
def Zej (φ : (List Tok) → Int → Option (Except (Int × Int) Unit)) : Prop := ∀ ⦃xs3 : List Tok⦄ ⦃x6 : Int⦄ ⦃r : Except (Int × Int) Unit⦄, φ xs3 x6 = some r → ∀ ⦃w0 : World⦄ ⦃h0 : Hp⦄ ⦃b1 : Nat⦄ ⦃T2 : Nat⦄ ⦃v4 : Value⦄, Sub h0 w0 → RS h0 v4 xs3 → OB w0 h0 b1 T2 [v4, .int .i64 x6] →
  Calls Tryz.prog 111 #[.pointer (some ⟨b1, 0, none⟩)] w0 fun e w1 => match r with | .ok r => ∃ v, e = .returned v ∧ ∃ h1, Stp [] w0 h0 w1 h1 ∧ v = .tuple #[] | .error t => ∃ ch, e = .panicked ch ∧ Z8z 138 t.1 t.2 ch ∧ ∃ h1, Stp [] w0 h0 w1 h1
theorem s_parse_Parser_Fail (k : Nat) : Zej (Z39 k) := by
 intro xs3 x6 r HF w0 h0 b1 T2 v4 hs0 rs5 ob7
 have S0 : Stp [] w0 h0 w0 h0 := Stp.refl hs0 _
 have lt8 : b1 < w0.heap.size := OB.lt ob7
 refine Z4o (n := 7) Tryz.func111 rfl Tryz.ntmps111 rfl [(0, pt b1 0)] rfl <| Z0 <| Wm rfl rfl ?_
 obtain ⟨r9, hr10, HF⟩ := Z5 HF
 refine Wc rfl (Zd (vs := [pt b1 0]) rfl Z7u) (Z1a _ hr10 S0.sub rs5 ob7) ?_
 rintro _ w12 ⟨h13, s14, ⟨cs15, rfl, r16⟩⟩
 have S17 := S0.trans0 s14
 obtain rfl := Z67.1 r16
 refine Wv rfl (Z9k rfl t_fld_38_2 Z04 rfl) <| Wv rfl (Z3b (vs := [(0, vi 4), (1, vi r9.pos)]) (cs := [vi 4, vi r9.pos]) rfl t_places_138 t_zero_138 rfl) <| Wv rfl (ov_makeIface rfl t_conc_138) <| WL.panicI rfl rfl <| Zs ?_
 obtain rfl := Option.some.inj HF
 exact ⟨_, rfl, rfl, h13, S17⟩
theorem Z1o (k : Nat) : Zej (Z39 k) := s_parse_Parser_Fail k
def Zf0 (φ : (List Tok) → Int → Int → Option (Except (Int × Int × Int) (ByteArray × Int))) : Prop := ∀ ⦃xs3 : List Tok⦄ ⦃x6 : Int⦄ ⦃x8 : Int⦄ ⦃r : Except (Int × Int × Int) (ByteArray × Int)⦄, φ xs3 x6 x8 = some r → ∀ ⦃w0 : World⦄ ⦃h0 : Hp⦄ ⦃b1 : Nat⦄ ⦃T2 : Nat⦄ ⦃v4 : Value⦄, Sub h0 w0 → RS h0 v4 xs3 → OB w0 h0 b1 T2 [v4, .int .i64 x6] →
  Calls Tryz.prog 99 #[.pointer (some ⟨b1, 0, none⟩), .int .i64 x8] w0 fun e w1 => match r with | .ok r => ∃ v, e = .returned v ∧ ∃ h1, Stp [b1] w0 h0 w1 h1 ∧ v = .string r.1 ∧ (OB w1 h1 b1 T2 [v4, .int .i64 r.2]) | .error t => ∃ ch, e = .panicked ch ∧ Z8z 138 t.1 t.2.1 ch ∧ ∃ h1, Stp [b1] w0 h0 w1 h1 ∧ (OB w1 h1 b1 T2 [v4, .int .i64 t.2.2])
theorem s_parse_Parser_Take (k : Nat) : Zf0 (Z4n k) := by
 intro xs3 x6 x8 r HF w0 h0 b1 T2 v4 hs0 rs5 ob7
 have S0 : Stp [b1] w0 h0 w0 h0 := Stp.refl hs0 _
 have lt9 : b1 < w0.heap.size := OB.lt ob7
 refine Z4o (n := 31) Tryz.func99 rfl Tryz.ntmps99 rfl [(0, pt b1 0), (1, vi x8)] rfl <| Zc <| Z0 <| Wa rfl rfl <| Z6 <| Z4 <| Zc <| Z0 <| Wm rfl rfl ?_
 obtain ⟨r10, hr11, HF⟩ := Z5 HF
 refine Wc rfl (Zd (vs := [pt b1 0]) rfl Z7u) (Z1a _ hr11 S0.sub rs5 ob7) ?_
 rintro _ w13 ⟨h14, s15, ⟨cs16, rfl, r17⟩⟩
 have S18 := S0.trans0 s15
 have ob19 := (ob7.step0 s15)
 refine Z19 (zs := [vi 0, .string Z1e, vi 0]) rfl rfl Z64 rfl S18.sub (fun w20 b21 hb22 s23 ob24 => ?_)
 have ne25 : b1 ≠ b21 := ob19.ne_new hb22
 have g26 : w0.heap.size ≤ b21 := by rw [hb22]; exact S18.size
 have S27 := S18.trans0 s23
 obtain rfl := Z67.1 (Rp.mono (s23.le) r17)
 refine Zr (vs := [vi r10.kind, .string r10.text, vi r10.pos]) rfl rfl rfl rfl Z1q (Z3 rfl (Z3 rfl (Z3 rfl Zx))) ob24 S27.sub (by simp) (ds := [vi r10.kind, .string r10.text, vi r10.pos]) rfl (fun w28 s29 ob30 => ?_)
 have S31 := S27.trans1 s29 (.inr g26)
 refine Z6 <| Z4 <| Z09 (fun E w51 => ∃ (h50 : Hp), Z9u k xs3 x6 r10 = some r ∧ E = [(0, pt b1 0), (5, pt b21 0)] ∧ Stp [b1] w0 h0 w51 h50 ∧ Hle h14 h50 ∧ OB w51 h50 b1 T2 [v4, vi x6] ∧ OB w51 h50 b21 38 [vi r10.kind, .string r10.text, vi r10.pos]) ?_ ?_
 ·rintro E w51 ⟨h50, HF, rfl, S53, le52, ob54, ob55⟩
  refine Zc ?_
  obtain ⟨A56, c57, rfl, rs58⟩ := RS.form (rs5.mono ((s15.le).trans ((s23.le).trans ((s29.le).trans le52))))
  refine Z51 (m := 13) [(0, pt b1 0), (5, pt b21 0)] [0, 5] rfl (fun i v w h => match i with | 0 => v = pt b1 0 | 1 => v = pt b1 0 | 2 => v = pt b1 0 | 3 => v = pt b1 1 | 4 => v = vi x6 | 5 => v = vi (IntKind.i64.wrap (x6 + 1)) | 6 => v = pt b1 0 | 7 => v = pt b1 0 | 8 => v = pt b1 0 | 9 => v = .slice A56 (xs3).length c57 | 10 => v = vi (xs3.length : Int) | 11 => v = vi (IntKind.i64.wrap ((xs3.length : Int) - 1)) | 12 => v = vi (imin (IntKind.i64.wrap (x6 + 1)) (IntKind.i64.wrap ((xs3.length : Int) - 1))) | _ => True) Z6h S53.sub rfl rfl rfl rfl rfl ?_ ?_ ?_
  ·intro i v w h w2 h2 hΦ hst
   match i, hΦ with
   | 0, hΦ | 1, hΦ | 2, hΦ | 3, hΦ | 4, hΦ | 5, hΦ | 6, hΦ | 7, hΦ | 8, hΦ | 9, hΦ | 10, hΦ | 11, hΦ | 12, hΦ => exact hΦ
   | i + 13, _ => exact trivial
  ·refine ⟨?_, ?_, ?_, ?_, ?_, ?_, ?_, ?_, ?_, ?_, ?_, ?_, ?_, trivial⟩
   ·intro a w59 h60 s61 hat hF
    exact Za hat rfl (Z0t rfl) s61.sub (by exact rfl)
   ·intro a w59 h60 s61 hat hF
    exact Za hat rfl (Z0t rfl) s61.sub (by exact rfl)
   ·intro a w59 h60 s61 hat hF
    exact Za (Z7 hat (hF 1 15 rfl rfl)) rfl (Zp rfl) s61.sub (by exact rfl)
   ·intro a w59 h60 s61 hat hF
    exact Za (Z7 hat (hF 2 16 rfl rfl)) rfl (Z1 rfl Z65) s61.sub (by exact rfl)
   ·intro a w59 h60 s61 hat hF
    have ob62 := (ob54.step0 s61)
    exact Za (Z7 hat (hF 3 17 rfl rfl)) rfl (Zb rfl Z04 (OB.cell ob62 (j := 1) rfl)) s61.sub (by exact rfl)
   ·intro a w59 h60 s61 hat hF
    exact Za (Z7 hat (hF 4 18 rfl rfl)) rfl (Z3e rfl rfl) s61.sub (by exact rfl)
   ·intro a w59 h60 s61 hat hF
    exact Za hat rfl (Z0t rfl) s61.sub (by exact rfl)
   ·intro a w59 h60 s61 hat hF
    exact Za (Z7 hat (hF 6 20 rfl rfl)) rfl (Zp rfl) s61.sub (by exact rfl)
   ·intro a w59 h60 s61 hat hF
    exact Za (Z7 hat (hF 7 21 rfl rfl)) rfl (Z1 rfl t_field_140_0) s61.sub (by exact rfl)
   ·intro a w59 h60 s61 hat hF
    have ob63 := (ob54.step0 s61)
    exact Za (Z7 hat (hF 8 22 rfl rfl)) rfl (Zb rfl t_agg_34 (OB.cell ob63 (j := 0) rfl)) s61.sub (by exact rfl)
   ·intro a w59 h60 s61 hat hF
    exact Za (Z7 hat (hF 9 23 rfl rfl)) rfl (Z1i rfl Zfr) s61.sub (by exact rfl)
   ·intro a w59 h60 s61 hat hF
    exact Za (Z7 hat (hF 10 24 rfl rfl)) rfl (ov_sub rfl rfl) s61.sub (by exact rfl)
   intro a w59 h60 s61 hat hF
   exact Za (Z7 (Z7 hat (hF 5 19 rfl rfl)) (hF 11 25 rfl rfl)) rfl (ov_min rfl rfl) s61.sub (by exact rfl)
  intro a w59 h60 s61 hat hF
  obtain hv0 := hF 0 14 (by decide) rfl
  obtain hv1 := hF 1 15 (by decide) rfl
  obtain hv2 := hF 2 16 (by decide) rfl
  obtain hv3 := hF 3 17 (by decide) rfl
  obtain hv4 := hF 4 18 (by decide) rfl
  obtain hv5 := hF 5 19 (by decide) rfl
  obtain hv6 := hF 6 20 (by decide) rfl
  obtain hv7 := hF 7 21 (by decide) rfl
  obtain hv8 := hF 8 22 (by decide) rfl
  obtain hv9 := hF 9 23 (by decide) rfl
  obtain hv10 := hF 10 24 (by decide) rfl
  obtain hv11 := hF 11 25 (by decide) rfl
  obtain hv12 := hF 12 26 (by decide) rfl
  refine Zdh [(26, vi (imin (IntKind.i64.wrap (x6 + 1)) (IntKind.i64.wrap ((xs3.length : Int) - 1)))), (25, vi (IntKind.i64.wrap ((xs3.length : Int) - 1))), (24, vi (xs3.length : Int)), (23, .slice A56 (xs3).length c57), (22, pt b1 0), (21, pt b1 0), (20, pt b1 0), (19, vi (IntKind.i64.wrap (x6 + 1))), (18, vi x6), (17, pt b1 1), (16, pt b1 0), (15, pt b1 0), (14, pt b1 0), (0, pt b1 0), (5, pt b21 0)] (Z7 (Z7 (Z7 (Z7 (Z7 (Z7 (Z7 (Z7 (Z7 (Z7 (Z7 (Z7 (Z7 hat hv0) hv1) hv2) hv3) hv4) hv5) hv6) hv7) hv8) hv9) hv10) hv11) hv12) ?_
  have S64 := S53.trans0 s61
  refine Wv rfl (Zp rfl) <| Wv rfl (Z1 rfl Z65) ?_
  have ob65 := (ob54.step0 s61)
  refine Zr (vs := [vi (imin (IntKind.i64.wrap (x6 + 1)) (IntKind.i64.wrap ((xs3.length : Int) - 1)))]) rfl rfl rfl rfl Z1s (Z3 rfl Zx) ob65 S64.sub (by simp) (ds := [.slice A56 (xs3).length c57, vi (imin (IntKind.i64.wrap (x6 + 1)) (IntKind.i64.wrap ((xs3.length : Int) - 1)))]) rfl (fun w66 s67 ob68 => ?_)
  have S69 := S64.trans1 s67 (.inl (by simp))
  refine Z6 <| Z4 <| Zc <| Z0 <| Wv rfl (Z1 rfl Zgu) ?_
  have ob70 := ((ob55.step0 s61).step1 s67 (Ne.symm ne25))
  refine Wv rfl (Zb rfl Z32 (OB.cell ob70 (j := 1) rfl)) <| Wa rfl rfl <| Z6 <| Z4 <| Z0b <| Z07 rfl rfl ?_
  obtain rfl := Option.some.inj HF
  exact ⟨_, rfl, h60, S69, rfl, ob68⟩
 intro J71
 refine Zc <| Z0 <| Wv rfl (Z1 rfl Zdv) <| Wv rfl (Zb rfl Z04 (OB.cell ob30 (j := 0) rfl)) <| Wm rfl rfl <| Wv rfl (Zca rfl rfl) <| Z6 <| Z4 <| Z15 HF rfl (fun HF => ?_) (fun HF => ?_)
 ·refine Z0 <| Wm rfl rfl ?_
  have ob33 := ((ob19.step0 s23).step1 s29 ne25)
  obtain ⟨r34, hr35, HF⟩ := Z5 HF
  rcases r34 with t36 | r37
  ·obtain rfl := Z02 HF
   refine Z0h rfl (Zd (vs := [pt b1 0]) rfl Z9l) (Z1o _ hr35 S31.sub (rs5.mono ((s15.le).trans ((s23.le).trans s29.le))) ob33) ?_
   rintro ch42 w43 ⟨ht44, h45, s46⟩
   refine Ze <| Zs ?_
   have S47 := S31.trans0 s46
   have ob48 := (ob33.step0 s46)
   exact ⟨_, rfl, ht44, h45, S47, ob48⟩
  replace HF := Z0i HF
  refine Wc rfl (Zd (vs := [pt b1 0]) rfl Z9l) (Z1o _ hr35 S31.sub (rs5.mono ((s15.le).trans ((s23.le).trans s29.le))) ob33) ?_
  rintro v38 w39 ⟨h40, s41, rfl⟩
  have S49 := S31.trans0 s41
  refine Z6 ?_
  have ob72 := (ob33.step0 s41)
  have ob73 := (ob30.step0 s41)
  refine Z01 [0, 5] _ rfl ?_
  exact J71 ⟨h40, HF, rfl, S49, s41.le, ob72, ob73⟩
 refine Zq ?_
 have ob74 := ((ob19.step0 s23).step1 s29 ne25)
 refine Z01 [0, 5] _ rfl ?_
 exact J71 ⟨h14, HF, rfl, S31, Hle.refl _, ob74, ob30⟩
theorem Z2w (k : Nat) : Zf0 (Z4n k) := s_parse_Parser_Take k
def C_strconv_Atoi (φ : ByteArray → Option (Int × Bool)) : Prop := ∀ ⦃x1 : ByteArray⦄ ⦃r : Int × Bool⦄, φ x1 = some r → ∀ ⦃w0 : World⦄ ⦃h0 : Hp⦄, Sub h0 w0 →
  Calls Tryz.prog 150 #[.string x1] w0 fun e w1 => ∃ v, e = .returned v ∧ ∃ h1, Stp [] w0 h0 w1 h1 ∧ (∃ u0 u1 : Value, v = .tuple #[u0, u1] ∧ (u0 = .int .i64 r.1) ∧ (ErrV u1 r.2))
theorem Zfc (k : Nat) : C_strconv_Atoi (Zam k) := by
  intro x1 r HF w0 h0 hs0
  simp only [Zam] at HF
  obtain ⟨hn, HF⟩ := Ze7 HF
  rcases hE : Lib.atoiAll x1.data.toList with v | _ | _
  · rw [atoiR_ok hE] at HF; cases HF
    refine (Any.strconv_Atoi_ok Tryz.laysC172 x1 (Nat.le_trans hn (by decide)) v hE w0).mono ?_
    rintro e w1 ⟨rfl, hw⟩
    exact ⟨_, rfl, h0, atoi_stp hs0 hw, _, _, rfl, rfl, rfl⟩
  · rw [atoiR_bad (fun v q => by rw [hE] at q; cases q) (by rw [hE]; intro q; cases q)] at HF; cases HF
    obtain ⟨te, pe, hv⟩ := hs0.glob.g4
    refine (Any.strconv_Atoi_syntax Tryz.laysC172 x1 hn hE _ w0 (hs0.at_ _ _ _ hv) (.inr ⟨te, pe, rfl⟩)).mono ?_
    rintro e w1 ⟨N, rfl, _, _, hb⟩
    exact ⟨_, rfl, h0, Stp.of_below hs0 hb, _, _, rfl, rfl, ⟨_, _, rfl⟩⟩
  · rw [atoiR_range hE] at HF; cases HF
    obtain ⟨te, pe, hv⟩ := hs0.glob.g5
    refine (Any.strconv_Atoi_range Tryz.laysC172 x1 hn hE _ w0 (hs0.at_ _ _ _ hv) (.inr ⟨te, pe, rfl⟩)).mono ?_
    rintro e w1 ⟨N, rfl, _, _, hb⟩
    exact ⟨_, rfl, h0, Stp.of_below hs0 hb, _, _, rfl, rfl, ⟨_, _, rfl⟩⟩
def Zf1 (φ : (List Tok) → Int → Option (Except (Int × Int × Int) (Int × Int))) : Prop := ∀ ⦃xs3 : List Tok⦄ ⦃x6 : Int⦄ ⦃r : Except (Int × Int × Int) (Int × Int)⦄, φ xs3 x6 = some r → ∀ ⦃w0 : World⦄ ⦃h0 : Hp⦄ ⦃b1 : Nat⦄ ⦃T2 : Nat⦄ ⦃v4 : Value⦄, Sub h0 w0 → RS h0 v4 xs3 → OB w0 h0 b1 T2 [v4, .int .i64 x6] →
  Calls Tryz.prog 173 #[.pointer (some ⟨b1, 0, none⟩)] w0 fun e w1 => match r with | .ok r => ∃ v, e = .returned v ∧ ∃ h1, Stp [b1] w0 h0 w1 h1 ∧ v = .int .i64 r.1 ∧ (OB w1 h1 b1 T2 [v4, .int .i64 r.2]) | .error t => ∃ ch, e = .panicked ch ∧ Z8z 138 t.1 t.2.1 ch ∧ ∃ h1, Stp [b1] w0 h0 w1 h1 ∧ (OB w1 h1 b1 T2 [v4, .int .i64 t.2.2])
theorem s_parse_Parser_Time (k : Nat) : Zf1 (Zat k) := by
 intro xs3 x6 r HF w0 h0 b1 T2 v4 hs0 rs5 ob7
 have S0 : Stp [b1] w0 h0 w0 h0 := Stp.refl hs0 _
 have lt8 : b1 < w0.heap.size := OB.lt ob7
 refine Z4o (n := 13) Tryz.func173 rfl Tryz.ntmps173 rfl [(0, pt b1 0)] rfl <| Zc <| Z0 <| Wa rfl rfl <| Z6 <| Z4 <| Zc <| Z0 <| Wm rfl rfl ?_
 obtain ⟨r9, hr10, HF⟩ := Z5 HF
 rcases r9 with t11 | r12
 ·obtain rfl := Z02 HF
  refine Z0h rfl (Zd (vs := [pt b1 0, vi 3]) rfl Zhs) (Z2w _ hr10 S0.sub rs5 ob7) ?_
  rintro ch18 w19 ⟨ht20, h21, s22, ob17⟩
  refine Ze <| Zs ?_
  have S23 := S0.trans s22 (Zl (.inl (by simp)) Zt)
  exact ⟨_, rfl, ht20, h21, S23, ob17⟩
 replace HF := Z0i HF
 refine Wc rfl (Zd (vs := [pt b1 0, vi 3]) rfl Zhs) (Z2w _ hr10 S0.sub rs5 ob7) ?_
 rintro _ w14 ⟨h15, s16, rfl, ob24⟩
 have S25 := S0.trans s16 (Zl (.inl (by simp)) Zt)
 obtain ⟨t26, ht27, HF⟩ := Z5 HF
 refine Wv rfl (Zhr rfl rfl Z00 ht27) ?_
 obtain ⟨r28, hr29, HF⟩ := Z5 HF
 refine Wc rfl (Zd (vs := [.string t26]) rfl t_ent_150) (Zfc _ hr29 S25.sub) ?_
 rintro _ w31 ⟨h32, s33, _, v34, rfl, rfl, ev35⟩
 have S36 := S25.trans0 s33
 refine Wm rfl rfl <| Wv rfl (Z0a rfl rfl) <| Wv rfl (Z0a rfl rfl) <| Wa rfl rfl <| Wa rfl rfl <| Z6 <| Z4 <| Zc <| Z0 <| Wm rfl rfl <| Wa rfl rfl <| Z6 <| Z4 <| Z0b ?_
 have ob37 := (ob24.step0 s33)
 refine Z07 rfl rfl ?_
 obtain rfl := Option.some.inj HF
 exact ⟨_, rfl, h32, S36, rfl, ob37⟩
theorem Ze5 (k : Nat) : Zf1 (Zat k) := s_parse_Parser_Time k
def Zft (φ : (List Tok) → Int → Option (Except (Int × Int × Int) (Int × Int))) : Prop := ∀ ⦃xs3 : List Tok⦄ ⦃x6 : Int⦄ ⦃r : Except (Int × Int × Int) (Int × Int)⦄, φ xs3 x6 = some r → ∀ ⦃w0 : World⦄ ⦃h0 : Hp⦄ ⦃b1 : Nat⦄ ⦃T2 : Nat⦄ ⦃v4 : Value⦄, Sub h0 w0 → RS h0 v4 xs3 → OB w0 h0 b1 T2 [v4, .int .i64 x6] →
  Calls Tryz.prog 159 #[.pointer (some ⟨b1, 0, none⟩)] w0 fun e w1 => match r with | .ok r => ∃ v, e = .returned v ∧ ∃ h1, Stp [b1] w0 h0 w1 h1 ∧ v = .int .i64 r.1 ∧ (OB w1 h1 b1 T2 [v4, .int .i64 r.2]) | .error t => ∃ ch, e = .panicked ch ∧ Z8z 138 t.1 t.2.1 ch ∧ ∃ h1, Stp [b1] w0 h0 w1 h1 ∧ (OB w1 h1 b1 T2 [v4, .int .i64 t.2.2])
theorem s_parse_Parser_Int (k : Nat) : Zft (Z5b k) := by
 intro xs3 x6 r HF w0 h0 b1 T2 v4 hs0 rs5 ob7
 have S0 : Stp [b1] w0 h0 w0 h0 := Stp.refl hs0 _
 have lt8 : b1 < w0.heap.size := OB.lt ob7
 refine Z4o (n := 12) Tryz.func159 rfl Tryz.ntmps159 rfl [(0, pt b1 0)] rfl <| Zc <| Z0 <| Wa rfl rfl <| Z6 <| Z4 <| Zc <| Z0 <| Wm rfl rfl ?_
 obtain ⟨r9, hr10, HF⟩ := Z5 HF
 rcases r9 with t11 | r12
 ·obtain rfl := Z02 HF
  refine Z0h rfl (Zd (vs := [pt b1 0, vi 2]) rfl Zhs) (Z2w _ hr10 S0.sub rs5 ob7) ?_
  rintro ch18 w19 ⟨ht20, h21, s22, ob17⟩
  refine Ze <| Zs ?_
  have S23 := S0.trans s22 (Zl (.inl (by simp)) Zt)
  exact ⟨_, rfl, ht20, h21, S23, ob17⟩
 replace HF := Z0i HF
 refine Wc rfl (Zd (vs := [pt b1 0, vi 2]) rfl Zhs) (Z2w _ hr10 S0.sub rs5 ob7) ?_
 rintro _ w14 ⟨h15, s16, rfl, ob24⟩
 have S25 := S0.trans s16 (Zl (.inl (by simp)) Zt)
 obtain ⟨r26, hr27, HF⟩ := Z5 HF
 refine Wc rfl (Zd (vs := [.string r12.1]) rfl t_ent_150) (Zfc _ hr27 S25.sub) ?_
 rintro _ w29 ⟨h30, s31, _, v32, rfl, rfl, ev33⟩
 have S34 := S25.trans0 s31
 refine Wm rfl rfl <| Wv rfl (Z0a rfl rfl) <| Wv rfl (Z0a rfl rfl) <| Wa rfl rfl <| Wa rfl rfl <| Z6 <| Z4 <| Zc <| Z0 <| Wm rfl rfl <| Wa rfl rfl <| Z6 <| Z4 <| Z0b ?_
 have ob35 := (ob24.step0 s31)
 refine Z07 rfl rfl ?_
 obtain rfl := Option.some.inj HF
 exact ⟨_, rfl, h30, S34, rfl, ob35⟩
theorem Z3a (k : Nat) : Zft (Z5b k) := s_parse_Parser_Int k
def Zen (φ : (List Tok) → Int → ByteArray → Option (Except (Int × Int × Int) Int)) : Prop := ∀ ⦃xs3 : List Tok⦄ ⦃x6 : Int⦄ ⦃x8 : ByteArray⦄ ⦃r : Except (Int × Int × Int) Int⦄, φ xs3 x6 x8 = some r → ∀ ⦃w0 : World⦄ ⦃h0 : Hp⦄ ⦃b1 : Nat⦄ ⦃T2 : Nat⦄ ⦃v4 : Value⦄, Sub h0 w0 → RS h0 v4 xs3 → OB w0 h0 b1 T2 [v4, .int .i64 x6] →
  Calls Tryz.prog 61 #[.pointer (some ⟨b1, 0, none⟩), .string x8] w0 fun e w1 => match r with | .ok r => ∃ v, e = .returned v ∧ ∃ h1, Stp [b1] w0 h0 w1 h1 ∧ v = .tuple #[] ∧ (OB w1 h1 b1 T2 [v4, .int .i64 r]) | .error t => ∃ ch, e = .panicked ch ∧ Z8z 138 t.1 t.2.1 ch ∧ ∃ h1, Stp [b1] w0 h0 w1 h1 ∧ (OB w1 h1 b1 T2 [v4, .int .i64 t.2.2])
theorem s_parse_Parser_Want (k : Nat) : Zen (Z0e k) := by
 intro xs3 x6 x8 r HF w0 h0 b1 T2 v4 hs0 rs5 ob7
 have S0 : Stp [b1] w0 h0 w0 h0 := Stp.refl hs0 _
 have lt9 : b1 < w0.heap.size := OB.lt ob7
 refine Z4o (n := 10) Tryz.func61 rfl Tryz.ntmps61 rfl [(0, pt b1 0), (1, .string x8)] rfl <| Zc <| Z0 <| Wm rfl rfl <| Wm rfl rfl ?_
 obtain ⟨r10, hr11, HF⟩ := Z5 HF
 refine Wc rfl (Zd (vs := [pt b1 0, .string x8]) rfl Z53) (Z0p _ hr11 S0.sub rs5 ob7) ?_
 rintro _ w13 ⟨h14, s15, rfl, ob16⟩
 have S17 := S0.trans s15 (Zl (.inl (by simp)) Zt)
 refine Wv rfl (Z30 rfl) <| Z6 <| Z4 <| Z15 HF rfl (fun HF => ?_) (fun HF => ?_)
 ·refine Z0 <| Wm rfl rfl ?_
  obtain ⟨r19, hr20, HF⟩ := Z5 HF
  rcases r19 with t21 | r22
  ·obtain rfl := Z02 HF
   refine Z0h rfl (Zd (vs := [pt b1 0]) rfl Z9l) (Z1o _ hr20 S17.sub (rs5.mono (s15.le)) ob16) ?_
   rintro ch27 w28 ⟨ht29, h30, s31⟩
   refine Zs ?_
   have S32 := S17.trans0 s31
   have ob33 := (ob16.step0 s31)
   exact ⟨_, rfl, ht29, h30, S32, ob33⟩
  replace HF := Z0i HF
  refine Wc rfl (Zd (vs := [pt b1 0]) rfl Z9l) (Z1o _ hr20 S17.sub (rs5.mono (s15.le)) ob16) ?_
  rintro v23 w24 ⟨h25, s26, rfl⟩
  have S34 := S17.trans0 s26
  refine Z6 ?_
  have ob35 := (ob16.step0 s26)
  refine Z6j rfl ?_
  obtain rfl := Option.some.inj HF
  exact ⟨_, rfl, h25, S34, rfl, ob35⟩
 refine Zq <| Z6j rfl ?_
 obtain rfl := Option.some.inj HF
 exact ⟨_, rfl, h14, S17, rfl, ob16⟩
theorem Zn (k : Nat) : Zen (Z0e k) := s_parse_Parser_Want k
def Zey (φ : (List Tok) → Int → Option (Except (Int × Int × Int) (ByteArray × Int))) : Prop := ∀ ⦃xs3 : List Tok⦄ ⦃x6 : Int⦄ ⦃r : Except (Int × Int × Int) (ByteArray × Int)⦄, φ xs3 x6 = some r → ∀ ⦃w0 : World⦄ ⦃h0 : Hp⦄ ⦃b1 : Nat⦄ ⦃T2 : Nat⦄ ⦃v4 : Value⦄, Sub h0 w0 → RS h0 v4 xs3 → OB w0 h0 b1 T2 [v4, .int .i64 x6] →
  Calls Tryz.prog 108 #[.pointer (some ⟨b1, 0, none⟩)] w0 fun e w1 => match r with | .ok r => ∃ v, e = .returned v ∧ ∃ h1, Stp [b1] w0 h0 w1 h1 ∧ v = .string r.1 ∧ (OB w1 h1 b1 T2 [v4, .int .i64 r.2]) | .error t => ∃ ch, e = .panicked ch ∧ Z8z 138 t.1 t.2.1 ch ∧ ∃ h1, Stp [b1] w0 h0 w1 h1 ∧ (OB w1 h1 b1 T2 [v4, .int .i64 t.2.2])
theorem s_parse_Parser_Name (k : Nat) : Zey (Z3o k) := by
 intro xs3 x6 r HF w0 h0 b1 T2 v4 hs0 rs5 ob7
 have S0 : Stp [b1] w0 h0 w0 h0 := Stp.refl hs0 _
 have lt8 : b1 < w0.heap.size := OB.lt ob7
 refine Z4o (n := 5) Tryz.func108 rfl Tryz.ntmps108 rfl [(0, pt b1 0)] rfl <| Zc <| Z0 <| Wa rfl rfl <| Z6 <| Z4 <| Zc <| Z0 <| Wm rfl rfl ?_
 obtain ⟨r9, hr10, HF⟩ := Z5 HF
 rcases r9 with t11 | r12
 ·obtain rfl := Z02 HF
  refine Z0h rfl (Zd (vs := [pt b1 0, vi 1]) rfl Zhs) (Z2w _ hr10 S0.sub rs5 ob7) ?_
  rintro ch18 w19 ⟨ht20, h21, s22, ob17⟩
  refine Ze <| Zs ?_
  have S23 := S0.trans s22 (Zl (.inl (by simp)) Zt)
  exact ⟨_, rfl, ht20, h21, S23, ob17⟩
 replace HF := Z0i HF
 refine Wc rfl (Zd (vs := [pt b1 0, vi 1]) rfl Zhs) (Z2w _ hr10 S0.sub rs5 ob7) ?_
 rintro _ w14 ⟨h15, s16, rfl, ob24⟩
 have S25 := S0.trans s16 (Zl (.inl (by simp)) Zt)
 refine Wa rfl rfl <| Z6 <| Z4 <| Z0b <| Z07 rfl rfl ?_
 obtain rfl := Option.some.inj HF
 exact ⟨_, rfl, h15, S25, rfl, ob24⟩
theorem Z26 (k : Nat) : Zey (Z3o k) := s_parse_Parser_Name k
def C_parse_levels (φ : Option (List (List (ByteArray × Int)))) : Prop := ∀ ⦃r : List (List (ByteArray × Int))⦄, φ  = some r → ∀ ⦃w0 : World⦄ ⦃h0 : Hp⦄, Sub h0 w0 →
  Calls Tryz.prog 79 #[] w0 fun e w1 => ∃ v, e = .returned v ∧ ∃ h1, Stp [] w0 h0 w1 h1 ∧ RS h1 v r
theorem s_parse_levels (k : Nat) : C_parse_levels (Zgh k) := by
 intro  r HF w0 h0  hs0 
 have S0 : Stp [] w0 h0 w0 h0 := Stp.refl hs0 _
 refine Z4o (n := 16) Tryz.func79 rfl Tryz.ntmps79 rfl [] rfl <| Zc <| Z0 <| Wa rfl rfl <| Z6 <| Z4 <| Zc <| Z0 <| Zc3 rfl rfl S0.sub (fun w1 b2 hb3 s4 ob5 => ?_)
 have g6 : w0.heap.size ≤ b2 := by rw [hb3]; exact S0.size
 have S7 := S0.trans0 s4
 refine Z49 rfl rfl rfl rfl Z79 Z00 (.inl rfl) ob5 S7.sub rfl (fun w8 s9 ob10 => ?_)
 have S11 := S7.trans1 s9 (.inr g6)
 refine Wm rfl rfl <| Zc3 rfl rfl S11.sub (fun w12 b13 hb14 s15 ob16 => ?_)
 have ne17 : b2 ≠ b13 := ob10.ne_new hb14
 have g18 : w0.heap.size ≤ b13 := by rw [hb14]; exact S11.size
 have S19 := S11.trans0 s15
 refine Z49 rfl rfl rfl rfl Z79 Z00 (.inl rfl) ob16 S19.sub rfl (fun w20 s21 ob22 => ?_)
 have S23 := S19.trans1 s21 (.inr g18)
 refine Wm rfl rfl ?_
 have ob24 := ((ob10.step0 s15).step1 s21 ne17)
 refine Zc3 rfl rfl S23.sub (fun w25 b26 hb27 s28 ob29 => ?_)
 have ne30 : b2 ≠ b26 := ob24.ne_new hb27
 have ne31 : b13 ≠ b26 := ob22.ne_new hb27
 have g32 : w0.heap.size ≤ b26 := by rw [hb27]; exact S23.size
 have S33 := S23.trans0 s28
 refine Z49 rfl rfl rfl rfl Z79 Z00 (.inl rfl) ob29 S33.sub rfl (fun w34 s35 ob36 => ?_)
 have S37 := S33.trans1 s35 (.inr g32)
 refine Wm rfl rfl ?_
 have ob38 := ((ob24.step0 s28).step1 s35 ne30)
 have ob39 := ((ob22.step0 s28).step1 s35 ne31)
 refine Zc3 rfl rfl S37.sub (fun w40 b41 hb42 s43 ob44 => ?_)
 have ne45 : b2 ≠ b41 := ob38.ne_new hb42
 have ne46 : b13 ≠ b41 := ob39.ne_new hb42
 have ne47 : b26 ≠ b41 := ob36.ne_new hb42
 have g48 : w0.heap.size ≤ b41 := by rw [hb42]; exact S37.size
 have S49 := S37.trans0 s43
 refine Z49 rfl rfl rfl rfl Z79 Z00 (.inl rfl) ob44 S49.sub rfl (fun w50 s51 ob52 => ?_)
 have S53 := S49.trans1 s51 (.inr g48)
 refine Z49 rfl rfl rfl rfl Z79 Z00 (.inl rfl) ob52 S53.sub rfl (fun w54 s55 ob56 => ?_)
 have S57 := S53.trans1 s55 (.inr g48)
 refine Wm rfl rfl ?_
 have ob58 := (((ob38.step0 s43).step1 s51 ne45).step1 s55 ne45)
 have ob59 := (((ob39.step0 s43).step1 s51 ne46).step1 s55 ne46)
 have ob60 := (((ob36.step0 s43).step1 s51 ne47).step1 s55 ne47)
 refine Zc3 rfl rfl S57.sub (fun w61 b62 hb63 s64 ob65 => ?_)
 have ne66 : b2 ≠ b62 := ob58.ne_new hb63
 have ne67 : b13 ≠ b62 := ob59.ne_new hb63
 have ne68 : b26 ≠ b62 := ob60.ne_new hb63
 have ne69 : b41 ≠ b62 := ob56.ne_new hb63
 have g70 : w0.heap.size ≤ b62 := by rw [hb63]; exact S57.size
 have S71 := S57.trans0 s64
 refine Z49 rfl rfl rfl rfl Z79 Z00 (.inl rfl) ob65 S71.sub rfl (fun w72 s73 ob74 => ?_)
 have S75 := S71.trans1 s73 (.inr g70)
 refine Z49 rfl rfl rfl rfl Z79 Z00 (.inl rfl) ob74 S75.sub rfl (fun w76 s77 ob78 => ?_)
 have S79 := S75.trans1 s77 (.inr g70)
 refine Z49 rfl rfl rfl rfl Z79 Z00 (.inl rfl) ob78 S79.sub rfl (fun w80 s81 ob82 => ?_)
 have S83 := S79.trans1 s81 (.inr g70)
 refine Z49 rfl rfl rfl rfl Z79 Z00 (.inl rfl) ob82 S83.sub rfl (fun w84 s85 ob86 => ?_)
 have S87 := S83.trans1 s85 (.inr g70)
 refine Wm rfl rfl ?_
 have ob88 := (((((ob58.step0 s64).step1 s73 ne66).step1 s77 ne66).step1 s81 ne66).step1 s85 ne66)
 have ob89 := (((((ob59.step0 s64).step1 s73 ne67).step1 s77 ne67).step1 s81 ne67).step1 s85 ne67)
 have ob90 := (((((ob60.step0 s64).step1 s73 ne68).step1 s77 ne68).step1 s81 ne68).step1 s85 ne68)
 have ob91 := (((((ob56.step0 s64).step1 s73 ne69).step1 s77 ne69).step1 s81 ne69).step1 s85 ne69)
 refine Zc3 rfl rfl S87.sub (fun w92 b93 hb94 s95 ob96 => ?_)
 have ne97 : b2 ≠ b93 := ob88.ne_new hb94
 have ne98 : b13 ≠ b93 := ob89.ne_new hb94
 have ne99 : b26 ≠ b93 := ob90.ne_new hb94
 have ne100 : b41 ≠ b93 := ob91.ne_new hb94
 have ne101 : b62 ≠ b93 := ob86.ne_new hb94
 have g102 : w0.heap.size ≤ b93 := by rw [hb94]; exact S87.size
 have S103 := S87.trans0 s95
 refine Z49 rfl rfl rfl rfl Z79 Z00 (.inl rfl) ob96 S103.sub rfl (fun w104 s105 ob106 => ?_)
 have S107 := S103.trans1 s105 (.inr g102)
 refine Z49 rfl rfl rfl rfl Z79 Z00 (.inl rfl) ob106 S107.sub rfl (fun w108 s109 ob110 => ?_)
 have S111 := S107.trans1 s109 (.inr g102)
 refine Wm rfl rfl ?_
 have ob112 := (((ob88.step0 s95).step1 s105 ne97).step1 s109 ne97)
 have ob113 := (((ob89.step0 s95).step1 s105 ne98).step1 s109 ne98)
 have ob114 := (((ob90.step0 s95).step1 s105 ne99).step1 s109 ne99)
 have ob115 := (((ob91.step0 s95).step1 s105 ne100).step1 s109 ne100)
 have ob116 := (((ob86.step0 s95).step1 s105 ne101).step1 s109 ne101)
 refine Zc3 rfl rfl S111.sub (fun w117 b118 hb119 s120 ob121 => ?_)
 have ne122 : b2 ≠ b118 := ob112.ne_new hb119
 have ne123 : b13 ≠ b118 := ob113.ne_new hb119
 have ne124 : b26 ≠ b118 := ob114.ne_new hb119
 have ne125 : b41 ≠ b118 := ob115.ne_new hb119
 have ne126 : b62 ≠ b118 := ob116.ne_new hb119
 have ne127 : b93 ≠ b118 := ob110.ne_new hb119
 have g128 : w0.heap.size ≤ b118 := by rw [hb119]; exact S111.size
 have S129 := S111.trans0 s120
 refine Z49 rfl rfl rfl rfl Z79 Z00 (.inl rfl) ob121 S129.sub rfl (fun w130 s131 ob132 => ?_)
 have S133 := S129.trans1 s131 (.inr g128)
 refine Z49 rfl rfl rfl rfl Z79 Z00 (.inl rfl) ob132 S133.sub rfl (fun w134 s135 ob136 => ?_)
 have S137 := S133.trans1 s135 (.inr g128)
 refine Z49 rfl rfl rfl rfl Z79 Z00 (.inl rfl) ob136 S137.sub rfl (fun w138 s139 ob140 => ?_)
 have S141 := S137.trans1 s139 (.inr g128)
 refine Wm rfl rfl ?_
 have ob142 := ((((ob112.step0 s120).step1 s131 ne122).step1 s135 ne122).step1 s139 ne122)
 obtain ⟨h143, s144, rm145⟩ := MB.freeze (evl := (fun x : Int => vi x)) (T := ([(b'46, 8)] : List (ByteArray × Int))) ob142 S141.sub
 have S146 := S141.trans1 s144 (.inr g6)
 have ob147 := (((((ob113.step0 s120).step1 s131 ne123).step1 s135 ne123).step1 s139 ne123).step1 s144 (Ne.symm ne17))
 obtain ⟨h148, s149, rm150⟩ := MB.freeze (evl := (fun x : Int => vi x)) (T := ([(b'78, 9)] : List (ByteArray × Int))) ob147 S146.sub
 have S151 := S146.trans1 s149 (.inr g18)
 have ob152 := ((((((ob114.step0 s120).step1 s131 ne124).step1 s135 ne124).step1 s139 ne124).step1 s144 (Ne.symm ne30)).step1 s149 (Ne.symm ne31))
 obtain ⟨h153, s154, rm155⟩ := MB.freeze (evl := (fun x : Int => vi x)) (T := ([(b'100, 10)] : List (ByteArray × Int))) ob152 S151.sub
 have S156 := S151.trans1 s154 (.inr g32)
 have ob157 := (((((((ob115.step0 s120).step1 s131 ne125).step1 s135 ne125).step1 s139 ne125).step1 s144 (Ne.symm ne45)).step1 s149 (Ne.symm ne46)).step1 s154 (Ne.symm ne47))
 obtain ⟨h158, s159, rm160⟩ := MB.freeze (evl := (fun x : Int => vi x)) (T := ([(b'93, 11), (b'91, 12)] : List (ByteArray × Int))) ob157 S156.sub
 have S161 := S156.trans1 s159 (.inr g48)
 have ob162 := ((((((((ob116.step0 s120).step1 s131 ne126).step1 s135 ne126).step1 s139 ne126).step1 s144 (Ne.symm ne66)).step1 s149 (Ne.symm ne67)).step1 s154 (Ne.symm ne68)).step1 s159 (Ne.symm ne69))
 obtain ⟨h163, s164, rm165⟩ := MB.freeze (evl := (fun x : Int => vi x)) (T := ([(b'92, 13), (b'90, 14), (b'95, 15), (b'94, 16)] : List (ByteArray × Int))) ob162 S161.sub
 have S166 := S161.trans1 s164 (.inr g70)
 have ob167 := (((((((((ob110.step0 s120).step1 s131 ne127).step1 s135 ne127).step1 s139 ne127).step1 s144 (Ne.symm ne97)).step1 s149 (Ne.symm ne98)).step1 s154 (Ne.symm ne99)).step1 s159 (Ne.symm ne100)).step1 s164 (Ne.symm ne101))
 obtain ⟨h168, s169, rm170⟩ := MB.freeze (evl := (fun x : Int => vi x)) (T := ([(b'82, 17), (b'84, 18)] : List (ByteArray × Int))) ob167 S166.sub
 have S171 := S166.trans1 s169 (.inr g102)
 have ob172 := ((((((ob140.step1 s144 (Ne.symm ne122)).step1 s149 (Ne.symm ne123)).step1 s154 (Ne.symm ne124)).step1 s159 (Ne.symm ne125)).step1 s164 (Ne.symm ne126)).step1 s169 (Ne.symm ne127))
 obtain ⟨h173, s174, rm175⟩ := MB.freeze (evl := (fun x : Int => vi x)) (T := ([(b'81, 19), (b'86, 20), (b'39, 21)] : List (ByteArray × Int))) ob172 S171.sub
 have S176 := S171.trans1 s174 (.inr g128)
 refine Z10 (us := [.map (some b2), .map (some b13), .map (some b26), .map (some b41), .map (some b62), .map (some b93), .map (some b118)]) (cs := [.map (some b2), .map (some b13), .map (some b26), .map (some b41), .map (some b62), .map (some b93), .map (some b118)]) rfl rfl rfl Zfv t_size_166 t_zero_166 rfl (Z0c rfl (Z0c rfl (Z0c rfl (Z0c rfl (Z0c rfl (Z0c rfl (Z0c rfl Zci))))))) rfl rfl rfl S176.sub (fun w177 h178 b179 hb180 s181 hk182 hc183 => ?_)
 have S184 := S176.trans0 s181
 have rs185 : RS h178 (sl b179 0 7 7) ([([(b'46, 8)] : List (ByteArray × Int)), ([(b'78, 9)] : List (ByteArray × Int)), ([(b'100, 10)] : List (ByteArray × Int)), ([(b'93, 11), (b'91, 12)] : List (ByteArray × Int)), ([(b'92, 13), (b'90, 14), (b'95, 15), (b'94, 16)] : List (ByteArray × Int)), ([(b'82, 17), (b'84, 18)] : List (ByteArray × Int)), ([(b'81, 19), (b'86, 20), (b'39, 21)] : List (ByteArray × Int))] : List (List (ByteArray × Int))) := RS.litL _ [[.map (some b2)], [.map (some b13)], [.map (some b26)], [.map (some b41)], [.map (some b62)], [.map (some b93)], [.map (some b118)]] rfl rfl hc183 ⟨⟨_, rfl, (rm145.mono ((s149.le).trans ((s154.le).trans ((s159.le).trans ((s164.le).trans ((s169.le).trans ((s174.le).trans s181.le)))))))⟩, ⟨_, rfl, (rm150.mono ((s154.le).trans ((s159.le).trans ((s164.le).trans ((s169.le).trans ((s174.le).trans s181.le))))))⟩, ⟨_, rfl, (rm155.mono ((s159.le).trans ((s164.le).trans ((s169.le).trans ((s174.le).trans s181.le)))))⟩, ⟨_, rfl, (rm160.mono ((s164.le).trans ((s169.le).trans ((s174.le).trans s181.le))))⟩, ⟨_, rfl, (rm165.mono ((s169.le).trans ((s174.le).trans s181.le)))⟩, ⟨_, rfl, (rm170.mono ((s174.le).trans s181.le))⟩, ⟨_, rfl, (rm175.mono (s181.le))⟩, trivial⟩
 have ow186 := Own.lit (base := w0.heap.size) (sz := 1) (m := 7) hk182 hc183 (by rw [hb180]; exact S176.size) rfl (by decide)
 refine Wa rfl rfl <| Z6 <| Z4 <| Z0b <| Z07 rfl rfl ?_
 obtain rfl := Option.some.inj HF
 exact ⟨_, rfl, h178, S184, rs185⟩
theorem ok_parse_levels (k : Nat) : C_parse_levels (Zgh k) := s_parse_levels k
def Z3n (φ : (List Tok) → Int → Option (Except (Int × Int × Int) (Ex × Int))) : Prop := ∀ ⦃xs3 : List Tok⦄ ⦃x6 : Int⦄ ⦃r : Except (Int × Int × Int) (Ex × Int)⦄, φ xs3 x6 = some r → ∀ ⦃w0 : World⦄ ⦃h0 : Hp⦄ ⦃b1 : Nat⦄ ⦃T2 : Nat⦄ ⦃v4 : Value⦄, Sub h0 w0 → RS h0 v4 xs3 → OB w0 h0 b1 T2 [v4, .int .i64 x6] →
  Calls Tryz.prog 46 #[.pointer (some ⟨b1, 0, none⟩)] w0 fun e w1 => match r with | .ok r => ∃ v, e = .returned v ∧ ∃ h1, Stp [b1] w0 h0 w1 h1 ∧ (∃ cs : List Value, v = .agg cs.toArray ∧ Rp.R h1 r.1 cs) ∧ (OB w1 h1 b1 T2 [v4, .int .i64 r.2]) | .error t => ∃ ch, e = .panicked ch ∧ Z8z 138 t.1 t.2.1 ch ∧ ∃ h1, Stp [b1] w0 h0 w1 h1 ∧ (OB w1 h1 b1 T2 [v4, .int .i64 t.2.2])
def Z42 (φ : (List Tok) → Int → (List (List (ByteArray × Int))) → Option (Except (Int × Int × Int) (Ex × Int))) : Prop := ∀ ⦃xs3 : List Tok⦄ ⦃x6 : Int⦄ ⦃xs8 : List (List (ByteArray × Int))⦄ ⦃r : Except (Int × Int × Int) (Ex × Int)⦄, φ xs3 x6 xs8 = some r → ∀ ⦃w0 : World⦄ ⦃h0 : Hp⦄ ⦃b1 : Nat⦄ ⦃T2 : Nat⦄ ⦃v4 : Value⦄ ⦃v9 : Value⦄, Sub h0 w0 → RS h0 v4 xs3 → RS h0 v9 xs8 → OB w0 h0 b1 T2 [v4, .int .i64 x6] →
  Calls Tryz.prog 78 #[.pointer (some ⟨b1, 0, none⟩), v9] w0 fun e w1 => match r with | .ok r => ∃ v, e = .returned v ∧ ∃ h1, Stp [b1] w0 h0 w1 h1 ∧ (∃ cs : List Value, v = .agg cs.toArray ∧ Rp.R h1 r.1 cs) ∧ (OB w1 h1 b1 T2 [v4, .int .i64 r.2]) | .error t => ∃ ch, e = .panicked ch ∧ Z8z 138 t.1 t.2.1 ch ∧ ∃ h1, Stp [b1] w0 h0 w1 h1 ∧ (OB w1 h1 b1 T2 [v4, .int .i64 t.2.2])
def Z46 (φ : (List Tok) → Int → Option (Except (Int × Int × Int) (Ex × Int))) : Prop := ∀ ⦃xs3 : List Tok⦄ ⦃x6 : Int⦄ ⦃r : Except (Int × Int × Int) (Ex × Int)⦄, φ xs3 x6 = some r → ∀ ⦃w0 : World⦄ ⦃h0 : Hp⦄ ⦃b1 : Nat⦄ ⦃T2 : Nat⦄ ⦃v4 : Value⦄, Sub h0 w0 → RS h0 v4 xs3 → OB w0 h0 b1 T2 [v4, .int .i64 x6] →
  Calls Tryz.prog 174 #[.pointer (some ⟨b1, 0, none⟩)] w0 fun e w1 => match r with | .ok r => ∃ v, e = .returned v ∧ ∃ h1, Stp [b1] w0 h0 w1 h1 ∧ (∃ cs : List Value, v = .agg cs.toArray ∧ Rp.R h1 r.1 cs) ∧ (OB w1 h1 b1 T2 [v4, .int .i64 r.2]) | .error t => ∃ ch, e = .panicked ch ∧ Z8z 138 t.1 t.2.1 ch ∧ ∃ h1, Stp [b1] w0 h0 w1 h1 ∧ (OB w1 h1 b1 T2 [v4, .int .i64 t.2.2])
def Z3z (φ : (List Tok) → Int → Option (Except (Int × Int × Int) (Ex × Int))) : Prop := ∀ ⦃xs3 : List Tok⦄ ⦃x6 : Int⦄ ⦃r : Except (Int × Int × Int) (Ex × Int)⦄, φ xs3 x6 = some r → ∀ ⦃w0 : World⦄ ⦃h0 : Hp⦄ ⦃b1 : Nat⦄ ⦃T2 : Nat⦄ ⦃v4 : Value⦄, Sub h0 w0 → RS h0 v4 xs3 → OB w0 h0 b1 T2 [v4, .int .i64 x6] →
  Calls Tryz.prog 138 #[.pointer (some ⟨b1, 0, none⟩)] w0 fun e w1 => match r with | .ok r => ∃ v, e = .returned v ∧ ∃ h1, Stp [b1] w0 h0 w1 h1 ∧ (∃ cs : List Value, v = .agg cs.toArray ∧ Rp.R h1 r.1 cs) ∧ (OB w1 h1 b1 T2 [v4, .int .i64 r.2]) | .error t => ∃ ch, e = .panicked ch ∧ Z8z 138 t.1 t.2.1 ch ∧ ∃ h1, Stp [b1] w0 h0 w1 h1 ∧ (OB w1 h1 b1 T2 [v4, .int .i64 t.2.2])
theorem s_parse_Parser_Expr (k : Nat) (IH : ∀ j, j ≤ k → Z3n (Zo j).parse_Parser_Expr ∧ Z42 (Zo j).parse_Parser_level ∧ Z46 (Zo j).parse_Parser_named ∧ Z3z (Zo j).parse_Parser_unary) : Z3n (Zf2 k (Zo k)) := by
 intro xs3 x6 r HF w0 h0 b1 T2 v4 hs0 rs5 ob7
 have S0 : Stp [b1] w0 h0 w0 h0 := Stp.refl hs0 _
 have lt8 : b1 < w0.heap.size := OB.lt ob7
 refine Z4o (n := 6) Tryz.func46 rfl Tryz.ntmps46 rfl [(0, pt b1 0)] rfl <| Zc <| Z0 <| Z19 (zs := [vi 0, vi 0, vi 0, .string Z1e, .string Z1e, .slice none 0 0]) rfl rfl Z1w rfl S0.sub (fun w9 b10 hb11 s12 ob13 => ?_)
 have ne14 : b1 ≠ b10 := ob7.ne_new hb11
 have g15 : w0.heap.size ≤ b10 := by rw [hb11]; exact S0.size
 have S16 := S0.trans0 s12
 refine Z6 <| Z4 <| Zc <| Z0 <| Wm rfl rfl ?_
 obtain ⟨r17, hr18, HF⟩ := Z5 HF
 refine Wc rfl (Zd (vs := []) rfl t_ent_79) (ok_parse_levels _ hr18 S16.sub) ?_
 rintro v23 w20 ⟨h21, s22, rs24⟩
 have S25 := S16.trans0 s22
 have ob26 := ((ob7.step0 s12).step0 s22)
 obtain ⟨r27, hr28, HF⟩ := Z5 HF
 rcases r27 with t29 | r30
 ·obtain rfl := Z02 HF
  refine Z0h rfl (Zd (vs := [pt b1 0, v23]) rfl t_ent_78) ((IH _ (Nat.le_refl _)).2.1 hr28 S25.sub (rs5.mono ((s12.le).trans s22.le)) rs24 ob26) ?_
  rintro ch36 w37 ⟨ht38, h39, s40, ob35⟩
  refine Ze <| Zs ?_
  have S41 := S25.trans s40 (Zl (.inl (by simp)) Zt)
  exact ⟨_, rfl, ht38, h39, S41, ob35⟩
 replace HF := Z0i HF
 refine Wc rfl (Zd (vs := [pt b1 0, v23]) rfl t_ent_78) ((IH _ (Nat.le_refl _)).2.1 hr28 S25.sub (rs5.mono ((s12.le).trans s22.le)) rs24 ob26) ?_
 rintro _ w32 ⟨h33, s34, ⟨cs42, rfl, r43⟩, ob44⟩
 have S45 := S25.trans s34 (Zl (.inl (by simp)) Zt)
 have ob46 := ((ob13.step0 s22).step1 s34 (Ne.symm ne14))
 obtain ⟨v47, rfl, rs48⟩ := Zab.1 r43
 refine Zr (vs := [vi r30.1.op, vi r30.1.kind, vi r30.1.n, .string r30.1.s, .string r30.1.f, v47]) rfl rfl rfl rfl Z0l (Z3 rfl (Z3 rfl (Z3 rfl (Z3 rfl (Z3 rfl (Z3 (RS.one rs48) Zx)))))) ob46 S45.sub (by simp) (ds := [vi r30.1.op, vi r30.1.kind, vi r30.1.n, .string r30.1.s, .string r30.1.f, v47]) rfl (fun w49 s50 ob51 => ?_)
 have S52 := S45.trans1 s50 (.inr g15)
 refine Z6 <| Z4 <| Z0b ?_
 have ob53 := (ob44.step1 s50 ne14)
 refine Z5k rfl rfl (Z0x (cs := [vi r30.1.op, vi r30.1.kind, vi r30.1.n, .string r30.1.s, .string r30.1.f, v47]) Z54 Z0l (OB.cells ob51 0 rfl)) ?_
 obtain rfl := Option.some.inj HF
 exact ⟨_, rfl, h33, S52, ⟨_, rfl, (Zab.2 ⟨_, rfl, (rs48.mono (s50.le))⟩)⟩, ob53⟩
theorem s_parse_Parser_level (k : Nat) (IH : ∀ j, j ≤ k → Z3n (Zo j).parse_Parser_Expr ∧ Z42 (Zo j).parse_Parser_level ∧ Z46 (Zo j).parse_Parser_named ∧ Z3z (Zo j).parse_Parser_unary) : Z42 (Zdw k (Zo k)) := by
 intro xs3 x6 xs8 r HF w0 h0 b1 T2 v4 v9 hs0 rs5 rs10 ob7
 have S0 : Stp [b1] w0 h0 w0 h0 := Stp.refl hs0 _
 have lt11 : b1 < w0.heap.size := OB.lt ob7
 refine Z4o (n := 59) Tryz.func78 rfl Tryz.ntmps78 rfl [(0, pt b1 0), (1, v9)] rfl <| Zc <| Z0 <| Z19 (zs := [vi 0, vi 0, vi 0, .string Z1e, .string Z1e, .slice none 0 0]) rfl rfl Z1w rfl S0.sub (fun w12 b13 hb14 s15 ob16 => ?_)
 have ne17 : b1 ≠ b13 := ob7.ne_new hb14
 have g18 : w0.heap.size ≤ b13 := by rw [hb14]; exact S0.size
 have S19 := S0.trans0 s15
 refine Z6 <| Z4 <| Z09 (fun E w53 => ∃ (h52 : Hp), Zcz k (Zo k) xs3 x6 xs8 = some r ∧ E = [(0, pt b1 0), (1, v9), (4, pt b13 0)] ∧ Stp [b1] w0 h0 w53 h52 ∧ Hle h0 h52 ∧ OB w53 h52 b1 T2 [v4, vi x6] ∧ OB w53 h52 b13 47 [vi 0, vi 0, vi 0, .string Z1e, .string Z1e, .slice none 0 0]) ?_ ?_
 ·rintro E w53 ⟨h52, HF, rfl, S55, le54, ob56, ob57⟩
  refine Zc <| Z0 <| Wm rfl rfl <| Wm rfl rfl ?_
  obtain ⟨A58, c59, rfl, rs60⟩ := RS.form (rs10.mono ((s15.le).trans le54))
  obtain ⟨xs61, ht62, HF⟩ := Z5 HF
  obtain ⟨v64, hov, rs63⟩ := ov_sliceLL (P := Tryz.prog) rs60 Zfv t_size_166 ht62
  refine Wv rfl (hov rfl rfl) ?_
  obtain ⟨r65, hr66, HF⟩ := Z5 HF
  rcases r65 with t67 | r68
  ·obtain rfl := Z02 HF
   refine Z0h rfl (Zd (vs := [pt b1 0, v64]) rfl t_ent_78) ((IH _ (Nat.le_refl _)).2.1 hr66 S55.sub (rs5.mono ((s15.le).trans le54)) rs63 ob56) ?_
   rintro ch74 w75 ⟨ht76, h77, s78, ob73⟩
   refine Ze <| Zs ?_
   have S79 := S55.trans s78 (Zl (.inl (by simp)) Zt)
   exact ⟨_, rfl, ht76, h77, S79, ob73⟩
  replace HF := Z0i HF
  refine Wc rfl (Zd (vs := [pt b1 0, v64]) rfl t_ent_78) ((IH _ (Nat.le_refl _)).2.1 hr66 S55.sub (rs5.mono ((s15.le).trans le54)) rs63 ob56) ?_
  rintro _ w70 ⟨h71, s72, ⟨cs80, rfl, r81⟩, ob82⟩
  have S83 := S55.trans s72 (Zl (.inl (by simp)) Zt)
  have ob84 := (ob57.step1 s72 (Ne.symm ne17))
  refine Z19 (zs := [vi 0, vi 0, vi 0, .string Z1e, .string Z1e, .slice none 0 0]) rfl rfl Z1w rfl S83.sub (fun w85 b86 hb87 s88 ob89 => ?_)
  have ne90 : b1 ≠ b86 := ob82.ne_new hb87
  have ne91 : b13 ≠ b86 := ob84.ne_new hb87
  have g92 : w0.heap.size ≤ b86 := by rw [hb87]; exact S83.size
  have S93 := S83.trans0 s88
  obtain ⟨v94, rfl, rs95⟩ := Zab.1 (Rp.mono (s88.le) r81)
  refine Zr (vs := [vi r68.1.op, vi r68.1.kind, vi r68.1.n, .string r68.1.s, .string r68.1.f, v94]) rfl rfl rfl rfl Z0l (Z3 rfl (Z3 rfl (Z3 rfl (Z3 rfl (Z3 rfl (Z3 (RS.one rs95) Zx)))))) ob89 S93.sub (by simp) (ds := [vi r68.1.op, vi r68.1.kind, vi r68.1.n, .string r68.1.s, .string r68.1.f, v94]) rfl (fun w96 s97 ob98 => ?_)
  have S99 := S93.trans1 s97 (.inr g92)
  refine Z6 <| Z4 <| Z0r <| Z5v <| Z99 [0, 1, 4, 5] [(0, pt b1 0), (1, .slice A58 (xs8).length c59), (4, pt b13 0), (5, pt b86 0)] rfl <| Z5u (K := k) (fun j E w101 => ∃ (h100 : Hp) (x104 : Int) (x107 : Int) (x108 : Int) (x109 : Int) (x110 : ByteArray) (x111 : ByteArray) (xs112 : List Ex) (v113 : Value), (Zo j).parse_Parser_level_l2 xs3 xs8 x104 x107 x108 x109 x110 x111 xs112 = some r ∧ E = [(0, pt b1 0), (1, .slice A58 (xs8).length c59), (4, pt b13 0), (5, pt b86 0)] ∧ Stp [b1] w0 h0 w101 h100 ∧ Hle h71 h100 ∧ RS h100 v113 xs112 ∧ OB w101 h100 b1 T2 [v4, vi x104] ∧ OB w101 h100 b13 47 [vi 0, vi 0, vi 0, .string Z1e, .string Z1e, .slice none 0 0] ∧ OB w101 h100 b86 47 [vi x107, vi x108, vi x109, .string x110, .string x111, v113]) ?_ ?_ (j := k) (Nat.le_refl _) ?_
  ·rintro E w101 ⟨_, _, _, _, _, _, _, _, _, HF, _⟩; cases HF
  ·rintro j116 hj118 IHL117 E w101 ⟨h100, x104, x107, x108, x109, x110, x111, xs112, v113, HF, rfl, S103, le102, rs114, ob105, ob106, ob115⟩
   refine Z0r <| Zc <| Z0 <| Wm rfl rfl ?_
   obtain ⟨r119, hr120, HF⟩ := Z5 HF
   refine Wc rfl (Zd (vs := [pt b1 0]) rfl Z7u) (Z1a _ hr120 S103.sub (rs5.mono ((s15.le).trans ((le54).trans ((s72.le).trans ((s88.le).trans ((s97.le).trans le102)))))) ob105) ?_
   rintro _ w122 ⟨h123, s124, ⟨cs125, rfl, r126⟩⟩
   have S127 := S103.trans0 s124
   have ob128 := (ob105.step0 s124)
   have ob129 := (ob106.step0 s124)
   have ob130 := (ob115.step0 s124)
   refine Z19 (zs := [vi 0, .string Z1e, vi 0]) rfl rfl Z64 rfl S127.sub (fun w131 b132 hb133 s134 ob135 => ?_)
   have ne136 : b1 ≠ b132 := ob128.ne_new hb133
   have ne137 : b13 ≠ b132 := ob129.ne_new hb133
   have ne138 : b86 ≠ b132 := ob130.ne_new hb133
   have g139 : w0.heap.size ≤ b132 := by rw [hb133]; exact S127.size
   have S140 := S127.trans0 s134
   obtain rfl := Z67.1 (Rp.mono (s134.le) r126)
   refine Zr (vs := [vi r119.kind, .string r119.text, vi r119.pos]) rfl rfl rfl rfl Z1q (Z3 rfl (Z3 rfl (Z3 rfl Zx))) ob135 S140.sub (by simp) (ds := [vi r119.kind, .string r119.text, vi r119.pos]) rfl (fun w141 s142 ob143 => ?_)
   have S144 := S140.trans1 s142 (.inr g139)
   refine Z6 <| Z4 <| Zc ?_
   obtain ⟨e145, he146, HF⟩ := Z5 HF
   obtain ⟨b147, o148, rfl, h150, h151, ra149⟩ := RS.atO (rs60.mono ((s72.le).trans ((s88.le).trans ((s97.le).trans ((le102).trans ((s124.le).trans ((s134.le).trans s142.le))))))) he146
   obtain ⟨cs152, r153, hc154⟩ := ra149
   obtain ⟨v155, rfl, rm156⟩ := r153
   obtain ⟨r157, hr158, HF⟩ := Z5 HF
   replace hr158 := Option.some.inj hr158
   refine Z51 (m := 10) [(0, pt b1 0), (1, sl b147 o148 (xs8).length c59), (4, pt b13 0), (5, pt b86 0), (6, pt b132 0)] [0, 1, 4, 5, 6] rfl (fun i v w h => match i with | 0 => v = sl b147 o148 (xs8).length c59 | 1 => v = pt b147 (o148 + Int.toNat 0 * 1) | 2 => v = v155 | 3 => v = pt b132 1 | 4 => v = .string r119.text | 5 => v = .tuple #[vi (r157.getD 0), .bool r157.isSome] | 6 => v = .tuple #[vi (r157.getD 0), .bool r157.isSome] | 7 => v = vi (r157.getD 0) | 8 => v = .bool r157.isSome | 9 => v = vi (r157.getD 0) | _ => True) Z6h S144.sub rfl rfl rfl rfl rfl ?_ ?_ ?_
   ·intro i v w h w2 h2 hΦ hst
    match i, hΦ with
    | 0, hΦ | 1, hΦ | 2, hΦ | 3, hΦ | 4, hΦ | 5, hΦ | 6, hΦ | 7, hΦ | 8, hΦ | 9, hΦ => exact hΦ
    | i + 10, _ => exact trivial
   ·refine ⟨?_, ?_, ?_, ?_, ?_, ?_, ?_, ?_, ?_, ?_, trivial⟩
    ·intro a w159 h160 s161 hat hF
     exact Za hat rfl (Z0t rfl) s161.sub (by exact rfl)
    ·intro a w159 h160 s161 hat hF
     exact Za (Z7 hat (hF 0 22 rfl rfl)) rfl (Z1p rfl rfl Zfv t_size_166 h150 h151) s161.sub (by exact rfl)
    ·intro a w159 h160 s161 hat hF
     exact Za (Z7 hat (hF 1 23 rfl rfl)) rfl (Zb rfl t_agg_166 (s161.sub.at_ _ _ _ ((fun i v hv => (s161.le).1 _ _ _ (hc154 i v hv)) 0 _ rfl))) s161.sub (by exact rfl)
    ·intro a w159 h160 s161 hat hF
     exact Za hat rfl (Z1 rfl Zgu) s161.sub (by exact rfl)
    ·intro a w159 h160 s161 hat hF
     have ob162 := (ob143.step0 s161)
     exact Za (Z7 hat (hF 3 25 rfl rfl)) rfl (Zb rfl Z32 (OB.cell ob162 (j := 1) rfl)) s161.sub (by exact rfl)
    ·intro a w159 h160 s161 hat hF
     exact Za (Z7 (Z7 hat (hF 2 24 rfl rfl)) (hF 4 26 rfl rfl)) rfl (ov_lookupS2 (evl := (fun x : Int => vi x)) (z := 0) rfl rfl Z79 Z00 t_zero_3 (rm156.mono (s161.le)) s161.sub hr158) s161.sub (by exact rfl)
    ·intro a w159 h160 s161 hat hF
     exact Za (Z7 hat (hF 5 27 rfl rfl)) rfl (Z0t rfl) s161.sub (by exact rfl)
    ·intro a w159 h160 s161 hat hF
     exact Za (Z7 hat (hF 6 21 rfl rfl)) rfl (Z0a rfl rfl) s161.sub (by exact rfl)
    ·intro a w159 h160 s161 hat hF
     exact Za (Z7 hat (hF 6 21 rfl rfl)) rfl (Z0a rfl rfl) s161.sub (by exact rfl)
    intro a w159 h160 s161 hat hF
    exact Za (Z7 hat (hF 7 28 rfl rfl)) rfl (ov_assign rfl) s161.sub (by exact rfl)
   intro a w159 h160 s161 hat hF
   obtain hv0 := hF 0 22 (by decide) rfl
   obtain hv1 := hF 1 23 (by decide) rfl
   obtain hv2 := hF 2 24 (by decide) rfl
   obtain hv3 := hF 3 25 (by decide) rfl
   obtain hv4 := hF 4 26 (by decide) rfl
   obtain hv5 := hF 5 27 (by decide) rfl
   obtain hv6 := hF 6 21 (by decide) rfl
   obtain hv7 := hF 7 28 (by decide) rfl
   obtain hv8 := hF 8 29 (by decide) rfl
   obtain hv9 := hF 9 7 (by decide) rfl
   refine Zdh [(7, vi (r157.getD 0)), (29, .bool r157.isSome), (28, vi (r157.getD 0)), (21, .tuple #[vi (r157.getD 0), .bool r157.isSome]), (27, .tuple #[vi (r157.getD 0), .bool r157.isSome]), (26, .string r119.text), (25, pt b132 1), (24, v155), (23, pt b147 (o148 + Int.toNat 0 * 1)), (22, sl b147 o148 (xs8).length c59), (0, pt b1 0), (1, sl b147 o148 (xs8).length c59), (4, pt b13 0), (5, pt b86 0), (6, pt b132 0)] (Z7 (Z7 (Z7 (Z7 (Z7 (Z7 (Z7 (Z7 (Z7 (Z7 hat hv0) hv1) hv2) hv3) hv4) hv5) hv6) hv7) hv8) hv9) ?_
   have S163 := S144.trans0 s161
   refine Wa rfl rfl <| Z6 <| Z4 <| Z09 (fun E w192 => ∃ (h191 : Hp), Zd4 j116 (Zo j116) xs3 xs8 x104 x107 x108 x109 x110 x111 xs112 r157 = some r ∧ E = [(0, pt b1 0), (1, sl b147 o148 (xs8).length c59), (4, pt b13 0), (5, pt b86 0), (7, vi (r157.getD 0))] ∧ Stp [b1] w0 h0 w192 h191 ∧ Hle h160 h191 ∧ OB w192 h191 b1 T2 [v4, vi x104] ∧ OB w192 h191 b13 47 [vi 0, vi 0, vi 0, .string Z1e, .string Z1e, .slice none 0 0] ∧ OB w192 h191 b86 47 [vi x107, vi x108, vi x109, .string x110, .string x111, v113]) ?_ ?_
   ·rintro E w192 ⟨h191, HF, rfl, S194, le193, ob195, ob196, ob197⟩
    refine Zc <| Z0 <| Wm rfl rfl <| Wv rfl (Zp rfl) <| Wv rfl (Z1 rfl Z65) <| Wv rfl (Zb rfl Z04 (OB.cell ob195 (j := 1) rfl)) <| Wv rfl (Z3e rfl rfl) <| Wv rfl (Zp rfl) <| Wv rfl (Z1 rfl Z65) <| Zr (vs := [vi (IntKind.i64.wrap (x104 + 1))]) rfl rfl rfl rfl Z1s (Z3 rfl Zx) ob195 S194.sub (by simp) (ds := [v4, vi (IntKind.i64.wrap (x104 + 1))]) rfl (fun w198 s199 ob200 => ?_)
    have S201 := S194.trans1 s199 (.inl (by simp))
    refine Z6 <| Z4 <| Zc <| Z0 <| Wm rfl rfl <| Wm rfl rfl ?_
    obtain ⟨xs202, ht203, HF⟩ := Z5 HF
    obtain ⟨v205, hov, rs204⟩ := ov_sliceLL (P := Tryz.prog) (rs60.mono ((s72.le).trans ((s88.le).trans ((s97.le).trans ((le102).trans ((s124.le).trans ((s134.le).trans ((s142.le).trans ((s161.le).trans ((le193).trans s199.le)))))))))) Zfv t_size_166 ht203
    refine Wv rfl (hov rfl rfl) ?_
    obtain ⟨r206, hr207, HF⟩ := Z5 HF
    rcases r206 with t208 | r209
    ·obtain rfl := Z02 HF
     refine Z0h rfl (Zd (vs := [pt b1 0, v205]) rfl t_ent_78) ((IH _ (Nat.le_trans (Nat.le_of_succ_le hj118) (Nat.le_refl _))).2.1 hr207 S201.sub (rs5.mono ((s15.le).trans ((le54).trans ((s72.le).trans ((s88.le).trans ((s97.le).trans ((le102).trans ((s124.le).trans ((s134.le).trans ((s142.le).trans ((s161.le).trans ((le193).trans s199.le)))))))))))) rs204 ob200) ?_
     rintro ch215 w216 ⟨ht217, h218, s219, ob214⟩
     refine Ze <| Zu <| Ze <| Zu <| Zs ?_
     have S220 := S201.trans s219 (Zl (.inl (by simp)) Zt)
     exact ⟨_, rfl, ht217, h218, S220, ob214⟩
    replace HF := Z0i HF
    refine Wc rfl (Zd (vs := [pt b1 0, v205]) rfl t_ent_78) ((IH _ (Nat.le_trans (Nat.le_of_succ_le hj118) (Nat.le_refl _))).2.1 hr207 S201.sub (rs5.mono ((s15.le).trans ((le54).trans ((s72.le).trans ((s88.le).trans ((s97.le).trans ((le102).trans ((s124.le).trans ((s134.le).trans ((s142.le).trans ((s161.le).trans ((le193).trans s199.le)))))))))))) rs204 ob200) ?_
    rintro _ w211 ⟨h212, s213, ⟨cs221, rfl, r222⟩, ob223⟩
    have S224 := S201.trans s213 (Zl (.inl (by simp)) Zt)
    have ob225 := ((ob196.step1 s199 (Ne.symm ne17)).step1 s213 (Ne.symm ne17))
    have ob226 := ((ob197.step1 s199 (Ne.symm ne90)).step1 s213 (Ne.symm ne90))
    refine Z19 (zs := [vi 0, vi 0, vi 0, .string Z1e, .string Z1e, .slice none 0 0]) rfl rfl Z1w rfl S224.sub (fun w227 b228 hb229 s230 ob231 => ?_)
    have ne232 : b1 ≠ b228 := ob223.ne_new hb229
    have ne233 : b13 ≠ b228 := ob225.ne_new hb229
    have ne234 : b86 ≠ b228 := ob226.ne_new hb229
    have g235 : w0.heap.size ≤ b228 := by rw [hb229]; exact S224.size
    have S236 := S224.trans0 s230
    obtain ⟨v237, rfl, rs238⟩ := Zab.1 (Rp.mono (s230.le) r222)
    refine Zr (vs := [vi r209.1.op, vi r209.1.kind, vi r209.1.n, .string r209.1.s, .string r209.1.f, v237]) rfl rfl rfl rfl Z0l (Z3 rfl (Z3 rfl (Z3 rfl (Z3 rfl (Z3 rfl (Z3 (RS.one rs238) Zx)))))) ob231 S236.sub (by simp) (ds := [vi r209.1.op, vi r209.1.kind, vi r209.1.n, .string r209.1.s, .string r209.1.f, v237]) rfl (fun w239 s240 ob241 => ?_)
    have S242 := S236.trans1 s240 (.inr g235)
    refine Z6 <| Z4 <| Z0 <| Wm rfl rfl ?_
    have ob243 := ((ob226.step0 s230).step1 s240 ne234)
    refine Wv rfl (Z2t (cs := [vi x107, vi x108, vi x109, .string x110, .string x111, v113]) rfl Z54 Z0l (OB.cells ob243 0 rfl)) <| Wv rfl (Z2t (cs := [vi r209.1.op, vi r209.1.kind, vi r209.1.n, .string r209.1.s, .string r209.1.f, v237]) rfl Z54 Z0l (OB.cells ob241 0 rfl)) ?_
    have ob251 := ((ob223.step0 s230).step1 s240 ne232)
    have ob252 := ((ob225.step0 s230).step1 s240 ne233)
    refine Z10 (us := [.agg #[vi x107, vi x108, vi x109, .string x110, .string x111, v113], .agg #[vi r209.1.op, vi r209.1.kind, vi r209.1.n, .string r209.1.s, .string r209.1.f, v237]]) (cs := [vi x107, vi x108, vi x109, .string x110, .string x111, v113, vi r209.1.op, vi r209.1.kind, vi r209.1.n, .string r209.1.s, .string r209.1.f, v237]) rfl rfl rfl Z0v Z0l Z1w rfl (Z0c rfl (Z0c rfl Zci)) rfl rfl rfl S242.sub (fun w244 h245 b246 hb247 s248 hk249 hc250 => ?_)
    have S253 := S242.trans0 s248
    have rs254 : RS h245 (sl b246 0 2 2) ([(Ex.mk x107 x108 x109 x110 x111 xs112), (Ex.mk r209.1.op r209.1.kind r209.1.n r209.1.s r209.1.f r209.1.args)] : List Ex) := RS.litL _ [[vi x107, vi x108, vi x109, .string x110, .string x111, v113], [vi r209.1.op, vi r209.1.kind, vi r209.1.n, .string r209.1.s, .string r209.1.f, v237]] rfl rfl hc250 ⟨(Zab.2 ⟨_, rfl, (rs114.mono ((s124.le).trans ((s134.le).trans ((s142.le).trans ((s161.le).trans ((le193).trans ((s199.le).trans ((s213.le).trans ((s230.le).trans ((s240.le).trans s248.le))))))))))⟩), (Zab.2 ⟨_, rfl, (rs238.mono ((s240.le).trans s248.le))⟩), trivial⟩
    have ow255 := Own.lit (base := w0.heap.size) (sz := 6) (m := 2) hk249 hc250 (by rw [hb247]; exact S242.size) rfl (by decide)
    refine Wv rfl (Z3b (vs := [(0, vi (r157.getD 0)), (5, sl b246 0 2 2)]) (cs := [vi (r157.getD 0), vi 0, vi 0, .string Z1e, .string Z1e, sl b246 0 2 2]) rfl Za3 Z1w rfl) ?_
    have ob256 := (ob243.step0 s248)
    refine Zr (vs := [vi (r157.getD 0), vi 0, vi 0, .string Z1e, .string Z1e, sl b246 0 2 2]) rfl rfl rfl rfl Z0l (Z3 rfl (Z3 rfl (Z3 rfl (Z3 rfl (Z3 rfl (Z3 rfl Zx)))))) ob256 S253.sub (by simp) (ds := [vi (r157.getD 0), vi 0, vi 0, .string Z1e, .string Z1e, sl b246 0 2 2]) rfl (fun w257 s258 ob259 => ?_)
    have S260 := S253.trans1 s258 (.inr g92)
    refine Z6 <| Zy ?_
    have ob262 := ((ob251.step0 s248).step1 s258 ne90)
    have ob263 := ((ob252.step0 s248).step1 s258 ne91)
    refine Z2p <| Z99 [0, 1, 4, 5] [(0, pt b1 0), (1, sl b147 o148 (xs8).length c59), (4, pt b13 0), (5, pt b86 0)] rfl ?_
    exact IHL117 j116 (Nat.le_refl _) _ _ ⟨h245, r209.2, (r157.getD 0), 0, 0, Z1e, Z1e, [(Ex.mk x107 x108 x109 x110 x111 xs112), (Ex.mk r209.1.op r209.1.kind r209.1.n r209.1.s r209.1.f r209.1.args)], sl b246 0 2 2, HF, rfl, S260, (le102).trans ((s124.le).trans ((s134.le).trans ((s142.le).trans ((s161.le).trans ((le193).trans ((s199.le).trans ((s213.le).trans ((s230.le).trans ((s240.le).trans ((s248.le).trans s258.le)))))))))), (rs254.mono (s258.le)), ob262, ob263, ob259⟩
   intro J261
   refine Z09 (fun E w168 => ∃ (h167 : Hp) (x171 : Bool), Z6o j116 (Zo j116) xs3 xs8 x104 x107 x108 x109 x110 x111 xs112 r157 x171 = some r ∧ E = [(0, pt b1 0), (1, sl b147 o148 (xs8).length c59), (4, pt b13 0), (5, pt b86 0), (7, vi (r157.getD 0)), (41, .bool x171)] ∧ Stp [b1] w0 h0 w168 h167 ∧ Hle h160 h167 ∧ OB w168 h167 b1 T2 [v4, vi x104] ∧ OB w168 h167 b13 47 [vi 0, vi 0, vi 0, .string Z1e, .string Z1e, .slice none 0 0] ∧ OB w168 h167 b86 47 [vi x107, vi x108, vi x109, .string x110, .string x111, v113]) ?_ ?_
   ·rintro E w168 ⟨h167, x171, HF, rfl, S170, le169, ob172, ob173, ob174⟩
    refine Z15 HF rfl (fun HF => ?_) (fun HF => ?_)
    ·refine Zc <| Z0 <| Wv rfl (Z2t (cs := [vi x107, vi x108, vi x109, .string x110, .string x111, v113]) rfl Z54 Z0l (OB.cells ob174 0 rfl)) <| Zr (vs := [vi x107, vi x108, vi x109, .string x110, .string x111, v113]) rfl rfl rfl rfl Z0l (Z3 rfl (Z3 rfl (Z3 rfl (Z3 rfl (Z3 rfl (Z3 (RS.one (rs114.mono ((s124.le).trans ((s134.le).trans ((s142.le).trans ((s161.le).trans le169)))))) Zx)))))) ob173 S170.sub (by simp) (ds := [vi x107, vi x108, vi x109, .string x110, .string x111, v113]) rfl (fun w176 s177 ob178 => ?_)
     have S179 := S170.trans1 s177 (.inr g18)
     refine Z6 <| Z4 <| Z0b <| Zv <| Z0k <| Zv <| Z0k ?_
     have ob180 := (ob172.step1 s177 ne17)
     refine Z5k rfl rfl (Z0x (cs := [vi x107, vi x108, vi x109, .string x110, .string x111, v113]) Z54 Z0l (OB.cells ob178 0 rfl)) ?_
     obtain rfl := Option.some.inj HF
     exact ⟨_, rfl, h167, S179, ⟨_, rfl, (Zab.2 ⟨_, rfl, (rs114.mono ((s124.le).trans ((s134.le).trans ((s142.le).trans ((s161.le).trans ((le169).trans s177.le))))))⟩)⟩, ob180⟩
    refine Zq <| Z01 [0, 1, 4, 5, 7] _ rfl ?_
    exact J261 ⟨h167, HF, rfl, S170, le169, ob172, ob173, ob174⟩
   intro J181
   refine Z0 <| Wm rfl rfl <| Wv rfl (Z30 rfl) <| Wm rfl rfl <| Z27 32 HF rfl (fun HF => ?_) (fun HF => ?_)
   ·refine Wp rfl <| Wp rfl <| Wp rfl <| Wp rfl <| Wp rfl <| Wp rfl <| Wp rfl <| Wp rfl <| Wv rfl (Zj rfl rfl) <| Z6 ?_
    have ob182 := (((ob128.step0 s134).step1 s142 ne136).step0 s161)
    have ob183 := (((ob129.step0 s134).step1 s142 ne137).step0 s161)
    have ob184 := (((ob130.step0 s134).step1 s142 ne138).step0 s161)
    refine Z01 [0, 1, 4, 5, 7, 41] _ rfl ?_
    exact J181 ⟨h160, true, HF, rfl, S163, Hle.refl _, ob182, ob183, ob184⟩
   refine Wv rfl (Z1 rfl Zdv) ?_
   have ob165 := (ob143.step0 s161)
   refine Wv rfl (Zb rfl Z04 (OB.cell ob165 (j := 0) rfl)) <| Wv rfl (Zca rfl rfl) <| Wm rfl rfl <| Z27 36 HF rfl (fun HF => ?_) (fun HF => ?_)
   ·refine Wv rfl (Z1 rfl Zdv) <| Wv rfl (Zb rfl Z04 (OB.cell ob165 (j := 0) rfl)) <| Wv rfl (Zca rfl rfl) <| Wv rfl (Zj rfl rfl) <| Wv rfl (Zi rfl rfl) <| Z6 ?_
    have ob185 := (((ob128.step0 s134).step1 s142 ne136).step0 s161)
    have ob186 := (((ob129.step0 s134).step1 s142 ne137).step0 s161)
    have ob187 := (((ob130.step0 s134).step1 s142 ne138).step0 s161)
    refine Z01 [0, 1, 4, 5, 7, 41] _ rfl ?_
    exact J181 ⟨h160, (r119.kind : Int) != 5, HF, rfl, S163, Hle.refl _, ob185, ob186, ob187⟩
   refine Wp rfl <| Wp rfl <| Wp rfl <| Wv rfl (Zi rfl rfl) <| Wv rfl (Zi rfl rfl) <| Z6 ?_
   have ob188 := (((ob128.step0 s134).step1 s142 ne136).step0 s161)
   have ob189 := (((ob129.step0 s134).step1 s142 ne137).step0 s161)
   have ob190 := (((ob130.step0 s134).step1 s142 ne138).step0 s161)
   refine Z01 [0, 1, 4, 5, 7, 41] _ rfl ?_
   exact J181 ⟨h160, false, HF, rfl, S163, Hle.refl _, ob188, ob189, ob190⟩
  have ob264 := ((ob82.step0 s88).step1 s97 ne90)
  have ob265 := ((ob84.step0 s88).step1 s97 ne91)
  exact ⟨h71, r68.2, r68.1.op, r68.1.kind, r68.1.n, r68.1.s, r68.1.f, r68.1.args, v94, HF, rfl, S99, Hle.refl _, (rs95.mono (s97.le)), ob264, ob265, ob98⟩
 intro J266
 refine Zc <| Z0 <| Wm rfl rfl ?_
 obtain ⟨A20, c21, rfl, rs22⟩ := RS.form (rs10.mono (s15.le))
 refine Wv rfl (Z1i rfl Zfv) <| Wv rfl (Z1g rfl rfl) <| Z6 <| Z4 <| Z15 HF rfl (fun HF => ?_) (fun HF => ?_)
 ·refine Zc <| Z0 <| Wm rfl rfl ?_
  have ob24 := (ob7.step0 s15)
  obtain ⟨r25, hr26, HF⟩ := Z5 HF
  rcases r25 with t27 | r28
  ·obtain rfl := Z02 HF
   refine Z0h rfl (Zd (vs := [pt b1 0]) rfl t_ent_138) ((IH _ (Nat.le_refl _)).2.2.2 hr26 S19.sub (rs5.mono (s15.le)) ob24) ?_
   rintro ch34 w35 ⟨ht36, h37, s38, ob33⟩
   refine Ze <| Ze <| Zs ?_
   have S39 := S19.trans s38 (Zl (.inl (by simp)) Zt)
   exact ⟨_, rfl, ht36, h37, S39, ob33⟩
  replace HF := Z0i HF
  refine Wc rfl (Zd (vs := [pt b1 0]) rfl t_ent_138) ((IH _ (Nat.le_refl _)).2.2.2 hr26 S19.sub (rs5.mono (s15.le)) ob24) ?_
  rintro _ w30 ⟨h31, s32, ⟨cs40, rfl, r41⟩, ob42⟩
  have S43 := S19.trans s32 (Zl (.inl (by simp)) Zt)
  have ob44 := (ob16.step1 s32 (Ne.symm ne17))
  obtain ⟨v45, rfl, rs46⟩ := Zab.1 r41
  refine Zr (vs := [vi r28.1.op, vi r28.1.kind, vi r28.1.n, .string r28.1.s, .string r28.1.f, v45]) rfl rfl rfl rfl Z0l (Z3 rfl (Z3 rfl (Z3 rfl (Z3 rfl (Z3 rfl (Z3 (RS.one rs46) Zx)))))) ob44 S43.sub (by simp) (ds := [vi r28.1.op, vi r28.1.kind, vi r28.1.n, .string r28.1.s, .string r28.1.f, v45]) rfl (fun w47 s48 ob49 => ?_)
  have S50 := S43.trans1 s48 (.inr g18)
  refine Z6 <| Z4 <| Z0b <| Zv ?_
  have ob51 := (ob42.step1 s48 ne17)
  refine Z5k rfl rfl (Z0x (cs := [vi r28.1.op, vi r28.1.kind, vi r28.1.n, .string r28.1.s, .string r28.1.f, v45]) Z54 Z0l (OB.cells ob49 0 rfl)) ?_
  obtain rfl := Option.some.inj HF
  exact ⟨_, rfl, h31, S50, ⟨_, rfl, (Zab.2 ⟨_, rfl, (rs46.mono (s48.le))⟩)⟩, ob51⟩
 refine Zq ?_
 have ob267 := (ob7.step0 s15)
 refine Z01 [0, 1, 4] _ rfl ?_
 exact J266 ⟨h0, HF, rfl, S19, Hle.refl _, ob267, ob16⟩
theorem s_parse_Parser_named (k : Nat) (IH : ∀ j, j ≤ k → Z3n (Zo j).parse_Parser_Expr ∧ Z42 (Zo j).parse_Parser_level ∧ Z46 (Zo j).parse_Parser_named ∧ Z3z (Zo j).parse_Parser_unary) : Z46 (Zdu k (Zo k)) := by
 intro xs3 x6 r HF w0 h0 b1 T2 v4 hs0 rs5 ob7
 have S0 : Stp [b1] w0 h0 w0 h0 := Stp.refl hs0 _
 have lt8 : b1 < w0.heap.size := OB.lt ob7
 refine Z4o (n := 57) Tryz.func174 rfl Tryz.ntmps174 rfl [(0, pt b1 0)] rfl <| Zc <| Z0 <| Z19 (zs := [vi 0, vi 0, vi 0, .string Z1e, .string Z1e, .slice none 0 0]) rfl rfl Z1w rfl S0.sub (fun w9 b10 hb11 s12 ob13 => ?_)
 have ne14 : b1 ≠ b10 := ob7.ne_new hb11
 have g15 : w0.heap.size ≤ b10 := by rw [hb11]; exact S0.size
 have S16 := S0.trans0 s12
 refine Z6 <| Z4 <| Zc <| Z0 <| Wm rfl rfl ?_
 have ob17 := (ob7.step0 s12)
 obtain ⟨r18, hr19, HF⟩ := Z5 HF
 rcases r18 with t20 | r21
 ·obtain rfl := Z02 HF
  refine Z0h rfl (Zd (vs := [pt b1 0]) rfl Zbw) (Z26 _ hr19 S16.sub (rs5.mono (s12.le)) ob17) ?_
  rintro ch27 w28 ⟨ht29, h30, s31, ob26⟩
  refine Ze <| Zs ?_
  have S32 := S16.trans s31 (Zl (.inl (by simp)) Zt)
  exact ⟨_, rfl, ht29, h30, S32, ob26⟩
 replace HF := Z0i HF
 refine Wc rfl (Zd (vs := [pt b1 0]) rfl Zbw) (Z26 _ hr19 S16.sub (rs5.mono (s12.le)) ob17) ?_
 rintro _ w23 ⟨h24, s25, rfl, ob33⟩
 have S34 := S16.trans s25 (Zl (.inl (by simp)) Zt)
 refine Wv rfl (Z3b (vs := [(0, vi 2), (3, .string r21.1)]) (cs := [vi 2, vi 0, vi 0, .string r21.1, .string Z1e, .slice none 0 0]) rfl Za3 Z1w rfl) ?_
 have ob35 := (ob13.step1 s25 (Ne.symm ne14))
 refine Z19 (zs := [vi 0, vi 0, vi 0, .string Z1e, .string Z1e, .slice none 0 0]) rfl rfl Z1w rfl S34.sub (fun w36 b37 hb38 s39 ob40 => ?_)
 have ne41 : b1 ≠ b37 := ob33.ne_new hb38
 have ne42 : b10 ≠ b37 := ob35.ne_new hb38
 have g43 : w0.heap.size ≤ b37 := by rw [hb38]; exact S34.size
 have S44 := S34.trans0 s39
 refine Zr (vs := [vi 2, vi 0, vi 0, .string r21.1, .string Z1e, .slice none 0 0]) rfl rfl rfl rfl Z0l (Z3 rfl (Z3 rfl (Z3 rfl (Z3 rfl (Z3 rfl (Z3 rfl Zx)))))) ob40 S44.sub (by simp) (ds := [vi 2, vi 0, vi 0, .string r21.1, .string Z1e, .slice none 0 0]) rfl (fun w45 s46 ob47 => ?_)
 have S48 := S44.trans1 s46 (.inr g43)
 refine Z6 <| Z4 <| Z09 (fun E w381 => ∃ (q394 : Nat) (h380 : Hp) (x384 : Int) (x387 : Int) (x388 : ByteArray) (xs389 : List Ex) (v390 : Value), q394 ≤ k ∧ Z4z q394 (Zo q394) r21 x384 x387 x388 xs389 = some r ∧ E = [(2, pt b10 0), (3, pt b37 0)] ∧ Stp [b1] w0 h0 w381 h380 ∧ Hle h24 h380 ∧ RS h380 v390 xs389 ∧ Own w381 h380 w0.heap.size 47 6 v390 xs389.length ∧ OB w381 h380 b1 T2 [v4, vi x384] ∧ OB w381 h380 b10 47 [vi 0, vi 0, vi 0, .string Z1e, .string Z1e, .slice none 0 0] ∧ OB w381 h380 b37 47 [vi x387, vi 0, vi 0, .string r21.1, .string x388, v390]) ?_ ?_
 ·rintro E w381 ⟨q394, h380, x384, x387, x388, xs389, v390, hq395, HF, rfl, S383, le382, rs391, ow392, ob385, ob386, ob393⟩
  refine Zc <| Z0 <| Wv rfl (Z2t (cs := [vi x387, vi 0, vi 0, .string r21.1, .string x388, v390]) rfl Z54 Z0l (OB.cells ob393 0 rfl)) <| Zr (vs := [vi x387, vi 0, vi 0, .string r21.1, .string x388, v390]) rfl rfl rfl rfl Z0l (Z3 rfl (Z3 rfl (Z3 rfl (Z3 rfl (Z3 rfl (Z3 (RS.one rs391) Zx)))))) ob386 S383.sub (by simp) (ds := [vi x387, vi 0, vi 0, .string r21.1, .string x388, v390]) rfl (fun w396 s397 ob398 => ?_)
  have S399 := S383.trans1 s397 (.inr g15)
  refine Z6 <| Z4 <| Z0b ?_
  have ob400 := (ob385.step1 s397 ne14)
  refine Z5k rfl rfl (Z0x (cs := [vi x387, vi 0, vi 0, .string r21.1, .string x388, v390]) Z54 Z0l (OB.cells ob398 0 rfl)) ?_
  obtain rfl := Option.some.inj HF
  exact ⟨_, rfl, h380, S399, ⟨_, rfl, (Zab.2 ⟨_, rfl, (rs391.mono (s397.le))⟩)⟩, ob400⟩
 intro J401
 refine Z0r <| Zc <| Z0 <| Wm rfl rfl ?_
 have ob49 := ((ob33.step0 s39).step1 s46 ne41)
 obtain ⟨r50, hr51, HF⟩ := Z5 HF
 refine Wc rfl (Zd (vs := [pt b1 0, .string b'85]) rfl Z53) (Z0p _ hr51 S48.sub (rs5.mono ((s12.le).trans ((s25.le).trans ((s39.le).trans s46.le)))) ob49) ?_
 rintro _ w53 ⟨h54, s55, rfl, ob56⟩
 have S57 := S48.trans s55 (Zl (.inl (by simp)) Zt)
 refine Wa rfl rfl <| Z6 <| Z4 <| Z15 HF rfl (fun HF => ?_) (fun HF => ?_)
 ·refine Zc <| Z0 <| Wv rfl (Z1 rfl Z34) ?_
  have ob59 := (ob47.step1 s55 (Ne.symm ne41))
  refine Zr (vs := [vi 3]) rfl rfl rfl rfl Z1s (Z3 rfl Zx) ob59 S57.sub (by simp) (ds := [vi 3, vi 0, vi 0, .string r21.1, .string Z1e, .slice none 0 0]) rfl (fun w60 s61 ob62 => ?_)
  have S63 := S57.trans1 s61 (.inr g43)
  refine Z6 <| Z4 <| Z0 <| Wm rfl rfl ?_
  have ob64 := (ob56.step1 s61 ne41)
  obtain ⟨r65, hr66, HF⟩ := Z5 HF
  rcases r65 with t67 | r68
  ·obtain rfl := Z02 HF
   refine Z0h rfl (Zd (vs := [pt b1 0]) rfl Zbw) (Z26 _ hr66 S63.sub (rs5.mono ((s12.le).trans ((s25.le).trans ((s39.le).trans ((s46.le).trans ((s55.le).trans s61.le)))))) ob64) ?_
   rintro ch74 w75 ⟨ht76, h77, s78, ob73⟩
   refine Zu <| Ze <| Zs ?_
   have S79 := S63.trans s78 (Zl (.inl (by simp)) Zt)
   exact ⟨_, rfl, ht76, h77, S79, ob73⟩
  replace HF := Z0i HF
  refine Wc rfl (Zd (vs := [pt b1 0]) rfl Zbw) (Z26 _ hr66 S63.sub (rs5.mono ((s12.le).trans ((s25.le).trans ((s39.le).trans ((s46.le).trans ((s55.le).trans s61.le)))))) ob64) ?_
  rintro _ w70 ⟨h71, s72, rfl, ob80⟩
  have S81 := S63.trans s72 (Zl (.inl (by simp)) Zt)
  refine Wv rfl (Z1 rfl Zdz) ?_
  have ob82 := (ob62.step1 s72 (Ne.symm ne41))
  refine Zr (vs := [.string r68.1]) rfl rfl rfl rfl t_size_9 (Z3 rfl Zx) ob82 S81.sub (by simp) (ds := [vi 3, vi 0, vi 0, .string r21.1, .string r68.1, .slice none 0 0]) rfl (fun w83 s84 ob85 => ?_)
  have S86 := S81.trans1 s84 (.inr g43)
  refine Z6 <| Zy ?_
  have ob402 := (ob80.step1 s84 ne41)
  have ob403 := ((((((ob35.step0 s39).step1 s46 ne42).step1 s55 (Ne.symm ne14)).step1 s61 ne42).step1 s72 (Ne.symm ne14)).step1 s84 ne42)
  refine Z01 [2, 3] _ rfl ?_
  exact J401 ⟨k, h71, r68.2, 3, r68.1, ([] : List Ex), .slice none 0 0, (Nat.le_refl _), HF, rfl, S86, (s55.le).trans ((s61.le).trans ((s72.le).trans s84.le)), (RS.nil _), (Own.nil _ _ _ _ _), ob402, ob403, ob85⟩
 refine Zc <| Z0 <| Wm rfl rfl ?_
 obtain ⟨r87, hr88, HF⟩ := Z5 HF
 refine Wc rfl (Zd (vs := [pt b1 0, .string b'96]) rfl Z53) (Z0p _ hr88 S57.sub (rs5.mono ((s12.le).trans ((s25.le).trans ((s39.le).trans ((s46.le).trans s55.le))))) ob56) ?_
 rintro _ w90 ⟨h91, s92, rfl, ob93⟩
 have S94 := S57.trans s92 (Zl (.inl (by simp)) Zt)
 refine Wa rfl rfl <| Z6 <| Z4 <| Z15 HF rfl (fun HF => ?_) (fun HF => ?_)
 ·refine Zc <| Z0 <| Wv rfl (Z1 rfl Z34) ?_
  have ob96 := ((ob47.step1 s55 (Ne.symm ne41)).step1 s92 (Ne.symm ne41))
  refine Zr (vs := [vi 4]) rfl rfl rfl rfl Z1s (Z3 rfl Zx) ob96 S94.sub (by simp) (ds := [vi 4, vi 0, vi 0, .string r21.1, .string Z1e, .slice none 0 0]) rfl (fun w97 s98 ob99 => ?_)
  have S100 := S94.trans1 s98 (.inr g43)
  refine Z6 <| Z4 <| Zc <| Z0 <| Wm rfl rfl ?_
  have ob101 := (ob93.step1 s98 ne41)
  obtain ⟨r102, hr103, HF⟩ := Z5 HF
  rcases r102 with t104 | r105
  ·obtain rfl := Z02 HF
   refine Z0h rfl (Zd (vs := [pt b1 0]) rfl Z3l) ((IH _ (Nat.le_refl _)).1 hr103 S100.sub (rs5.mono ((s12.le).trans ((s25.le).trans ((s39.le).trans ((s46.le).trans ((s55.le).trans ((s92.le).trans s98.le))))))) ob101) ?_
   rintro ch111 w112 ⟨ht113, h114, s115, ob110⟩
   refine Ze <| Zu <| Ze <| Zs ?_
   have S116 := S100.trans s115 (Zl (.inl (by simp)) Zt)
   exact ⟨_, rfl, ht113, h114, S116, ob110⟩
  replace HF := Z0i HF
  refine Wc rfl (Zd (vs := [pt b1 0]) rfl Z3l) ((IH _ (Nat.le_refl _)).1 hr103 S100.sub (rs5.mono ((s12.le).trans ((s25.le).trans ((s39.le).trans ((s46.le).trans ((s55.le).trans ((s92.le).trans s98.le))))))) ob101) ?_
  rintro _ w107 ⟨h108, s109, ⟨cs117, rfl, r118⟩, ob119⟩
  have S120 := S100.trans s109 (Zl (.inl (by simp)) Zt)
  obtain ⟨v121, rfl, rs122⟩ := Zab.1 r118
  have ob130 := ((((((ob35.step0 s39).step1 s46 ne42).step1 s55 (Ne.symm ne14)).step1 s92 (Ne.symm ne14)).step1 s98 ne42).step1 s109 (Ne.symm ne14))
  have ob131 := (ob99.step1 s109 (Ne.symm ne41))
  refine Z10 (us := [.agg #[vi r105.1.op, vi r105.1.kind, vi r105.1.n, .string r105.1.s, .string r105.1.f, v121]]) (cs := [vi r105.1.op, vi r105.1.kind, vi r105.1.n, .string r105.1.s, .string r105.1.f, v121]) rfl rfl rfl Z0v Z0l Z1w rfl (Z0c rfl Zci) rfl rfl rfl S120.sub (fun w123 h124 b125 hb126 s127 hk128 hc129 => ?_)
  have S132 := S120.trans0 s127
  have rs133 : RS h124 (sl b125 0 1 1) ([r105.1] : List Ex) := RS.litL _ [[vi r105.1.op, vi r105.1.kind, vi r105.1.n, .string r105.1.s, .string r105.1.f, v121]] rfl rfl hc129 ⟨(Zab.2 ⟨_, rfl, (rs122.mono (s127.le))⟩), trivial⟩
  have ow134 := Own.lit (base := w0.heap.size) (sz := 6) (m := 1) hk128 hc129 (by rw [hb126]; exact S120.size) rfl (by decide)
  refine Wv rfl (Z1 rfl Z5i) ?_
  have ob135 := (ob131.step0 s127)
  refine Zr (vs := [sl b125 0 1 1]) rfl rfl rfl rfl Zdc (Z3 rfl Zx) ob135 S132.sub (by simp) (ds := [vi 4, vi 0, vi 0, .string r21.1, .string Z1e, sl b125 0 1 1]) rfl (fun w136 s137 ob138 => ?_)
  have S139 := S132.trans1 s137 (.inr g43)
  refine Z6 <| Z4 <| Z0 <| Wm rfl rfl ?_
  have ob140 := ((ob119.step0 s127).step1 s137 ne41)
  obtain ⟨r141, hr142, HF⟩ := Z5 HF
  rcases r141 with t143 | r144
  ·obtain rfl := Z02 HF
   have ob149 := ((ob130.step0 s127).step1 s137 ne42)
   refine Z0h rfl (Zd (vs := [pt b1 0, .string b'97]) rfl Z20) (Zn _ hr142 S139.sub (rs5.mono ((s12.le).trans ((s25.le).trans ((s39.le).trans ((s46.le).trans ((s55.le).trans ((s92.le).trans ((s98.le).trans ((s109.le).trans ((s127.le).trans s137.le)))))))))) ob140) ?_
   rintro ch151 w152 ⟨ht153, h154, s155, ob150⟩
   refine Zu <| Ze <| Zs ?_
   have S156 := S139.trans s155 (Zl (.inl (by simp)) Zt)
   exact ⟨_, rfl, ht153, h154, S156, ob150⟩
  replace HF := Z0i HF
  refine Wc rfl (Zd (vs := [pt b1 0, .string b'97]) rfl Z20) (Zn _ hr142 S139.sub (rs5.mono ((s12.le).trans ((s25.le).trans ((s39.le).trans ((s46.le).trans ((s55.le).trans ((s92.le).trans ((s98.le).trans ((s109.le).trans ((s127.le).trans s137.le)))))))))) ob140) ?_
  have ob157 := ((ob130.step0 s127).step1 s137 ne42)
  rintro v145 w146 ⟨h147, s148, rfl, ob158⟩
  have S159 := S139.trans s148 (Zl (.inl (by simp)) Zt)
  refine Z6 <| Zy ?_
  have ob404 := (ob157.step1 s148 (Ne.symm ne14))
  have ob405 := (ob138.step1 s148 (Ne.symm ne41))
  refine Z01 [2, 3] _ rfl ?_
  exact J401 ⟨k, h147, r144, 4, Z1e, [r105.1], sl b125 0 1 1, (Nat.le_refl _), HF, rfl, S159, (s55.le).trans ((s92.le).trans ((s98.le).trans ((s109.le).trans ((s127.le).trans ((s137.le).trans s148.le))))), (rs133.mono ((s137.le).trans s148.le)), ((ow134.step s137 (Z2 (ow134.ne_obS1 rs133 ob135) Z9)).step s148 (Z2 ((ow134.step s137 (Z2 (ow134.ne_obS1 rs133 ob135) Z9)).ne_old lt8) Z9)), ob158, ob404, ob405⟩
 refine Zc <| Z0 <| Wm rfl rfl ?_
 obtain ⟨r160, hr161, HF⟩ := Z5 HF
 refine Wc rfl (Zd (vs := [pt b1 0, .string b'79]) rfl Z53) (Z0p _ hr161 S94.sub (rs5.mono ((s12.le).trans ((s25.le).trans ((s39.le).trans ((s46.le).trans ((s55.le).trans s92.le)))))) ob93) ?_
 rintro _ w163 ⟨h164, s165, rfl, ob166⟩
 have S167 := S94.trans s165 (Zl (.inl (by simp)) Zt)
 refine Wa rfl rfl <| Z6 <| Z4 <| Z15 HF rfl (fun HF => ?_) (fun HF => ?_)
 ·refine Zc <| Z0 <| Wv rfl (Z1 rfl Z34) ?_
  have ob169 := (((ob47.step1 s55 (Ne.symm ne41)).step1 s92 (Ne.symm ne41)).step1 s165 (Ne.symm ne41))
  refine Zr (vs := [vi 5]) rfl rfl rfl rfl Z1s (Z3 rfl Zx) ob169 S167.sub (by simp) (ds := [vi 5, vi 0, vi 0, .string r21.1, .string Z1e, .slice none 0 0]) rfl (fun w170 s171 ob172 => ?_)
  have S173 := S167.trans1 s171 (.inr g43)
  refine Z6 <| Z4 <| Z0r <| Z5v <| Z99 [0, 2, 3] [(0, pt b1 0), (2, pt b10 0), (3, pt b37 0)] rfl <| Z5u (K := k) (fun j E w175 => ∃ (h174 : Hp) (x178 : Int) (xs181 : List Ex) (v182 : Value), (Zo j).parse_Parser_named_l1 xs3 r21 x178 xs181 = some r ∧ E = [(0, pt b1 0), (2, pt b10 0), (3, pt b37 0)] ∧ Stp [b1] w0 h0 w175 h174 ∧ Hle h164 h174 ∧ RS h174 v182 xs181 ∧ Own w175 h174 w0.heap.size 47 6 v182 xs181.length ∧ OB w175 h174 b1 T2 [v4, vi x178] ∧ OB w175 h174 b10 47 [vi 0, vi 0, vi 0, .string Z1e, .string Z1e, .slice none 0 0] ∧ OB w175 h174 b37 47 [vi 5, vi 0, vi 0, .string r21.1, .string Z1e, v182]) ?_ ?_ (j := k) (Nat.le_refl _) ?_
  ·rintro E w175 ⟨_, _, _, _, HF, _⟩; cases HF
  ·rintro j186 hj188 IHL187 E w175 ⟨h174, x178, xs181, v182, HF, rfl, S177, le176, rs183, ow184, ob179, ob180, ob185⟩
   refine Z09 (fun E w199 => ∃ (h198 : Hp) (x202 : Int) (xs205 : List Ex) (v206 : Value), Zcs j186 (Zo j186) xs3 r21 x202 xs205 = some r ∧ E = [(0, pt b1 0), (2, pt b10 0), (3, pt b37 0)] ∧ Stp [b1] w0 h0 w199 h198 ∧ Hle h174 h198 ∧ RS h198 v206 xs205 ∧ Own w199 h198 w0.heap.size 47 6 v206 xs205.length ∧ OB w199 h198 b1 T2 [v4, vi x202] ∧ OB w199 h198 b10 47 [vi 0, vi 0, vi 0, .string Z1e, .string Z1e, .slice none 0 0] ∧ OB w199 h198 b37 47 [vi 5, vi 0, vi 0, .string r21.1, .string Z1e, v206]) ?_ ?_
   ·rintro E w199 ⟨h198, x202, xs205, v206, HF, rfl, S201, le200, rs207, ow208, ob203, ob204, ob209⟩
    refine Z0r <| Z09 (fun E w232 => ∃ (h231 : Hp) (x235 : Int) (xs238 : List Ex) (v239 : Value), Z97 j186 (Zo j186) xs3 r21 x235 xs238 = some r ∧ E = [(0, pt b1 0), (2, pt b10 0), (3, pt b37 0)] ∧ Stp [b1] w0 h0 w232 h231 ∧ Hle h198 h231 ∧ RS h231 v239 xs238 ∧ Own w232 h231 w0.heap.size 47 6 v239 xs238.length ∧ OB w232 h231 b1 T2 [v4, vi x235] ∧ OB w232 h231 b10 47 [vi 0, vi 0, vi 0, .string Z1e, .string Z1e, .slice none 0 0] ∧ OB w232 h231 b37 47 [vi 5, vi 0, vi 0, .string r21.1, .string Z1e, v239]) ?_ ?_
    ·rintro E w232 ⟨h231, x235, xs238, v239, HF, rfl, S234, le233, rs240, ow241, ob236, ob237, ob242⟩
     refine Zc <| Z0 <| Wm rfl rfl ?_
     obtain ⟨r243, hr244, HF⟩ := Z5 HF
     rcases r243 with t245 | r246
     ·obtain rfl := Z02 HF
      refine Z0h rfl (Zd (vs := [pt b1 0]) rfl Z3l) ((IH _ (Nat.le_trans (Nat.le_of_succ_le hj188) (Nat.le_refl _))).1 hr244 S234.sub (rs5.mono ((s12.le).trans ((s25.le).trans ((s39.le).trans ((s46.le).trans ((s55.le).trans ((s92.le).trans ((s165.le).trans ((s171.le).trans ((le176).trans ((le200).trans le233))))))))))) ob236) ?_
      rintro ch252 w253 ⟨ht254, h255, s256, ob251⟩
      refine Ze <| Zu <| Ze <| Zu <| Zu <| Ze <| Zs ?_
      have S257 := S234.trans s256 (Zl (.inl (by simp)) Zt)
      exact ⟨_, rfl, ht254, h255, S257, ob251⟩
     replace HF := Z0i HF
     refine Wc rfl (Zd (vs := [pt b1 0]) rfl Z3l) ((IH _ (Nat.le_trans (Nat.le_of_succ_le hj188) (Nat.le_refl _))).1 hr244 S234.sub (rs5.mono ((s12.le).trans ((s25.le).trans ((s39.le).trans ((s46.le).trans ((s55.le).trans ((s92.le).trans ((s165.le).trans ((s171.le).trans ((le176).trans ((le200).trans le233))))))))))) ob236) ?_
     rintro _ w248 ⟨h249, s250, ⟨cs258, rfl, r259⟩, ob260⟩
     have S261 := S234.trans s250 (Zl (.inl (by simp)) Zt)
     have ob262 := (ob237.step1 s250 (Ne.symm ne14))
     have ob263 := (ob242.step1 s250 (Ne.symm ne41))
     refine Z19 (zs := [vi 0, vi 0, vi 0, .string Z1e, .string Z1e, .slice none 0 0]) rfl rfl Z1w rfl S261.sub (fun w264 b265 hb266 s267 ob268 => ?_)
     have ne269 : b1 ≠ b265 := ob260.ne_new hb266
     have ne270 : b10 ≠ b265 := ob262.ne_new hb266
     have ne271 : b37 ≠ b265 := ob263.ne_new hb266
     have g272 : w0.heap.size ≤ b265 := by rw [hb266]; exact S261.size
     have S273 := S261.trans0 s267
     obtain ⟨v274, rfl, rs275⟩ := Zab.1 (Rp.mono (s267.le) r259)
     refine Zr (vs := [vi r246.1.op, vi r246.1.kind, vi r246.1.n, .string r246.1.s, .string r246.1.f, v274]) rfl rfl rfl rfl Z0l (Z3 rfl (Z3 rfl (Z3 rfl (Z3 rfl (Z3 rfl (Z3 (RS.one rs275) Zx)))))) ob268 S273.sub (by simp) (ds := [vi r246.1.op, vi r246.1.kind, vi r246.1.n, .string r246.1.s, .string r246.1.f, v274]) rfl (fun w276 s277 ob278 => ?_)
     have S279 := S273.trans1 s277 (.inr g272)
     refine Z6 <| Z4 <| Zc <| Z0 <| Wv rfl (Z1 rfl Z5i) ?_
     have ob280 := ((ob263.step0 s267).step1 s277 ne271)
     refine Wv rfl (Zb rfl Z31 (OB.cell ob280 (j := 5) rfl)) <| Wv rfl (Z2t (cs := [vi r246.1.op, vi r246.1.kind, vi r246.1.n, .string r246.1.s, .string r246.1.f, v274]) rfl Z54 Z0l (OB.cells ob278 0 rfl)) ?_
     have ob288 := ((ob260.step0 s267).step1 s277 ne269)
     have ob289 := ((ob262.step0 s267).step1 s277 ne270)
     refine Z10 (us := [.agg #[vi r246.1.op, vi r246.1.kind, vi r246.1.n, .string r246.1.s, .string r246.1.f, v274]]) (cs := [vi r246.1.op, vi r246.1.kind, vi r246.1.n, .string r246.1.s, .string r246.1.f, v274]) rfl rfl rfl Z0v Z0l Z1w rfl (Z0c rfl Zci) rfl rfl rfl S279.sub (fun w281 h282 b283 hb284 s285 hk286 hc287 => ?_)
     have S290 := S279.trans0 s285
     have rs291 : RS h282 (sl b283 0 1 1) ([(Ex.mk r246.1.op r246.1.kind r246.1.n r246.1.s r246.1.f r246.1.args)] : List Ex) := RS.litL _ [[vi r246.1.op, vi r246.1.kind, vi r246.1.n, .string r246.1.s, .string r246.1.f, v274]] rfl rfl hc287 ⟨(Zab.2 ⟨_, rfl, (rs275.mono ((s277.le).trans s285.le))⟩), trivial⟩
     have ow292 := Own.lit (base := w0.heap.size) (sz := 6) (m := 1) hk286 hc287 (by rw [hb284]; exact S279.size) rfl (by decide)
     obtain ⟨hl293, HF⟩ := Ze7 HF
     have ob301 := (ob288.step0 s285)
     have ob302 := (ob289.step0 s285)
     have ob303 := (ob280.step0 s285)
     have ob304 := (ob278.step0 s285)
     refine Zeu (xs := (xs238 : List Ex)) (ys := [(Ex.mk r246.1.op r246.1.kind r246.1.n r246.1.s r246.1.f r246.1.args)]) rfl rfl rfl rfl Z0v Z0l Z1w rfl t_bytes_47 rfl ((((ow241.step s250 (Z2 (ow241.ne_old lt8) Z9)).step0 s267).step s277 (Z2 (((ow241.step s250 (Z2 (ow241.ne_old lt8) Z9)).step0 s267).ne_obS1 (rs240.mono ((s250.le).trans s267.le)) ob268) Z9)).step0 s285) (rs240.mono ((s250.le).trans ((s267.le).trans ((s277.le).trans s285.le)))) rs291 hl293 S290.sub S290.size (by rw [S290.eqb]; exact hs0.big) (fun v294 w295 h296 rs297 ow298 s299 at300 => ?_)
     have S305 := S290.trans s299 (fun i hi => .inr (((((ow241.step s250 (Z2 (ow241.ne_old lt8) Z9)).step0 s267).step s277 (Z2 (((ow241.step s250 (Z2 (ow241.ne_old lt8) Z9)).step0 s267).ne_obS1 (rs240.mono ((s250.le).trans s267.le)) ob268) Z9)).step0 s285).base_le i hi))
     refine Wv rfl (Z1 rfl Z5i) ?_
     have ob306 := (ob303.step s299 (fun hm => ((((ow241.step s250 (Z2 (ow241.ne_old lt8) Z9)).step0 s267).step s277 (Z2 (((ow241.step s250 (Z2 (ow241.ne_old lt8) Z9)).step0 s267).ne_obS1 (rs240.mono ((s250.le).trans s267.le)) ob268) Z9)).step0 s285).ne_obS (rs240.mono ((s250.le).trans ((s267.le).trans ((s277.le).trans s285.le)))) ob303 _ hm rfl))
     refine Zr (vs := [v294]) rfl rfl rfl (RS.cellsL rs297) Zdc (Z3 (RS.one rs297) Zx) ob306 S305.sub (by simp) (ds := [vi 5, vi 0, vi 0, .string r21.1, .string Z1e, v294]) rfl (fun w307 s308 ob309 => ?_)
     have S310 := S305.trans1 s308 (.inr g43)
     refine Z6 <| Z4 <| Z09 (fun E w334 => ∃ (h333 : Hp) (x337 : Bool) (xs340 : List Ex) (v341 : Value), Z95 j186 (Zo j186) xs3 r21 r246 x337 xs340 = some r ∧ E = [(0, pt b1 0), (2, pt b10 0), (3, pt b37 0), (53, .bool x337)] ∧ Stp [b1] w0 h0 w334 h333 ∧ Hle h296 h333 ∧ RS h333 v341 xs340 ∧ Own w334 h333 w0.heap.size 47 6 v341 xs340.length ∧ OB w334 h333 b1 T2 [v4, vi r246.2] ∧ OB w334 h333 b10 47 [vi 0, vi 0, vi 0, .string Z1e, .string Z1e, .slice none 0 0] ∧ OB w334 h333 b37 47 [vi 5, vi 0, vi 0, .string r21.1, .string Z1e, v341]) ?_ ?_
     ·rintro E w334 ⟨h333, x337, xs340, v341, HF, rfl, S336, le335, rs342, ow343, ob338, ob339, ob344⟩
      refine Z15 HF rfl (fun HF => ?_) (fun HF => ?_)
      ·refine Z0 <| Wm rfl rfl ?_
       obtain ⟨r346, hr347, HF⟩ := Z5 HF
       rcases r346 with t348 | r349
       ·obtain rfl := Z02 HF
        refine Z0h rfl (Zd (vs := [pt b1 0]) rfl Z9l) (Z1o _ hr347 S336.sub (rs5.mono ((s12.le).trans ((s25.le).trans ((s39.le).trans ((s46.le).trans ((s55.le).trans ((s92.le).trans ((s165.le).trans ((s171.le).trans ((le176).trans ((le200).trans ((le233).trans ((s250.le).trans ((s267.le).trans ((s277.le).trans ((s285.le).trans ((s299.le).trans ((s308.le).trans le335)))))))))))))))))) ob338) ?_
        rintro ch354 w355 ⟨ht356, h357, s358⟩
        refine Zu <| Ze <| Zu <| Zu <| Ze <| Zs ?_
        have S359 := S336.trans0 s358
        have ob360 := (ob338.step0 s358)
        exact ⟨_, rfl, ht356, h357, S359, ob360⟩
       replace HF := Z0i HF
       refine Wc rfl (Zd (vs := [pt b1 0]) rfl Z9l) (Z1o _ hr347 S336.sub (rs5.mono ((s12.le).trans ((s25.le).trans ((s39.le).trans ((s46.le).trans ((s55.le).trans ((s92.le).trans ((s165.le).trans ((s171.le).trans ((le176).trans ((le200).trans ((le233).trans ((s250.le).trans ((s267.le).trans ((s277.le).trans ((s285.le).trans ((s299.le).trans ((s308.le).trans le335)))))))))))))))))) ob338) ?_
       rintro v350 w351 ⟨h352, s353, rfl⟩
       have S361 := S336.trans0 s353
       refine Z6 <| Zy ?_
       have ob375 := (ob338.step0 s353)
       have ob376 := (ob339.step0 s353)
       have ob377 := (ob344.step0 s353)
       refine Z2p <| Z99 [0, 2, 3] [(0, pt b1 0), (2, pt b10 0), (3, pt b37 0)] rfl ?_
       exact IHL187 j186 (Nat.le_refl _) _ _ ⟨h352, r246.2, xs340, v341, HF, rfl, S361, (le176).trans ((le200).trans ((le233).trans ((s250.le).trans ((s267.le).trans ((s277.le).trans ((s285.le).trans ((s299.le).trans ((s308.le).trans ((le335).trans s353.le))))))))), (rs342.mono (s353.le)), (ow343.step0 s353), ob375, ob376, ob377⟩
      refine Zq <| Zy <| Z2p <| Z99 [0, 2, 3] [(0, pt b1 0), (2, pt b10 0), (3, pt b37 0)] rfl ?_
      exact IHL187 j186 (Nat.le_refl _) _ _ ⟨h333, r246.2, xs340, v341, HF, rfl, S336, (le176).trans ((le200).trans ((le233).trans ((s250.le).trans ((s267.le).trans ((s277.le).trans ((s285.le).trans ((s299.le).trans ((s308.le).trans le335)))))))), rs342, ow343, ob338, ob339, ob344⟩
     intro J362
     refine Z0 <| Wm rfl rfl ?_
     have ob311 := ((ob301.step s299 (fun hm => absurd (((((ow241.step s250 (Z2 (ow241.ne_old lt8) Z9)).step0 s267).step s277 (Z2 (((ow241.step s250 (Z2 (ow241.ne_old lt8) Z9)).step0 s267).ne_obS1 (rs240.mono ((s250.le).trans s267.le)) ob268) Z9)).step0 s285).base_le _ hm) (Nat.not_le.2 lt8))).step1 s308 ne41)
     obtain ⟨r312, hr313, HF⟩ := Z5 HF
     refine Wc rfl (Zd (vs := [pt b1 0, .string b'83]) rfl t_ent_157) (Z59 _ hr313 S310.sub (rs5.mono ((s12.le).trans ((s25.le).trans ((s39.le).trans ((s46.le).trans ((s55.le).trans ((s92.le).trans ((s165.le).trans ((s171.le).trans ((le176).trans ((le200).trans ((le233).trans ((s250.le).trans ((s267.le).trans ((s277.le).trans ((s285.le).trans ((s299.le).trans s308.le))))))))))))))))) ob311) ?_
     have ob318 := ((ob302.step s299 (fun hm => ((((ow241.step s250 (Z2 (ow241.ne_old lt8) Z9)).step0 s267).step s277 (Z2 (((ow241.step s250 (Z2 (ow241.ne_old lt8) Z9)).step0 s267).ne_obS1 (rs240.mono ((s250.le).trans s267.le)) ob268) Z9)).step0 s285).ne_obS (rs240.mono ((s250.le).trans ((s267.le).trans ((s277.le).trans s285.le)))) ob302 _ hm rfl)).step1 s308 ne42)
     have ob319 := ((ob304.step s299 (fun hm => ((((ow241.step s250 (Z2 (ow241.ne_old lt8) Z9)).step0 s267).step s277 (Z2 (((ow241.step s250 (Z2 (ow241.ne_old lt8) Z9)).step0 s267).ne_obS1 (rs240.mono ((s250.le).trans s267.le)) ob268) Z9)).step0 s285).ne_obS (rs240.mono ((s250.le).trans ((s267.le).trans ((s277.le).trans s285.le)))) ob304 _ hm rfl)).step1 s308 (Ne.symm ne271))
     rintro _ w315 ⟨h316, s317, rfl⟩
     have S320 := S310.trans0 s317
     refine Wv rfl (Z30 rfl) <| Wm rfl rfl <| Z27 49 HF rfl (fun HF => ?_) (fun HF => ?_)
     ·refine Wm rfl rfl ?_
      have ob322 := (ob311.step0 s317)
      obtain ⟨r323, hr324, HF⟩ := Z5 HF
      refine Wc rfl (Zd (vs := [pt b1 0, .string b'80]) rfl t_ent_157) (Z59 _ hr324 S320.sub (rs5.mono ((s12.le).trans ((s25.le).trans ((s39.le).trans ((s46.le).trans ((s55.le).trans ((s92.le).trans ((s165.le).trans ((s171.le).trans ((le176).trans ((le200).trans ((le233).trans ((s250.le).trans ((s267.le).trans ((s277.le).trans ((s285.le).trans ((s299.le).trans ((s308.le).trans s317.le)))))))))))))))))) ob322) ?_
      have ob329 := (ob318.step0 s317)
      have ob330 := (ob309.step0 s317)
      have ob331 := (ob319.step0 s317)
      rintro _ w326 ⟨h327, s328, rfl⟩
      have S332 := S320.trans0 s328
      refine Wv rfl (Z30 rfl) <| Wv rfl (Zj rfl rfl) <| Z6 ?_
      have ob363 := (ob322.step0 s328)
      have ob364 := (ob329.step0 s328)
      have ob365 := (ob330.step0 s328)
      refine Z01 [0, 2, 3, 53] _ rfl ?_
      exact J362 ⟨h327, !r323, xs238 ++ [(Ex.mk r246.1.op r246.1.kind r246.1.n r246.1.s r246.1.f r246.1.args)], v294, HF, rfl, S332, (s317.le).trans s328.le, (rs297.mono ((s308.le).trans ((s317.le).trans s328.le))), (((ow298.step s308 (Z2 (ow298.ne_obS1 rs297 ob306) Z9)).step0 s317).step0 s328), ob363, ob364, ob365⟩
     refine Wp rfl <| Wp rfl <| Wp rfl <| Wv rfl (Zi rfl rfl) <| Z6 ?_
     have ob366 := (ob311.step0 s317)
     have ob367 := (ob318.step0 s317)
     have ob368 := (ob309.step0 s317)
     refine Z01 [0, 2, 3, 53] _ rfl ?_
     exact J362 ⟨h316, false, xs238 ++ [(Ex.mk r246.1.op r246.1.kind r246.1.n r246.1.s r246.1.f r246.1.args)], v294, HF, rfl, S320, s317.le, (rs297.mono ((s308.le).trans s317.le)), ((ow298.step s308 (Z2 (ow298.ne_obS1 rs297 ob306) Z9)).step0 s317), ob366, ob367, ob368⟩
    intro J369
    refine Zc <| Z0 <| Wv rfl (Z1 rfl Z5i) <| Wv rfl (Zb rfl Z31 (OB.cell ob209 (j := 5) rfl)) ?_
    obtain ⟨A210, c211, rfl, rs212⟩ := RS.form rs207
    refine Wv rfl (Z1i rfl Z0v) <| Wv rfl (Zby rfl rfl) <| Z6 <| Z4 <| Z15 HF rfl (fun HF => ?_) (fun HF => ?_)
    ·refine Z0 <| Wm rfl rfl ?_
     obtain ⟨r214, hr215, HF⟩ := Z5 HF
     rcases r214 with t216 | r217
     ·obtain rfl := Z02 HF
      refine Z0h rfl (Zd (vs := [pt b1 0, .string b'83]) rfl Z20) (Zn _ hr215 S201.sub (rs5.mono ((s12.le).trans ((s25.le).trans ((s39.le).trans ((s46.le).trans ((s55.le).trans ((s92.le).trans ((s165.le).trans ((s171.le).trans ((le176).trans le200)))))))))) ob203) ?_
      rintro ch223 w224 ⟨ht225, h226, s227, ob222⟩
      refine Ze <| Zu <| Ze <| Zu <| Zu <| Ze <| Zs ?_
      have S228 := S201.trans s227 (Zl (.inl (by simp)) Zt)
      exact ⟨_, rfl, ht225, h226, S228, ob222⟩
     replace HF := Z0i HF
     refine Wc rfl (Zd (vs := [pt b1 0, .string b'83]) rfl Z20) (Zn _ hr215 S201.sub (rs5.mono ((s12.le).trans ((s25.le).trans ((s39.le).trans ((s46.le).trans ((s55.le).trans ((s92.le).trans ((s165.le).trans ((s171.le).trans ((le176).trans le200)))))))))) ob203) ?_
     rintro v218 w219 ⟨h220, s221, rfl, ob229⟩
     have S230 := S201.trans s221 (Zl (.inl (by simp)) Zt)
     refine Z6 ?_
     have ob370 := (ob204.step1 s221 (Ne.symm ne14))
     have ob371 := (ob209.step1 s221 (Ne.symm ne41))
     refine Z01 [0, 2, 3] _ rfl ?_
     exact J369 ⟨h220, r217, xs205, .slice A210 (xs205).length c211, HF, rfl, S230, s221.le, (rs212.mono (s221.le)), (ow208.step s221 (Z2 (ow208.ne_old lt8) Z9)), ob229, ob370, ob371⟩
    refine Zq <| Z01 [0, 2, 3] _ rfl ?_
    exact J369 ⟨h198, x202, xs205, .slice A210 (xs205).length c211, HF, rfl, S201, Hle.refl _, rs212, ow208, ob203, ob204, ob209⟩
   intro J372
   refine Zc <| Z0 <| Wm rfl rfl ?_
   obtain ⟨r189, hr190, HF⟩ := Z5 HF
   refine Wc rfl (Zd (vs := [pt b1 0, .string b'80]) rfl Z53) (Z0p _ hr190 S177.sub (rs5.mono ((s12.le).trans ((s25.le).trans ((s39.le).trans ((s46.le).trans ((s55.le).trans ((s92.le).trans ((s165.le).trans ((s171.le).trans le176))))))))) ob179) ?_
   rintro _ w192 ⟨h193, s194, rfl, ob195⟩
   have S196 := S177.trans s194 (Zl (.inl (by simp)) Zt)
   refine Wv rfl (Z30 rfl) <| Z6 <| Z4 <| Z15 HF rfl (fun HF => ?_) (fun HF => ?_)
   ·refine Zq ?_
    have ob373 := (ob180.step1 s194 (Ne.symm ne14))
    have ob374 := (ob185.step1 s194 (Ne.symm ne41))
    refine Z01 [0, 2, 3] _ rfl ?_
    exact J372 ⟨h193, r189.2, xs181, v182, HF, rfl, S196, s194.le, (rs183.mono (s194.le)), (ow184.step s194 (Z2 (ow184.ne_old lt8) Z9)), ob195, ob373, ob374⟩
   refine Z66 <| Z05 <| Z05 <| Z1m <| Zy ?_
   have ob406 := (ob180.step1 s194 (Ne.symm ne14))
   have ob407 := (ob185.step1 s194 (Ne.symm ne41))
   refine Z01 [2, 3] _ rfl ?_
   exact J401 ⟨j186, h193, r189.2, 5, Z1e, xs181, v182, (Nat.le_trans (Nat.le_of_succ_le hj188) (Nat.le_refl _)), HF, rfl, S196, (s55.le).trans ((s92.le).trans ((s165.le).trans ((s171.le).trans ((le176).trans s194.le)))), (rs183.mono (s194.le)), (ow184.step s194 (Z2 (ow184.ne_old lt8) Z9)), ob195, ob406, ob407⟩
  have ob378 := (ob166.step1 s171 ne41)
  have ob379 := ((((((ob35.step0 s39).step1 s46 ne42).step1 s55 (Ne.symm ne14)).step1 s92 (Ne.symm ne14)).step1 s165 (Ne.symm ne14)).step1 s171 ne42)
  exact ⟨h164, r160.2, ([] : List Ex), .slice none 0 0, HF, rfl, S173, Hle.refl _, (RS.nil _), (Own.nil _ _ _ _ _), ob378, ob379, ob172⟩
 refine Zq <| Zy ?_
 have ob408 := (((((ob35.step0 s39).step1 s46 ne42).step1 s55 (Ne.symm ne14)).step1 s92 (Ne.symm ne14)).step1 s165 (Ne.symm ne14))
 have ob409 := (((ob47.step1 s55 (Ne.symm ne41)).step1 s92 (Ne.symm ne41)).step1 s165 (Ne.symm ne41))
 refine Z01 [2, 3] _ rfl ?_
 exact J401 ⟨k, h164, r160.2, 2, Z1e, ([] : List Ex), .slice none 0 0, (Nat.le_refl _), HF, rfl, S167, (s55.le).trans ((s92.le).trans s165.le), (RS.nil _), (Own.nil _ _ _ _ _), ob166, ob408, ob409⟩
theorem s_parse_Parser_unary (k : Nat) (IH : ∀ j, j ≤ k → Z3n (Zo j).parse_Parser_Expr ∧ Z42 (Zo j).parse_Parser_level ∧ Z46 (Zo j).parse_Parser_named ∧ Z3z (Zo j).parse_Parser_unary) : Z3z (Zdp k (Zo k)) := by
 intro xs3 x6 r HF w0 h0 b1 T2 v4 hs0 rs5 ob7
 have S0 : Stp [b1] w0 h0 w0 h0 := Stp.refl hs0 _
 have lt8 : b1 < w0.heap.size := OB.lt ob7
 refine Z4o (n := 52) Tryz.func138 rfl Tryz.ntmps138 rfl [(0, pt b1 0)] rfl <| Zc <| Z0 <| Z19 (zs := [vi 0, vi 0, vi 0, .string Z1e, .string Z1e, .slice none 0 0]) rfl rfl Z1w rfl S0.sub (fun w9 b10 hb11 s12 ob13 => ?_)
 have ne14 : b1 ≠ b10 := ob7.ne_new hb11
 have g15 : w0.heap.size ≤ b10 := by rw [hb11]; exact S0.size
 have S16 := S0.trans0 s12
 refine Z6 <| Z4 <| Z09 (fun E w281 => ∃ (h280 : Hp) (x284 : Int), Zco k (Zo k) xs3 x284 = some r ∧ E = [(0, pt b1 0), (2, pt b10 0)] ∧ Stp [b1] w0 h0 w281 h280 ∧ Hle h0 h280 ∧ OB w281 h280 b1 T2 [v4, vi x284] ∧ OB w281 h280 b10 47 [vi 0, vi 0, vi 0, .string Z1e, .string Z1e, .slice none 0 0]) ?_ ?_
 ·rintro E w281 ⟨h280, x284, HF, rfl, S283, le282, ob285, ob286⟩
  refine Zc <| Z0 <| Wm rfl rfl ?_
  obtain ⟨r287, hr288, HF⟩ := Z5 HF
  rcases r287 with t289 | r290
  ·obtain rfl := Z02 HF
   refine Z0h rfl (Zd (vs := [pt b1 0]) rfl t_ent_174) ((IH _ (Nat.le_refl _)).2.2.1 hr288 S283.sub (rs5.mono ((s12.le).trans le282)) ob285) ?_
   rintro ch296 w297 ⟨ht298, h299, s300, ob295⟩
   refine Ze <| Zs ?_
   have S301 := S283.trans s300 (Zl (.inl (by simp)) Zt)
   exact ⟨_, rfl, ht298, h299, S301, ob295⟩
  replace HF := Z0i HF
  refine Wc rfl (Zd (vs := [pt b1 0]) rfl t_ent_174) ((IH _ (Nat.le_refl _)).2.2.1 hr288 S283.sub (rs5.mono ((s12.le).trans le282)) ob285) ?_
  rintro _ w292 ⟨h293, s294, ⟨cs302, rfl, r303⟩, ob304⟩
  have S305 := S283.trans s294 (Zl (.inl (by simp)) Zt)
  have ob306 := (ob286.step1 s294 (Ne.symm ne14))
  obtain ⟨v307, rfl, rs308⟩ := Zab.1 r303
  refine Zr (vs := [vi r290.1.op, vi r290.1.kind, vi r290.1.n, .string r290.1.s, .string r290.1.f, v307]) rfl rfl rfl rfl Z0l (Z3 rfl (Z3 rfl (Z3 rfl (Z3 rfl (Z3 rfl (Z3 (RS.one rs308) Zx)))))) ob306 S305.sub (by simp) (ds := [vi r290.1.op, vi r290.1.kind, vi r290.1.n, .string r290.1.s, .string r290.1.f, v307]) rfl (fun w309 s310 ob311 => ?_)
  have S312 := S305.trans1 s310 (.inr g15)
  refine Z6 <| Z4 <| Z0b ?_
  have ob313 := (ob304.step1 s310 ne14)
  refine Z5k rfl rfl (Z0x (cs := [vi r290.1.op, vi r290.1.kind, vi r290.1.n, .string r290.1.s, .string r290.1.f, v307]) Z54 Z0l (OB.cells ob311 0 rfl)) ?_
  obtain rfl := Option.some.inj HF
  exact ⟨_, rfl, h293, S312, ⟨_, rfl, (Zab.2 ⟨_, rfl, (rs308.mono (s310.le))⟩)⟩, ob313⟩
 intro J314
 refine Z0r <| Zc <| Z0 <| Wm rfl rfl ?_
 have ob17 := (ob7.step0 s12)
 obtain ⟨r18, hr19, HF⟩ := Z5 HF
 refine Wc rfl (Zd (vs := [pt b1 0, .string b'43]) rfl Z53) (Z0p _ hr19 S16.sub (rs5.mono (s12.le)) ob17) ?_
 rintro _ w21 ⟨h22, s23, rfl, ob24⟩
 have S25 := S16.trans s23 (Zl (.inl (by simp)) Zt)
 refine Wa rfl rfl <| Z6 <| Z4 <| Z15 HF rfl (fun HF => ?_) (fun HF => ?_)
 ·refine Zc <| Z0 <| Wm rfl rfl ?_
  obtain ⟨r27, hr28, HF⟩ := Z5 HF
  rcases r27 with t29 | r30
  ·obtain rfl := Z02 HF
   refine Z0h rfl (Zd (vs := [pt b1 0]) rfl t_ent_138) ((IH _ (Nat.le_refl _)).2.2.2 hr28 S25.sub (rs5.mono ((s12.le).trans s23.le)) ob24) ?_
   rintro ch36 w37 ⟨ht38, h39, s40, ob35⟩
   refine Ze <| Zu <| Ze <| Zs ?_
   have S41 := S25.trans s40 (Zl (.inl (by simp)) Zt)
   exact ⟨_, rfl, ht38, h39, S41, ob35⟩
  replace HF := Z0i HF
  refine Wc rfl (Zd (vs := [pt b1 0]) rfl t_ent_138) ((IH _ (Nat.le_refl _)).2.2.2 hr28 S25.sub (rs5.mono ((s12.le).trans s23.le)) ob24) ?_
  rintro _ w32 ⟨h33, s34, ⟨cs42, rfl, r43⟩, ob44⟩
  have S45 := S25.trans s34 (Zl (.inl (by simp)) Zt)
  obtain ⟨v46, rfl, rs47⟩ := Zab.1 r43
  have ob55 := ((ob13.step1 s23 (Ne.symm ne14)).step1 s34 (Ne.symm ne14))
  refine Z10 (us := [.agg #[vi r30.1.op, vi r30.1.kind, vi r30.1.n, .string r30.1.s, .string r30.1.f, v46]]) (cs := [vi r30.1.op, vi r30.1.kind, vi r30.1.n, .string r30.1.s, .string r30.1.f, v46]) rfl rfl rfl Z0v Z0l Z1w rfl (Z0c rfl Zci) rfl rfl rfl S45.sub (fun w48 h49 b50 hb51 s52 hk53 hc54 => ?_)
  have S56 := S45.trans0 s52
  have rs57 : RS h49 (sl b50 0 1 1) ([r30.1] : List Ex) := RS.litL _ [[vi r30.1.op, vi r30.1.kind, vi r30.1.n, .string r30.1.s, .string r30.1.f, v46]] rfl rfl hc54 ⟨(Zab.2 ⟨_, rfl, (rs47.mono (s52.le))⟩), trivial⟩
  have ow58 := Own.lit (base := w0.heap.size) (sz := 6) (m := 1) hk53 hc54 (by rw [hb51]; exact S45.size) rfl (by decide)
  refine Wv rfl (Z3b (vs := [(0, vi 6), (5, sl b50 0 1 1)]) (cs := [vi 6, vi 0, vi 0, .string Z1e, .string Z1e, sl b50 0 1 1]) rfl Za3 Z1w rfl) ?_
  have ob59 := (ob55.step0 s52)
  refine Zr (vs := [vi 6, vi 0, vi 0, .string Z1e, .string Z1e, sl b50 0 1 1]) rfl rfl rfl rfl Z0l (Z3 rfl (Z3 rfl (Z3 rfl (Z3 rfl (Z3 rfl (Z3 rfl Zx)))))) ob59 S56.sub (by simp) (ds := [vi 6, vi 0, vi 0, .string Z1e, .string Z1e, sl b50 0 1 1]) rfl (fun w60 s61 ob62 => ?_)
  have S63 := S56.trans1 s61 (.inr g15)
  refine Z6 <| Z4 <| Z0b <| Z0k <| Zv ?_
  have ob64 := ((ob44.step0 s52).step1 s61 ne14)
  refine Z5k rfl rfl (Z0x (cs := [vi 6, vi 0, vi 0, .string Z1e, .string Z1e, sl b50 0 1 1]) Z54 Z0l (OB.cells ob62 0 rfl)) ?_
  obtain rfl := Option.some.inj HF
  exact ⟨_, rfl, h49, S63, ⟨_, rfl, (Zab.2 ⟨_, rfl, (rs57.mono (s61.le))⟩)⟩, ob64⟩
 refine Zc <| Z0 <| Wm rfl rfl ?_
 obtain ⟨r65, hr66, HF⟩ := Z5 HF
 refine Wc rfl (Zd (vs := [pt b1 0, .string b'84]) rfl Z53) (Z0p _ hr66 S25.sub (rs5.mono ((s12.le).trans s23.le)) ob24) ?_
 rintro _ w68 ⟨h69, s70, rfl, ob71⟩
 have S72 := S25.trans s70 (Zl (.inl (by simp)) Zt)
 refine Wa rfl rfl <| Z6 <| Z4 <| Z15 HF rfl (fun HF => ?_) (fun HF => ?_)
 ·refine Zc <| Z0 <| Wm rfl rfl ?_
  obtain ⟨r74, hr75, HF⟩ := Z5 HF
  rcases r74 with t76 | r77
  ·obtain rfl := Z02 HF
   refine Z0h rfl (Zd (vs := [pt b1 0]) rfl t_ent_138) ((IH _ (Nat.le_refl _)).2.2.2 hr75 S72.sub (rs5.mono ((s12.le).trans ((s23.le).trans s70.le))) ob71) ?_
   rintro ch83 w84 ⟨ht85, h86, s87, ob82⟩
   refine Ze <| Zu <| Ze <| Zs ?_
   have S88 := S72.trans s87 (Zl (.inl (by simp)) Zt)
   exact ⟨_, rfl, ht85, h86, S88, ob82⟩
  replace HF := Z0i HF
  refine Wc rfl (Zd (vs := [pt b1 0]) rfl t_ent_138) ((IH _ (Nat.le_refl _)).2.2.2 hr75 S72.sub (rs5.mono ((s12.le).trans ((s23.le).trans s70.le))) ob71) ?_
  rintro _ w79 ⟨h80, s81, ⟨cs89, rfl, r90⟩, ob91⟩
  have S92 := S72.trans s81 (Zl (.inl (by simp)) Zt)
  obtain ⟨v93, rfl, rs94⟩ := Zab.1 r90
  have ob102 := (((ob13.step1 s23 (Ne.symm ne14)).step1 s70 (Ne.symm ne14)).step1 s81 (Ne.symm ne14))
  refine Z10 (us := [.agg #[vi r77.1.op, vi r77.1.kind, vi r77.1.n, .string r77.1.s, .string r77.1.f, v93]]) (cs := [vi r77.1.op, vi r77.1.kind, vi r77.1.n, .string r77.1.s, .string r77.1.f, v93]) rfl rfl rfl Z0v Z0l Z1w rfl (Z0c rfl Zci) rfl rfl rfl S92.sub (fun w95 h96 b97 hb98 s99 hk100 hc101 => ?_)
  have S103 := S92.trans0 s99
  have rs104 : RS h96 (sl b97 0 1 1) ([r77.1] : List Ex) := RS.litL _ [[vi r77.1.op, vi r77.1.kind, vi r77.1.n, .string r77.1.s, .string r77.1.f, v93]] rfl rfl hc101 ⟨(Zab.2 ⟨_, rfl, (rs94.mono (s99.le))⟩), trivial⟩
  have ow105 := Own.lit (base := w0.heap.size) (sz := 6) (m := 1) hk100 hc101 (by rw [hb98]; exact S92.size) rfl (by decide)
  refine Wv rfl (Z3b (vs := [(0, vi 7), (5, sl b97 0 1 1)]) (cs := [vi 7, vi 0, vi 0, .string Z1e, .string Z1e, sl b97 0 1 1]) rfl Za3 Z1w rfl) ?_
  have ob106 := (ob102.step0 s99)
  refine Zr (vs := [vi 7, vi 0, vi 0, .string Z1e, .string Z1e, sl b97 0 1 1]) rfl rfl rfl rfl Z0l (Z3 rfl (Z3 rfl (Z3 rfl (Z3 rfl (Z3 rfl (Z3 rfl Zx)))))) ob106 S103.sub (by simp) (ds := [vi 7, vi 0, vi 0, .string Z1e, .string Z1e, sl b97 0 1 1]) rfl (fun w107 s108 ob109 => ?_)
  have S110 := S103.trans1 s108 (.inr g15)
  refine Z6 <| Z4 <| Z0b <| Z0k <| Zv ?_
  have ob111 := ((ob91.step0 s99).step1 s108 ne14)
  refine Z5k rfl rfl (Z0x (cs := [vi 7, vi 0, vi 0, .string Z1e, .string Z1e, sl b97 0 1 1]) Z54 Z0l (OB.cells ob109 0 rfl)) ?_
  obtain rfl := Option.some.inj HF
  exact ⟨_, rfl, h96, S110, ⟨_, rfl, (Zab.2 ⟨_, rfl, (rs104.mono (s108.le))⟩)⟩, ob111⟩
 refine Zc <| Z0 <| Wm rfl rfl ?_
 obtain ⟨r112, hr113, HF⟩ := Z5 HF
 refine Wc rfl (Zd (vs := [pt b1 0, .string b'79]) rfl Z53) (Z0p _ hr113 S72.sub (rs5.mono ((s12.le).trans ((s23.le).trans s70.le))) ob71) ?_
 rintro _ w115 ⟨h116, s117, rfl, ob118⟩
 have S119 := S72.trans s117 (Zl (.inl (by simp)) Zt)
 refine Wa rfl rfl <| Z6 <| Z4 <| Z15 HF rfl (fun HF => ?_) (fun HF => ?_)
 ·refine Zc <| Z0 <| Wm rfl rfl ?_
  obtain ⟨r121, hr122, HF⟩ := Z5 HF
  rcases r121 with t123 | r124
  ·obtain rfl := Z02 HF
   refine Z0h rfl (Zd (vs := [pt b1 0]) rfl Z3l) ((IH _ (Nat.le_refl _)).1 hr122 S119.sub (rs5.mono ((s12.le).trans ((s23.le).trans ((s70.le).trans s117.le)))) ob118) ?_
   rintro ch130 w131 ⟨ht132, h133, s134, ob129⟩
   refine Ze <| Zu <| Ze <| Zs ?_
   have S135 := S119.trans s134 (Zl (.inl (by simp)) Zt)
   exact ⟨_, rfl, ht132, h133, S135, ob129⟩
  replace HF := Z0i HF
  refine Wc rfl (Zd (vs := [pt b1 0]) rfl Z3l) ((IH _ (Nat.le_refl _)).1 hr122 S119.sub (rs5.mono ((s12.le).trans ((s23.le).trans ((s70.le).trans s117.le)))) ob118) ?_
  rintro _ w126 ⟨h127, s128, ⟨cs136, rfl, r137⟩, ob138⟩
  have S139 := S119.trans s128 (Zl (.inl (by simp)) Zt)
  have ob140 := ((((ob13.step1 s23 (Ne.symm ne14)).step1 s70 (Ne.symm ne14)).step1 s117 (Ne.symm ne14)).step1 s128 (Ne.symm ne14))
  refine Z19 (zs := [vi 0, vi 0, vi 0, .string Z1e, .string Z1e, .slice none 0 0]) rfl rfl Z1w rfl S139.sub (fun w141 b142 hb143 s144 ob145 => ?_)
  have ne146 : b1 ≠ b142 := ob138.ne_new hb143
  have ne147 : b10 ≠ b142 := ob140.ne_new hb143
  have g148 : w0.heap.size ≤ b142 := by rw [hb143]; exact S139.size
  have S149 := S139.trans0 s144
  obtain ⟨v150, rfl, rs151⟩ := Zab.1 (Rp.mono (s144.le) r137)
  refine Zr (vs := [vi r124.1.op, vi r124.1.kind, vi r124.1.n, .string r124.1.s, .string r124.1.f, v150]) rfl rfl rfl rfl Z0l (Z3 rfl (Z3 rfl (Z3 rfl (Z3 rfl (Z3 rfl (Z3 (RS.one rs151) Zx)))))) ob145 S149.sub (by simp) (ds := [vi r124.1.op, vi r124.1.kind, vi r124.1.n, .string r124.1.s, .string r124.1.f, v150]) rfl (fun w152 s153 ob154 => ?_)
  have S155 := S149.trans1 s153 (.inr g148)
  refine Z6 <| Z4 <| Zc <| Z0 <| Wm rfl rfl ?_
  have ob156 := ((ob138.step0 s144).step1 s153 ne146)
  obtain ⟨r157, hr158, HF⟩ := Z5 HF
  rcases r157 with t159 | r160
  ·obtain rfl := Z02 HF
   refine Z0h rfl (Zd (vs := [pt b1 0, .string b'80]) rfl Z20) (Zn _ hr158 S155.sub (rs5.mono ((s12.le).trans ((s23.le).trans ((s70.le).trans ((s117.le).trans ((s128.le).trans ((s144.le).trans s153.le))))))) ob156) ?_
   rintro ch166 w167 ⟨ht168, h169, s170, ob165⟩
   refine Ze <| Zu <| Ze <| Zs ?_
   have S171 := S155.trans s170 (Zl (.inl (by simp)) Zt)
   exact ⟨_, rfl, ht168, h169, S171, ob165⟩
  replace HF := Z0i HF
  refine Wc rfl (Zd (vs := [pt b1 0, .string b'80]) rfl Z20) (Zn _ hr158 S155.sub (rs5.mono ((s12.le).trans ((s23.le).trans ((s70.le).trans ((s117.le).trans ((s128.le).trans ((s144.le).trans s153.le))))))) ob156) ?_
  rintro v161 w162 ⟨h163, s164, rfl, ob172⟩
  have S173 := S155.trans s164 (Zl (.inl (by simp)) Zt)
  refine Z6 <| Z4 <| Zc <| Z0 ?_
  have ob174 := (ob154.step1 s164 (Ne.symm ne146))
  refine Wv rfl (Z2t (cs := [vi r124.1.op, vi r124.1.kind, vi r124.1.n, .string r124.1.s, .string r124.1.f, v150]) rfl Z54 Z0l (OB.cells ob174 0 rfl)) ?_
  have ob175 := (((ob140.step0 s144).step1 s153 ne147).step1 s164 (Ne.symm ne14))
  refine Zr (vs := [vi r124.1.op, vi r124.1.kind, vi r124.1.n, .string r124.1.s, .string r124.1.f, v150]) rfl rfl rfl rfl Z0l (Z3 rfl (Z3 rfl (Z3 rfl (Z3 rfl (Z3 rfl (Z3 (RS.one (rs151.mono ((s153.le).trans s164.le))) Zx)))))) ob175 S173.sub (by simp) (ds := [vi r124.1.op, vi r124.1.kind, vi r124.1.n, .string r124.1.s, .string r124.1.f, v150]) rfl (fun w176 s177 ob178 => ?_)
  have S179 := S173.trans1 s177 (.inr g15)
  refine Z6 <| Z4 <| Z0b <| Z0k <| Zv ?_
  have ob180 := (ob172.step1 s177 ne14)
  refine Z5k rfl rfl (Z0x (cs := [vi r124.1.op, vi r124.1.kind, vi r124.1.n, .string r124.1.s, .string r124.1.f, v150]) Z54 Z0l (OB.cells ob178 0 rfl)) ?_
  obtain rfl := Option.some.inj HF
  exact ⟨_, rfl, h163, S179, ⟨_, rfl, (Zab.2 ⟨_, rfl, (rs151.mono ((s153.le).trans ((s164.le).trans s177.le)))⟩)⟩, ob180⟩
 refine Zc <| Z0 <| Wm rfl rfl ?_
 obtain ⟨r181, hr182, HF⟩ := Z5 HF
 refine Wc rfl (Zd (vs := [pt b1 0, .string b'70]) rfl Z53) (Z0p _ hr182 S119.sub (rs5.mono ((s12.le).trans ((s23.le).trans ((s70.le).trans s117.le)))) ob118) ?_
 rintro _ w184 ⟨h185, s186, rfl, ob187⟩
 have S188 := S119.trans s186 (Zl (.inl (by simp)) Zt)
 refine Wa rfl rfl <| Z6 <| Z4 <| Z15 HF rfl (fun HF => ?_) (fun HF => ?_)
 ·refine Zc <| Z0 <| Wv rfl (Z3b (vs := [(0, vi 1), (1, vi 1), (2, vi 1)]) (cs := [vi 1, vi 1, vi 1, .string Z1e, .string Z1e, .slice none 0 0]) rfl Za3 Z1w rfl) ?_
  have ob190 := ((((ob13.step1 s23 (Ne.symm ne14)).step1 s70 (Ne.symm ne14)).step1 s117 (Ne.symm ne14)).step1 s186 (Ne.symm ne14))
  refine Zr (vs := [vi 1, vi 1, vi 1, .string Z1e, .string Z1e, .slice none 0 0]) rfl rfl rfl rfl Z0l (Z3 rfl (Z3 rfl (Z3 rfl (Z3 rfl (Z3 rfl (Z3 rfl Zx)))))) ob190 S188.sub (by simp) (ds := [vi 1, vi 1, vi 1, .string Z1e, .string Z1e, .slice none 0 0]) rfl (fun w191 s192 ob193 => ?_)
  have S194 := S188.trans1 s192 (.inr g15)
  refine Z6 <| Z4 <| Z0b <| Z0k <| Zv ?_
  have ob195 := (ob187.step1 s192 ne14)
  refine Z5k rfl rfl (Z0x (cs := [vi 1, vi 1, vi 1, .string Z1e, .string Z1e, .slice none 0 0]) Z54 Z0l (OB.cells ob193 0 rfl)) ?_
  obtain rfl := Option.some.inj HF
  exact ⟨_, rfl, h185, S194, ⟨_, rfl, (Zab.2 ⟨_, rfl, (RS.nil _)⟩)⟩, ob195⟩
 refine Zc <| Z0 <| Wm rfl rfl ?_
 obtain ⟨r196, hr197, HF⟩ := Z5 HF
 refine Wc rfl (Zd (vs := [pt b1 0, .string b'19]) rfl Z53) (Z0p _ hr197 S188.sub (rs5.mono ((s12.le).trans ((s23.le).trans ((s70.le).trans ((s117.le).trans s186.le))))) ob187) ?_
 rintro _ w199 ⟨h200, s201, rfl, ob202⟩
 have S203 := S188.trans s201 (Zl (.inl (by simp)) Zt)
 refine Wa rfl rfl <| Z6 <| Z4 <| Z15 HF rfl (fun HF => ?_) (fun HF => ?_)
 ·refine Zc <| Z0 <| Wv rfl (Z3b (vs := [(0, vi 1), (1, vi 1)]) (cs := [vi 1, vi 1, vi 0, .string Z1e, .string Z1e, .slice none 0 0]) rfl Za3 Z1w rfl) ?_
  have ob205 := (((((ob13.step1 s23 (Ne.symm ne14)).step1 s70 (Ne.symm ne14)).step1 s117 (Ne.symm ne14)).step1 s186 (Ne.symm ne14)).step1 s201 (Ne.symm ne14))
  refine Zr (vs := [vi 1, vi 1, vi 0, .string Z1e, .string Z1e, .slice none 0 0]) rfl rfl rfl rfl Z0l (Z3 rfl (Z3 rfl (Z3 rfl (Z3 rfl (Z3 rfl (Z3 rfl Zx)))))) ob205 S203.sub (by simp) (ds := [vi 1, vi 1, vi 0, .string Z1e, .string Z1e, .slice none 0 0]) rfl (fun w206 s207 ob208 => ?_)
  have S209 := S203.trans1 s207 (.inr g15)
  refine Z6 <| Z4 <| Z0b <| Z0k <| Zv ?_
  have ob210 := (ob202.step1 s207 ne14)
  refine Z5k rfl rfl (Z0x (cs := [vi 1, vi 1, vi 0, .string Z1e, .string Z1e, .slice none 0 0]) Z54 Z0l (OB.cells ob208 0 rfl)) ?_
  obtain rfl := Option.some.inj HF
  exact ⟨_, rfl, h200, S209, ⟨_, rfl, (Zab.2 ⟨_, rfl, (RS.nil _)⟩)⟩, ob210⟩
 refine Zc <| Z0 <| Wm rfl rfl ?_
 obtain ⟨r211, hr212, HF⟩ := Z5 HF
 refine Wc rfl (Zd (vs := [pt b1 0]) rfl Z7u) (Z1a _ hr212 S203.sub (rs5.mono ((s12.le).trans ((s23.le).trans ((s70.le).trans ((s117.le).trans ((s186.le).trans s201.le)))))) ob202) ?_
 rintro _ w214 ⟨h215, s216, ⟨cs217, rfl, r218⟩⟩
 have S219 := S203.trans0 s216
 obtain rfl := Z67.1 r218
 refine Wv rfl (Z9k rfl Zdr Z04 rfl) <| Wv rfl (Z1g rfl rfl) <| Wa rfl rfl <| Z6 <| Z4 <| Z15 HF rfl (fun HF => ?_) (fun HF => ?_)
 ·refine Zc <| Z0 <| Wm rfl rfl ?_
  have ob221 := (ob202.step0 s216)
  obtain ⟨r222, hr223, HF⟩ := Z5 HF
  rcases r222 with t224 | r225
  ·obtain rfl := Z02 HF
   refine Z0h rfl (Zd (vs := [pt b1 0]) rfl Zes) (Z3a _ hr223 S219.sub (rs5.mono ((s12.le).trans ((s23.le).trans ((s70.le).trans ((s117.le).trans ((s186.le).trans ((s201.le).trans s216.le))))))) ob221) ?_
   rintro ch231 w232 ⟨ht233, h234, s235, ob230⟩
   refine Ze <| Zu <| Ze <| Zs ?_
   have S236 := S219.trans s235 (Zl (.inl (by simp)) Zt)
   exact ⟨_, rfl, ht233, h234, S236, ob230⟩
  replace HF := Z0i HF
  refine Wc rfl (Zd (vs := [pt b1 0]) rfl Zes) (Z3a _ hr223 S219.sub (rs5.mono ((s12.le).trans ((s23.le).trans ((s70.le).trans ((s117.le).trans ((s186.le).trans ((s201.le).trans s216.le))))))) ob221) ?_
  rintro _ w227 ⟨h228, s229, rfl, ob237⟩
  have S238 := S219.trans s229 (Zl (.inl (by simp)) Zt)
  refine Wv rfl (Z3b (vs := [(0, vi 1), (1, vi 2), (2, vi r225.1)]) (cs := [vi 1, vi 2, vi r225.1, .string Z1e, .string Z1e, .slice none 0 0]) rfl Za3 Z1w rfl) ?_
  have ob239 := (((((((ob13.step1 s23 (Ne.symm ne14)).step1 s70 (Ne.symm ne14)).step1 s117 (Ne.symm ne14)).step1 s186 (Ne.symm ne14)).step1 s201 (Ne.symm ne14)).step0 s216).step1 s229 (Ne.symm ne14))
  refine Zr (vs := [vi 1, vi 2, vi r225.1, .string Z1e, .string Z1e, .slice none 0 0]) rfl rfl rfl rfl Z0l (Z3 rfl (Z3 rfl (Z3 rfl (Z3 rfl (Z3 rfl (Z3 rfl Zx)))))) ob239 S238.sub (by simp) (ds := [vi 1, vi 2, vi r225.1, .string Z1e, .string Z1e, .slice none 0 0]) rfl (fun w240 s241 ob242 => ?_)
  have S243 := S238.trans1 s241 (.inr g15)
  refine Z6 <| Z4 <| Z0b <| Z0k <| Zv ?_
  have ob244 := (ob237.step1 s241 ne14)
  refine Z5k rfl rfl (Z0x (cs := [vi 1, vi 2, vi r225.1, .string Z1e, .string Z1e, .slice none 0 0]) Z54 Z0l (OB.cells ob242 0 rfl)) ?_
  obtain rfl := Option.some.inj HF
  exact ⟨_, rfl, h228, S243, ⟨_, rfl, (Zab.2 ⟨_, rfl, (RS.nil _)⟩)⟩, ob244⟩
 refine Zc <| Z0 <| Wm rfl rfl ?_
 have ob245 := (ob202.step0 s216)
 obtain ⟨r246, hr247, HF⟩ := Z5 HF
 refine Wc rfl (Zd (vs := [pt b1 0]) rfl Z7u) (Z1a _ hr247 S219.sub (rs5.mono ((s12.le).trans ((s23.le).trans ((s70.le).trans ((s117.le).trans ((s186.le).trans ((s201.le).trans s216.le))))))) ob245) ?_
 rintro _ w249 ⟨h250, s251, ⟨cs252, rfl, r253⟩⟩
 have S254 := S219.trans0 s251
 obtain rfl := Z67.1 r253
 refine Wv rfl (Z9k rfl Zdr Z04 rfl) <| Wv rfl (Z1g rfl rfl) <| Wa rfl rfl <| Z6 <| Z4 <| Z15 HF rfl (fun HF => ?_) (fun HF => ?_)
 ·refine Zc <| Z0 <| Wm rfl rfl ?_
  have ob256 := (ob245.step0 s251)
  obtain ⟨r257, hr258, HF⟩ := Z5 HF
  rcases r257 with t259 | r260
  ·obtain rfl := Z02 HF
   refine Z0h rfl (Zd (vs := [pt b1 0]) rfl t_ent_173) (Ze5 _ hr258 S254.sub (rs5.mono ((s12.le).trans ((s23.le).trans ((s70.le).trans ((s117.le).trans ((s186.le).trans ((s201.le).trans ((s216.le).trans s251.le)))))))) ob256) ?_
   rintro ch266 w267 ⟨ht268, h269, s270, ob265⟩
   refine Ze <| Zu <| Ze <| Zs ?_
   have S271 := S254.trans s270 (Zl (.inl (by simp)) Zt)
   exact ⟨_, rfl, ht268, h269, S271, ob265⟩
  replace HF := Z0i HF
  refine Wc rfl (Zd (vs := [pt b1 0]) rfl t_ent_173) (Ze5 _ hr258 S254.sub (rs5.mono ((s12.le).trans ((s23.le).trans ((s70.le).trans ((s117.le).trans ((s186.le).trans ((s201.le).trans ((s216.le).trans s251.le)))))))) ob256) ?_
  rintro _ w262 ⟨h263, s264, rfl, ob272⟩
  have S273 := S254.trans s264 (Zl (.inl (by simp)) Zt)
  refine Wv rfl (Z3b (vs := [(0, vi 1), (1, vi 3), (2, vi r260.1)]) (cs := [vi 1, vi 3, vi r260.1, .string Z1e, .string Z1e, .slice none 0 0]) rfl Za3 Z1w rfl) ?_
  have ob274 := ((((((((ob13.step1 s23 (Ne.symm ne14)).step1 s70 (Ne.symm ne14)).step1 s117 (Ne.symm ne14)).step1 s186 (Ne.symm ne14)).step1 s201 (Ne.symm ne14)).step0 s216).step0 s251).step1 s264 (Ne.symm ne14))
  refine Zr (vs := [vi 1, vi 3, vi r260.1, .string Z1e, .string Z1e, .slice none 0 0]) rfl rfl rfl rfl Z0l (Z3 rfl (Z3 rfl (Z3 rfl (Z3 rfl (Z3 rfl (Z3 rfl Zx)))))) ob274 S273.sub (by simp) (ds := [vi 1, vi 3, vi r260.1, .string Z1e, .string Z1e, .slice none 0 0]) rfl (fun w275 s276 ob277 => ?_)
  have S278 := S273.trans1 s276 (.inr g15)
  refine Z6 <| Z4 <| Z0b <| Z0k <| Zv ?_
  have ob279 := (ob272.step1 s276 ne14)
  refine Z5k rfl rfl (Z0x (cs := [vi 1, vi 3, vi r260.1, .string Z1e, .string Z1e, .slice none 0 0]) Z54 Z0l (OB.cells ob277 0 rfl)) ?_
  obtain rfl := Option.some.inj HF
  exact ⟨_, rfl, h263, S278, ⟨_, rfl, (Zab.2 ⟨_, rfl, (RS.nil _)⟩)⟩, ob279⟩
 refine Zq <| Zy ?_
 have ob315 := (ob245.step0 s251)
 have ob316 := (((((((ob13.step1 s23 (Ne.symm ne14)).step1 s70 (Ne.symm ne14)).step1 s117 (Ne.symm ne14)).step1 s186 (Ne.symm ne14)).step1 s201 (Ne.symm ne14)).step0 s216).step0 s251)
 refine Z01 [0, 2] _ rfl ?_
 exact J314 ⟨h250, r196.2, HF, rfl, S254, (s23.le).trans ((s70.le).trans ((s117.le).trans ((s186.le).trans ((s201.le).trans ((s216.le).trans s251.le))))), ob315, ob316⟩
theorem all_parse_Parser_Expr : ∀ k j, j ≤ k → Z3n (Zo j).parse_Parser_Expr ∧ Z42 (Zo j).parse_Parser_level ∧ Z46 (Zo j).parse_Parser_named ∧ Z3z (Zo j).parse_Parser_unary := by
  intro k
  induction k with
  | zero =>
    intro j hj
    obtain rfl : j = 0 := by omega
    exact ⟨(fun _ _ _ => by intro h; cases h), (fun _ _ _ _ => by intro h; cases h), (fun _ _ _ => by intro h; cases h), (fun _ _ _ => by intro h; cases h)⟩
  | succ k ih =>
    intro j hj
    by_cases h : j ≤ k
    · exact ih j h
    · obtain rfl : j = k + 1 := by omega
      exact ⟨s_parse_Parser_Expr k ih, s_parse_Parser_level k ih, s_parse_Parser_named k ih, s_parse_Parser_unary k ih⟩
theorem Z08 (k : Nat) : Z3n (Z22 k) := (all_parse_Parser_Expr k k (Nat.le_refl _)).1
def Zbd (φ : Option St) : Prop := ∀ ⦃r : St⦄, φ  = some r → ∀ ⦃w0 : World⦄ ⦃h0 : Hp⦄, Sub h0 w0 →
  Calls Tryz.prog 105 #[] w0 fun e w1 => ∃ v, e = .returned v ∧ ∃ h1, Stp [] w0 h0 w1 h1 ∧ (∃ cs : List Value, v = .agg cs.toArray ∧ Rp.R h1 r cs)
theorem Zho (k : Nat) : Zbd (Z7r k) := by
 intro  r HF w0 h0  hs0 
 have S0 : Stp [] w0 h0 w0 h0 := Stp.refl hs0 _
 refine Z4o (n := 2) Tryz.func105 rfl Tryz.ntmps105 rfl [] rfl <| Zc <| Z0 <| Z19 (zs := [vi 0, .string Z1e, .slice none 0 0, .slice none 0 0, .slice none 0 0, vi 0, .slice none 0 0, .slice none 0 0, .slice none 0 0, .bool false]) rfl rfl Z38 rfl S0.sub (fun w1 b2 hb3 s4 ob5 => ?_)
 have g6 : w0.heap.size ≤ b2 := by rw [hb3]; exact S0.size
 have S7 := S0.trans0 s4
 refine Z6 <| Z4 <| Zc <| Z0 <| Wv rfl (Z3b (vs := [(0, vi 8)]) (cs := [vi 8, .string Z1e, .slice none 0 0, .slice none 0 0, .slice none 0 0, vi 0, .slice none 0 0, .slice none 0 0, .slice none 0 0, .bool false]) rfl Za1 Z38 rfl) <| Zr (vs := [vi 8, .string Z1e, .slice none 0 0, .slice none 0 0, .slice none 0 0, vi 0, .slice none 0 0, .slice none 0 0, .slice none 0 0, .bool false]) rfl rfl rfl rfl Z0u (Z3 rfl (Z3 rfl (Z3 rfl (Z3 rfl (Z3 rfl (Z3 rfl (Z3 rfl (Z3 rfl (Z3 rfl (Z3 rfl Zx)))))))))) ob5 S7.sub (by simp) (ds := [vi 8, .string Z1e, .slice none 0 0, .slice none 0 0, .slice none 0 0, vi 0, .slice none 0 0, .slice none 0 0, .slice none 0 0, .bool false]) rfl (fun w8 s9 ob10 => ?_)
 have S11 := S7.trans1 s9 (.inr g6)
 refine Z6 <| Z4 <| Z0b <| Z5k rfl rfl (Z0x (cs := [vi 8, .string Z1e, .slice none 0 0, .slice none 0 0, .slice none 0 0, vi 0, .slice none 0 0, .slice none 0 0, .slice none 0 0, .bool false]) Z6y Z0u (OB.cells ob10 0 rfl)) ?_
 obtain rfl := Option.some.inj HF
 exact ⟨_, rfl, h0, S11, ⟨_, rfl, (rp_St.2 ⟨_, _, _, _, _, _, rfl, (RS.nil _), (RS.nil _), (RS.nil _), (RS.nil _), (RS.nil _), (RS.nil _)⟩)⟩⟩
theorem Zgi (k : Nat) : Zbd (Z7r k) := Zho k
def Z89 (φ : (List Tok) → Int → (List (ByteArray × Int)) → Option Bool) : Prop := ∀ ⦃xs3 : List Tok⦄ ⦃x6 : Int⦄ ⦃x8 : List (ByteArray × Int)⦄ ⦃r : Bool⦄, φ xs3 x6 x8 = some r → ∀ ⦃w0 : World⦄ ⦃h0 : Hp⦄ ⦃b1 : Nat⦄ ⦃T2 : Nat⦄ ⦃v4 : Value⦄ ⦃v9 : Value⦄, Sub h0 w0 → RS h0 v4 xs3 → RM (fnT b1) h0 v9 x8 → OB w0 h0 b1 T2 [v4, .int .i64 x6] →
  Calls Tryz.prog 58 #[.pointer (some ⟨b1, 0, none⟩), v9] w0 fun e w1 => ∃ v, e = .returned v ∧ ∃ h1, Stp [] w0 h0 w1 h1 ∧ v = .bool r
theorem Zdn (k : Nat) : Z89 (Z5p k) := by
 intro xs3 x6 x8 r HF w0 h0 b1 T2 v4 v9 hs0 rs5 rm10 ob7
 have S0 : Stp [] w0 h0 w0 h0 := Stp.refl hs0 _
 have lt11 : b1 < w0.heap.size := OB.lt ob7
 refine Z4o (n := 22) Tryz.func58 rfl Tryz.ntmps58 rfl [(0, pt b1 0), (1, v9)] rfl <| Zc <| Z0 <| Wa rfl rfl <| Z6 <| Z4 <| Zc <| Z0 <| Wm rfl rfl <| Wm rfl rfl ?_
 obtain ⟨r12, hr13, HF⟩ := Z5 HF
 refine Wc rfl (Zd (vs := [pt b1 0]) rfl Z7u) (Z1a _ hr13 S0.sub rs5 ob7) ?_
 rintro _ w15 ⟨h16, s17, ⟨cs18, rfl, r19⟩⟩
 have S20 := S0.trans0 s17
 obtain rfl := Z67.1 r19
 refine Wv rfl (Z9k rfl t_fld_38_1 Z32 rfl) ?_
 obtain ⟨r21, hr22, HF⟩ := Z5 HF
 replace hr22 := Option.some.inj hr22
 refine Wv rfl (ov_lookupS2 (evl := (fnT b1)) (z := (0 : Int)) rfl rfl Zdg Z00 t_zero_103 (rm10.mono (s17.le)) S20.sub hr22) <| Wm rfl rfl <| Wv rfl (Z0a rfl rfl) <| Wv rfl (Z0a rfl rfl) <| Wa rfl rfl <| Wa rfl rfl <| Z6 <| Z4 <| Zc <| Z0 <| Wm rfl rfl <| Wm rfl rfl <| Z27 16 HF rfl (fun HF => ?_) (fun HF => ?_)
 ·refine Wm rfl rfl ?_
  have ob24 := (ob7.step0 s17)
  obtain ⟨r25, hr26, HF⟩ := Z5 HF
  refine Wc rfl (Zd (vs := [pt b1 0]) rfl Z7u) (Z1a _ hr26 S20.sub (rs5.mono (s17.le)) ob24) ?_
  rintro _ w28 ⟨h29, s30, ⟨cs31, rfl, r32⟩⟩
  have S33 := S20.trans0 s30
  obtain rfl := Z67.1 r32
  refine Wv rfl (Z9k rfl Zdr Z04 rfl) <| Wv rfl (Z1g rfl rfl) <| Wv rfl (Zj rfl rfl) <| Wa rfl rfl <| Z6 <| Z4 <| Z0b <| Z07 rfl rfl ?_
  obtain rfl := Option.some.inj HF
  exact ⟨_, rfl, h29, S33, rfl⟩
 refine Wp rfl <| Wp rfl <| Wp rfl <| Wp rfl <| Wv rfl (Zi rfl rfl) <| Wa rfl rfl <| Z6 <| Z4 <| Z0b <| Z07 rfl rfl ?_
 obtain rfl := Option.some.inj HF
 exact ⟨_, rfl, h16, S20, rfl⟩
theorem Zd9 (k : Nat) : Z89 (Z5p k) := Zdn k
def Zeb (φ : (List Tok) → Int → Option (Except (Int × Int × Int) (Int × Int))) : Prop := ∀ ⦃xs3 : List Tok⦄ ⦃x6 : Int⦄ ⦃r : Except (Int × Int × Int) (Int × Int)⦄, φ xs3 x6 = some r → ∀ ⦃w0 : World⦄ ⦃h0 : Hp⦄ ⦃b1 : Nat⦄ ⦃T2 : Nat⦄ ⦃v4 : Value⦄, Sub h0 w0 → RS h0 v4 xs3 → OB w0 h0 b1 T2 [v4, .int .i64 x6] →
  Calls Tryz.prog 158 #[.pointer (some ⟨b1, 0, none⟩)] w0 fun e w1 => match r with | .ok r => ∃ v, e = .returned v ∧ ∃ h1, Stp [b1] w0 h0 w1 h1 ∧ v = .int .i64 r.1 ∧ (OB w1 h1 b1 T2 [v4, .int .i64 r.2]) | .error t => ∃ ch, e = .panicked ch ∧ Z8z 138 t.1 t.2.1 ch ∧ ∃ h1, Stp [b1] w0 h0 w1 h1 ∧ (OB w1 h1 b1 T2 [v4, .int .i64 t.2.2])
theorem s_parse_Parser_Label (k : Nat) : Zeb (Z7c k) := by
 intro xs3 x6 r HF w0 h0 b1 T2 v4 hs0 rs5 ob7
 have S0 : Stp [b1] w0 h0 w0 h0 := Stp.refl hs0 _
 have lt8 : b1 < w0.heap.size := OB.lt ob7
 refine Z4o (n := 10) Tryz.func158 rfl Tryz.ntmps158 rfl [(0, pt b1 0)] rfl <| Zc <| Z0 <| Wa rfl rfl <| Z6 <| Z4 <| Z09 (fun E w36 => ∃ (h35 : Hp) (x39 : Int), Zcy k xs3 x39 = some r ∧ E = [(0, pt b1 0)] ∧ Stp [b1] w0 h0 w36 h35 ∧ Hle h0 h35 ∧ OB w36 h35 b1 T2 [v4, vi x39]) ?_ ?_
 ·rintro E w36 ⟨h35, x39, HF, rfl, S38, le37, ob40⟩
  refine Zc <| Z0 <| Wm rfl rfl ?_
  obtain ⟨r41, hr42, HF⟩ := Z5 HF
  rcases r41 with t43 | r44
  ·obtain rfl := Z02 HF
   refine Z0h rfl (Zd (vs := [pt b1 0]) rfl Zes) (Z3a _ hr42 S38.sub (rs5.mono (le37)) ob40) ?_
   rintro ch50 w51 ⟨ht52, h53, s54, ob49⟩
   refine Ze <| Zs ?_
   have S55 := S38.trans s54 (Zl (.inl (by simp)) Zt)
   exact ⟨_, rfl, ht52, h53, S55, ob49⟩
  replace HF := Z0i HF
  refine Wc rfl (Zd (vs := [pt b1 0]) rfl Zes) (Z3a _ hr42 S38.sub (rs5.mono (le37)) ob40) ?_
  rintro _ w46 ⟨h47, s48, rfl, ob56⟩
  have S57 := S38.trans s48 (Zl (.inl (by simp)) Zt)
  refine Wa rfl rfl <| Z6 <| Z4 <| Z0b <| Z07 rfl rfl ?_
  obtain rfl := Option.some.inj HF
  exact ⟨_, rfl, h47, S57, rfl, ob56⟩
 intro J58
 refine Zc <| Z0 <| Wm rfl rfl ?_
 obtain ⟨r9, hr10, HF⟩ := Z5 HF
 refine Wc rfl (Zd (vs := [pt b1 0, .string b'84]) rfl Z53) (Z0p _ hr10 S0.sub rs5 ob7) ?_
 rintro _ w12 ⟨h13, s14, rfl, ob15⟩
 have S16 := S0.trans s14 (Zl (.inl (by simp)) Zt)
 refine Z6 <| Z4 <| Z15 HF rfl (fun HF => ?_) (fun HF => ?_)
 ·refine Zc <| Z0 <| Wm rfl rfl ?_
  obtain ⟨r18, hr19, HF⟩ := Z5 HF
  rcases r18 with t20 | r21
  ·obtain rfl := Z02 HF
   refine Z0h rfl (Zd (vs := [pt b1 0]) rfl Zes) (Z3a _ hr19 S16.sub (rs5.mono (s14.le)) ob15) ?_
   rintro ch27 w28 ⟨ht29, h30, s31, ob26⟩
   refine Ze <| Ze <| Zs ?_
   have S32 := S16.trans s31 (Zl (.inl (by simp)) Zt)
   exact ⟨_, rfl, ht29, h30, S32, ob26⟩
  replace HF := Z0i HF
  refine Wc rfl (Zd (vs := [pt b1 0]) rfl Zes) (Z3a _ hr19 S16.sub (rs5.mono (s14.le)) ob15) ?_
  rintro _ w23 ⟨h24, s25, rfl, ob33⟩
  have S34 := S16.trans s25 (Zl (.inl (by simp)) Zt)
  refine Wv rfl (ov_neg rfl) <| Wa rfl rfl <| Z6 <| Z4 <| Z0b <| Zv <| Z07 rfl rfl ?_
  obtain rfl := Option.some.inj HF
  exact ⟨_, rfl, h24, S34, rfl, ob33⟩
 refine Zq <| Z01 [0] _ rfl ?_
 exact J58 ⟨h13, r9.2, HF, rfl, S16, s14.le, ob15⟩
theorem Z6n (k : Nat) : Zeb (Z7c k) := s_parse_Parser_Label k
def Z9c (φ : (List Tok) → Int → (List (ByteArray × Int)) → Option (Except (Int × Int × Int) (Int × Int))) : Prop := ∀ ⦃xs3 : List Tok⦄ ⦃x6 : Int⦄ ⦃x8 : List (ByteArray × Int)⦄ ⦃r : Except (Int × Int × Int) (Int × Int)⦄, φ xs3 x6 x8 = some r → ∀ ⦃w0 : World⦄ ⦃h0 : Hp⦄ ⦃b1 : Nat⦄ ⦃T2 : Nat⦄ ⦃v4 : Value⦄ ⦃v9 : Value⦄, Sub h0 w0 → RS h0 v4 xs3 → RM (fnT b1) h0 v9 x8 → OB w0 h0 b1 T2 [v4, .int .i64 x6] →
  Calls Tryz.prog 60 #[.pointer (some ⟨b1, 0, none⟩), v9] w0 fun e w1 => match r with | .ok r => ∃ v, e = .returned v ∧ ∃ h1, Stp [b1] w0 h0 w1 h1 ∧ v = fnT b1 r.1 ∧ (OB w1 h1 b1 T2 [v4, .int .i64 r.2]) | .error t => ∃ ch, e = .panicked ch ∧ Z8z 138 t.1 t.2.1 ch ∧ ∃ h1, Stp [b1] w0 h0 w1 h1 ∧ (OB w1 h1 b1 T2 [v4, .int .i64 t.2.2])
theorem Zfa (k : Nat) : Z9c (Z6e k) := by
 intro xs3 x6 x8 r HF w0 h0 b1 T2 v4 v9 hs0 rs5 rm10 ob7
 have S0 : Stp [b1] w0 h0 w0 h0 := Stp.refl hs0 _
 have lt11 : b1 < w0.heap.size := OB.lt ob7
 refine Z4o (n := 33) Tryz.func60 rfl Tryz.ntmps60 rfl [(0, pt b1 0), (1, v9)] rfl <| Zc <| Z0 <| Wa rfl rfl <| Z6 <| Z4 <| Zc <| Z0 <| Wm rfl rfl <| Wm rfl rfl ?_
 obtain ⟨r12, hr13, HF⟩ := Z5 HF
 refine Wc rfl (Zd (vs := [pt b1 0]) rfl Z7u) (Z1a _ hr13 S0.sub rs5 ob7) ?_
 rintro _ w15 ⟨h16, s17, ⟨cs18, rfl, r19⟩⟩
 have S20 := S0.trans0 s17
 obtain rfl := Z67.1 r19
 refine Wv rfl (Z9k rfl t_fld_38_1 Z32 rfl) ?_
 obtain ⟨r21, hr22, HF⟩ := Z5 HF
 replace hr22 := Option.some.inj hr22
 refine Wv rfl (ov_lookupS2 (evl := (fnT b1)) (z := (0 : Int)) rfl rfl Zdg Z00 t_zero_103 (rm10.mono (s17.le)) S20.sub hr22) <| Wm rfl rfl <| Wv rfl (Z0a rfl rfl) <| Wv rfl (Z0a rfl rfl) <| Wa rfl rfl <| Wa rfl rfl <| Z6 <| Z4 <| Z09 (fun E w61 => ∃ (h60 : Hp), Z60 k x6 r21 = some r ∧ E = [(0, pt b1 0), (5, fnT b1 (r21.getD (0 : Int)))] ∧ Stp [b1] w0 h0 w61 h60 ∧ Hle h16 h60 ∧ OB w61 h60 b1 T2 [v4, vi x6]) ?_ ?_
 ·rintro E w61 ⟨h60, HF, rfl, S63, le62, ob64⟩
  refine Zc <| Z0 <| Wm rfl rfl <| Wv rfl (Zp rfl) <| Wv rfl (Z1 rfl Z65) <| Wv rfl (Zb rfl Z04 (OB.cell ob64 (j := 1) rfl)) <| Wv rfl (Z3e rfl rfl) <| Wv rfl (Zp rfl) <| Wv rfl (Z1 rfl Z65) <| Zr (vs := [vi (IntKind.i64.wrap (x6 + 1))]) rfl rfl rfl rfl Z1s (Z3 rfl Zx) ob64 S63.sub (by simp) (ds := [v4, vi (IntKind.i64.wrap (x6 + 1))]) rfl (fun w65 s66 ob67 => ?_)
  have S68 := S63.trans1 s66 (.inl (by simp))
  refine Z6 <| Z4 <| Zc <| Z0 <| Wm rfl rfl <| Wa rfl rfl <| Z6 <| Z4 <| Z0b <| Z07 rfl rfl ?_
  obtain rfl := Option.some.inj HF
  exact ⟨_, rfl, h60, S68, rfl, ob67⟩
 intro J69
 refine Z09 (fun E w35 => ∃ (h34 : Hp) (x38 : Bool), Z5z k xs3 x6 r21 x38 = some r ∧ E = [(0, pt b1 0), (5, fnT b1 (r21.getD (0 : Int))), (22, .bool x38)] ∧ Stp [b1] w0 h0 w35 h34 ∧ Hle h16 h34 ∧ OB w35 h34 b1 T2 [v4, vi x6]) ?_ ?_
 ·rintro E w35 ⟨h34, x38, HF, rfl, S37, le36, ob39⟩
  refine Z15 HF rfl (fun HF => ?_) (fun HF => ?_)
  ·refine Z0 <| Wm rfl rfl ?_
   obtain ⟨r41, hr42, HF⟩ := Z5 HF
   rcases r41 with t43 | r44
   ·obtain rfl := Z02 HF
    refine Z0h rfl (Zd (vs := [pt b1 0]) rfl Z9l) (Z1o _ hr42 S37.sub (rs5.mono ((s17.le).trans le36)) ob39) ?_
    rintro ch49 w50 ⟨ht51, h52, s53⟩
    refine Ze <| Zs ?_
    have S54 := S37.trans0 s53
    have ob55 := (ob39.step0 s53)
    exact ⟨_, rfl, ht51, h52, S54, ob55⟩
   replace HF := Z0i HF
   refine Wc rfl (Zd (vs := [pt b1 0]) rfl Z9l) (Z1o _ hr42 S37.sub (rs5.mono ((s17.le).trans le36)) ob39) ?_
   rintro v45 w46 ⟨h47, s48, rfl⟩
   have S56 := S37.trans0 s48
   refine Z6 ?_
   have ob70 := (ob39.step0 s48)
   refine Z01 [0, 5] _ rfl ?_
   exact J69 ⟨h47, HF, rfl, S56, (le36).trans s48.le, ob70⟩
  refine Zq <| Z01 [0, 5] _ rfl ?_
  exact J69 ⟨h34, HF, rfl, S37, le36, ob39⟩
 intro J57
 refine Z0 <| Wm rfl rfl <| Wv rfl (Z30 rfl) <| Wm rfl rfl <| Z27 17 HF rfl (fun HF => ?_) (fun HF => ?_)
 ·refine Wp rfl <| Wp rfl <| Wp rfl <| Wp rfl <| Wv rfl (Zj rfl rfl) <| Z6 ?_
  have ob58 := (ob7.step0 s17)
  refine Z01 [0, 5, 22] _ rfl ?_
  exact J57 ⟨h16, true, HF, rfl, S20, Hle.refl _, ob58⟩
 refine Wm rfl rfl ?_
 have ob24 := (ob7.step0 s17)
 obtain ⟨r25, hr26, HF⟩ := Z5 HF
 refine Wc rfl (Zd (vs := [pt b1 0]) rfl Z7u) (Z1a _ hr26 S20.sub (rs5.mono (s17.le)) ob24) ?_
 rintro _ w28 ⟨h29, s30, ⟨cs31, rfl, r32⟩⟩
 have S33 := S20.trans0 s30
 obtain rfl := Z67.1 r32
 refine Wv rfl (Z9k rfl Zdr Z04 rfl) <| Wv rfl (Zca rfl rfl) <| Wv rfl (Zi rfl rfl) <| Z6 ?_
 have ob59 := (ob24.step0 s30)
 refine Z01 [0, 5, 22] _ rfl ?_
 exact J57 ⟨h29, (r25.kind : Int) != 5, HF, rfl, S33, s30.le, ob59⟩
theorem Z8y (k : Nat) : Z9c (Z6e k) := Zfa k
def Zcw (φ : (List Tok) → Int → Option (List (ByteArray × Int))) : Prop := ∀ ⦃xs3 : List Tok⦄ ⦃x6 : Int⦄ ⦃r : List (ByteArray × Int)⦄, φ xs3 x6 = some r → ∀ ⦃w0 : World⦄ ⦃h0 : Hp⦄ ⦃b1 : Nat⦄ ⦃T2 : Nat⦄ ⦃v4 : Value⦄, Sub h0 w0 → RS h0 v4 xs3 → OB w0 h0 b1 T2 [v4, .int .i64 x6] →
  Calls Tryz.prog 56 #[.pointer (some ⟨b1, 0, none⟩)] w0 fun e w1 => ∃ v, e = .returned v ∧ ∃ h1, Stp [] w0 h0 w1 h1 ∧ RM (fnT b1) h1 v r
theorem s_parse_Parser_starts (k : Nat) : Zcw (Z93 k) := by
 intro xs3 x6 r HF w0 h0 b1 T2 v4 hs0 rs5 ob7
 have S0 : Stp [] w0 h0 w0 h0 := Stp.refl hs0 _
 have lt8 : b1 < w0.heap.size := OB.lt ob7
 refine Z4o (n := 15) Tryz.func56 rfl Tryz.ntmps56 rfl [(0, pt b1 0)] rfl <| Zc <| Z0 <| Wa rfl rfl <| Z6 <| Z4 <| Zc <| Z0 <| Zc3 rfl rfl S0.sub (fun w9 b10 hb11 s12 ob13 => ?_)
 have ne14 : b1 ≠ b10 := ob7.ne_new hb11
 have g15 : w0.heap.size ≤ b10 := by rw [hb11]; exact S0.size
 have S16 := S0.trans0 s12
 refine Wm rfl rfl <| Wv rfl (Z56 (us := [pt b1 0]) (vs := []) rfl rfl) <| Z49 rfl rfl rfl rfl Zdg Z00 (.inl rfl) ob13 S16.sub rfl (fun w17 s18 ob19 => ?_)
 have S20 := S16.trans1 s18 (.inr g15)
 refine Wm rfl rfl <| Wv rfl (Z56 (us := [pt b1 0]) (vs := []) rfl rfl) <| Z49 rfl rfl rfl rfl Zdg Z00 (.inl rfl) ob19 S20.sub rfl (fun w21 s22 ob23 => ?_)
 have S24 := S20.trans1 s22 (.inr g15)
 refine Wm rfl rfl <| Wv rfl (Z56 (us := [pt b1 0]) (vs := []) rfl rfl) <| Z49 rfl rfl rfl rfl Zdg Z00 (.inl rfl) ob23 S24.sub rfl (fun w25 s26 ob27 => ?_)
 have S28 := S24.trans1 s26 (.inr g15)
 refine Wm rfl rfl <| Wv rfl (Z56 (us := [pt b1 0]) (vs := []) rfl rfl) <| Z49 rfl rfl rfl rfl Zdg Z00 (.inl rfl) ob27 S28.sub rfl (fun w29 s30 ob31 => ?_)
 have S32 := S28.trans1 s30 (.inr g15)
 refine Wm rfl rfl <| Wv rfl (Z56 (us := [pt b1 0]) (vs := []) rfl rfl) <| Z49 rfl rfl rfl rfl Zdg Z00 (.inl rfl) ob31 S32.sub rfl (fun w33 s34 ob35 => ?_)
 have S36 := S32.trans1 s34 (.inr g15)
 refine Z49 rfl rfl rfl rfl Zdg Z00 (.inl rfl) ob35 S36.sub rfl (fun w37 s38 ob39 => ?_)
 have S40 := S36.trans1 s38 (.inr g15)
 refine Z49 rfl rfl rfl rfl Zdg Z00 (.inl rfl) ob39 S40.sub rfl (fun w41 s42 ob43 => ?_)
 have S44 := S40.trans1 s42 (.inr g15)
 refine Wm rfl rfl <| Wa rfl rfl <| Z6 <| Z4 <| Z0b ?_
 obtain ⟨h45, s46, rm47⟩ := MB.freeze (evl := (fnT b1)) (T := ([(b'23, 1), (b'109, 2), (b'15, 3), (b'76, 4), (b'51, 5), (b'14, 6), (b'53, 7)] : List (ByteArray × Int))) ob43 S44.sub
 have S48 := S44.trans1 s46 (.inr g15)
 refine Z07 rfl rfl ?_
 obtain rfl := Option.some.inj HF
 exact ⟨_, rfl, h45, S48, rm47⟩
theorem ok_parse_Parser_starts (k : Nat) : Zcw (Z93 k) := s_parse_Parser_starts k
def Zbb (φ : Option St) : Prop := ∀ ⦃r : St⦄, φ  = some r → ∀ ⦃w0 : World⦄ ⦃h0 : Hp⦄, Sub h0 w0 →
  Calls Tryz.prog 106 #[] w0 fun e w1 => ∃ v, e = .returned v ∧ ∃ h1, Stp [] w0 h0 w1 h1 ∧ (∃ cs : List Value, v = .agg cs.toArray ∧ Rp.R h1 r cs)
theorem Zhn (k : Nat) : Zbb (Z7o k) := by
 intro  r HF w0 h0  hs0 
 have S0 : Stp [] w0 h0 w0 h0 := Stp.refl hs0 _
 refine Z4o (n := 2) Tryz.func106 rfl Tryz.ntmps106 rfl [] rfl <| Zc <| Z0 <| Z19 (zs := [vi 0, .string Z1e, .slice none 0 0, .slice none 0 0, .slice none 0 0, vi 0, .slice none 0 0, .slice none 0 0, .slice none 0 0, .bool false]) rfl rfl Z38 rfl S0.sub (fun w1 b2 hb3 s4 ob5 => ?_)
 have g6 : w0.heap.size ≤ b2 := by rw [hb3]; exact S0.size
 have S7 := S0.trans0 s4
 refine Z6 <| Z4 <| Zc <| Z0 <| Wv rfl (Z3b (vs := [(0, vi 9)]) (cs := [vi 9, .string Z1e, .slice none 0 0, .slice none 0 0, .slice none 0 0, vi 0, .slice none 0 0, .slice none 0 0, .slice none 0 0, .bool false]) rfl Za1 Z38 rfl) <| Zr (vs := [vi 9, .string Z1e, .slice none 0 0, .slice none 0 0, .slice none 0 0, vi 0, .slice none 0 0, .slice none 0 0, .slice none 0 0, .bool false]) rfl rfl rfl rfl Z0u (Z3 rfl (Z3 rfl (Z3 rfl (Z3 rfl (Z3 rfl (Z3 rfl (Z3 rfl (Z3 rfl (Z3 rfl (Z3 rfl Zx)))))))))) ob5 S7.sub (by simp) (ds := [vi 9, .string Z1e, .slice none 0 0, .slice none 0 0, .slice none 0 0, vi 0, .slice none 0 0, .slice none 0 0, .slice none 0 0, .bool false]) rfl (fun w8 s9 ob10 => ?_)
 have S11 := S7.trans1 s9 (.inr g6)
 refine Z6 <| Z4 <| Z0b <| Z5k rfl rfl (Z0x (cs := [vi 9, .string Z1e, .slice none 0 0, .slice none 0 0, .slice none 0 0, vi 0, .slice none 0 0, .slice none 0 0, .slice none 0 0, .bool false]) Z6y Z0u (OB.cells ob10 0 rfl)) ?_
 obtain rfl := Option.some.inj HF
 exact ⟨_, rfl, h0, S11, ⟨_, rfl, (rp_St.2 ⟨_, _, _, _, _, _, rfl, (RS.nil _), (RS.nil _), (RS.nil _), (RS.nil _), (RS.nil _), (RS.nil _)⟩)⟩⟩
theorem Zg2 (k : Nat) : Zbb (Z7o k) := Zhn k
def Zd6 (φ : (List Tok) → Int → Option Bool) : Prop := ∀ ⦃xs3 : List Tok⦄ ⦃x6 : Int⦄ ⦃r : Bool⦄, φ xs3 x6 = some r → ∀ ⦃w0 : World⦄ ⦃h0 : Hp⦄ ⦃b1 : Nat⦄ ⦃T2 : Nat⦄ ⦃v4 : Value⦄, Sub h0 w0 → RS h0 v4 xs3 → OB w0 h0 b1 T2 [v4, .int .i64 x6] →
  Calls Tryz.prog 57 #[.pointer (some ⟨b1, 0, none⟩)] w0 fun e w1 => ∃ v, e = .returned v ∧ ∃ h1, Stp [] w0 h0 w1 h1 ∧ v = .bool r
theorem s_parse_Parser_IsName (k : Nat) : Zd6 (Z6p k) := by
 intro xs3 x6 r HF w0 h0 b1 T2 v4 hs0 rs5 ob7
 have S0 : Stp [] w0 h0 w0 h0 := Stp.refl hs0 _
 have lt8 : b1 < w0.heap.size := OB.lt ob7
 refine Z4o (n := 7) Tryz.func57 rfl Tryz.ntmps57 rfl [(0, pt b1 0)] rfl <| Zc <| Z0 <| Wa rfl rfl <| Z6 <| Z4 <| Zc <| Z0 <| Wm rfl rfl ?_
 obtain ⟨r9, hr10, HF⟩ := Z5 HF
 refine Wc rfl (Zd (vs := [pt b1 0]) rfl Z7u) (Z1a _ hr10 S0.sub rs5 ob7) ?_
 rintro _ w12 ⟨h13, s14, ⟨cs15, rfl, r16⟩⟩
 have S17 := S0.trans0 s14
 obtain rfl := Z67.1 r16
 refine Wv rfl (Z9k rfl Zdr Z04 rfl) <| Wv rfl (Z1g rfl rfl) <| Wa rfl rfl <| Z6 <| Z4 <| Z0b <| Z07 rfl rfl ?_
 obtain rfl := Option.some.inj HF
 exact ⟨_, rfl, h13, S17, rfl⟩
theorem Zcc (k : Nat) : Zd6 (Z6p k) := s_parse_Parser_IsName k
def Z6q (φ : (List Tok) → Int → Option (Except (Int × Int × Int) (List ByteArray × List Ex × Int))) : Prop := ∀ ⦃xs3 : List Tok⦄ ⦃x6 : Int⦄ ⦃r : Except (Int × Int × Int) (List ByteArray × List Ex × Int)⦄, φ xs3 x6 = some r → ∀ ⦃w0 : World⦄ ⦃h0 : Hp⦄ ⦃b1 : Nat⦄ ⦃T2 : Nat⦄ ⦃v4 : Value⦄, Sub h0 w0 → RS h0 v4 xs3 → OB w0 h0 b1 T2 [v4, .int .i64 x6] →
  Calls Tryz.prog 110 #[.pointer (some ⟨b1, 0, none⟩)] w0 fun e w1 => match r with | .ok r => ∃ v, e = .returned v ∧ ∃ h1, Stp [b1] w0 h0 w1 h1 ∧ (∃ u0 u1 : Value, v = .tuple #[u0, u1] ∧ (RS h1 u0 r.1) ∧ (RS h1 u1 r.2.1)) ∧ (OB w1 h1 b1 T2 [v4, .int .i64 r.2.2]) | .error t => ∃ ch, e = .panicked ch ∧ Z8z 138 t.1 t.2.1 ch ∧ ∃ h1, Stp [b1] w0 h0 w1 h1 ∧ (OB w1 h1 b1 T2 [v4, .int .i64 t.2.2])
theorem s_parse_Parser_Inputs (k : Nat) (IH : ∀ j, j ≤ k → Z6q (Z1n j).parse_Parser_Inputs) : Z6q (Zd1 k (Z1n k)) := by
 intro xs3 x6 r HF w0 h0 b1 T2 v4 hs0 rs5 ob7
 have S0 : Stp [b1] w0 h0 w0 h0 := Stp.refl hs0 _
 have lt8 : b1 < w0.heap.size := OB.lt ob7
 refine Z4o (n := 40) Tryz.func110 rfl Tryz.ntmps110 rfl [(0, pt b1 0)] rfl <| Zc <| Z0 <| Wa rfl rfl <| Wa rfl rfl <| Z6 <| Z4 <| Zc <| Z0 <| Wa rfl rfl <| Z6 <| Z4 <| Zc <| Z0 <| Wa rfl rfl <| Z6 <| Z4 <| Zc <| Z0r <| Z5v <| Z99 [0, 4, 5] [(0, pt b1 0), (4, .slice none 0 0), (5, .slice none 0 0)] rfl <| Z5u (K := k) (fun j E w10 => ∃ (h9 : Hp) (xs13 : List ByteArray) (v14 : Value) (xs17 : List Ex) (v18 : Value) (x21 : Int), (Z1n j).parse_Parser_Inputs_l1 xs3 xs13 xs17 x21 = some r ∧ E = [(0, pt b1 0), (4, v14), (5, v18)] ∧ Stp [b1] w0 h0 w10 h9 ∧ Hle h0 h9 ∧ RS h9 v14 xs13 ∧ Own w10 h9 w0.heap.size 9 1 v14 xs13.length ∧ RS h9 v18 xs17 ∧ Own w10 h9 w0.heap.size 47 6 v18 xs17.length ∧ OB w10 h9 b1 T2 [v4, vi x21]) ?_ ?_ (j := k) (Nat.le_refl _) ?_
 ·rintro E w10 ⟨_, _, _, _, _, _, HF, _⟩; cases HF
 ·rintro j23 hj25 IHL24 E w10 ⟨h9, xs13, v14, xs17, v18, x21, HF, rfl, S12, le11, rs15, ow16, rs19, ow20, ob22⟩
  refine Z09 (fun E w36 => ∃ (h35 : Hp) (xs39 : List ByteArray) (v40 : Value) (xs43 : List Ex) (v44 : Value) (x47 : Int), Zcg j23 (Z1n j23) xs3 xs39 xs43 x47 = some r ∧ E = [(0, pt b1 0), (4, v40), (5, v44)] ∧ Stp [b1] w0 h0 w36 h35 ∧ Hle h9 h35 ∧ RS h35 v40 xs39 ∧ Own w36 h35 w0.heap.size 9 1 v40 xs39.length ∧ RS h35 v44 xs43 ∧ Own w36 h35 w0.heap.size 47 6 v44 xs43.length ∧ OB w36 h35 b1 T2 [v4, vi x47]) ?_ ?_
  ·rintro E w36 ⟨h35, xs39, v40, xs43, v44, x47, HF, rfl, S38, le37, rs41, ow42, rs45, ow46, ob48⟩
   refine Z0r <| Z09 (fun E w71 => ∃ (h70 : Hp) (xs74 : List ByteArray) (v75 : Value) (xs78 : List Ex) (v79 : Value) (x82 : Int), Z8h j23 (Z1n j23) xs3 xs74 xs78 x82 = some r ∧ E = [(0, pt b1 0), (4, v75), (5, v79)] ∧ Stp [b1] w0 h0 w71 h70 ∧ Hle h35 h70 ∧ RS h70 v75 xs74 ∧ Own w71 h70 w0.heap.size 9 1 v75 xs74.length ∧ RS h70 v79 xs78 ∧ Own w71 h70 w0.heap.size 47 6 v79 xs78.length ∧ OB w71 h70 b1 T2 [v4, vi x82]) ?_ ?_
   ·rintro E w71 ⟨h70, xs74, v75, xs78, v79, x82, HF, rfl, S73, le72, rs76, ow77, rs80, ow81, ob83⟩
    refine Zc <| Z0 <| Wm rfl rfl ?_
    obtain ⟨r84, hr85, HF⟩ := Z5 HF
    rcases r84 with t86 | r87
    ·obtain rfl := Z02 HF
     refine Z0h rfl (Zd (vs := [pt b1 0]) rfl Zbw) (Z26 _ hr85 S73.sub (rs5.mono ((le11).trans ((le37).trans le72))) ob83) ?_
     rintro ch93 w94 ⟨ht95, h96, s97, ob92⟩
     refine Ze <| Zu <| Ze <| Zu <| Ze <| Zs ?_
     have S98 := S73.trans s97 (Zl (.inl (by simp)) Zt)
     exact ⟨_, rfl, ht95, h96, S98, ob92⟩
    replace HF := Z0i HF
    refine Wc rfl (Zd (vs := [pt b1 0]) rfl Zbw) (Z26 _ hr85 S73.sub (rs5.mono ((le11).trans ((le37).trans le72))) ob83) ?_
    rintro _ w89 ⟨h90, s91, rfl, ob99⟩
    have S100 := S73.trans s91 (Zl (.inl (by simp)) Zt)
    refine Wa rfl rfl <| Z6 <| Z4 <| Zc <| Z0 <| Wm rfl rfl ?_
    obtain ⟨r101, hr102, HF⟩ := Z5 HF
    rcases r101 with t103 | r104
    ·obtain rfl := Z02 HF
     refine Z0h rfl (Zd (vs := [pt b1 0, .string b'87]) rfl Z20) (Zn _ hr102 S100.sub (rs5.mono ((le11).trans ((le37).trans ((le72).trans s91.le)))) ob99) ?_
     rintro ch110 w111 ⟨ht112, h113, s114, ob109⟩
     refine Ze <| Zu <| Ze <| Zu <| Ze <| Zs ?_
     have S115 := S100.trans s114 (Zl (.inl (by simp)) Zt)
     exact ⟨_, rfl, ht112, h113, S115, ob109⟩
    replace HF := Z0i HF
    refine Wc rfl (Zd (vs := [pt b1 0, .string b'87]) rfl Z20) (Zn _ hr102 S100.sub (rs5.mono ((le11).trans ((le37).trans ((le72).trans s91.le)))) ob99) ?_
    rintro v105 w106 ⟨h107, s108, rfl, ob116⟩
    have S117 := S100.trans s108 (Zl (.inl (by simp)) Zt)
    refine Z6 <| Z4 <| Zc <| Z0 <| Wm rfl rfl <| Wm rfl rfl <| Z10 (us := [.string r87.1]) (cs := [.string r87.1]) rfl rfl rfl Z4v t_size_9 t_zero_9 rfl (Z0c rfl Zci) rfl rfl rfl S117.sub (fun w118 h119 b120 hb121 s122 hk123 hc124 => ?_)
    have S125 := S117.trans0 s122
    have rs126 : RS h119 (sl b120 0 1 1) ([r87.1] : List ByteArray) := RS.litL _ [[.string r87.1]] rfl rfl hc124 ⟨rfl, trivial⟩
    have ow127 := Own.lit (base := w0.heap.size) (sz := 1) (m := 1) hk123 hc124 (by rw [hb121]; exact S117.size) rfl (by decide)
    obtain ⟨hl128, HF⟩ := Ze7 HF
    have ob136 := (ob116.step0 s122)
    refine Zeu (xs := (xs74 : List ByteArray)) (ys := [r87.1]) rfl rfl rfl rfl Z4v t_size_9 t_zero_9 rfl t_bytes_9 rfl (((ow77.step s91 (Z2 (ow77.ne_old lt8) Z9)).step s108 (Z2 ((ow77.step s91 (Z2 (ow77.ne_old lt8) Z9)).ne_old lt8) Z9)).step0 s122) (rs76.mono ((s91.le).trans ((s108.le).trans s122.le))) rs126 hl128 S125.sub S125.size (by rw [S125.eqb]; exact hs0.big) (fun v129 w130 h131 rs132 ow133 s134 at135 => ?_)
    have S137 := S125.trans s134 (fun i hi => .inr ((((ow77.step s91 (Z2 (ow77.ne_old lt8) Z9)).step s108 (Z2 ((ow77.step s91 (Z2 (ow77.ne_old lt8) Z9)).ne_old lt8) Z9)).step0 s122).base_le i hi))
    refine Wa rfl rfl <| Z6 <| Z4 <| Zc <| Z0 <| Wm rfl rfl <| Wm rfl rfl ?_
    have ob138 := (ob136.step s134 (fun hm => absurd ((((ow77.step s91 (Z2 (ow77.ne_old lt8) Z9)).step s108 (Z2 ((ow77.step s91 (Z2 (ow77.ne_old lt8) Z9)).ne_old lt8) Z9)).step0 s122).base_le _ hm) (Nat.not_le.2 lt8)))
    obtain ⟨r139, hr140, HF⟩ := Z5 HF
    rcases r139 with t141 | r142
    ·obtain rfl := Z02 HF
     refine Z0h rfl (Zd (vs := [pt b1 0]) rfl Z3l) (Z08 _ hr140 S137.sub (rs5.mono ((le11).trans ((le37).trans ((le72).trans ((s91.le).trans ((s108.le).trans ((s122.le).trans s134.le))))))) ob138) ?_
     rintro ch148 w149 ⟨ht150, h151, s152, ob147⟩
     refine Ze <| Zu <| Ze <| Zu <| Ze <| Zs ?_
     have S153 := S137.trans s152 (Zl (.inl (by simp)) Zt)
     exact ⟨_, rfl, ht150, h151, S153, ob147⟩
    replace HF := Z0i HF
    refine Wc rfl (Zd (vs := [pt b1 0]) rfl Z3l) (Z08 _ hr140 S137.sub (rs5.mono ((le11).trans ((le37).trans ((le72).trans ((s91.le).trans ((s108.le).trans ((s122.le).trans s134.le))))))) ob138) ?_
    rintro _ w144 ⟨h145, s146, ⟨cs154, rfl, r155⟩, ob156⟩
    have S157 := S137.trans s146 (Zl (.inl (by simp)) Zt)
    obtain ⟨v158, rfl, rs159⟩ := Zab.1 r155
    refine Z10 (us := [.agg #[vi r142.1.op, vi r142.1.kind, vi r142.1.n, .string r142.1.s, .string r142.1.f, v158]]) (cs := [vi r142.1.op, vi r142.1.kind, vi r142.1.n, .string r142.1.s, .string r142.1.f, v158]) rfl rfl rfl Z0v Z0l Z1w rfl (Z0c rfl Zci) rfl rfl rfl S157.sub (fun w160 h161 b162 hb163 s164 hk165 hc166 => ?_)
    have S167 := S157.trans0 s164
    have rs168 : RS h161 (sl b162 0 1 1) ([r142.1] : List Ex) := RS.litL _ [[vi r142.1.op, vi r142.1.kind, vi r142.1.n, .string r142.1.s, .string r142.1.f, v158]] rfl rfl hc166 ⟨(Zab.2 ⟨_, rfl, (rs159.mono (s164.le))⟩), trivial⟩
    have ow169 := Own.lit (base := w0.heap.size) (sz := 6) (m := 1) hk165 hc166 (by rw [hb163]; exact S157.size) rfl (by decide)
    obtain ⟨hl170, HF⟩ := Ze7 HF
    have ob178 := (ob156.step0 s164)
    refine Zeu (xs := (xs78 : List Ex)) (ys := [r142.1]) rfl rfl rfl rfl Z0v Z0l Z1w rfl t_bytes_47 rfl ((((((ow81.step s91 (Z2 (ow81.ne_old lt8) Z9)).step s108 (Z2 ((ow81.step s91 (Z2 (ow81.ne_old lt8) Z9)).ne_old lt8) Z9)).step0 s122).step s134 ((((ow81.step s91 (Z2 (ow81.ne_old lt8) Z9)).step s108 (Z2 ((ow81.step s91 (Z2 (ow81.ne_old lt8) Z9)).ne_old lt8) Z9)).step0 s122).ne_own (((ow77.step s91 (Z2 (ow77.ne_old lt8) Z9)).step s108 (Z2 ((ow77.step s91 (Z2 (ow77.ne_old lt8) Z9)).ne_old lt8) Z9)).step0 s122) (by decide))).step s146 (Z2 (((((ow81.step s91 (Z2 (ow81.ne_old lt8) Z9)).step s108 (Z2 ((ow81.step s91 (Z2 (ow81.ne_old lt8) Z9)).ne_old lt8) Z9)).step0 s122).step s134 ((((ow81.step s91 (Z2 (ow81.ne_old lt8) Z9)).step s108 (Z2 ((ow81.step s91 (Z2 (ow81.ne_old lt8) Z9)).ne_old lt8) Z9)).step0 s122).ne_own (((ow77.step s91 (Z2 (ow77.ne_old lt8) Z9)).step s108 (Z2 ((ow77.step s91 (Z2 (ow77.ne_old lt8) Z9)).ne_old lt8) Z9)).step0 s122) (by decide))).ne_old lt8) Z9)).step0 s164) (rs80.mono ((s91.le).trans ((s108.le).trans ((s122.le).trans ((s134.le).trans ((s146.le).trans s164.le)))))) rs168 hl170 S167.sub S167.size (by rw [S167.eqb]; exact hs0.big) (fun v171 w172 h173 rs174 ow175 s176 at177 => ?_)
    have S179 := S167.trans s176 (fun i hi => .inr (((((((ow81.step s91 (Z2 (ow81.ne_old lt8) Z9)).step s108 (Z2 ((ow81.step s91 (Z2 (ow81.ne_old lt8) Z9)).ne_old lt8) Z9)).step0 s122).step s134 ((((ow81.step s91 (Z2 (ow81.ne_old lt8) Z9)).step s108 (Z2 ((ow81.step s91 (Z2 (ow81.ne_old lt8) Z9)).ne_old lt8) Z9)).step0 s122).ne_own (((ow77.step s91 (Z2 (ow77.ne_old lt8) Z9)).step s108 (Z2 ((ow77.step s91 (Z2 (ow77.ne_old lt8) Z9)).ne_old lt8) Z9)).step0 s122) (by decide))).step s146 (Z2 (((((ow81.step s91 (Z2 (ow81.ne_old lt8) Z9)).step s108 (Z2 ((ow81.step s91 (Z2 (ow81.ne_old lt8) Z9)).ne_old lt8) Z9)).step0 s122).step s134 ((((ow81.step s91 (Z2 (ow81.ne_old lt8) Z9)).step s108 (Z2 ((ow81.step s91 (Z2 (ow81.ne_old lt8) Z9)).ne_old lt8) Z9)).step0 s122).ne_own (((ow77.step s91 (Z2 (ow77.ne_old lt8) Z9)).step s108 (Z2 ((ow77.step s91 (Z2 (ow77.ne_old lt8) Z9)).ne_old lt8) Z9)).step0 s122) (by decide))).ne_old lt8) Z9)).step0 s164).base_le i hi))
    refine Wa rfl rfl <| Z6 <| Z4 <| Z09 (fun E w198 => ∃ (h197 : Hp) (xs201 : List ByteArray) (v202 : Value) (xs205 : List Ex) (v206 : Value) (x209 : Bool), Z83 j23 (Z1n j23) xs3 r142 xs201 xs205 x209 = some r ∧ E = [(0, pt b1 0), (4, v202), (5, v206), (35, .bool x209)] ∧ Stp [b1] w0 h0 w198 h197 ∧ Hle h173 h197 ∧ RS h197 v202 xs201 ∧ Own w198 h197 w0.heap.size 9 1 v202 xs201.length ∧ RS h197 v206 xs205 ∧ Own w198 h197 w0.heap.size 47 6 v206 xs205.length ∧ OB w198 h197 b1 T2 [v4, vi r142.2]) ?_ ?_
    ·rintro E w198 ⟨h197, xs201, v202, xs205, v206, x209, HF, rfl, S200, le199, rs203, ow204, rs207, ow208, ob210⟩
     refine Z15 HF rfl (fun HF => ?_) (fun HF => ?_)
     ·refine Z0 <| Wm rfl rfl ?_
      obtain ⟨r212, hr213, HF⟩ := Z5 HF
      rcases r212 with t214 | r215
      ·obtain rfl := Z02 HF
       refine Z0h rfl (Zd (vs := [pt b1 0]) rfl Z9l) (Z1o _ hr213 S200.sub (rs5.mono ((le11).trans ((le37).trans ((le72).trans ((s91.le).trans ((s108.le).trans ((s122.le).trans ((s134.le).trans ((s146.le).trans ((s164.le).trans ((s176.le).trans le199))))))))))) ob210) ?_
       rintro ch220 w221 ⟨ht222, h223, s224⟩
       refine Zu <| Ze <| Zu <| Ze <| Zs ?_
       have S225 := S200.trans0 s224
       have ob226 := (ob210.step0 s224)
       exact ⟨_, rfl, ht222, h223, S225, ob226⟩
      replace HF := Z0i HF
      refine Wc rfl (Zd (vs := [pt b1 0]) rfl Z9l) (Z1o _ hr213 S200.sub (rs5.mono ((le11).trans ((le37).trans ((le72).trans ((s91.le).trans ((s108.le).trans ((s122.le).trans ((s134.le).trans ((s146.le).trans ((s164.le).trans ((s176.le).trans le199))))))))))) ob210) ?_
      rintro v216 w217 ⟨h218, s219, rfl⟩
      have S227 := S200.trans0 s219
      refine Z6 <| Zy ?_
      have ob233 := (ob210.step0 s219)
      refine Z2p <| Z99 [0, 4, 5] [(0, pt b1 0), (4, v202), (5, v206)] rfl ?_
      exact IHL24 j23 (Nat.le_refl _) _ _ ⟨h218, xs201, v202, xs205, v206, r142.2, HF, rfl, S227, (le11).trans ((le37).trans ((le72).trans ((s91.le).trans ((s108.le).trans ((s122.le).trans ((s134.le).trans ((s146.le).trans ((s164.le).trans ((s176.le).trans ((le199).trans s219.le)))))))))), (rs203.mono (s219.le)), (ow204.step0 s219), (rs207.mono (s219.le)), (ow208.step0 s219), ob233⟩
     refine Zq <| Zy <| Z2p <| Z99 [0, 4, 5] [(0, pt b1 0), (4, v202), (5, v206)] rfl ?_
     exact IHL24 j23 (Nat.le_refl _) _ _ ⟨h197, xs201, v202, xs205, v206, r142.2, HF, rfl, S200, (le11).trans ((le37).trans ((le72).trans ((s91.le).trans ((s108.le).trans ((s122.le).trans ((s134.le).trans ((s146.le).trans ((s164.le).trans ((s176.le).trans le199))))))))), rs203, ow204, rs207, ow208, ob210⟩
    intro J228
    refine Z0 <| Wm rfl rfl ?_
    have ob180 := (ob178.step s176 (fun hm => absurd (((((((ow81.step s91 (Z2 (ow81.ne_old lt8) Z9)).step s108 (Z2 ((ow81.step s91 (Z2 (ow81.ne_old lt8) Z9)).ne_old lt8) Z9)).step0 s122).step s134 ((((ow81.step s91 (Z2 (ow81.ne_old lt8) Z9)).step s108 (Z2 ((ow81.step s91 (Z2 (ow81.ne_old lt8) Z9)).ne_old lt8) Z9)).step0 s122).ne_own (((ow77.step s91 (Z2 (ow77.ne_old lt8) Z9)).step s108 (Z2 ((ow77.step s91 (Z2 (ow77.ne_old lt8) Z9)).ne_old lt8) Z9)).step0 s122) (by decide))).step s146 (Z2 (((((ow81.step s91 (Z2 (ow81.ne_old lt8) Z9)).step s108 (Z2 ((ow81.step s91 (Z2 (ow81.ne_old lt8) Z9)).ne_old lt8) Z9)).step0 s122).step s134 ((((ow81.step s91 (Z2 (ow81.ne_old lt8) Z9)).step s108 (Z2 ((ow81.step s91 (Z2 (ow81.ne_old lt8) Z9)).ne_old lt8) Z9)).step0 s122).ne_own (((ow77.step s91 (Z2 (ow77.ne_old lt8) Z9)).step s108 (Z2 ((ow77.step s91 (Z2 (ow77.ne_old lt8) Z9)).ne_old lt8) Z9)).step0 s122) (by decide))).ne_old lt8) Z9)).step0 s164).base_le _ hm) (Nat.not_le.2 lt8)))
    obtain ⟨r181, hr182, HF⟩ := Z5 HF
    refine Wc rfl (Zd (vs := [pt b1 0, .string b'83]) rfl t_ent_157) (Z59 _ hr182 S179.sub (rs5.mono ((le11).trans ((le37).trans ((le72).trans ((s91.le).trans ((s108.le).trans ((s122.le).trans ((s134.le).trans ((s146.le).trans ((s164.le).trans s176.le)))))))))) ob180) ?_
    rintro _ w184 ⟨h185, s186, rfl⟩
    have S187 := S179.trans0 s186
    refine Wv rfl (Z30 rfl) <| Wm rfl rfl <| Z27 31 HF rfl (fun HF => ?_) (fun HF => ?_)
    ·refine Wm rfl rfl ?_
     have ob189 := (ob180.step0 s186)
     obtain ⟨r190, hr191, HF⟩ := Z5 HF
     refine Wc rfl (Zd (vs := [pt b1 0, .string b'80]) rfl t_ent_157) (Z59 _ hr191 S187.sub (rs5.mono ((le11).trans ((le37).trans ((le72).trans ((s91.le).trans ((s108.le).trans ((s122.le).trans ((s134.le).trans ((s146.le).trans ((s164.le).trans ((s176.le).trans s186.le))))))))))) ob189) ?_
     rintro _ w193 ⟨h194, s195, rfl⟩
     have S196 := S187.trans0 s195
     refine Wv rfl (Z30 rfl) <| Wv rfl (Zj rfl rfl) <| Z6 ?_
     have ob229 := (ob189.step0 s195)
     refine Z01 [0, 4, 5, 35] _ rfl ?_
     exact J228 ⟨h194, xs74 ++ [r87.1], v129, xs78 ++ [r142.1], v171, !r190, HF, rfl, S196, (s186.le).trans s195.le, (rs132.mono ((s146.le).trans ((s164.le).trans ((s176.le).trans ((s186.le).trans s195.le))))), (((((ow133.step s146 (Z2 (ow133.ne_old lt8) Z9)).step0 s164).step s176 (((ow133.step s146 (Z2 (ow133.ne_old lt8) Z9)).step0 s164).ne_own ((((((ow81.step s91 (Z2 (ow81.ne_old lt8) Z9)).step s108 (Z2 ((ow81.step s91 (Z2 (ow81.ne_old lt8) Z9)).ne_old lt8) Z9)).step0 s122).step s134 ((((ow81.step s91 (Z2 (ow81.ne_old lt8) Z9)).step s108 (Z2 ((ow81.step s91 (Z2 (ow81.ne_old lt8) Z9)).ne_old lt8) Z9)).step0 s122).ne_own (((ow77.step s91 (Z2 (ow77.ne_old lt8) Z9)).step s108 (Z2 ((ow77.step s91 (Z2 (ow77.ne_old lt8) Z9)).ne_old lt8) Z9)).step0 s122) (by decide))).step s146 (Z2 (((((ow81.step s91 (Z2 (ow81.ne_old lt8) Z9)).step s108 (Z2 ((ow81.step s91 (Z2 (ow81.ne_old lt8) Z9)).ne_old lt8) Z9)).step0 s122).step s134 ((((ow81.step s91 (Z2 (ow81.ne_old lt8) Z9)).step s108 (Z2 ((ow81.step s91 (Z2 (ow81.ne_old lt8) Z9)).ne_old lt8) Z9)).step0 s122).ne_own (((ow77.step s91 (Z2 (ow77.ne_old lt8) Z9)).step s108 (Z2 ((ow77.step s91 (Z2 (ow77.ne_old lt8) Z9)).ne_old lt8) Z9)).step0 s122) (by decide))).ne_old lt8) Z9)).step0 s164) (by decide))).step0 s186).step0 s195), (rs174.mono ((s186.le).trans s195.le)), ((ow175.step0 s186).step0 s195), ob229⟩
    refine Wp rfl <| Wp rfl <| Wp rfl <| Wv rfl (Zi rfl rfl) <| Z6 ?_
    have ob230 := (ob180.step0 s186)
    refine Z01 [0, 4, 5, 35] _ rfl ?_
    exact J228 ⟨h185, xs74 ++ [r87.1], v129, xs78 ++ [r142.1], v171, false, HF, rfl, S187, s186.le, (rs132.mono ((s146.le).trans ((s164.le).trans ((s176.le).trans s186.le)))), ((((ow133.step s146 (Z2 (ow133.ne_old lt8) Z9)).step0 s164).step s176 (((ow133.step s146 (Z2 (ow133.ne_old lt8) Z9)).step0 s164).ne_own ((((((ow81.step s91 (Z2 (ow81.ne_old lt8) Z9)).step s108 (Z2 ((ow81.step s91 (Z2 (ow81.ne_old lt8) Z9)).ne_old lt8) Z9)).step0 s122).step s134 ((((ow81.step s91 (Z2 (ow81.ne_old lt8) Z9)).step s108 (Z2 ((ow81.step s91 (Z2 (ow81.ne_old lt8) Z9)).ne_old lt8) Z9)).step0 s122).ne_own (((ow77.step s91 (Z2 (ow77.ne_old lt8) Z9)).step s108 (Z2 ((ow77.step s91 (Z2 (ow77.ne_old lt8) Z9)).ne_old lt8) Z9)).step0 s122) (by decide))).step s146 (Z2 (((((ow81.step s91 (Z2 (ow81.ne_old lt8) Z9)).step s108 (Z2 ((ow81.step s91 (Z2 (ow81.ne_old lt8) Z9)).ne_old lt8) Z9)).step0 s122).step s134 ((((ow81.step s91 (Z2 (ow81.ne_old lt8) Z9)).step s108 (Z2 ((ow81.step s91 (Z2 (ow81.ne_old lt8) Z9)).ne_old lt8) Z9)).step0 s122).ne_own (((ow77.step s91 (Z2 (ow77.ne_old lt8) Z9)).step s108 (Z2 ((ow77.step s91 (Z2 (ow77.ne_old lt8) Z9)).ne_old lt8) Z9)).step0 s122) (by decide))).ne_old lt8) Z9)).step0 s164) (by decide))).step0 s186), (rs174.mono (s186.le)), (ow175.step0 s186), ob230⟩
   intro J231
   refine Zc <| Z0 <| Wm rfl rfl ?_
   obtain ⟨A49, c50, rfl, rs51⟩ := RS.form rs41
   refine Wv rfl (Z1i rfl Z4v) <| Wv rfl (Zby rfl rfl) <| Z6 <| Z4 <| Z15 HF rfl (fun HF => ?_) (fun HF => ?_)
   ·refine Z0 <| Wm rfl rfl ?_
    obtain ⟨r53, hr54, HF⟩ := Z5 HF
    rcases r53 with t55 | r56
    ·obtain rfl := Z02 HF
     refine Z0h rfl (Zd (vs := [pt b1 0, .string b'83]) rfl Z20) (Zn _ hr54 S38.sub (rs5.mono ((le11).trans le37)) ob48) ?_
     rintro ch62 w63 ⟨ht64, h65, s66, ob61⟩
     refine Ze <| Zu <| Ze <| Zu <| Ze <| Zs ?_
     have S67 := S38.trans s66 (Zl (.inl (by simp)) Zt)
     exact ⟨_, rfl, ht64, h65, S67, ob61⟩
    replace HF := Z0i HF
    refine Wc rfl (Zd (vs := [pt b1 0, .string b'83]) rfl Z20) (Zn _ hr54 S38.sub (rs5.mono ((le11).trans le37)) ob48) ?_
    rintro v57 w58 ⟨h59, s60, rfl, ob68⟩
    have S69 := S38.trans s60 (Zl (.inl (by simp)) Zt)
    refine Z6 <| Z01 [0, 4, 5] _ rfl ?_
    exact J231 ⟨h59, xs39, .slice A49 (xs39).length c50, xs43, v44, r56, HF, rfl, S69, s60.le, (rs51.mono (s60.le)), (ow42.step s60 (Z2 (ow42.ne_old lt8) Z9)), (rs45.mono (s60.le)), (ow46.step s60 (Z2 (ow46.ne_old lt8) Z9)), ob68⟩
   refine Zq <| Z01 [0, 4, 5] _ rfl ?_
   exact J231 ⟨h35, xs39, .slice A49 (xs39).length c50, xs43, v44, x47, HF, rfl, S38, Hle.refl _, rs51, ow42, rs45, ow46, ob48⟩
  intro J232
  refine Zc <| Z0 <| Wm rfl rfl ?_
  obtain ⟨r26, hr27, HF⟩ := Z5 HF
  refine Wc rfl (Zd (vs := [pt b1 0, .string b'80]) rfl Z53) (Z0p _ hr27 S12.sub (rs5.mono (le11)) ob22) ?_
  rintro _ w29 ⟨h30, s31, rfl, ob32⟩
  have S33 := S12.trans s31 (Zl (.inl (by simp)) Zt)
  refine Wv rfl (Z30 rfl) <| Z6 <| Z4 <| Z15 HF rfl (fun HF => ?_) (fun HF => ?_)
  ·refine Zq <| Z01 [0, 4, 5] _ rfl ?_
   exact J232 ⟨h30, xs13, v14, xs17, v18, r26.2, HF, rfl, S33, s31.le, (rs15.mono (s31.le)), (ow16.step s31 (Z2 (ow16.ne_old lt8) Z9)), (rs19.mono (s31.le)), (ow20.step s31 (Z2 (ow20.ne_old lt8) Z9)), ob32⟩
  refine Z66 <| Z05 <| Z05 <| Z1m <| Z4 <| Zc <| Z0 <| Wm rfl rfl <| Wm rfl rfl <| Wa rfl rfl <| Wa rfl rfl <| Z6 <| Z4 <| Z0b <| WQ.ret2 rfl rfl rfl ?_
  obtain rfl := Option.some.inj HF
  exact ⟨_, rfl, h30, S33, ⟨_, _, rfl, (rs15.mono (s31.le)), (rs19.mono (s31.le))⟩, ob32⟩
 exact ⟨h0, ([] : List ByteArray), .slice none 0 0, ([] : List Ex), .slice none 0 0, x6, HF, rfl, S0, Hle.refl _, (RS.nil _), (Own.nil _ _ _ _ _), (RS.nil _), (Own.nil _ _ _ _ _), ob7⟩
theorem Zhd : ∀ k j, j ≤ k → Z6q (Z1n j).parse_Parser_Inputs := by
  intro k
  induction k with
  | zero =>
    intro j hj
    obtain rfl : j = 0 := by omega
    exact (fun _ _ _ => by intro h; cases h)
  | succ k ih =>
    intro j hj
    by_cases h : j ≤ k
    · exact ih j h
    · obtain rfl : j = k + 1 := by omega
      exact s_parse_Parser_Inputs k ih
theorem Zcd (k : Nat) : Z6q (Zd8 k) := (Zhd k k (Nat.le_refl _))
def Zcq (φ : (List Tok) → Int → Option (Except (Int × Int × Int) (St × Int))) : Prop := ∀ ⦃xs3 : List Tok⦄ ⦃x6 : Int⦄ ⦃r : Except (Int × Int × Int) (St × Int)⦄, φ xs3 x6 = some r → ∀ ⦃w0 : World⦄ ⦃h0 : Hp⦄ ⦃b1 : Nat⦄ ⦃T2 : Nat⦄ ⦃v4 : Value⦄, Sub h0 w0 → RS h0 v4 xs3 → OB w0 h0 b1 T2 [v4, .int .i64 x6] →
  Calls Tryz.prog 59 #[.pointer (some ⟨b1, 0, none⟩)] w0 fun e w1 => match r with | .ok r => ∃ v, e = .returned v ∧ ∃ h1, Stp [b1] w0 h0 w1 h1 ∧ (∃ cs : List Value, v = .agg cs.toArray ∧ Rp.R h1 r.1 cs) ∧ (OB w1 h1 b1 T2 [v4, .int .i64 r.2]) | .error t => ∃ ch, e = .panicked ch ∧ Z8z 138 t.1 t.2.1 ch ∧ ∃ h1, Stp [b1] w0 h0 w1 h1 ∧ (OB w1 h1 b1 T2 [v4, .int .i64 t.2.2])
theorem s_parse_Parser_simple (k : Nat) : Zcq (Z9a k) := by
 intro xs3 x6 r HF w0 h0 b1 T2 v4 hs0 rs5 ob7
 have S0 : Stp [b1] w0 h0 w0 h0 := Stp.refl hs0 _
 have lt8 : b1 < w0.heap.size := OB.lt ob7
 refine Z4o (n := 33) Tryz.func59 rfl Tryz.ntmps59 rfl [(0, pt b1 0)] rfl <| Zc <| Z0 <| Z19 (zs := [vi 0, .string Z1e, .slice none 0 0, .slice none 0 0, .slice none 0 0, vi 0, .slice none 0 0, .slice none 0 0, .slice none 0 0, .bool false]) rfl rfl Z38 rfl S0.sub (fun w9 b10 hb11 s12 ob13 => ?_)
 have ne14 : b1 ≠ b10 := ob7.ne_new hb11
 have g15 : w0.heap.size ≤ b10 := by rw [hb11]; exact S0.size
 have S16 := S0.trans0 s12
 refine Z6 <| Z4 <| Zc <| Z0 <| Wm rfl rfl ?_
 have ob17 := (ob7.step0 s12)
 obtain ⟨r18, hr19, HF⟩ := Z5 HF
 rcases r18 with t20 | r21
 ·obtain rfl := Z02 HF
  refine Z0h rfl (Zd (vs := [pt b1 0]) rfl Zbw) (Z26 _ hr19 S16.sub (rs5.mono (s12.le)) ob17) ?_
  rintro ch27 w28 ⟨ht29, h30, s31, ob26⟩
  refine Ze <| Zs ?_
  have S32 := S16.trans s31 (Zl (.inl (by simp)) Zt)
  exact ⟨_, rfl, ht29, h30, S32, ob26⟩
 replace HF := Z0i HF
 refine Wc rfl (Zd (vs := [pt b1 0]) rfl Zbw) (Z26 _ hr19 S16.sub (rs5.mono (s12.le)) ob17) ?_
 rintro _ w23 ⟨h24, s25, rfl, ob33⟩
 have S34 := S16.trans s25 (Zl (.inl (by simp)) Zt)
 refine Wv rfl (Z3b (vs := [(0, vi 1), (1, .string r21.1)]) (cs := [vi 1, .string r21.1, .slice none 0 0, .slice none 0 0, .slice none 0 0, vi 0, .slice none 0 0, .slice none 0 0, .slice none 0 0, .bool false]) rfl Za1 Z38 rfl) ?_
 have ob35 := (ob13.step1 s25 (Ne.symm ne14))
 refine Z19 (zs := [vi 0, .string Z1e, .slice none 0 0, .slice none 0 0, .slice none 0 0, vi 0, .slice none 0 0, .slice none 0 0, .slice none 0 0, .bool false]) rfl rfl Z38 rfl S34.sub (fun w36 b37 hb38 s39 ob40 => ?_)
 have ne41 : b1 ≠ b37 := ob33.ne_new hb38
 have ne42 : b10 ≠ b37 := ob35.ne_new hb38
 have g43 : w0.heap.size ≤ b37 := by rw [hb38]; exact S34.size
 have S44 := S34.trans0 s39
 refine Zr (vs := [vi 1, .string r21.1, .slice none 0 0, .slice none 0 0, .slice none 0 0, vi 0, .slice none 0 0, .slice none 0 0, .slice none 0 0, .bool false]) rfl rfl rfl rfl Z0u (Z3 rfl (Z3 rfl (Z3 rfl (Z3 rfl (Z3 rfl (Z3 rfl (Z3 rfl (Z3 rfl (Z3 rfl (Z3 rfl Zx)))))))))) ob40 S44.sub (by simp) (ds := [vi 1, .string r21.1, .slice none 0 0, .slice none 0 0, .slice none 0 0, vi 0, .slice none 0 0, .slice none 0 0, .slice none 0 0, .bool false]) rfl (fun w45 s46 ob47 => ?_)
 have S48 := S44.trans1 s46 (.inr g43)
 refine Z6 <| Z4 <| Z09 (fun E w102 => ∃ (h101 : Hp) (x105 : Int), Zce k xs3 r21 x105 = some r ∧ E = [(0, pt b1 0), (2, pt b10 0), (3, pt b37 0)] ∧ Stp [b1] w0 h0 w102 h101 ∧ Hle h24 h101 ∧ OB w102 h101 b1 T2 [v4, vi x105] ∧ OB w102 h101 b10 56 [vi 0, .string Z1e, .slice none 0 0, .slice none 0 0, .slice none 0 0, vi 0, .slice none 0 0, .slice none 0 0, .slice none 0 0, .bool false] ∧ OB w102 h101 b37 56 [vi 1, .string r21.1, .slice none 0 0, .slice none 0 0, .slice none 0 0, vi 0, .slice none 0 0, .slice none 0 0, .slice none 0 0, .bool false]) ?_ ?_
 ·rintro E w102 ⟨h101, x105, HF, rfl, S104, le103, ob106, ob107, ob108⟩
  refine Z09 (fun E w177 => ∃ (h176 : Hp) (x180 : Int) (xs183 : List Ex) (v184 : Value), Z8e k xs3 r21 x180 xs183 = some r ∧ E = [(0, pt b1 0), (2, pt b10 0), (3, pt b37 0)] ∧ Stp [b1] w0 h0 w177 h176 ∧ Hle h101 h176 ∧ RS h176 v184 xs183 ∧ Own w177 h176 w0.heap.size 47 6 v184 xs183.length ∧ OB w177 h176 b1 T2 [v4, vi x180] ∧ OB w177 h176 b10 56 [vi 0, .string Z1e, .slice none 0 0, .slice none 0 0, .slice none 0 0, vi 0, .slice none 0 0, .slice none 0 0, .slice none 0 0, .bool false] ∧ OB w177 h176 b37 56 [vi 1, .string r21.1, v184, .slice none 0 0, .slice none 0 0, vi 0, .slice none 0 0, .slice none 0 0, .slice none 0 0, .bool false]) ?_ ?_
  ·rintro E w177 ⟨h176, x180, xs183, v184, HF, rfl, S179, le178, rs185, ow186, ob181, ob182, ob187⟩
   refine Zc <| Z0 <| Wm rfl rfl ?_
   obtain ⟨r188, hr189, HF⟩ := Z5 HF
   rcases r188 with t190 | r191
   ·obtain rfl := Z02 HF
    refine Z0h rfl (Zd (vs := [pt b1 0, .string b'87]) rfl Z20) (Zn _ hr189 S179.sub (rs5.mono ((s12.le).trans ((s25.le).trans ((s39.le).trans ((s46.le).trans ((le103).trans le178)))))) ob181) ?_
    rintro ch197 w198 ⟨ht199, h200, s201, ob196⟩
    refine Ze <| Zs ?_
    have S202 := S179.trans s201 (Zl (.inl (by simp)) Zt)
    exact ⟨_, rfl, ht199, h200, S202, ob196⟩
   replace HF := Z0i HF
   refine Wc rfl (Zd (vs := [pt b1 0, .string b'87]) rfl Z20) (Zn _ hr189 S179.sub (rs5.mono ((s12.le).trans ((s25.le).trans ((s39.le).trans ((s46.le).trans ((le103).trans le178)))))) ob181) ?_
   rintro v192 w193 ⟨h194, s195, rfl, ob203⟩
   have S204 := S179.trans s195 (Zl (.inl (by simp)) Zt)
   refine Z6 <| Z4 <| Zc <| Z0 <| Wm rfl rfl ?_
   obtain ⟨r205, hr206, HF⟩ := Z5 HF
   rcases r205 with t207 | r208
   ·obtain rfl := Z02 HF
    have ob213 := (ob182.step1 s195 (Ne.symm ne14))
    have ob214 := (ob187.step1 s195 (Ne.symm ne41))
    refine Z0h rfl (Zd (vs := [pt b1 0]) rfl Z3l) (Z08 _ hr206 S204.sub (rs5.mono ((s12.le).trans ((s25.le).trans ((s39.le).trans ((s46.le).trans ((le103).trans ((le178).trans s195.le))))))) ob203) ?_
    rintro ch216 w217 ⟨ht218, h219, s220, ob215⟩
    refine Ze <| Zs ?_
    have S221 := S204.trans s220 (Zl (.inl (by simp)) Zt)
    exact ⟨_, rfl, ht218, h219, S221, ob215⟩
   replace HF := Z0i HF
   refine Wc rfl (Zd (vs := [pt b1 0]) rfl Z3l) (Z08 _ hr206 S204.sub (rs5.mono ((s12.le).trans ((s25.le).trans ((s39.le).trans ((s46.le).trans ((le103).trans ((le178).trans s195.le))))))) ob203) ?_
   have ob224 := (ob182.step1 s195 (Ne.symm ne14))
   have ob225 := (ob187.step1 s195 (Ne.symm ne41))
   rintro _ w210 ⟨h211, s212, ⟨cs222, rfl, r223⟩, ob226⟩
   have S227 := S204.trans s212 (Zl (.inl (by simp)) Zt)
   obtain ⟨v228, rfl, rs229⟩ := Zab.1 r223
   have ob237 := (ob224.step1 s212 (Ne.symm ne14))
   have ob238 := (ob225.step1 s212 (Ne.symm ne41))
   refine Z10 (us := [.agg #[vi r208.1.op, vi r208.1.kind, vi r208.1.n, .string r208.1.s, .string r208.1.f, v228]]) (cs := [vi r208.1.op, vi r208.1.kind, vi r208.1.n, .string r208.1.s, .string r208.1.f, v228]) rfl rfl rfl Z0v Z0l Z1w rfl (Z0c rfl Zci) rfl rfl rfl S227.sub (fun w230 h231 b232 hb233 s234 hk235 hc236 => ?_)
   have S239 := S227.trans0 s234
   have rs240 : RS h231 (sl b232 0 1 1) ([r208.1] : List Ex) := RS.litL _ [[vi r208.1.op, vi r208.1.kind, vi r208.1.n, .string r208.1.s, .string r208.1.f, v228]] rfl rfl hc236 ⟨(Zab.2 ⟨_, rfl, (rs229.mono (s234.le))⟩), trivial⟩
   have ow241 := Own.lit (base := w0.heap.size) (sz := 6) (m := 1) hk235 hc236 (by rw [hb233]; exact S227.size) rfl (by decide)
   refine Wv rfl (Z1 rfl Z3u) ?_
   have ob242 := (ob238.step0 s234)
   refine Zr (vs := [sl b232 0 1 1]) rfl rfl rfl rfl Zdc (Z3 rfl Zx) ob242 S239.sub (by simp) (ds := [vi 1, .string r21.1, v184, .slice none 0 0, sl b232 0 1 1, vi 0, .slice none 0 0, .slice none 0 0, .slice none 0 0, .bool false]) rfl (fun w243 s244 ob245 => ?_)
   have S246 := S239.trans1 s244 (.inr g43)
   refine Z6 <| Z4 <| Zc <| Z0 <| Wv rfl (Z2t (cs := [vi 1, .string r21.1, v184, .slice none 0 0, sl b232 0 1 1, vi 0, .slice none 0 0, .slice none 0 0, .slice none 0 0, .bool false]) rfl Z6y Z0u (OB.cells ob245 0 rfl)) ?_
   have ob247 := ((ob237.step0 s234).step1 s244 ne42)
   refine Zr (vs := [vi 1, .string r21.1, v184, .slice none 0 0, sl b232 0 1 1, vi 0, .slice none 0 0, .slice none 0 0, .slice none 0 0, .bool false]) rfl rfl rfl rfl Z0u (Z3 rfl (Z3 rfl (Z3 (RS.one (rs185.mono ((s195.le).trans ((s212.le).trans ((s234.le).trans s244.le))))) (Z3 rfl (Z3 rfl (Z3 rfl (Z3 rfl (Z3 rfl (Z3 rfl (Z3 rfl Zx)))))))))) ob247 S246.sub (by simp) (ds := [vi 1, .string r21.1, v184, .slice none 0 0, sl b232 0 1 1, vi 0, .slice none 0 0, .slice none 0 0, .slice none 0 0, .bool false]) rfl (fun w248 s249 ob250 => ?_)
   have S251 := S246.trans1 s249 (.inr g15)
   refine Z6 <| Z4 <| Z0b ?_
   have ob252 := (((ob226.step0 s234).step1 s244 ne41).step1 s249 ne14)
   refine Z5k rfl rfl (Z0x (cs := [vi 1, .string r21.1, v184, .slice none 0 0, sl b232 0 1 1, vi 0, .slice none 0 0, .slice none 0 0, .slice none 0 0, .bool false]) Z6y Z0u (OB.cells ob250 0 rfl)) ?_
   obtain rfl := Option.some.inj HF
   exact ⟨_, rfl, h231, S251, ⟨_, rfl, (rp_St.2 ⟨_, _, _, _, _, _, rfl, (rs185.mono ((s195.le).trans ((s212.le).trans ((s234.le).trans ((s244.le).trans s249.le))))), (RS.nil _), (rs240.mono ((s244.le).trans s249.le)), (RS.nil _), (RS.nil _), (RS.nil _)⟩)⟩, ob252⟩
  intro J253
  refine Zc <| Z0 <| Wm rfl rfl ?_
  obtain ⟨r109, hr110, HF⟩ := Z5 HF
  refine Wc rfl (Zd (vs := [pt b1 0, .string b'96]) rfl Z53) (Z0p _ hr110 S104.sub (rs5.mono ((s12.le).trans ((s25.le).trans ((s39.le).trans ((s46.le).trans le103))))) ob106) ?_
  rintro _ w112 ⟨h113, s114, rfl, ob115⟩
  have S116 := S104.trans s114 (Zl (.inl (by simp)) Zt)
  refine Z6 <| Z4 <| Z15 HF rfl (fun HF => ?_) (fun HF => ?_)
  ·refine Zc <| Z0 <| Wm rfl rfl ?_
   obtain ⟨r118, hr119, HF⟩ := Z5 HF
   rcases r118 with t120 | r121
   ·obtain rfl := Z02 HF
    refine Z0h rfl (Zd (vs := [pt b1 0]) rfl Z3l) (Z08 _ hr119 S116.sub (rs5.mono ((s12.le).trans ((s25.le).trans ((s39.le).trans ((s46.le).trans ((le103).trans s114.le)))))) ob115) ?_
    rintro ch127 w128 ⟨ht129, h130, s131, ob126⟩
    refine Ze <| Ze <| Zs ?_
    have S132 := S116.trans s131 (Zl (.inl (by simp)) Zt)
    exact ⟨_, rfl, ht129, h130, S132, ob126⟩
   replace HF := Z0i HF
   refine Wc rfl (Zd (vs := [pt b1 0]) rfl Z3l) (Z08 _ hr119 S116.sub (rs5.mono ((s12.le).trans ((s25.le).trans ((s39.le).trans ((s46.le).trans ((le103).trans s114.le)))))) ob115) ?_
   rintro _ w123 ⟨h124, s125, ⟨cs133, rfl, r134⟩, ob135⟩
   have S136 := S116.trans s125 (Zl (.inl (by simp)) Zt)
   obtain ⟨v137, rfl, rs138⟩ := Zab.1 r134
   have ob146 := ((ob107.step1 s114 (Ne.symm ne14)).step1 s125 (Ne.symm ne14))
   have ob147 := ((ob108.step1 s114 (Ne.symm ne41)).step1 s125 (Ne.symm ne41))
   refine Z10 (us := [.agg #[vi r121.1.op, vi r121.1.kind, vi r121.1.n, .string r121.1.s, .string r121.1.f, v137]]) (cs := [vi r121.1.op, vi r121.1.kind, vi r121.1.n, .string r121.1.s, .string r121.1.f, v137]) rfl rfl rfl Z0v Z0l Z1w rfl (Z0c rfl Zci) rfl rfl rfl S136.sub (fun w139 h140 b141 hb142 s143 hk144 hc145 => ?_)
   have S148 := S136.trans0 s143
   have rs149 : RS h140 (sl b141 0 1 1) ([r121.1] : List Ex) := RS.litL _ [[vi r121.1.op, vi r121.1.kind, vi r121.1.n, .string r121.1.s, .string r121.1.f, v137]] rfl rfl hc145 ⟨(Zab.2 ⟨_, rfl, (rs138.mono (s143.le))⟩), trivial⟩
   have ow150 := Own.lit (base := w0.heap.size) (sz := 6) (m := 1) hk144 hc145 (by rw [hb142]; exact S136.size) rfl (by decide)
   refine Wv rfl (Z1 rfl Z8d) ?_
   have ob151 := (ob147.step0 s143)
   refine Zr (vs := [sl b141 0 1 1]) rfl rfl rfl rfl Zdc (Z3 rfl Zx) ob151 S148.sub (by simp) (ds := [vi 1, .string r21.1, sl b141 0 1 1, .slice none 0 0, .slice none 0 0, vi 0, .slice none 0 0, .slice none 0 0, .slice none 0 0, .bool false]) rfl (fun w152 s153 ob154 => ?_)
   have S155 := S148.trans1 s153 (.inr g43)
   refine Z6 <| Z4 <| Z0 <| Wm rfl rfl ?_
   have ob156 := ((ob135.step0 s143).step1 s153 ne41)
   obtain ⟨r157, hr158, HF⟩ := Z5 HF
   rcases r157 with t159 | r160
   ·obtain rfl := Z02 HF
    have ob165 := ((ob146.step0 s143).step1 s153 ne42)
    refine Z0h rfl (Zd (vs := [pt b1 0, .string b'97]) rfl Z20) (Zn _ hr158 S155.sub (rs5.mono ((s12.le).trans ((s25.le).trans ((s39.le).trans ((s46.le).trans ((le103).trans ((s114.le).trans ((s125.le).trans ((s143.le).trans s153.le))))))))) ob156) ?_
    rintro ch167 w168 ⟨ht169, h170, s171, ob166⟩
    refine Ze <| Zs ?_
    have S172 := S155.trans s171 (Zl (.inl (by simp)) Zt)
    exact ⟨_, rfl, ht169, h170, S172, ob166⟩
   replace HF := Z0i HF
   refine Wc rfl (Zd (vs := [pt b1 0, .string b'97]) rfl Z20) (Zn _ hr158 S155.sub (rs5.mono ((s12.le).trans ((s25.le).trans ((s39.le).trans ((s46.le).trans ((le103).trans ((s114.le).trans ((s125.le).trans ((s143.le).trans s153.le))))))))) ob156) ?_
   have ob173 := ((ob146.step0 s143).step1 s153 ne42)
   rintro v161 w162 ⟨h163, s164, rfl, ob174⟩
   have S175 := S155.trans s164 (Zl (.inl (by simp)) Zt)
   refine Z6 ?_
   have ob254 := (ob173.step1 s164 (Ne.symm ne14))
   have ob255 := (ob154.step1 s164 (Ne.symm ne41))
   refine Z01 [0, 2, 3] _ rfl ?_
   exact J253 ⟨h163, r160, [r121.1], sl b141 0 1 1, HF, rfl, S175, (s114.le).trans ((s125.le).trans ((s143.le).trans ((s153.le).trans s164.le))), (rs149.mono ((s153.le).trans s164.le)), ((ow150.step s153 (Z2 (ow150.ne_ob ob151 (by decide)) Z9)).step s164 (Z2 ((ow150.step s153 (Z2 (ow150.ne_ob ob151 (by decide)) Z9)).ne_old lt8) Z9)), ob174, ob254, ob255⟩
  refine Zq ?_
  have ob256 := (ob107.step1 s114 (Ne.symm ne14))
  have ob257 := (ob108.step1 s114 (Ne.symm ne41))
  refine Z01 [0, 2, 3] _ rfl ?_
  exact J253 ⟨h113, r109.2, ([] : List Ex), .slice none 0 0, HF, rfl, S116, s114.le, (RS.nil _), (Own.nil _ _ _ _ _), ob115, ob256, ob257⟩
 intro J258
 refine Zc <| Z0 <| Wm rfl rfl ?_
 have ob49 := ((ob33.step0 s39).step1 s46 ne41)
 obtain ⟨r50, hr51, HF⟩ := Z5 HF
 refine Wc rfl (Zd (vs := [pt b1 0, .string b'79]) rfl Z53) (Z0p _ hr51 S48.sub (rs5.mono ((s12.le).trans ((s25.le).trans ((s39.le).trans s46.le)))) ob49) ?_
 rintro _ w53 ⟨h54, s55, rfl, ob56⟩
 have S57 := S48.trans s55 (Zl (.inl (by simp)) Zt)
 refine Z6 <| Z4 <| Z15 HF rfl (fun HF => ?_) (fun HF => ?_)
 ·refine Zc <| Z0 <| Wv rfl (Z1 rfl Z1x) ?_
  have ob59 := (ob47.step1 s55 (Ne.symm ne41))
  refine Zr (vs := [vi 2]) rfl rfl rfl rfl Z1s (Z3 rfl Zx) ob59 S57.sub (by simp) (ds := [vi 2, .string r21.1, .slice none 0 0, .slice none 0 0, .slice none 0 0, vi 0, .slice none 0 0, .slice none 0 0, .slice none 0 0, .bool false]) rfl (fun w60 s61 ob62 => ?_)
  have S63 := S57.trans1 s61 (.inr g43)
  refine Z6 <| Z4 <| Zc <| Z0 <| Wm rfl rfl ?_
  have ob64 := (ob56.step1 s61 ne41)
  obtain ⟨r65, hr66, HF⟩ := Z5 HF
  rcases r65 with t67 | r68
  ·obtain rfl := Z02 HF
   refine Z0h rfl (Zd (vs := [pt b1 0]) rfl t_ent_110) (Zcd _ hr66 S63.sub (rs5.mono ((s12.le).trans ((s25.le).trans ((s39.le).trans ((s46.le).trans ((s55.le).trans s61.le)))))) ob64) ?_
   rintro ch74 w75 ⟨ht76, h77, s78, ob73⟩
   refine Ze <| Ze <| Zs ?_
   have S79 := S63.trans s78 (Zl (.inl (by simp)) Zt)
   exact ⟨_, rfl, ht76, h77, S79, ob73⟩
  replace HF := Z0i HF
  refine Wc rfl (Zd (vs := [pt b1 0]) rfl t_ent_110) (Zcd _ hr66 S63.sub (rs5.mono ((s12.le).trans ((s25.le).trans ((s39.le).trans ((s46.le).trans ((s55.le).trans s61.le)))))) ob64) ?_
  rintro _ w70 ⟨h71, s72, ⟨v80, v82, rfl, rs81, rs83⟩, ob84⟩
  have S85 := S63.trans s72 (Zl (.inl (by simp)) Zt)
  refine Wm rfl rfl <| Wv rfl (Z0a rfl rfl) <| Wv rfl (Z0a rfl rfl) <| Wv rfl (Z1 rfl Z8f) ?_
  have ob86 := (ob62.step1 s72 (Ne.symm ne41))
  refine Zr (vs := [v80]) rfl rfl rfl (RS.cellsL rs81) t_size_53 (Z3 (RS.one rs81) Zx) ob86 S85.sub (by simp) (ds := [vi 2, .string r21.1, .slice none 0 0, v80, .slice none 0 0, vi 0, .slice none 0 0, .slice none 0 0, .slice none 0 0, .bool false]) rfl (fun w87 s88 ob89 => ?_)
  have S90 := S85.trans1 s88 (.inr g43)
  refine Wv rfl (Z1 rfl Z3u) <| Zr (vs := [v82]) rfl rfl rfl (RS.cellsL (rs83.mono (s88.le))) Zdc (Z3 (RS.one (rs83.mono (s88.le))) Zx) ob89 S90.sub (by simp) (ds := [vi 2, .string r21.1, .slice none 0 0, v80, v82, vi 0, .slice none 0 0, .slice none 0 0, .slice none 0 0, .bool false]) rfl (fun w91 s92 ob93 => ?_)
  have S94 := S90.trans1 s92 (.inr g43)
  refine Z6 <| Z4 <| Zc <| Z0 <| Wv rfl (Z2t (cs := [vi 2, .string r21.1, .slice none 0 0, v80, v82, vi 0, .slice none 0 0, .slice none 0 0, .slice none 0 0, .bool false]) rfl Z6y Z0u (OB.cells ob93 0 rfl)) ?_
  have ob95 := (((((((ob35.step0 s39).step1 s46 ne42).step1 s55 (Ne.symm ne14)).step1 s61 ne42).step1 s72 (Ne.symm ne14)).step1 s88 ne42).step1 s92 ne42)
  refine Zr (vs := [vi 2, .string r21.1, .slice none 0 0, v80, v82, vi 0, .slice none 0 0, .slice none 0 0, .slice none 0 0, .bool false]) rfl rfl rfl rfl Z0u (Z3 rfl (Z3 rfl (Z3 rfl (Z3 (RS.one (rs81.mono ((s88.le).trans s92.le))) (Z3 (RS.one (rs83.mono ((s88.le).trans s92.le))) (Z3 rfl (Z3 rfl (Z3 rfl (Z3 rfl (Z3 rfl Zx)))))))))) ob95 S94.sub (by simp) (ds := [vi 2, .string r21.1, .slice none 0 0, v80, v82, vi 0, .slice none 0 0, .slice none 0 0, .slice none 0 0, .bool false]) rfl (fun w96 s97 ob98 => ?_)
  have S99 := S94.trans1 s97 (.inr g15)
  refine Z6 <| Z4 <| Z0b <| Zv ?_
  have ob100 := (((ob84.step1 s88 ne41).step1 s92 ne41).step1 s97 ne14)
  refine Z5k rfl rfl (Z0x (cs := [vi 2, .string r21.1, .slice none 0 0, v80, v82, vi 0, .slice none 0 0, .slice none 0 0, .slice none 0 0, .bool false]) Z6y Z0u (OB.cells ob98 0 rfl)) ?_
  obtain rfl := Option.some.inj HF
  exact ⟨_, rfl, h71, S99, ⟨_, rfl, (rp_St.2 ⟨_, _, _, _, _, _, rfl, (RS.nil _), (rs81.mono ((s88.le).trans ((s92.le).trans s97.le))), (rs83.mono ((s88.le).trans ((s92.le).trans s97.le))), (RS.nil _), (RS.nil _), (RS.nil _)⟩)⟩, ob100⟩
 refine Zq ?_
 have ob259 := (((ob35.step0 s39).step1 s46 ne42).step1 s55 (Ne.symm ne14))
 have ob260 := (ob47.step1 s55 (Ne.symm ne41))
 refine Z01 [0, 2, 3] _ rfl ?_
 exact J258 ⟨h54, r50.2, HF, rfl, S57, s55.le, ob56, ob259, ob260⟩
theorem Zcf (k : Nat) : Zcq (Z9a k) := s_parse_Parser_simple k
end Go.Proofs.YtkodnhngllfemaaGreatDoor
