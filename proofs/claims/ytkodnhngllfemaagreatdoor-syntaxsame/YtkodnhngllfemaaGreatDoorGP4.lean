import Derived.Test.YtkodnhngllfemaaGreatDoorE0
import Derived.Test.YtkodnhngllfemaaGreatDoorGP3
set_option linter.unusedVariables false
set_option linter.unusedSimpArgs false
set_option maxRecDepth 20000
set_option maxHeartbeats 4000000
namespace Go.Proofs.YtkodnhngllfemaaGreatDoor
open Go
def Z7g (φ : Int → Int → Ar → Int → Int → Option (Bool × Int × Int)) : Prop := ∀ ⦃x3 : Int⦄ ⦃x4 : Int⦄ ⦃x6 : Ar⦄ ⦃x9 : Int⦄ ⦃x10 : Int⦄ ⦃r : Bool × Int × Int⦄, φ x3 x4 x6 x9 x10 = some r → ∀ ⦃w0 : World⦄ ⦃h0 : Hp⦄ ⦃b1 : Nat⦄ ⦃T2 : Nat⦄ ⦃cs7 : List Value⦄, Sub h0 w0 → Rp.R h0 x6 cs7 → OB w0 h0 b1 T2 [.int .i64 x3, .int .i64 x4] →
  Calls Tryz.prog 133 #[.pointer (some ⟨b1, 0, none⟩), .agg cs7.toArray, .int .i64 x9, .int .i64 x10] w0 fun e w1 => ∃ v, e = .returned v ∧ ∃ h1, Stp [b1] w0 h0 w1 h1 ∧ v = .bool r.1 ∧ (OB w1 h1 b1 T2 [.int .i64 r.2.1, .int .i64 r.2.2])
def Z56 (φ : Int → Int → (List St) → Int → Option (Bool × Int × Int)) : Prop := ∀ ⦃x3 : Int⦄ ⦃x4 : Int⦄ ⦃xs6 : List St⦄ ⦃x9 : Int⦄ ⦃r : Bool × Int × Int⦄, φ x3 x4 xs6 x9 = some r → ∀ ⦃w0 : World⦄ ⦃h0 : Hp⦄ ⦃b1 : Nat⦄ ⦃T2 : Nat⦄ ⦃v7 : Value⦄, Sub h0 w0 → RS h0 v7 xs6 → OB w0 h0 b1 T2 [.int .i64 x3, .int .i64 x4] →
  Calls Tryz.prog 43 #[.pointer (some ⟨b1, 0, none⟩), v7, .int .i64 x9] w0 fun e w1 => ∃ v, e = .returned v ∧ ∃ h1, Stp [b1] w0 h0 w1 h1 ∧ v = .bool r.1 ∧ (OB w1 h1 b1 T2 [.int .i64 r.2.1, .int .i64 r.2.2])
def Z6s (φ : Int → Int → St → Int → Option (Bool × Int × Int)) : Prop := ∀ ⦃x3 : Int⦄ ⦃x4 : Int⦄ ⦃x6 : St⦄ ⦃x9 : Int⦄ ⦃r : Bool × Int × Int⦄, φ x3 x4 x6 x9 = some r → ∀ ⦃w0 : World⦄ ⦃h0 : Hp⦄ ⦃b1 : Nat⦄ ⦃T2 : Nat⦄ ⦃cs7 : List Value⦄, Sub h0 w0 → Rp.R h0 x6 cs7 → OB w0 h0 b1 T2 [.int .i64 x3, .int .i64 x4] →
  Calls Tryz.prog 75 #[.pointer (some ⟨b1, 0, none⟩), .agg cs7.toArray, .int .i64 x9] w0 fun e w1 => ∃ v, e = .returned v ∧ ∃ h1, Stp [b1] w0 h0 w1 h1 ∧ v = .bool r.1 ∧ (OB w1 h1 b1 T2 [.int .i64 r.2.1, .int .i64 r.2.2])
theorem s_ast_Counter_arm (k : Nat) (IH : ∀ j, j ≤ k → Z7g (Zq j).ast_Counter_arm ∧ Z56 (Zq j).ast_Counter_Text ∧ Z6s (Zq j).ast_Counter_stmt) : Z7g (Zh6 k (Zq k)) := by
 intro x3 x4 x6 x9 x10 r HF w0 h0 b1 T2 cs7 hs0 r8 ob5
 have S0 : Stp [b1] w0 h0 w0 h0 := Stp.refl hs0 _
 have lt11 : b1 < w0.heap.size := OB.lt ob5
 refine Z4j (n := 62) Tryz.func133 rfl Tryz.ntmps133 rfl [(0, pt b1 0), (1, .agg cs7.toArray), (2, vi x9), (3, vi x10)] rfl <| Zb <| Z1 ?_
 obtain ⟨v12, v14, v16, rfl, rs13, rs15, rs17⟩ := rp_Ar.1 r8
 refine Zhq (cs := [v12, v14, v16]) rfl rfl rfl rfl S0.sub (fun w18 b19 hb20 s21 ob22 => ?_)
 have ne23 : b1 ≠ b19 := ob5.ne_new hb20
 have g24 : w0.heap.size ≤ b19 := by rw [hb20]; exact S0.size
 have S25 := S0.trans0 s21
 refine Wa rfl rfl <| Z7 <| Z6 <| Z09 (fun E w59 => ∃ (h58 : Hp) (x62 : Int) (x63 : Int), Zfg k (Zq k) x6 x9 x10 x62 x63 = some r ∧ E = [(0, pt b1 0), (2, vi x9), (3, vi x10), (5, pt b19 0)] ∧ Stp [b1] w0 h0 w59 h58 ∧ Hle h0 h58 ∧ OB w59 h58 b1 T2 [vi x62, vi x63] ∧ OB w59 h58 b19 77 [v12, v14, v16]) ?_ ?_
 ·rintro E w59 ⟨h58, x62, x63, HF, rfl, S61, le60, ob64, ob65⟩
  refine Z09 (fun E w95 => ∃ (h94 : Hp), Zfv k (Zq k) x6 x10 x62 x63 = some r ∧ E = [(0, pt b1 0), (3, vi x10), (5, pt b19 0)] ∧ Stp [b1] w0 h0 w95 h94 ∧ Hle h58 h94 ∧ OB w95 h94 b1 T2 [vi x62, vi x63] ∧ OB w95 h94 b19 77 [v12, v14, v16]) ?_ ?_
  ·rintro E w95 ⟨h94, HF, rfl, S97, le96, ob98, ob99⟩
   refine Zb <| Z1 <| Wm rfl rfl <| Wv rfl (Z2 rfl Z40) <| Wv rfl (Zc rfl Z2k (OB.cell ob99 (j := 0) rfl)) <| Wm rfl rfl <| Wv rfl (Z3n rfl rfl) ?_
   obtain ⟨r100, hr101, HF⟩ := Z8 HF
   refine Wc rfl (Ze (vs := [pt b1 0, v12, vi (IntKind.i64.wrap (x10 + 1))]) rfl t_ent_134) (Z9a _ hr101 S97.sub (rs13.mono ((s21.le).trans ((le60).trans le96))) ob98) ?_
   rintro _ w103 ⟨h104, s105, rfl, ob106⟩
   have S107 := S97.trans s105 (Zn (.inl (by simp)) Z04)
   refine Wm rfl rfl <| Z3g 54 HF rfl (fun HF => ?_) (fun HF => ?_)
   ·refine Wm rfl rfl <| Wv rfl (Z2 rfl Z8c) ?_
    have ob109 := (ob99.step1 s105 (Ne.symm ne23))
    refine Wv rfl (Zc rfl Z4f (OB.cell ob109 (j := 2) rfl)) <| Wm rfl rfl <| Wv rfl (Z3n rfl rfl) ?_
    obtain ⟨r110, hr111, HF⟩ := Z8 HF
    refine Wc rfl (Ze (vs := [pt b1 0, v16, vi (IntKind.i64.wrap (x10 + 1))]) rfl t_ent_43) ((IH _ (Nat.le_refl _)).2.1 hr111 S107.sub (rs17.mono ((s21.le).trans ((le60).trans ((le96).trans s105.le)))) ob106) ?_
    rintro _ w113 ⟨h114, s115, rfl, ob116⟩
    have S117 := S107.trans s115 (Zn (.inl (by simp)) Z04)
    refine Wv rfl (Zh rfl rfl) <| Wa rfl rfl <| Z7 <| Z6 <| Z00 <| Zt rfl rfl ?_
    obtain rfl := Option.some.inj HF
    exact ⟨_, rfl, h114, S117, rfl, ob116⟩
   refine Wp rfl <| Wp rfl <| Wp rfl <| Wp rfl <| Wp rfl <| Wp rfl <| Wv rfl (Zg rfl rfl) <| Wa rfl rfl <| Z7 <| Z6 <| Z00 <| Zt rfl rfl ?_
   obtain rfl := Option.some.inj HF
   exact ⟨_, rfl, h104, S107, rfl, ob106⟩
  intro J118
  refine Z09 (fun E w86 => ∃ (h85 : Hp) (x89 : Bool), Z2z k (Zq k) x6 x10 x62 x63 x89 = some r ∧ E = [(0, pt b1 0), (3, vi x10), (5, pt b19 0), (47, .bool x89)] ∧ Stp [b1] w0 h0 w86 h85 ∧ Hle h58 h85 ∧ OB w86 h85 b1 T2 [vi x62, vi x63] ∧ OB w86 h85 b19 77 [v12, v14, v16]) ?_ ?_
  ·rintro E w86 ⟨h85, x89, HF, rfl, S88, le87, ob90, ob91⟩
   refine Z17 HF rfl (fun HF => ?_) (fun HF => ?_)
   ·refine Zb <| Z1 <| Wa rfl rfl <| Z7 <| Z6 <| Z00 <| Zi <| Zt rfl rfl ?_
    obtain rfl := Option.some.inj HF
    exact ⟨_, rfl, h85, S88, rfl, ob90⟩
   refine Zm <| Z0g [0, 3, 5] _ rfl ?_
   exact J118 ⟨h85, HF, rfl, S88, le87, ob90, ob91⟩
  intro J93
  refine Z1 <| Wm rfl rfl <| Wv rfl (Z4n rfl rfl) <| Wm rfl rfl <| Z3g 20 HF rfl (fun HF => ?_) (fun HF => ?_)
  ·refine Wv rfl (Z2 rfl Z40) <| Wv rfl (Zc rfl Z2k (OB.cell ob65 (j := 0) rfl)) ?_
   obtain ⟨A67, c68, rfl, rs69⟩ := RS.form (rs13.mono ((s21.le).trans le60))
   refine Wv rfl (Z1n rfl Z0y) <| Wv rfl (Z7e rfl rfl) <| Wm rfl rfl <| Z3g 25 HF rfl (fun HF => ?_) (fun HF => ?_)
   ·refine Wp rfl <| Wp rfl <| Wp rfl <| Wp rfl <| Wv rfl (Zh rfl rfl) <| Wv rfl (Zh rfl rfl) <| Wm rfl rfl <| Wp rfl <| Wp rfl <| Wp rfl <| Wp rfl <| Wp rfl <| Wp rfl <| Wp rfl <| Wp rfl <| Wp rfl <| Wp rfl <| Wp rfl <| Wp rfl <| Wp rfl <| Wp rfl <| Wv rfl (Zh rfl rfl) <| Z7 <| Z0g [0, 3, 5, 47] _ rfl ?_
    exact J93 ⟨h58, true, HF, rfl, S61, Hle.refl _, ob64, ob65⟩
   refine Wv rfl (Z2 rfl Z42) <| Wv rfl (Zc rfl Zc4 (OB.cell ob65 (j := 1) rfl)) ?_
   obtain ⟨A71, c72, rfl, rs73⟩ := RS.form (rs15.mono ((s21.le).trans le60))
   refine Wv rfl (Z1n rfl Z3h) <| Wv rfl (Ze7 rfl rfl) <| Wv rfl (Zg rfl rfl) <| Wv rfl (Zh rfl rfl) <| Wm rfl rfl <| Z3g 32 HF rfl (fun HF => ?_) (fun HF => ?_)
   ·refine Wp rfl <| Wp rfl <| Wp rfl <| Wp rfl <| Wp rfl <| Wp rfl <| Wp rfl <| Wp rfl <| Wp rfl <| Wp rfl <| Wp rfl <| Wp rfl <| Wp rfl <| Wp rfl <| Wv rfl (Zh rfl rfl) <| Z7 <| Z0g [0, 3, 5, 47] _ rfl ?_
    exact J93 ⟨h58, true, HF, rfl, S61, Hle.refl _, ob64, ob65⟩
   refine Wm rfl rfl <| Wv rfl (Z4n rfl rfl) <| Wm rfl rfl <| Z3g 35 HF rfl (fun HF => ?_) (fun HF => ?_)
   ·refine Wv rfl (Z2 rfl Z40) <| Wv rfl (Zc rfl Z2k (OB.cell ob65 (j := 0) rfl)) <| Wv rfl (Z1n rfl Z0y) <| Wv rfl (Ze7 rfl rfl) <| Wm rfl rfl <| Z3g 40 HF rfl (fun HF => ?_) (fun HF => ?_)
    ·refine Wp rfl <| Wp rfl <| Wp rfl <| Wp rfl <| Wv rfl (Zh rfl rfl) <| Wv rfl (Zh rfl rfl) <| Wv rfl (Zg rfl rfl) <| Z7 <| Z0g [0, 3, 5, 47] _ rfl ?_
     exact J93 ⟨h58, true, HF, rfl, S61, Hle.refl _, ob64, ob65⟩
    refine Wv rfl (Z2 rfl Z42) <| Wv rfl (Zc rfl Zc4 (OB.cell ob65 (j := 1) rfl)) <| Wv rfl (Z1n rfl Z3h) <| Wv rfl (Z4n rfl rfl) <| Wv rfl (Zg rfl rfl) <| Wv rfl (Zh rfl rfl) <| Wv rfl (Zg rfl rfl) <| Z7 <| Z0g [0, 3, 5, 47] _ rfl ?_
    exact J93 ⟨h58, ((x6.labels.length : Int) : Int) == 0, HF, rfl, S61, Hle.refl _, ob64, ob65⟩
   refine Wp rfl <| Wp rfl <| Wp rfl <| Wp rfl <| Wp rfl <| Wp rfl <| Wp rfl <| Wp rfl <| Wp rfl <| Wp rfl <| Wv rfl (Zg rfl rfl) <| Wv rfl (Zg rfl rfl) <| Z7 <| Z0g [0, 3, 5, 47] _ rfl ?_
   exact J93 ⟨h58, false, HF, rfl, S61, Hle.refl _, ob64, ob65⟩
  refine Wp rfl <| Wp rfl <| Wp rfl <| Wp rfl <| Wp rfl <| Wp rfl <| Wp rfl <| Wp rfl <| Wp rfl <| Wp rfl <| Wv rfl (Zg rfl rfl) <| Wm rfl rfl <| Wm rfl rfl <| Wv rfl (Z4n rfl rfl) <| Wm rfl rfl <| Z3g 35 HF rfl (fun HF => ?_) (fun HF => ?_)
  ·refine Wv rfl (Z2 rfl Z40) <| Wv rfl (Zc rfl Z2k (OB.cell ob65 (j := 0) rfl)) ?_
   obtain ⟨A78, c79, rfl, rs80⟩ := RS.form (rs13.mono ((s21.le).trans le60))
   refine Wv rfl (Z1n rfl Z0y) <| Wv rfl (Ze7 rfl rfl) <| Wm rfl rfl <| Z3g 40 HF rfl (fun HF => ?_) (fun HF => ?_)
   ·refine Wp rfl <| Wp rfl <| Wp rfl <| Wp rfl <| Wv rfl (Zh rfl rfl) <| Wv rfl (Zh rfl rfl) <| Wv rfl (Zg rfl rfl) <| Z7 <| Z0g [0, 3, 5, 47] _ rfl ?_
    exact J93 ⟨h58, true, HF, rfl, S61, Hle.refl _, ob64, ob65⟩
   refine Wv rfl (Z2 rfl Z42) <| Wv rfl (Zc rfl Zc4 (OB.cell ob65 (j := 1) rfl)) ?_
   obtain ⟨A82, c83, rfl, rs84⟩ := RS.form (rs15.mono ((s21.le).trans le60))
   refine Wv rfl (Z1n rfl Z3h) <| Wv rfl (Z4n rfl rfl) <| Wv rfl (Zg rfl rfl) <| Wv rfl (Zh rfl rfl) <| Wv rfl (Zg rfl rfl) <| Z7 <| Z0g [0, 3, 5, 47] _ rfl ?_
   exact J93 ⟨h58, ((x6.labels.length : Int) : Int) == 0, HF, rfl, S61, Hle.refl _, ob64, ob65⟩
  refine Wp rfl <| Wp rfl <| Wp rfl <| Wp rfl <| Wp rfl <| Wp rfl <| Wp rfl <| Wp rfl <| Wp rfl <| Wp rfl <| Wv rfl (Zg rfl rfl) <| Wv rfl (Zg rfl rfl) <| Z7 <| Z0g [0, 3, 5, 47] _ rfl ?_
  exact J93 ⟨h58, false, HF, rfl, S61, Hle.refl _, ob64, ob65⟩
 intro J119
 refine Z09 (fun E w45 => ∃ (h44 : Hp) (x48 : Bool) (x49 : Int) (x50 : Int), Zb4 k (Zq k) x6 x9 x10 x48 x49 x50 = some r ∧ E = [(0, pt b1 0), (2, vi x9), (3, vi x10), (5, pt b19 0), (17, .bool x48)] ∧ Stp [b1] w0 h0 w45 h44 ∧ Hle h0 h44 ∧ OB w45 h44 b1 T2 [vi x49, vi x50] ∧ OB w45 h44 b19 77 [v12, v14, v16]) ?_ ?_
 ·rintro E w45 ⟨h44, x48, x49, x50, HF, rfl, S47, le46, ob51, ob52⟩
  refine Z17 HF rfl (fun HF => ?_) (fun HF => ?_)
  ·refine Zb <| Z1 <| Wa rfl rfl <| Z7 <| Z6 <| Z00 <| Zi <| Zt rfl rfl ?_
   obtain rfl := Option.some.inj HF
   exact ⟨_, rfl, h44, S47, rfl, ob51⟩
  refine Zm <| Z0g [0, 2, 3, 5] _ rfl ?_
  exact J119 ⟨h44, x49, x50, HF, rfl, S47, le46, ob51, ob52⟩
 intro J54
 refine Z1 <| Wm rfl rfl <| Wm rfl rfl ?_
 have ob26 := (ob5.step0 s21)
 obtain ⟨r27, hr28, HF⟩ := Z8 HF
 refine Wc rfl (Ze (vs := [pt b1 0, vi x10]) rfl t_ent_128) (Zb1 _ hr28 S25.sub ob26) ?_
 rintro _ w30 ⟨h31, s32, rfl, ob33⟩
 have S34 := S25.trans s32 (Zn (.inl (by simp)) Z04)
 refine Wv rfl (Z3c rfl) <| Wm rfl rfl <| Z3g 13 HF rfl (fun HF => ?_) (fun HF => ?_)
 ·refine Wp rfl <| Wp rfl <| Wp rfl <| Wv rfl (Zh rfl rfl) <| Z7 ?_
  have ob55 := (ob22.step1 s32 (Ne.symm ne23))
  refine Z0g [0, 2, 3, 5, 17] _ rfl ?_
  exact J54 ⟨h31, true, r27.2.1, r27.2.2, HF, rfl, S34, s32.le, ob33, ob55⟩
 refine Wv rfl (Z2 rfl Z42) ?_
 have ob36 := (ob22.step1 s32 (Ne.symm ne23))
 refine Wv rfl (Zc rfl Zc4 (OB.cell ob36 (j := 1) rfl)) ?_
 obtain ⟨r37, hr38, HF⟩ := Z8 HF
 refine Wc rfl (Ze (vs := [v14, .func (.func 172) #[] #[]]) rfl t_ent_171) (Zc2 _ hr38 S34.sub (rs15.mono ((s21.le).trans s32.le))) ?_
 rintro _ w40 ⟨h41, s42, rfl⟩
 have S43 := S34.trans0 s42
 refine Wv rfl (Zg rfl rfl) <| Z7 ?_
 have ob56 := (ob33.step0 s42)
 have ob57 := (ob36.step0 s42)
 refine Z0g [0, 2, 3, 5, 17] _ rfl ?_
 exact J54 ⟨h41, r37, r27.2.1, r27.2.2, HF, rfl, S43, (s32.le).trans s42.le, ob56, ob57⟩
theorem s_ast_Counter_Text (k : Nat) (IH : ∀ j, j ≤ k → Z7g (Zq j).ast_Counter_arm ∧ Z56 (Zq j).ast_Counter_Text ∧ Z6s (Zq j).ast_Counter_stmt) : Z56 (Zfi k (Zq k)) := by
 intro x3 x4 xs6 x9 r HF w0 h0 b1 T2 v7 hs0 rs8 ob5
 have S0 : Stp [b1] w0 h0 w0 h0 := Stp.refl hs0 _
 have lt10 : b1 < w0.heap.size := OB.lt ob5
 refine Z4j (n := 21) Tryz.func43 rfl Tryz.ntmps43 rfl [(0, pt b1 0), (1, v7), (2, vi x9)] rfl <| Zb <| Z1 <| Wa rfl rfl <| Z7 <| Z6 <| Zb <| Zb <| Z1 <| Wm rfl rfl ?_
 obtain ⟨A11, c12, rfl, rs13⟩ := RS.form rs8
 refine Wv rfl (Z1n rfl Z1y) <| Wm rfl rfl <| Z7 <| Z6 <| Z0p <| Z4m <| Z7y [0, 2, 9, 10, 11] [(0, pt b1 0), (2, vi x9), (9, .slice A11 (xs6).length c12), (10, vi (xs6.length : Int)), (11, vi 0)] rfl <| Z4k (K := k) (fun j E w15 => ∃ (h14 : Hp) (x18 : Int) (x19 : Int) (x20 : Int), (Zq j).ast_Counter_Text_l1 xs6 x9 x18 x19 x20 = some r ∧ E = [(0, pt b1 0), (2, vi x9), (9, .slice A11 (xs6).length c12), (10, vi (xs6.length : Int)), (11, vi x18)] ∧ Stp [b1] w0 h0 w15 h14 ∧ Hle h0 h14 ∧ OB w15 h14 b1 T2 [vi x19, vi x20]) ?_ ?_ (j := k) (Nat.le_refl _) ?_
 ·rintro E w15 ⟨_, _, _, _, HF, _⟩; cases HF
 ·rintro j22 hj24 IHL23 E w15 ⟨h14, x18, x19, x20, HF, rfl, S17, le16, ob21⟩
  refine Zb <| Z1 <| Wv rfl (Zbt rfl rfl) <| Z7 <| Z6 <| Z09 (fun E w27 => ∃ (h26 : Hp), Zen j22 (Zq j22) xs6 x9 x18 x19 x20 = some r ∧ E = [(0, pt b1 0), (2, vi x9), (9, .slice A11 (xs6).length c12), (10, vi (xs6.length : Int)), (11, vi x18)] ∧ Stp [b1] w0 h0 w27 h26 ∧ Hle h14 h26 ∧ OB w27 h26 b1 T2 [vi x19, vi x20]) ?_ ?_
  ·rintro E w27 ⟨h26, HF, rfl, S29, le28, ob30⟩
   refine Zb <| Z0p <| Zb <| Z1 ?_
   obtain ⟨e31, he32, HF⟩ := Z8 HF
   obtain ⟨b33, o34, rfl, h36, h37, ra35⟩ := RS.atO (rs13.mono ((le16).trans le28)) he32
   obtain ⟨cs38, r39, hc40⟩ := ra35
   refine Wv rfl (Z07 rfl rfl Z1y Z0h h36 h37) <| Wv rfl (Z16 (cs := cs38) rfl Z4g (by rw [Rp.len r39]; exact Z0h) (fun j v hv => S29.sub.at_ _ _ _ (hc40 j v hv))) <| Z15 (zs := [vi 0, .string b'47, .slice none 0 0, .slice none 0 0, .slice none 0 0, vi 0, .slice none 0 0, .slice none 0 0, .slice none 0 0, .bool false]) rfl rfl Z2n rfl S29.sub (fun w41 b42 hb43 s44 ob45 => ?_)
   have ne46 : b1 ≠ b42 := ob30.ne_new hb43
   have g47 : w0.heap.size ≤ b42 := by rw [hb43]; exact S29.size
   have S48 := S29.trans0 s44
   obtain ⟨v49, v51, v53, v55, v57, v59, rfl, rs50, rs52, rs54, rs56, rs58, rs60⟩ := Zgz.1 (Rp.mono (s44.le) r39)
   refine Zo (vs := [vi e31.op, .string e31.name, v49, v51, v53, vi e31.n, v55, v57, v59, .bool e31.els]) rfl rfl rfl rfl Z0h (Z5 rfl (Z5 rfl (Z5 (RS.one rs50) (Z5 (RS.one rs52) (Z5 (RS.one rs54) (Z5 rfl (Z5 (RS.one rs56) (Z5 (RS.one rs58) (Z5 (RS.one rs60) (Z5 rfl Zx)))))))))) ob45 S48.sub (by simp) (ds := [vi e31.op, .string e31.name, v49, v51, v53, vi e31.n, v55, v57, v59, .bool e31.els]) rfl (fun w61 s62 ob63 => ?_)
   have S64 := S48.trans1 s62 (.inr g47)
   refine Z7 <| Z6 <| Zb <| Z1 <| Wm rfl rfl <| Wv rfl (Z16 (cs := [vi e31.op, .string e31.name, v49, v51, v53, vi e31.n, v55, v57, v59, .bool e31.els]) rfl Z4g Z0h (OB.cells ob63 0 rfl)) <| Wm rfl rfl ?_
   have ob65 := ((ob30.step0 s44).step1 s62 ne46)
   obtain ⟨r66, hr67, HF⟩ := Z8 HF
   refine Wc rfl (Ze (vs := [pt b1 0, .agg #[vi e31.op, .string e31.name, v49, v51, v53, vi e31.n, v55, v57, v59, .bool e31.els], vi x9]) rfl t_ent_75) ((IH _ (Nat.le_trans (Nat.le_of_succ_le hj24) (Nat.le_refl _))).2.2 hr67 S64.sub (Zgz.2 ⟨_, _, _, _, _, _, rfl, (rs50.mono (s62.le)), (rs52.mono (s62.le)), (rs54.mono (s62.le)), (rs56.mono (s62.le)), (rs58.mono (s62.le)), (rs60.mono (s62.le))⟩) ob65) ?_
   rintro _ w69 ⟨h70, s71, rfl, ob72⟩
   have S73 := S64.trans s71 (Zn (.inl (by simp)) Z04)
   refine Wv rfl (Z3c rfl) <| Z7 <| Z6 <| Z17 HF rfl (fun HF => ?_) (fun HF => ?_)
   ·refine Zb <| Z1 <| Wa rfl rfl <| Z7 <| Z6 <| Z00 <| Zy <| Zi <| Zi <| Zy <| Zi <| Zt rfl rfl ?_
    obtain rfl := Option.some.inj HF
    exact ⟨_, rfl, h70, S73, rfl, ob72⟩
   refine Zm <| Z0a <| Z6 <| Z1 <| Wv rfl (Z3n rfl rfl) <| Wm rfl rfl <| Z7 <| Z2c <| Z7y [0, 2, 9, 10, 11] [(0, pt b1 0), (2, vi x9), (9, sl b33 o34 (xs6).length c12), (10, vi (xs6.length : Int)), (11, vi (IntKind.i64.wrap (x18 + 1)))] rfl ?_
   exact IHL23 j22 (Nat.le_refl _) _ _ ⟨h70, IntKind.i64.wrap (x18 + 1), r66.2.1, r66.2.2, HF, rfl, S73, (le16).trans ((le28).trans ((s44.le).trans ((s62.le).trans s71.le))), ob72⟩
  intro J75
  refine Z17 HF rfl (fun HF => ?_) (fun HF => ?_)
  ·refine Zm <| Z0g [0, 2, 9, 10, 11] _ rfl ?_
   exact J75 ⟨h14, HF, rfl, S17, Hle.refl _, ob21⟩
  refine Z4x <| Zz <| Zz <| Z1a <| Z6 <| Zb <| Z1 <| Wa rfl rfl <| Z7 <| Z6 <| Z00 <| Zt rfl rfl ?_
  obtain rfl := Option.some.inj HF
  exact ⟨_, rfl, h14, S17, rfl, ob21⟩
 exact ⟨h0, 0, x3, x4, HF, rfl, S0, Hle.refl _, ob5⟩
theorem s_ast_Counter_stmt (k : Nat) (IH : ∀ j, j ≤ k → Z7g (Zq j).ast_Counter_arm ∧ Z56 (Zq j).ast_Counter_Text ∧ Z6s (Zq j).ast_Counter_stmt) : Z6s (Zfw k (Zq k)) := by
 intro x3 x4 x6 x9 r HF w0 h0 b1 T2 cs7 hs0 r8 ob5
 have S0 : Stp [b1] w0 h0 w0 h0 := Stp.refl hs0 _
 have lt10 : b1 < w0.heap.size := OB.lt ob5
 refine Z4j (n := 185) Tryz.func75 rfl Tryz.ntmps75 rfl [(0, pt b1 0), (1, .agg cs7.toArray), (2, vi x9)] rfl <| Zb <| Z1 ?_
 obtain ⟨v11, v13, v15, v17, v19, v21, rfl, rs12, rs14, rs16, rs18, rs20, rs22⟩ := Zgz.1 r8
 refine Zhq (cs := [vi x6.op, .string x6.name, v11, v13, v15, vi x6.n, v17, v19, v21, .bool x6.els]) rfl rfl rfl rfl S0.sub (fun w23 b24 hb25 s26 ob27 => ?_)
 have ne28 : b1 ≠ b24 := ob5.ne_new hb25
 have g29 : w0.heap.size ≤ b24 := by rw [hb25]; exact S0.size
 have S30 := S0.trans0 s26
 refine Wa rfl rfl <| Z7 <| Z6 <| Zb <| Z1 ?_
 obtain ⟨v31, hv32, rm33⟩ := S30.sub.glob.g0
 refine Wv rfl (Zc rfl t_agg_157 (S30.sub.at_ _ _ _ hv32)) <| Wv rfl (Z2 rfl Z45) <| Wv rfl (Zc rfl Z0f (OB.cell ob27 (j := 0) rfl)) ?_
 obtain ⟨r34, hr35, HF⟩ := Z8 HF
 replace hr35 := Option.some.inj hr35
 refine Wv rfl (ov_lookupI2 (evl := (fun x : Bool × Int × Int × Bool × Bool => .agg #[.bool x.1, vi x.2.1, vi x.2.2.1, .bool x.2.2.2.1, .bool x.2.2.2.2])) (z := (false, 0, 0, false, false)) rfl rfl t_map_157 t_int_3 t_zero_155 rm33 S30.sub hr35) <| Wm rfl rfl <| Wv rfl (Z0c rfl rfl) <| Wv rfl (Z0c rfl rfl) ?_
 have ob36 := (ob5.step0 s26)
 refine Z15 (zs := [.bool false, vi 0, vi 0, .bool false, .bool false]) rfl rfl t_zero_155 rfl S30.sub (fun w37 b38 hb39 s40 ob41 => ?_)
 have ne42 : b1 ≠ b38 := ob36.ne_new hb39
 have ne43 : b24 ≠ b38 := ob27.ne_new hb39
 have g44 : w0.heap.size ≤ b38 := by rw [hb39]; exact S30.size
 have S45 := S30.trans0 s40
 refine Zo (vs := [.bool ((r34.getD (false, 0, 0, false, false)).1), vi ((r34.getD (false, 0, 0, false, false)).2.1), vi ((r34.getD (false, 0, 0, false, false)).2.2.1), .bool ((r34.getD (false, 0, 0, false, false)).2.2.2.1), .bool ((r34.getD (false, 0, 0, false, false)).2.2.2.2)]) rfl rfl rfl rfl t_size_155 (Z5 rfl (Z5 rfl (Z5 rfl (Z5 rfl (Z5 rfl Zx))))) ob41 S45.sub (by simp) (ds := [.bool ((r34.getD (false, 0, 0, false, false)).1), vi ((r34.getD (false, 0, 0, false, false)).2.1), vi ((r34.getD (false, 0, 0, false, false)).2.2.1), .bool ((r34.getD (false, 0, 0, false, false)).2.2.2.1), .bool ((r34.getD (false, 0, 0, false, false)).2.2.2.2)]) rfl (fun w46 s47 ob48 => ?_)
 have S49 := S45.trans1 s47 (.inr g44)
 refine Wa rfl rfl <| Z7 <| Z6 <| Z09 (fun E w106 => ∃ (h105 : Hp) (x109 : Int) (x110 : Int), Zev k (Zq k) x6 x9 r34 x109 x110 = some r ∧ E = [(0, pt b1 0), (2, vi x9), (4, pt b24 0), (7, pt b38 0)] ∧ Stp [b1] w0 h0 w106 h105 ∧ Hle h0 h105 ∧ OB w106 h105 b1 T2 [vi x109, vi x110] ∧ OB w106 h105 b24 56 [vi x6.op, .string x6.name, v11, v13, v15, vi x6.n, v17, v19, v21, .bool x6.els] ∧ OB w106 h105 b38 155 [.bool ((r34.getD (false, 0, 0, false, false)).1), vi ((r34.getD (false, 0, 0, false, false)).2.1), vi ((r34.getD (false, 0, 0, false, false)).2.2.1), .bool ((r34.getD (false, 0, 0, false, false)).2.2.2.1), .bool ((r34.getD (false, 0, 0, false, false)).2.2.2.2)]) ?_ ?_
 ·rintro E w106 ⟨h105, x109, x110, HF, rfl, S108, le107, ob111, ob112, ob113⟩
  refine Z09 (fun E w153 => ∃ (h152 : Hp), Zeq k (Zq k) x6 x9 r34 x109 x110 = some r ∧ E = [(0, pt b1 0), (2, vi x9), (4, pt b24 0), (7, pt b38 0)] ∧ Stp [b1] w0 h0 w153 h152 ∧ Hle h105 h152 ∧ OB w153 h152 b1 T2 [vi x109, vi x110] ∧ OB w153 h152 b24 56 [vi x6.op, .string x6.name, v11, v13, v15, vi x6.n, v17, v19, v21, .bool x6.els] ∧ OB w153 h152 b38 155 [.bool ((r34.getD (false, 0, 0, false, false)).1), vi ((r34.getD (false, 0, 0, false, false)).2.1), vi ((r34.getD (false, 0, 0, false, false)).2.2.1), .bool ((r34.getD (false, 0, 0, false, false)).2.2.2.1), .bool ((r34.getD (false, 0, 0, false, false)).2.2.2.2)]) ?_ ?_
  ·rintro E w153 ⟨h152, HF, rfl, S155, le154, ob156, ob157, ob158⟩
   refine Z09 (fun E w199 => ∃ (h198 : Hp), Zf2 k (Zq k) x6 x9 r34 x109 x110 = some r ∧ E = [(0, pt b1 0), (2, vi x9), (4, pt b24 0), (7, pt b38 0)] ∧ Stp [b1] w0 h0 w199 h198 ∧ Hle h152 h198 ∧ OB w199 h198 b1 T2 [vi x109, vi x110] ∧ OB w199 h198 b24 56 [vi x6.op, .string x6.name, v11, v13, v15, vi x6.n, v17, v19, v21, .bool x6.els] ∧ OB w199 h198 b38 155 [.bool ((r34.getD (false, 0, 0, false, false)).1), vi ((r34.getD (false, 0, 0, false, false)).2.1), vi ((r34.getD (false, 0, 0, false, false)).2.2.1), .bool ((r34.getD (false, 0, 0, false, false)).2.2.2.1), .bool ((r34.getD (false, 0, 0, false, false)).2.2.2.2)]) ?_ ?_
   ·rintro E w199 ⟨h198, HF, rfl, S201, le200, ob202, ob203, ob204⟩
    refine Z09 (fun E w248 => ∃ (h247 : Hp), Zey k (Zq k) x6 x9 x109 x110 = some r ∧ E = [(0, pt b1 0), (2, vi x9), (4, pt b24 0)] ∧ Stp [b1] w0 h0 w248 h247 ∧ Hle h198 h247 ∧ OB w248 h247 b1 T2 [vi x109, vi x110] ∧ OB w248 h247 b24 56 [vi x6.op, .string x6.name, v11, v13, v15, vi x6.n, v17, v19, v21, .bool x6.els]) ?_ ?_
    ·rintro E w248 ⟨h247, HF, rfl, S250, le249, ob251, ob252⟩
     refine Zb <| Zb <| Z1 <| Wv rfl (Z2 rfl Z19) <| Wv rfl (Zc rfl Z4b (OB.cell ob252 (j := 7) rfl)) ?_
     obtain ⟨A253, c254, rfl, rs255⟩ := RS.form (rs20.mono ((s26.le).trans ((s40.le).trans ((s47.le).trans ((le107).trans ((le154).trans ((le200).trans le249)))))))
     refine Wv rfl (Z1n rfl Z1u) <| Wm rfl rfl <| Z7 <| Z6 <| Z0p <| Z4m <| Z7y [0, 2, 4, 140, 141, 142] [(0, pt b1 0), (2, vi x9), (4, pt b24 0), (140, .slice A253 (x6.arms).length c254), (141, vi (x6.arms.length : Int)), (142, vi 0)] rfl <| Z4k (K := k) (fun j E w257 => ∃ (h256 : Hp) (x260 : Int) (x261 : Int) (x262 : Int), (Zq j).ast_Counter_stmt_l9 x6 x9 x260 x261 x262 = some r ∧ E = [(0, pt b1 0), (2, vi x9), (4, pt b24 0), (140, .slice A253 (x6.arms).length c254), (141, vi (x6.arms.length : Int)), (142, vi x260)] ∧ Stp [b1] w0 h0 w257 h256 ∧ Hle h247 h256 ∧ OB w257 h256 b1 T2 [vi x261, vi x262] ∧ OB w257 h256 b24 56 [vi x6.op, .string x6.name, v11, v13, v15, vi x6.n, v17, .slice A253 (x6.arms).length c254, v21, .bool x6.els]) ?_ ?_ (j := k) (Nat.le_refl _) ?_
     ·rintro E w257 ⟨_, _, _, _, HF, _⟩; cases HF
     ·rintro j265 hj267 IHL266 E w257 ⟨h256, x260, x261, x262, HF, rfl, S259, le258, ob263, ob264⟩
      refine Zb <| Z1 <| Wv rfl (Zbt rfl rfl) <| Z7 <| Z6 <| Z09 (fun E w308 => ∃ (h307 : Hp), Zd5 j265 (Zq j265) x6 x9 x260 x261 x262 = some r ∧ E = [(0, pt b1 0), (2, vi x9), (4, pt b24 0), (140, .slice A253 (x6.arms).length c254), (141, vi (x6.arms.length : Int)), (142, vi x260)] ∧ Stp [b1] w0 h0 w308 h307 ∧ Hle h256 h307 ∧ OB w308 h307 b1 T2 [vi x261, vi x262] ∧ OB w308 h307 b24 56 [vi x6.op, .string x6.name, v11, v13, v15, vi x6.n, v17, .slice A253 (x6.arms).length c254, v21, .bool x6.els]) ?_ ?_
      ·rintro E w308 ⟨h307, HF, rfl, S310, le309, ob311, ob312⟩
       refine Zb <| Z0p <| Zb <| Z1 ?_
       obtain ⟨e313, he314, HF⟩ := Z8 HF
       obtain ⟨b315, o316, rfl, h318, h319, ra317⟩ := RS.atO (rs255.mono ((le258).trans le309)) he314
       obtain ⟨cs320, r321, hc322⟩ := ra317
       refine Wv rfl (Z07 rfl rfl Z1u Z20 h318 h319) <| Wv rfl (Z16 (cs := cs320) rfl t_agg_77 (by rw [Rp.len r321]; exact Z20) (fun j v hv => S310.sub.at_ _ _ _ (hc322 j v hv))) <| Z15 (zs := [.slice none 0 0, .slice none 0 0, .slice none 0 0]) rfl rfl Z9y rfl S310.sub (fun w323 b324 hb325 s326 ob327 => ?_)
       have ne328 : b1 ≠ b324 := ob311.ne_new hb325
       have ne329 : b24 ≠ b324 := ob312.ne_new hb325
       have g330 : w0.heap.size ≤ b324 := by rw [hb325]; exact S310.size
       have S331 := S310.trans0 s326
       obtain ⟨v332, v334, v336, rfl, rs333, rs335, rs337⟩ := rp_Ar.1 (Rp.mono (s326.le) r321)
       refine Zo (vs := [v332, v334, v336]) rfl rfl rfl rfl Z20 (Z5 (RS.one rs333) (Z5 (RS.one rs335) (Z5 (RS.one rs337) Zx))) ob327 S331.sub (by simp) (ds := [v332, v334, v336]) rfl (fun w338 s339 ob340 => ?_)
       have S341 := S331.trans1 s339 (.inr g330)
       refine Z7 <| Z6 <| Zb <| Z1 <| Wm rfl rfl <| Wv rfl (Z16 (cs := [v332, v334, v336]) rfl t_agg_77 Z20 (OB.cells ob340 0 rfl)) <| Wv rfl (Z2 rfl Z45) ?_
       have ob342 := ((ob312.step0 s326).step1 s339 ne329)
       refine Wv rfl (Zc rfl Z0f (OB.cell ob342 (j := 0) rfl)) <| Wm rfl rfl <| Wv rfl (Z3n rfl rfl) ?_
       have ob343 := ((ob311.step0 s326).step1 s339 ne328)
       obtain ⟨r344, hr345, HF⟩ := Z8 HF
       refine Wc rfl (Ze (vs := [pt b1 0, .agg #[v332, v334, v336], vi x6.op, vi (IntKind.i64.wrap (x9 + 1))]) rfl t_ent_133) ((IH _ (Nat.le_trans (Nat.le_of_succ_le hj267) (Nat.le_refl _))).1 hr345 S341.sub (rp_Ar.2 ⟨_, _, _, rfl, (rs333.mono (s339.le)), (rs335.mono (s339.le)), (rs337.mono (s339.le))⟩) ob343) ?_
       rintro _ w347 ⟨h348, s349, rfl, ob350⟩
       have S351 := S341.trans s349 (Zn (.inl (by simp)) Z04)
       refine Wv rfl (Z3c rfl) <| Z7 <| Z6 <| Z17 HF rfl (fun HF => ?_) (fun HF => ?_)
       ·refine Zb <| Z1 <| Wa rfl rfl <| Z7 <| Z6 <| Z00 <| Zy <| Zi <| Zi <| Zy <| Zi <| Zt rfl rfl ?_
        obtain rfl := Option.some.inj HF
        exact ⟨_, rfl, h348, S351, rfl, ob350⟩
       refine Zm <| Z0a <| Z6 <| Z1 <| Wv rfl (Z3n rfl rfl) <| Wm rfl rfl <| Z7 ?_
       have ob354 := (ob342.step1 s349 (Ne.symm ne28))
       refine Z2c <| Z7y [0, 2, 4, 140, 141, 142] [(0, pt b1 0), (2, vi x9), (4, pt b24 0), (140, sl b315 o316 (x6.arms).length c254), (141, vi (x6.arms.length : Int)), (142, vi (IntKind.i64.wrap (x260 + 1)))] rfl ?_
       exact IHL266 j265 (Nat.le_refl _) _ _ ⟨h348, IntKind.i64.wrap (x260 + 1), r344.2.1, r344.2.2, HF, rfl, S351, (le258).trans ((le309).trans ((s326.le).trans ((s339.le).trans s349.le))), ob350, ob354⟩
      intro J353
      refine Z17 HF rfl (fun HF => ?_) (fun HF => ?_)
      ·refine Zm <| Z0g [0, 2, 4, 140, 141, 142] _ rfl ?_
       exact J353 ⟨h256, HF, rfl, S259, Hle.refl _, ob263, ob264⟩
      refine Z4x <| Zz <| Zz <| Z1a <| Z6 <| Zb <| Z1 <| Wm rfl rfl <| Wv rfl (Z2 rfl Z6z) <| Wv rfl (Zc rfl Z2k (OB.cell ob264 (j := 2) rfl)) <| Wm rfl rfl <| Wv rfl (Z3n rfl rfl) ?_
      obtain ⟨r269, hr270, HF⟩ := Z8 HF
      refine Wc rfl (Ze (vs := [pt b1 0, v11, vi (IntKind.i64.wrap (x9 + 1))]) rfl t_ent_134) (Z9a _ hr270 S259.sub (rs12.mono ((s26.le).trans ((s40.le).trans ((s47.le).trans ((le107).trans ((le154).trans ((le200).trans ((le249).trans le258)))))))) ob263) ?_
      rintro _ w272 ⟨h273, s274, rfl, ob275⟩
      have S276 := S259.trans s274 (Zn (.inl (by simp)) Z04)
      refine Wm rfl rfl <| Z3g 161 HF rfl (fun HF => ?_) (fun HF => ?_)
      ·refine Wm rfl rfl <| Wv rfl (Z2 rfl Z3o) ?_
       have ob278 := (ob264.step1 s274 (Ne.symm ne28))
       refine Wv rfl (Zc rfl Z2k (OB.cell ob278 (j := 4) rfl)) <| Wm rfl rfl <| Wv rfl (Z3n rfl rfl) ?_
       obtain ⟨r279, hr280, HF⟩ := Z8 HF
       refine Wc rfl (Ze (vs := [pt b1 0, v15, vi (IntKind.i64.wrap (x9 + 1))]) rfl t_ent_134) (Z9a _ hr280 S276.sub (rs16.mono ((s26.le).trans ((s40.le).trans ((s47.le).trans ((le107).trans ((le154).trans ((le200).trans ((le249).trans ((le258).trans s274.le))))))))) ob275) ?_
       rintro _ w282 ⟨h283, s284, rfl, ob285⟩
       have S286 := S276.trans s284 (Zn (.inl (by simp)) Z04)
       refine Wv rfl (Zh rfl rfl) <| Wm rfl rfl <| Z3g 169 HF rfl (fun HF => ?_) (fun HF => ?_)
       ·refine Wm rfl rfl <| Wv rfl (Z2 rfl Z65) ?_
        have ob288 := (ob278.step1 s284 (Ne.symm ne28))
        refine Wv rfl (Zc rfl Z4f (OB.cell ob288 (j := 6) rfl)) <| Wm rfl rfl <| Wv rfl (Z3n rfl rfl) ?_
        obtain ⟨r289, hr290, HF⟩ := Z8 HF
        refine Wc rfl (Ze (vs := [pt b1 0, v17, vi (IntKind.i64.wrap (x9 + 1))]) rfl t_ent_43) ((IH _ (Nat.le_trans (Nat.le_of_succ_le hj267) (Nat.le_refl _))).2.1 hr290 S286.sub (rs18.mono ((s26.le).trans ((s40.le).trans ((s47.le).trans ((le107).trans ((le154).trans ((le200).trans ((le249).trans ((le258).trans ((s274.le).trans s284.le)))))))))) ob285) ?_
        rintro _ w292 ⟨h293, s294, rfl, ob295⟩
        have S296 := S286.trans s294 (Zn (.inl (by simp)) Z04)
        refine Wv rfl (Zh rfl rfl) <| Wm rfl rfl <| Z3g 177 HF rfl (fun HF => ?_) (fun HF => ?_)
        ·refine Wm rfl rfl <| Wv rfl (Z2 rfl Z5f) ?_
         have ob298 := (ob288.step1 s294 (Ne.symm ne28))
         refine Wv rfl (Zc rfl Z4f (OB.cell ob298 (j := 8) rfl)) <| Wm rfl rfl <| Wv rfl (Z3n rfl rfl) ?_
         obtain ⟨r299, hr300, HF⟩ := Z8 HF
         refine Wc rfl (Ze (vs := [pt b1 0, v21, vi (IntKind.i64.wrap (x9 + 1))]) rfl t_ent_43) ((IH _ (Nat.le_trans (Nat.le_of_succ_le hj267) (Nat.le_refl _))).2.1 hr300 S296.sub (rs22.mono ((s26.le).trans ((s40.le).trans ((s47.le).trans ((le107).trans ((le154).trans ((le200).trans ((le249).trans ((le258).trans ((s274.le).trans ((s284.le).trans s294.le))))))))))) ob295) ?_
         rintro _ w302 ⟨h303, s304, rfl, ob305⟩
         have S306 := S296.trans s304 (Zn (.inl (by simp)) Z04)
         refine Wv rfl (Zh rfl rfl) <| Wa rfl rfl <| Z7 <| Z6 <| Z00 <| Zt rfl rfl ?_
         obtain rfl := Option.some.inj HF
         exact ⟨_, rfl, h303, S306, rfl, ob305⟩
        refine Wp rfl <| Wp rfl <| Wp rfl <| Wp rfl <| Wp rfl <| Wp rfl <| Wv rfl (Zg rfl rfl) <| Wa rfl rfl <| Z7 <| Z6 <| Z00 <| Zt rfl rfl ?_
        obtain rfl := Option.some.inj HF
        exact ⟨_, rfl, h293, S296, rfl, ob295⟩
       refine Wp rfl <| Wp rfl <| Wp rfl <| Wp rfl <| Wp rfl <| Wp rfl <| Wv rfl (Zg rfl rfl) <| Wm rfl rfl <| Wp rfl <| Wp rfl <| Wp rfl <| Wp rfl <| Wp rfl <| Wp rfl <| Wv rfl (Zg rfl rfl) <| Wa rfl rfl <| Z7 <| Z6 <| Z00 <| Zt rfl rfl ?_
       obtain rfl := Option.some.inj HF
       exact ⟨_, rfl, h283, S286, rfl, ob285⟩
      refine Wp rfl <| Wp rfl <| Wp rfl <| Wp rfl <| Wp rfl <| Wp rfl <| Wv rfl (Zg rfl rfl) <| Wm rfl rfl <| Wp rfl <| Wp rfl <| Wp rfl <| Wp rfl <| Wp rfl <| Wp rfl <| Wv rfl (Zg rfl rfl) <| Wm rfl rfl <| Wp rfl <| Wp rfl <| Wp rfl <| Wp rfl <| Wp rfl <| Wp rfl <| Wv rfl (Zg rfl rfl) <| Wa rfl rfl <| Z7 <| Z6 <| Z00 <| Zt rfl rfl ?_
      obtain rfl := Option.some.inj HF
      exact ⟨_, rfl, h273, S276, rfl, ob275⟩
     exact ⟨h247, 0, x109, x110, HF, rfl, S250, Hle.refl _, ob251, ob252⟩
    intro J355
    refine Z09 (fun E w239 => ∃ (h238 : Hp) (x242 : Bool), Z1c k (Zq k) x6 x9 x109 x110 x242 = some r ∧ E = [(0, pt b1 0), (2, vi x9), (4, pt b24 0), (138, .bool x242)] ∧ Stp [b1] w0 h0 w239 h238 ∧ Hle h198 h238 ∧ OB w239 h238 b1 T2 [vi x109, vi x110] ∧ OB w239 h238 b24 56 [vi x6.op, .string x6.name, v11, v13, v15, vi x6.n, v17, v19, v21, .bool x6.els]) ?_ ?_
    ·rintro E w239 ⟨h238, x242, HF, rfl, S241, le240, ob243, ob244⟩
     refine Z17 HF rfl (fun HF => ?_) (fun HF => ?_)
     ·refine Zb <| Z1 <| Wa rfl rfl <| Z7 <| Z6 <| Z00 <| Zi <| Zt rfl rfl ?_
      obtain rfl := Option.some.inj HF
      exact ⟨_, rfl, h238, S241, rfl, ob243⟩
     refine Zm <| Z0g [0, 2, 4] _ rfl ?_
     exact J355 ⟨h238, HF, rfl, S241, le240, ob243, ob244⟩
    intro J246
    refine Z1 <| Wv rfl (Z2 rfl t_field_155_3) <| Wv rfl (Zc rfl Zea (OB.cell ob204 (j := 3) rfl)) <| Wv rfl (Z3c rfl) <| Wm rfl rfl <| Z3g 107 HF rfl (fun HF => ?_) (fun HF => ?_)
    ·refine Wv rfl (Z2 rfl Z65) <| Wv rfl (Zc rfl Z4f (OB.cell ob203 (j := 6) rfl)) ?_
     obtain ⟨A206, c207, rfl, rs208⟩ := RS.form (rs18.mono ((s26.le).trans ((s40.le).trans ((s47.le).trans ((le107).trans ((le154).trans le200))))))
     refine Wv rfl (Z1n rfl Z1y) <| Wv rfl (Ze7 rfl rfl) <| Wv rfl (Zh rfl rfl) <| Wm rfl rfl <| Z3g 113 HF rfl (fun HF => ?_) (fun HF => ?_)
     ·refine Wp rfl <| Wp rfl <| Wp rfl <| Wp rfl <| Wp rfl <| Wp rfl <| Wp rfl <| Wp rfl <| Wp rfl <| Wp rfl <| Wp rfl <| Wp rfl <| Wp rfl <| Wv rfl (Zh rfl rfl) <| Wm rfl rfl <| Wp rfl <| Wp rfl <| Wp rfl <| Wp rfl <| Wp rfl <| Wp rfl <| Wp rfl <| Wp rfl <| Wp rfl <| Wv rfl (Zh rfl rfl) <| Z7 <| Z0g [0, 2, 4, 138] _ rfl ?_
      exact J246 ⟨h198, true, HF, rfl, S201, Hle.refl _, ob202, ob203⟩
     refine Wv rfl (Z2 rfl t_field_155_4) <| Wv rfl (Zc rfl Zea (OB.cell ob204 (j := 4) rfl)) <| Wv rfl (Z3c rfl) <| Wm rfl rfl <| Z3g 117 HF rfl (fun HF => ?_) (fun HF => ?_)
     ·refine Wv rfl (Z2 rfl Z19) <| Wv rfl (Zc rfl Z4b (OB.cell ob203 (j := 7) rfl)) ?_
      obtain ⟨A211, c212, rfl, rs213⟩ := RS.form (rs20.mono ((s26.le).trans ((s40.le).trans ((s47.le).trans ((le107).trans ((le154).trans le200))))))
      refine Wv rfl (Z1n rfl Z1u) <| Wv rfl (Ze7 rfl rfl) <| Wm rfl rfl <| Z3g 122 HF rfl (fun HF => ?_) (fun HF => ?_)
      ·refine Wp rfl <| Wp rfl <| Wv rfl (Zh rfl rfl) <| Wv rfl (Zh rfl rfl) <| Wv rfl (Zg rfl rfl) <| Wm rfl rfl <| Wp rfl <| Wp rfl <| Wp rfl <| Wp rfl <| Wp rfl <| Wp rfl <| Wp rfl <| Wp rfl <| Wp rfl <| Wv rfl (Zh rfl rfl) <| Z7 <| Z0g [0, 2, 4, 138] _ rfl ?_
       exact J246 ⟨h198, true, HF, rfl, S201, Hle.refl _, ob202, ob203⟩
      refine Wv rfl (Z2 rfl Z5a) <| Wv rfl (Zc rfl Zea (OB.cell ob203 (j := 9) rfl)) <| Wv rfl (Zg rfl rfl) <| Wv rfl (Zh rfl rfl) <| Wv rfl (Zg rfl rfl) <| Wm rfl rfl <| Z3g 128 HF rfl (fun HF => ?_) (fun HF => ?_)
      ·refine Wp rfl <| Wp rfl <| Wp rfl <| Wp rfl <| Wp rfl <| Wp rfl <| Wp rfl <| Wp rfl <| Wp rfl <| Wv rfl (Zh rfl rfl) <| Z7 <| Z0g [0, 2, 4, 138] _ rfl ?_
       exact J246 ⟨h198, true, HF, rfl, S201, Hle.refl _, ob202, ob203⟩
      refine Wv rfl (Z2 rfl Z5a) <| Wv rfl (Zc rfl Zea (OB.cell ob203 (j := 9) rfl)) <| Wv rfl (Z3c rfl) <| Wm rfl rfl <| Z3g 132 HF rfl (fun HF => ?_) (fun HF => ?_)
      ·refine Wv rfl (Z2 rfl Z5f) <| Wv rfl (Zc rfl Z4f (OB.cell ob203 (j := 8) rfl)) ?_
       obtain ⟨A217, c218, rfl, rs219⟩ := RS.form (rs22.mono ((s26.le).trans ((s40.le).trans ((s47.le).trans ((le107).trans ((le154).trans le200))))))
       refine Wv rfl (Z1n rfl Z1y) <| Wv rfl (Ze7 rfl rfl) <| Wv rfl (Zh rfl rfl) <| Wv rfl (Zg rfl rfl) <| Z7 <| Z0g [0, 2, 4, 138] _ rfl ?_
       exact J246 ⟨h198, decide ((0 : Int) < (x6.other.length : Int)), HF, rfl, S201, Hle.refl _, ob202, ob203⟩
      refine Wp rfl <| Wp rfl <| Wp rfl <| Wp rfl <| Wv rfl (Zg rfl rfl) <| Wv rfl (Zg rfl rfl) <| Z7 <| Z0g [0, 2, 4, 138] _ rfl ?_
      exact J246 ⟨h198, false, HF, rfl, S201, Hle.refl _, ob202, ob203⟩
     refine Wp rfl <| Wp rfl <| Wp rfl <| Wp rfl <| Wp rfl <| Wp rfl <| Wp rfl <| Wp rfl <| Wv rfl (Zg rfl rfl) <| Wv rfl (Zg rfl rfl) <| Wm rfl rfl <| Wv rfl (Z2 rfl Z5a) <| Wv rfl (Zc rfl Zea (OB.cell ob203 (j := 9) rfl)) <| Wv rfl (Z3c rfl) <| Wm rfl rfl <| Z3g 132 HF rfl (fun HF => ?_) (fun HF => ?_)
     ·refine Wv rfl (Z2 rfl Z5f) <| Wv rfl (Zc rfl Z4f (OB.cell ob203 (j := 8) rfl)) ?_
      obtain ⟨A221, c222, rfl, rs223⟩ := RS.form (rs22.mono ((s26.le).trans ((s40.le).trans ((s47.le).trans ((le107).trans ((le154).trans le200))))))
      refine Wv rfl (Z1n rfl Z1y) <| Wv rfl (Ze7 rfl rfl) <| Wv rfl (Zh rfl rfl) <| Wv rfl (Zg rfl rfl) <| Z7 <| Z0g [0, 2, 4, 138] _ rfl ?_
      exact J246 ⟨h198, decide ((0 : Int) < (x6.other.length : Int)), HF, rfl, S201, Hle.refl _, ob202, ob203⟩
     refine Wp rfl <| Wp rfl <| Wp rfl <| Wp rfl <| Wv rfl (Zg rfl rfl) <| Wv rfl (Zg rfl rfl) <| Z7 <| Z0g [0, 2, 4, 138] _ rfl ?_
     exact J246 ⟨h198, false, HF, rfl, S201, Hle.refl _, ob202, ob203⟩
    refine Wp rfl <| Wp rfl <| Wp rfl <| Wp rfl <| Wv rfl (Zg rfl rfl) <| Wm rfl rfl <| Wv rfl (Z2 rfl t_field_155_4) <| Wv rfl (Zc rfl Zea (OB.cell ob204 (j := 4) rfl)) <| Wv rfl (Z3c rfl) <| Wm rfl rfl <| Z3g 117 HF rfl (fun HF => ?_) (fun HF => ?_)
    ·refine Wv rfl (Z2 rfl Z19) <| Wv rfl (Zc rfl Z4b (OB.cell ob203 (j := 7) rfl)) ?_
     obtain ⟨A225, c226, rfl, rs227⟩ := RS.form (rs20.mono ((s26.le).trans ((s40.le).trans ((s47.le).trans ((le107).trans ((le154).trans le200))))))
     refine Wv rfl (Z1n rfl Z1u) <| Wv rfl (Ze7 rfl rfl) <| Wm rfl rfl <| Z3g 122 HF rfl (fun HF => ?_) (fun HF => ?_)
     ·refine Wp rfl <| Wp rfl <| Wv rfl (Zh rfl rfl) <| Wv rfl (Zh rfl rfl) <| Wv rfl (Zg rfl rfl) <| Wm rfl rfl <| Wp rfl <| Wp rfl <| Wp rfl <| Wp rfl <| Wp rfl <| Wp rfl <| Wp rfl <| Wp rfl <| Wp rfl <| Wv rfl (Zh rfl rfl) <| Z7 <| Z0g [0, 2, 4, 138] _ rfl ?_
      exact J246 ⟨h198, true, HF, rfl, S201, Hle.refl _, ob202, ob203⟩
     refine Wv rfl (Z2 rfl Z5a) <| Wv rfl (Zc rfl Zea (OB.cell ob203 (j := 9) rfl)) <| Wv rfl (Zg rfl rfl) <| Wv rfl (Zh rfl rfl) <| Wv rfl (Zg rfl rfl) <| Wm rfl rfl <| Z3g 128 HF rfl (fun HF => ?_) (fun HF => ?_)
     ·refine Wp rfl <| Wp rfl <| Wp rfl <| Wp rfl <| Wp rfl <| Wp rfl <| Wp rfl <| Wp rfl <| Wp rfl <| Wv rfl (Zh rfl rfl) <| Z7 <| Z0g [0, 2, 4, 138] _ rfl ?_
      exact J246 ⟨h198, true, HF, rfl, S201, Hle.refl _, ob202, ob203⟩
     refine Wv rfl (Z2 rfl Z5a) <| Wv rfl (Zc rfl Zea (OB.cell ob203 (j := 9) rfl)) <| Wv rfl (Z3c rfl) <| Wm rfl rfl <| Z3g 132 HF rfl (fun HF => ?_) (fun HF => ?_)
     ·refine Wv rfl (Z2 rfl Z5f) <| Wv rfl (Zc rfl Z4f (OB.cell ob203 (j := 8) rfl)) ?_
      obtain ⟨A231, c232, rfl, rs233⟩ := RS.form (rs22.mono ((s26.le).trans ((s40.le).trans ((s47.le).trans ((le107).trans ((le154).trans le200))))))
      refine Wv rfl (Z1n rfl Z1y) <| Wv rfl (Ze7 rfl rfl) <| Wv rfl (Zh rfl rfl) <| Wv rfl (Zg rfl rfl) <| Z7 <| Z0g [0, 2, 4, 138] _ rfl ?_
      exact J246 ⟨h198, decide ((0 : Int) < (x6.other.length : Int)), HF, rfl, S201, Hle.refl _, ob202, ob203⟩
     refine Wp rfl <| Wp rfl <| Wp rfl <| Wp rfl <| Wv rfl (Zg rfl rfl) <| Wv rfl (Zg rfl rfl) <| Z7 <| Z0g [0, 2, 4, 138] _ rfl ?_
     exact J246 ⟨h198, false, HF, rfl, S201, Hle.refl _, ob202, ob203⟩
    refine Wp rfl <| Wp rfl <| Wp rfl <| Wp rfl <| Wp rfl <| Wp rfl <| Wp rfl <| Wp rfl <| Wv rfl (Zg rfl rfl) <| Wv rfl (Zg rfl rfl) <| Wm rfl rfl <| Wv rfl (Z2 rfl Z5a) <| Wv rfl (Zc rfl Zea (OB.cell ob203 (j := 9) rfl)) <| Wv rfl (Z3c rfl) <| Wm rfl rfl <| Z3g 132 HF rfl (fun HF => ?_) (fun HF => ?_)
    ·refine Wv rfl (Z2 rfl Z5f) <| Wv rfl (Zc rfl Z4f (OB.cell ob203 (j := 8) rfl)) ?_
     obtain ⟨A235, c236, rfl, rs237⟩ := RS.form (rs22.mono ((s26.le).trans ((s40.le).trans ((s47.le).trans ((le107).trans ((le154).trans le200))))))
     refine Wv rfl (Z1n rfl Z1y) <| Wv rfl (Ze7 rfl rfl) <| Wv rfl (Zh rfl rfl) <| Wv rfl (Zg rfl rfl) <| Z7 <| Z0g [0, 2, 4, 138] _ rfl ?_
     exact J246 ⟨h198, decide ((0 : Int) < (x6.other.length : Int)), HF, rfl, S201, Hle.refl _, ob202, ob203⟩
    refine Wp rfl <| Wp rfl <| Wp rfl <| Wp rfl <| Wv rfl (Zg rfl rfl) <| Wv rfl (Zg rfl rfl) <| Z7 <| Z0g [0, 2, 4, 138] _ rfl ?_
    exact J246 ⟨h198, false, HF, rfl, S201, Hle.refl _, ob202, ob203⟩
   intro J356
   refine Z09 (fun E w182 => ∃ (h181 : Hp) (x185 : Bool), Z3q k (Zq k) x6 x9 r34 x109 x110 x185 = some r ∧ E = [(0, pt b1 0), (2, vi x9), (4, pt b24 0), (7, pt b38 0), (103, .bool x185)] ∧ Stp [b1] w0 h0 w182 h181 ∧ Hle h152 h181 ∧ OB w182 h181 b1 T2 [vi x109, vi x110] ∧ OB w182 h181 b24 56 [vi x6.op, .string x6.name, v11, v13, v15, vi x6.n, v17, v19, v21, .bool x6.els] ∧ OB w182 h181 b38 155 [.bool ((r34.getD (false, 0, 0, false, false)).1), vi ((r34.getD (false, 0, 0, false, false)).2.1), vi ((r34.getD (false, 0, 0, false, false)).2.2.1), .bool ((r34.getD (false, 0, 0, false, false)).2.2.2.1), .bool ((r34.getD (false, 0, 0, false, false)).2.2.2.2)]) ?_ ?_
   ·rintro E w182 ⟨h181, x185, HF, rfl, S184, le183, ob186, ob187, ob188⟩
    refine Z17 HF rfl (fun HF => ?_) (fun HF => ?_)
    ·refine Zb <| Z1 <| Wa rfl rfl <| Z7 <| Z6 <| Z00 <| Zi <| Zt rfl rfl ?_
     obtain rfl := Option.some.inj HF
     exact ⟨_, rfl, h181, S184, rfl, ob186⟩
    refine Zm <| Z0g [0, 2, 4, 7] _ rfl ?_
    exact J356 ⟨h181, HF, rfl, S184, le183, ob186, ob187, ob188⟩
   intro J190
   refine Z1 <| Wv rfl (Z2 rfl Z45) <| Wv rfl (Zc rfl Z0f (OB.cell ob157 (j := 0) rfl)) <| Wv rfl (Z4n rfl rfl) <| Wm rfl rfl <| Z3g 78 HF rfl (fun HF => ?_) (fun HF => ?_)
   ·refine Wv rfl (Z2 rfl Z78) <| Wv rfl (Zc rfl t_agg_53 (OB.cell ob157 (j := 3) rfl)) ?_
    obtain ⟨A160, c161, rfl, rs162⟩ := RS.form (rs14.mono ((s26.le).trans ((s40.le).trans ((s47.le).trans ((le107).trans le154)))))
    refine Wv rfl (Z1n rfl Z3u) <| Wv rfl (Z2 rfl Z3o) <| Wv rfl (Zc rfl Z2k (OB.cell ob157 (j := 4) rfl)) ?_
    obtain ⟨A163, c164, rfl, rs165⟩ := RS.form (rs16.mono ((s26.le).trans ((s40.le).trans ((s47.le).trans ((le107).trans le154)))))
    refine Wv rfl (Z1n rfl Z0y) <| Wv rfl (Z7e rfl rfl) <| Wm rfl rfl <| Z3g 86 HF rfl (fun HF => ?_) (fun HF => ?_)
    ·refine Wp rfl <| Wp rfl <| Wp rfl <| Wp rfl <| Wv rfl (Zh rfl rfl) <| Wv rfl (Zh rfl rfl) <| Wm rfl rfl <| Wp rfl <| Wp rfl <| Wp rfl <| Wp rfl <| Wp rfl <| Wp rfl <| Wp rfl <| Wp rfl <| Wp rfl <| Wv rfl (Zh rfl rfl) <| Z7 <| Z0g [0, 2, 4, 7, 103] _ rfl ?_
     exact J190 ⟨h152, true, HF, rfl, S155, Hle.refl _, ob156, ob157, ob158⟩
    refine Wv rfl (Z2 rfl Z78) <| Wv rfl (Zc rfl t_agg_53 (OB.cell ob157 (j := 3) rfl)) ?_
    obtain ⟨r167, hr168, HF⟩ := Z8 HF
    refine Wc rfl (Ze (vs := [.slice A160 (x6.fields).length c161]) rfl t_ent_132) (ok_ast_AreNames _ hr168 S155.sub rs162) ?_
    rintro _ w170 ⟨h171, s172, rfl⟩
    have S173 := S155.trans0 s172
    refine Wv rfl (Z3c rfl) <| Wv rfl (Zg rfl rfl) <| Wv rfl (Zh rfl rfl) <| Wm rfl rfl <| Z3g 93 HF rfl (fun HF => ?_) (fun HF => ?_)
    ·refine Wp rfl <| Wp rfl <| Wp rfl <| Wp rfl <| Wp rfl <| Wp rfl <| Wp rfl <| Wp rfl <| Wp rfl <| Wv rfl (Zh rfl rfl) <| Z7 ?_
     have ob191 := (ob156.step0 s172)
     have ob192 := (ob157.step0 s172)
     have ob193 := (ob158.step0 s172)
     refine Z0g [0, 2, 4, 7, 103] _ rfl ?_
     exact J190 ⟨h171, true, HF, rfl, S173, s172.le, ob191, ob192, ob193⟩
    refine Wv rfl (Z2 rfl Z45) ?_
    have ob175 := (ob157.step0 s172)
    refine Wv rfl (Zc rfl Z0f (OB.cell ob175 (j := 0) rfl)) <| Wv rfl (Z7e rfl rfl) <| Wm rfl rfl <| Z3g 97 HF rfl (fun HF => ?_) (fun HF => ?_)
    ·refine Wv rfl (Z2 rfl Z78) <| Wv rfl (Zc rfl t_agg_53 (OB.cell ob175 (j := 3) rfl)) <| Wv rfl (Z1n rfl Z3u) <| Wv rfl (Ze7 rfl rfl) <| Wv rfl (Zh rfl rfl) <| Wv rfl (Zg rfl rfl) <| Z7 ?_
     have ob194 := (ob156.step0 s172)
     have ob195 := (ob158.step0 s172)
     refine Z0g [0, 2, 4, 7, 103] _ rfl ?_
     exact J190 ⟨h171, decide ((0 : Int) < (x6.fields.length : Int)), HF, rfl, S173, s172.le, ob194, ob175, ob195⟩
    refine Wp rfl <| Wp rfl <| Wp rfl <| Wp rfl <| Wv rfl (Zg rfl rfl) <| Wv rfl (Zg rfl rfl) <| Z7 ?_
    have ob196 := (ob156.step0 s172)
    have ob197 := (ob158.step0 s172)
    refine Z0g [0, 2, 4, 7, 103] _ rfl ?_
    exact J190 ⟨h171, false, HF, rfl, S173, s172.le, ob196, ob175, ob197⟩
   refine Wp rfl <| Wp rfl <| Wp rfl <| Wp rfl <| Wp rfl <| Wp rfl <| Wp rfl <| Wp rfl <| Wp rfl <| Wp rfl <| Wp rfl <| Wp rfl <| Wp rfl <| Wv rfl (Zg rfl rfl) <| Wm rfl rfl <| Wv rfl (Z2 rfl Z45) <| Wv rfl (Zc rfl Z0f (OB.cell ob157 (j := 0) rfl)) <| Wv rfl (Z7e rfl rfl) <| Wm rfl rfl <| Z3g 97 HF rfl (fun HF => ?_) (fun HF => ?_)
   ·refine Wv rfl (Z2 rfl Z78) <| Wv rfl (Zc rfl t_agg_53 (OB.cell ob157 (j := 3) rfl)) ?_
    obtain ⟨A178, c179, rfl, rs180⟩ := RS.form (rs14.mono ((s26.le).trans ((s40.le).trans ((s47.le).trans ((le107).trans le154)))))
    refine Wv rfl (Z1n rfl Z3u) <| Wv rfl (Ze7 rfl rfl) <| Wv rfl (Zh rfl rfl) <| Wv rfl (Zg rfl rfl) <| Z7 <| Z0g [0, 2, 4, 7, 103] _ rfl ?_
    exact J190 ⟨h152, decide ((0 : Int) < (x6.fields.length : Int)), HF, rfl, S155, Hle.refl _, ob156, ob157, ob158⟩
   refine Wp rfl <| Wp rfl <| Wp rfl <| Wp rfl <| Wv rfl (Zg rfl rfl) <| Wv rfl (Zg rfl rfl) <| Z7 <| Z0g [0, 2, 4, 7, 103] _ rfl ?_
   exact J190 ⟨h152, false, HF, rfl, S155, Hle.refl _, ob156, ob157, ob158⟩
  intro J357
  refine Z09 (fun E w137 => ∃ (h136 : Hp) (x140 : Bool), Z3p k (Zq k) x6 x9 r34 x109 x110 x140 = some r ∧ E = [(0, pt b1 0), (2, vi x9), (4, pt b24 0), (7, pt b38 0), (74, .bool x140)] ∧ Stp [b1] w0 h0 w137 h136 ∧ Hle h105 h136 ∧ OB w137 h136 b1 T2 [vi x109, vi x110] ∧ OB w137 h136 b24 56 [vi x6.op, .string x6.name, v11, v13, v15, vi x6.n, v17, v19, v21, .bool x6.els] ∧ OB w137 h136 b38 155 [.bool ((r34.getD (false, 0, 0, false, false)).1), vi ((r34.getD (false, 0, 0, false, false)).2.1), vi ((r34.getD (false, 0, 0, false, false)).2.2.1), .bool ((r34.getD (false, 0, 0, false, false)).2.2.2.1), .bool ((r34.getD (false, 0, 0, false, false)).2.2.2.2)]) ?_ ?_
  ·rintro E w137 ⟨h136, x140, HF, rfl, S139, le138, ob141, ob142, ob143⟩
   refine Z17 HF rfl (fun HF => ?_) (fun HF => ?_)
   ·refine Zb <| Z1 <| Wa rfl rfl <| Z7 <| Z6 <| Z00 <| Zi <| Zt rfl rfl ?_
    obtain rfl := Option.some.inj HF
    exact ⟨_, rfl, h136, S139, rfl, ob141⟩
   refine Zm <| Z0g [0, 2, 4, 7] _ rfl ?_
   exact J357 ⟨h136, HF, rfl, S139, le138, ob141, ob142, ob143⟩
  intro J145
  refine Z1 <| Wv rfl (Z2 rfl Z6z) <| Wv rfl (Zc rfl Z2k (OB.cell ob112 (j := 2) rfl)) ?_
  obtain ⟨A114, c115, rfl, rs116⟩ := RS.form (rs12.mono ((s26.le).trans ((s40.le).trans ((s47.le).trans le107))))
  refine Wv rfl (Z1n rfl Z0y) <| Wv rfl (Ze7 rfl rfl) <| Wm rfl rfl <| Z3g 49 HF rfl (fun HF => ?_) (fun HF => ?_)
  ·refine Wv rfl (Z2 rfl Z45) <| Wv rfl (Zc rfl Z0f (OB.cell ob112 (j := 0) rfl)) <| Wv rfl (Z7e rfl rfl) <| Wm rfl rfl <| Z3g 53 HF rfl (fun HF => ?_) (fun HF => ?_)
   ·refine Wp rfl <| Wp rfl <| Wp rfl <| Wp rfl <| Wv rfl (Zh rfl rfl) <| Wv rfl (Zh rfl rfl) <| Wm rfl rfl <| Wp rfl <| Wp rfl <| Wp rfl <| Wp rfl <| Wp rfl <| Wp rfl <| Wp rfl <| Wv rfl (Zh rfl rfl) <| Wm rfl rfl <| Wp rfl <| Wp rfl <| Wp rfl <| Wp rfl <| Wv rfl (Zh rfl rfl) <| Z7 <| Z0g [0, 2, 4, 7, 74] _ rfl ?_
    exact J145 ⟨h105, true, HF, rfl, S108, Hle.refl _, ob111, ob112, ob113⟩
   refine Wv rfl (Z2 rfl Z6z) <| Wv rfl (Zc rfl Z2k (OB.cell ob112 (j := 2) rfl)) <| Wv rfl (Z1n rfl Z0y) <| Wv rfl (Ze7 rfl rfl) <| Wv rfl (Zg rfl rfl) <| Wv rfl (Zh rfl rfl) <| Wm rfl rfl <| Z3g 60 HF rfl (fun HF => ?_) (fun HF => ?_)
   ·refine Wp rfl <| Wp rfl <| Wp rfl <| Wp rfl <| Wp rfl <| Wp rfl <| Wp rfl <| Wv rfl (Zh rfl rfl) <| Wm rfl rfl <| Wp rfl <| Wp rfl <| Wp rfl <| Wp rfl <| Wv rfl (Zh rfl rfl) <| Z7 <| Z0g [0, 2, 4, 7, 74] _ rfl ?_
    exact J145 ⟨h105, true, HF, rfl, S108, Hle.refl _, ob111, ob112, ob113⟩
   refine Wv rfl (Z2 rfl Z45) <| Wv rfl (Zc rfl Z0f (OB.cell ob112 (j := 0) rfl)) <| Wv rfl (Z4n rfl rfl) <| Wv rfl (Z2 rfl Z5d) <| Wv rfl (Zc rfl Z0f (OB.cell ob112 (j := 5) rfl)) <| Wv rfl (Z7e rfl rfl) <| Wv rfl (ov_neqB rfl rfl Zf9) <| Wv rfl (Zg rfl rfl) <| Wm rfl rfl <| Z3g 69 HF rfl (fun HF => ?_) (fun HF => ?_)
   ·refine Wp rfl <| Wp rfl <| Wp rfl <| Wp rfl <| Wv rfl (Zh rfl rfl) <| Z7 <| Z0g [0, 2, 4, 7, 74] _ rfl ?_
    exact J145 ⟨h105, true, HF, rfl, S108, Hle.refl _, ob111, ob112, ob113⟩
   refine Wv rfl (Z2 rfl Z5d) <| Wv rfl (Zc rfl Z0f (OB.cell ob112 (j := 5) rfl)) ?_
   obtain ⟨r121, hr122, HF⟩ := Z8 HF
   refine Wc rfl (Ze (vs := [vi x6.n]) rfl t_ent_131) (Zga _ hr122 S108.sub) ?_
   rintro _ w124 ⟨h125, s126, rfl⟩
   have S127 := S108.trans0 s126
   refine Wv rfl (Z3c rfl) <| Wv rfl (Zg rfl rfl) <| Z7 ?_
   have ob146 := (ob111.step0 s126)
   have ob147 := (ob112.step0 s126)
   have ob148 := (ob113.step0 s126)
   refine Z0g [0, 2, 4, 7, 74] _ rfl ?_
   exact J145 ⟨h125, !r121, HF, rfl, S127, s126.le, ob146, ob147, ob148⟩
  refine Wp rfl <| Wp rfl <| Wp rfl <| Wp rfl <| Wp rfl <| Wp rfl <| Wp rfl <| Wp rfl <| Wp rfl <| Wv rfl (Zg rfl rfl) <| Wm rfl rfl <| Wv rfl (Z2 rfl Z45) <| Wv rfl (Zc rfl Z0f (OB.cell ob112 (j := 0) rfl)) <| Wv rfl (Z4n rfl rfl) <| Wv rfl (Z2 rfl Z5d) <| Wv rfl (Zc rfl Z0f (OB.cell ob112 (j := 5) rfl)) <| Wv rfl (Z7e rfl rfl) <| Wv rfl (ov_neqB rfl rfl Zf9) <| Wv rfl (Zg rfl rfl) <| Wm rfl rfl <| Z3g 69 HF rfl (fun HF => ?_) (fun HF => ?_)
  ·refine Wp rfl <| Wp rfl <| Wp rfl <| Wp rfl <| Wv rfl (Zh rfl rfl) <| Z7 <| Z0g [0, 2, 4, 7, 74] _ rfl ?_
   exact J145 ⟨h105, true, HF, rfl, S108, Hle.refl _, ob111, ob112, ob113⟩
  refine Wv rfl (Z2 rfl Z5d) <| Wv rfl (Zc rfl Z0f (OB.cell ob112 (j := 5) rfl)) ?_
  obtain ⟨r129, hr130, HF⟩ := Z8 HF
  refine Wc rfl (Ze (vs := [vi x6.n]) rfl t_ent_131) (Zga _ hr130 S108.sub) ?_
  rintro _ w132 ⟨h133, s134, rfl⟩
  have S135 := S108.trans0 s134
  refine Wv rfl (Z3c rfl) <| Wv rfl (Zg rfl rfl) <| Z7 ?_
  have ob149 := (ob111.step0 s134)
  have ob150 := (ob112.step0 s134)
  have ob151 := (ob113.step0 s134)
  refine Z0g [0, 2, 4, 7, 74] _ rfl ?_
  exact J145 ⟨h133, !r129, HF, rfl, S135, s134.le, ob149, ob150, ob151⟩
 intro J358
 refine Z09 (fun E w84 => ∃ (h83 : Hp) (x87 : Bool) (x88 : Int) (x89 : Int), Z5x k (Zq k) x6 x9 r34 x87 x88 x89 = some r ∧ E = [(0, pt b1 0), (2, vi x9), (4, pt b24 0), (7, pt b38 0), (44, .bool x87)] ∧ Stp [b1] w0 h0 w84 h83 ∧ Hle h0 h83 ∧ OB w84 h83 b1 T2 [vi x88, vi x89] ∧ OB w84 h83 b24 56 [vi x6.op, .string x6.name, v11, v13, v15, vi x6.n, v17, v19, v21, .bool x6.els] ∧ OB w84 h83 b38 155 [.bool ((r34.getD (false, 0, 0, false, false)).1), vi ((r34.getD (false, 0, 0, false, false)).2.1), vi ((r34.getD (false, 0, 0, false, false)).2.2.1), .bool ((r34.getD (false, 0, 0, false, false)).2.2.2.1), .bool ((r34.getD (false, 0, 0, false, false)).2.2.2.2)]) ?_ ?_
 ·rintro E w84 ⟨h83, x87, x88, x89, HF, rfl, S86, le85, ob90, ob91, ob92⟩
  refine Z17 HF rfl (fun HF => ?_) (fun HF => ?_)
  ·refine Zb <| Z1 <| Wa rfl rfl <| Z7 <| Z6 <| Z00 <| Zi <| Zt rfl rfl ?_
   obtain rfl := Option.some.inj HF
   exact ⟨_, rfl, h83, S86, rfl, ob90⟩
  refine Zm <| Z0g [0, 2, 4, 7] _ rfl ?_
  exact J358 ⟨h83, x88, x89, HF, rfl, S86, le85, ob90, ob91, ob92⟩
 intro J94
 refine Z1 <| Wm rfl rfl <| Wv rfl (Z3c rfl) <| Wm rfl rfl <| Z3g 20 HF rfl (fun HF => ?_) (fun HF => ?_)
 ·refine Wp rfl <| Wp rfl <| Wp rfl <| Wp rfl <| Wv rfl (Zh rfl rfl) <| Wm rfl rfl <| Wp rfl <| Wp rfl <| Wp rfl <| Wp rfl <| Wp rfl <| Wp rfl <| Wv rfl (Zh rfl rfl) <| Wm rfl rfl <| Wp rfl <| Wp rfl <| Wp rfl <| Wp rfl <| Wp rfl <| Wp rfl <| Wp rfl <| Wp rfl <| Wp rfl <| Wv rfl (Zh rfl rfl) <| Z7 ?_
  have ob95 := ((ob36.step0 s40).step1 s47 ne42)
  have ob96 := ((ob27.step0 s40).step1 s47 ne43)
  refine Z0g [0, 2, 4, 7, 44] _ rfl ?_
  exact J94 ⟨h0, true, x3, x4, HF, rfl, S49, Hle.refl _, ob95, ob96, ob48⟩
 refine Wm rfl rfl <| Wm rfl rfl ?_
 have ob51 := ((ob36.step0 s40).step1 s47 ne42)
 obtain ⟨r52, hr53, HF⟩ := Z8 HF
 refine Wc rfl (Ze (vs := [pt b1 0, vi x9]) rfl t_ent_128) (Zb1 _ hr53 S49.sub ob51) ?_
 rintro _ w55 ⟨h56, s57, rfl, ob58⟩
 have S59 := S49.trans s57 (Zn (.inl (by simp)) Z04)
 refine Wv rfl (Z3c rfl) <| Wv rfl (Zg rfl rfl) <| Wm rfl rfl <| Z3g 26 HF rfl (fun HF => ?_) (fun HF => ?_)
 ·refine Wp rfl <| Wp rfl <| Wp rfl <| Wp rfl <| Wp rfl <| Wp rfl <| Wv rfl (Zh rfl rfl) <| Wm rfl rfl <| Wp rfl <| Wp rfl <| Wp rfl <| Wp rfl <| Wp rfl <| Wp rfl <| Wp rfl <| Wp rfl <| Wp rfl <| Wv rfl (Zh rfl rfl) <| Z7 ?_
  have ob97 := (((ob27.step0 s40).step1 s47 ne43).step1 s57 (Ne.symm ne28))
  have ob98 := (ob48.step1 s57 (Ne.symm ne42))
  refine Z0g [0, 2, 4, 7, 44] _ rfl ?_
  exact J94 ⟨h56, true, r52.2.1, r52.2.2, HF, rfl, S59, s57.le, ob58, ob97, ob98⟩
 refine Wv rfl (Z2 rfl Zdc) ?_
 have ob61 := (((ob27.step0 s40).step1 s47 ne43).step1 s57 (Ne.symm ne28))
 refine Wv rfl (Zc rfl Z2r (OB.cell ob61 (j := 1) rfl)) <| Wv rfl (Z2 rfl t_field_155_0) ?_
 have ob62 := (ob48.step1 s57 (Ne.symm ne42))
 refine Wv rfl (Zc rfl Zea (OB.cell ob62 (j := 0) rfl)) ?_
 obtain ⟨r63, hr64, HF⟩ := Z8 HF
 refine Wc rfl (Ze (vs := [.string x6.name, .bool ((r34.getD (false, 0, 0, false, false)).1)]) rfl t_ent_129) (Zgl _ hr64 S59.sub) ?_
 rintro _ w66 ⟨h67, s68, rfl⟩
 have S69 := S59.trans0 s68
 refine Wv rfl (Z3c rfl) <| Wv rfl (Zg rfl rfl) <| Wm rfl rfl <| Z3g 34 HF rfl (fun HF => ?_) (fun HF => ?_)
 ·refine Wp rfl <| Wp rfl <| Wp rfl <| Wp rfl <| Wp rfl <| Wp rfl <| Wp rfl <| Wp rfl <| Wp rfl <| Wv rfl (Zh rfl rfl) <| Z7 ?_
  have ob99 := (ob58.step0 s68)
  have ob100 := (ob61.step0 s68)
  have ob101 := (ob62.step0 s68)
  refine Z0g [0, 2, 4, 7, 44] _ rfl ?_
  exact J94 ⟨h67, true, r52.2.1, r52.2.2, HF, rfl, S69, (s57.le).trans s68.le, ob99, ob100, ob101⟩
 refine Wv rfl (Z2 rfl Z3o) ?_
 have ob71 := (ob61.step0 s68)
 refine Wv rfl (Zc rfl Z2k (OB.cell ob71 (j := 4) rfl)) ?_
 obtain ⟨A72, c73, rfl, rs74⟩ := RS.form (rs16.mono ((s26.le).trans ((s40.le).trans ((s47.le).trans ((s57.le).trans s68.le)))))
 refine Wv rfl (Z1n rfl Z0y) <| Wv rfl (Z2 rfl t_field_155_1) ?_
 have ob75 := (ob62.step0 s68)
 refine Wv rfl (Zc rfl Z0f (OB.cell ob75 (j := 1) rfl)) <| Wv rfl (Z2 rfl t_field_155_2) <| Wv rfl (Zc rfl Z0f (OB.cell ob75 (j := 2) rfl)) ?_
 obtain ⟨r76, hr77, HF⟩ := Z8 HF
 refine Wc rfl (Ze (vs := [vi (x6.args.length : Int), vi ((r34.getD (false, 0, 0, false, false)).2.1), vi ((r34.getD (false, 0, 0, false, false)).2.2.1)]) rfl t_ent_130) (Zbv _ hr77 S69.sub) ?_
 rintro _ w79 ⟨h80, s81, rfl⟩
 have S82 := S69.trans0 s81
 refine Wv rfl (Z3c rfl) <| Wv rfl (Zg rfl rfl) <| Z7 ?_
 have ob102 := ((ob58.step0 s68).step0 s81)
 have ob103 := (ob71.step0 s81)
 have ob104 := (ob75.step0 s81)
 refine Z0g [0, 2, 4, 7, 44] _ rfl ?_
 exact J94 ⟨h80, !r76, r52.2.1, r52.2.2, HF, rfl, S82, (s57.le).trans ((s68.le).trans s81.le), ob102, ob103, ob104⟩
theorem all_ast_Counter_arm : ∀ k j, j ≤ k → Z7g (Zq j).ast_Counter_arm ∧ Z56 (Zq j).ast_Counter_Text ∧ Z6s (Zq j).ast_Counter_stmt := by
  intro k
  induction k with
  | zero =>
    intro j hj
    obtain rfl : j = 0 := by omega
    exact ⟨(fun _ _ _ _ _ _ => by intro h; cases h), (fun _ _ _ _ _ => by intro h; cases h), (fun _ _ _ _ _ => by intro h; cases h)⟩
  | succ k ih =>
    intro j hj
    by_cases h : j ≤ k
    · exact ih j h
    · obtain rfl : j = k + 1 := by omega
      exact ⟨s_ast_Counter_arm k ih, s_ast_Counter_Text k ih, s_ast_Counter_stmt k ih⟩
theorem Zec (k : Nat) : Z56 (Zb5 k) := (all_ast_Counter_arm k k (Nat.le_refl _)).2.1
def C_ast_IsText (φ : (List St) → Option Bool) : Prop := ∀ ⦃xs1 : List St⦄ ⦃r : Bool⦄, φ xs1 = some r → ∀ ⦃w0 : World⦄ ⦃h0 : Hp⦄ ⦃v2 : Value⦄, Sub h0 w0 → RS h0 v2 xs1 →
  Calls Tryz.prog 34 #[v2] w0 fun e w1 => ∃ v, e = .returned v ∧ ∃ h1, Stp [] w0 h0 w1 h1 ∧ v = .bool r
theorem s_ast_IsText (k : Nat) : C_ast_IsText (F_ast_IsText k) := by
 intro xs1 r HF w0 h0 v2 hs0 rs3
 have S0 : Stp [] w0 h0 w0 h0 := Stp.refl hs0 _
 refine Z4j (n := 6) Tryz.func34 rfl Tryz.ntmps34 rfl [(0, v2)] rfl <| Zb <| Z1 <| Wa rfl rfl <| Z7 <| Z6 <| Zb <| Z1 <| Z15 (zs := [vi 0, vi 0]) rfl rfl t_zero_87 rfl S0.sub (fun w4 b5 hb6 s7 ob8 => ?_)
 have g9 : w0.heap.size ≤ b5 := by rw [hb6]; exact S0.size
 have S10 := S0.trans0 s7
 refine Z7 <| Z6 <| Zb <| Z1 <| Wm rfl rfl ?_
 obtain ⟨r11, hr12, HF⟩ := Z8 HF
 refine Wc rfl (Ze (vs := [pt b5 0, v2, vi 1]) rfl t_ent_43) (Zec _ hr12 S10.sub (rs3.mono (s7.le)) ob8) ?_
 rintro _ w14 ⟨h15, s16, rfl, ob17⟩
 have S18 := S10.trans s16 (Zn (.inr g9) Z04)
 refine Wa rfl rfl <| Z7 <| Z6 <| Z00 <| Zt rfl rfl ?_
 obtain rfl := Option.some.inj HF
 exact ⟨_, rfl, h15, S18, rfl⟩
theorem ok_ast_IsText (k : Nat) : C_ast_IsText (F_ast_IsText k) := s_ast_IsText k
def Zc0 (φ : ByteArray → Option (List St × Int × Int)) : Prop := ∀ ⦃x1 : ByteArray⦄ ⦃r : List St × Int × Int⦄, φ x1 = some r → ∀ ⦃w0 : World⦄ ⦃h0 : Hp⦄, Sub h0 w0 →
  Calls Tryz.prog 32 #[.string x1, .func (.func 33) #[] #[], .func (.func 34) #[] #[]] w0 fun e w1 => ∃ v, e = .returned v ∧ ∃ h1, Stp [] w0 h0 w1 h1 ∧ (∃ u0 u1 u2 : Value, v = .tuple #[u0, u1, u2] ∧ (RS h1 u0 r.1) ∧ (u1 = .int .i64 r.2.1) ∧ (u2 = .int .i64 r.2.2))
theorem s_syntax_read_api_Stmt (k : Nat) : Zc0 (Z81 k) := by
 intro x1 r HF w0 h0  hs0 
 have S0 : Stp [] w0 h0 w0 h0 := Stp.refl hs0 _
 refine Z4j (n := 33) Tryz.func32 rfl Tryz.ntmps32 rfl [(0, .string x1), (1, .func (.func 33) #[] #[]), (2, .func (.func 34) #[] #[])] rfl <| Zb <| Z1 <| Zhq (cs := [.func (.func 33) #[] #[]]) rfl rfl rfl rfl S0.sub (fun w2 b3 hb4 s5 ob6 => ?_)
 have g7 : w0.heap.size ≤ b3 := by rw [hb4]; exact S0.size
 have S8 := S0.trans0 s5
 refine Wa rfl rfl <| Wa rfl rfl <| Wa rfl rfl <| Z7 <| Z6 <| Zb <| Z1 <| Z15 (zs := [.slice none 0 0]) rfl rfl t_zero_22 rfl S8.sub (fun w9 b10 hb11 s12 ob13 => ?_)
 have ne14 : b3 ≠ b10 := ob6.ne_new hb11
 have g15 : w0.heap.size ≤ b10 := by rw [hb11]; exact S8.size
 have S16 := S8.trans0 s12
 refine Wa rfl rfl <| Z7 <| Z6 <| Zb <| Z1 <| Wm rfl rfl <| Wv rfl (ov_makeFunc (vs := [pt b3 0, pt b10 0]) rfl) ?_
 have ob17 := (ob6.step0 s12)
 obtain ⟨r18, hr19, HF⟩ := Z8 HF
 refine Wc rfl (Ze (vs := [.string x1, .func (.func 55) #[] #[pt b3 0, pt b10 0]]) rfl t_ent_54) (ok_parse_Source _ hr19 S16.sub (RS.nil _) ob17 ob13 ne14) ?_
 rintro _ w21 ⟨h22, s23, ⟨_, _, rfl, rfl, rfl⟩, ⟨v24, rs25, ob26⟩⟩
 have S27 := S16.trans s23 (Zn (.inr g15) Z04)
 refine Wm rfl rfl <| Wv rfl (Z0c rfl rfl) <| Wv rfl (Z0c rfl rfl) <| Wa rfl rfl <| Wa rfl rfl <| Z7 <| Z6 <| Z09 (fun E w49 => ∃ (h48 : Hp) (x52 : Int) (xs53 : List St) (v54 : Value), Z7k k r18 x52 xs53 = some r ∧ E = [(9, pt b10 0), (10, .slice none 0 0), (11, vi r18.1), (12, vi x52)] ∧ Stp [] w0 h0 w49 h48 ∧ Hle h22 h48 ∧ RS h48 v54 xs53 ∧ OB w49 h48 b10 22 [v54]) ?_ ?_
 ·rintro E w49 ⟨h48, x52, xs53, v54, HF, rfl, S51, le50, rs55, ob56⟩
  refine Z09 (fun E w59 => ∃ (h58 : Hp), Zaz k xs53 = some r ∧ E = [(9, pt b10 0)] ∧ Stp [] w0 h0 w59 h58 ∧ Hle h48 h58 ∧ OB w59 h58 b10 22 [v54]) ?_ ?_
  ·rintro E w59 ⟨h58, HF, rfl, S61, le60, ob62⟩
   refine Zb <| Z1 <| Wv rfl (Zc rfl Z4f (OB.cell ob62 (j := 0) rfl)) <| Wa rfl rfl <| Wa rfl rfl <| Wa rfl rfl <| Z7 <| Z6 <| Z00 <| WQ.ret3 rfl rfl rfl rfl ?_
   obtain rfl := Option.some.inj HF
   exact ⟨_, rfl, h58, S61, _, _, _, rfl, (rs55.mono (le60)), rfl, rfl⟩
  intro J63
  refine Zb <| Z1 <| Wm rfl rfl <| Wv rfl (Z7e rfl rfl) <| Z7 <| Z6 <| Z17 HF rfl (fun HF => ?_) (fun HF => ?_)
  ·refine Zb <| Z1 <| Wm rfl rfl <| Wm rfl rfl <| Wm rfl rfl <| Wa rfl rfl <| Wa rfl rfl <| Wa rfl rfl <| Z7 <| Z6 <| Z00 <| Zi <| WQ.ret3 rfl rfl rfl rfl ?_
   obtain rfl := Option.some.inj HF
   exact ⟨_, rfl, h48, S51, _, _, _, rfl, (RS.nil _), rfl, rfl⟩
  refine Zm <| Z0g [9] _ rfl ?_
  exact J63 ⟨h48, HF, rfl, S51, Hle.refl _, ob56⟩
 intro J64
 refine Z09 (fun E w37 => ∃ (h36 : Hp) (x40 : Bool) (xs41 : List St) (v42 : Value), Z7l k r18 x40 xs41 = some r ∧ E = [(9, pt b10 0), (10, .slice none 0 0), (11, vi r18.1), (12, vi r18.2.1), (26, .bool x40)] ∧ Stp [] w0 h0 w37 h36 ∧ Hle h22 h36 ∧ RS h36 v42 xs41 ∧ OB w37 h36 b10 22 [v42]) ?_ ?_
 ·rintro E w37 ⟨h36, x40, xs41, v42, HF, rfl, S39, le38, rs43, ob44⟩
  refine Z17 HF rfl (fun HF => ?_) (fun HF => ?_)
  ·refine Z1 <| Wa rfl rfl <| Z7 <| Z0g [9, 10, 11, 12] _ rfl ?_
   exact J64 ⟨h36, 5, xs41, v42, HF, rfl, S39, le38, rs43, ob44⟩
  refine Zm <| Z0g [9, 10, 11, 12] _ rfl ?_
  exact J64 ⟨h36, r18.2.1, xs41, v42, HF, rfl, S39, le38, rs43, ob44⟩
 intro J46
 refine Z1 <| Wm rfl rfl <| Wv rfl (Z4n rfl rfl) <| Wm rfl rfl <| Z3g 21 HF rfl (fun HF => ?_) (fun HF => ?_)
 ·refine Wm rfl rfl <| Wv rfl (Zc rfl Z4f (OB.cell ob26 (j := 0) rfl)) ?_
  obtain ⟨r29, hr30, HF⟩ := Z8 HF
  refine Wc rfl (oc_val (vs := [v24]) (caps := []) rfl rfl t_ent_34) (ok_ast_IsText _ hr30 S27.sub rs25) ?_
  rintro _ w32 ⟨h33, s34, rfl⟩
  have S35 := S27.trans0 s34
  refine Wv rfl (Z3c rfl) <| Wv rfl (Zh rfl rfl) <| Z7 ?_
  have ob47 := (ob26.step0 s34)
  refine Z0g [9, 10, 11, 12, 26] _ rfl ?_
  exact J46 ⟨h33, !r29, r18.2.2, v24, HF, rfl, S35, s34.le, (rs25.mono (s34.le)), ob47⟩
 refine Wp rfl <| Wp rfl <| Wp rfl <| Wp rfl <| Wv rfl (Zg rfl rfl) <| Z7 <| Z0g [9, 10, 11, 12, 26] _ rfl ?_
 exact J46 ⟨h22, false, r18.2.2, v24, HF, rfl, S27, Hle.refl _, rs25, ob26⟩
theorem Zhn (k : Nat) : Zc0 (Z81 k) := s_syntax_read_api_Stmt k
def C_syntax_Text (φ : ByteArray → Option (List St × Int × Int)) : Prop := ∀ ⦃x1 : ByteArray⦄ ⦃r : List St × Int × Int⦄, φ x1 = some r → ∀ ⦃w0 : World⦄ ⦃h0 : Hp⦄, Sub h0 w0 →
  Calls Tryz.prog 12 #[.string x1] w0 fun e w1 => ∃ v, e = .returned v ∧ ∃ h1, Stp [] w0 h0 w1 h1 ∧ (∃ u0 u1 u2 : Value, v = .tuple #[u0, u1, u2] ∧ (RS h1 u0 r.1) ∧ (u1 = .int .i64 r.2.1) ∧ (u2 = .int .i64 r.2.2))
theorem s_syntax_Text (k : Nat) : C_syntax_Text (Zed k) := by
 intro x1 r HF w0 h0  hs0 
 have S0 : Stp [] w0 h0 w0 h0 := Stp.refl hs0 _
 refine Z4j (n := 10) Tryz.func12 rfl Tryz.ntmps12 rfl [(0, .string x1)] rfl <| Zb <| Z1 <| Wa rfl rfl <| Wa rfl rfl <| Wa rfl rfl <| Z7 <| Z6 <| Zb <| Z1 <| Wm rfl rfl ?_
 obtain ⟨r2, hr3, HF⟩ := Z8 HF
 refine Wc rfl (Ze (vs := [.string x1, .func (.func 33) #[] #[], .func (.func 34) #[] #[]]) rfl t_ent_32) (Zhn _ hr3 S0.sub) ?_
 rintro _ w5 ⟨h6, s7, v8, _, _, rfl, rs9, rfl, rfl⟩
 have S10 := S0.trans0 s7
 refine Wv rfl (Z0c rfl rfl) <| Wv rfl (Z0c rfl rfl) <| Wv rfl (Z0c rfl rfl) <| Wa rfl rfl <| Wa rfl rfl <| Wa rfl rfl <| Z7 <| Z6 <| Z00 <| WQ.ret3 rfl rfl rfl rfl ?_
 obtain rfl := Option.some.inj HF
 exact ⟨_, rfl, h6, S10, _, _, _, rfl, rs9, rfl, rfl⟩
theorem ok_syntax_Text (k : Nat) : C_syntax_Text (Zed k) := s_syntax_Text k
def C_syntax_Nodes (φ : (List St) → Option (Int × Int × Int)) : Prop := ∀ ⦃xs1 : List St⦄ ⦃r : Int × Int × Int⦄, φ xs1 = some r → ∀ ⦃w0 : World⦄ ⦃h0 : Hp⦄ ⦃v2 : Value⦄, Sub h0 w0 → RS h0 v2 xs1 →
  Calls Tryz.prog 21 #[v2] w0 fun e w1 => ∃ v, e = .returned v ∧ ∃ h1, Stp [] w0 h0 w1 h1 ∧ (∃ u0 u1 u2 : Value, v = .tuple #[u0, u1, u2] ∧ (u0 = .int .i64 r.1) ∧ (u1 = .int .i64 r.2.1) ∧ (u2 = .int .i64 r.2.2))
theorem s_syntax_Nodes (k : Nat) : C_syntax_Nodes (Zge k) := by
 intro xs1 r HF w0 h0 v2 hs0 rs3
 have S0 : Stp [] w0 h0 w0 h0 := Stp.refl hs0 _
 refine Z4j (n := 13) Tryz.func21 rfl Tryz.ntmps21 rfl [(0, v2)] rfl <| Zb <| Z1 <| Wa rfl rfl <| Wa rfl rfl <| Wa rfl rfl <| Z7 <| Z6 <| Zb <| Z1 <| Z15 (zs := [vi 0, vi 0]) rfl rfl t_zero_87 rfl S0.sub (fun w4 b5 hb6 s7 ob8 => ?_)
 have g9 : w0.heap.size ≤ b5 := by rw [hb6]; exact S0.size
 have S10 := S0.trans0 s7
 refine Z7 <| Z6 <| Z09 (fun E w21 => ∃ (h20 : Hp) (x24 : Int) (x25 : Int), syntax_Nodes_j1 k x24 x25 = some r ∧ E = [(5, pt b5 0)] ∧ Stp [] w0 h0 w21 h20 ∧ Hle h0 h20 ∧ OB w21 h20 b5 87 [vi x24, vi x25]) ?_ ?_
 ·rintro E w21 ⟨h20, x24, x25, HF, rfl, S23, le22, ob26⟩
  refine Zb <| Z2x (m := 5) [(5, pt b5 0)] [5] rfl (fun i v w h => match i with | 0 => v = pt b5 0 | 1 => v = vi x24 | 2 => v = pt b5 1 | 3 => v = vi x25 | 4 => v = vi x24 | _ => True) Z3f S23.sub rfl rfl rfl rfl rfl ?_ ?_ ?_
  ·intro i v w h w2 h2 hΦ hst
   match i, hΦ with
   | 0, hΦ | 1, hΦ | 2, hΦ | 3, hΦ | 4, hΦ => exact hΦ
   | i + 5, _ => exact trivial
  ·refine ⟨?_, ?_, ?_, ?_, ?_, trivial⟩
   ·intro a w27 h28 s29 hat hF
    exact Z3 hat rfl (Z2 rfl Zfy) s29.sub (by exact rfl)
   ·intro a w27 h28 s29 hat hF
    have ob30 := (ob26.step0 s29)
    exact Z3 (Z0 hat (hF 0 9 rfl rfl)) rfl (Zc rfl Z0f (OB.cell ob30 (j := 0) rfl)) s29.sub (by exact rfl)
   ·intro a w27 h28 s29 hat hF
    exact Z3 hat rfl (Z2 rfl t_field_87_1) s29.sub (by exact rfl)
   ·intro a w27 h28 s29 hat hF
    have ob31 := (ob26.step0 s29)
    exact Z3 (Z0 hat (hF 2 11 rfl rfl)) rfl (Zc rfl Z0f (OB.cell ob31 (j := 1) rfl)) s29.sub (by exact rfl)
   intro a w27 h28 s29 hat hF
   exact Z3 (Z0 hat (hF 1 10 rfl rfl)) rfl (ov_assign rfl) s29.sub (by exact rfl)
  intro a w27 h28 s29 hat hF
  obtain hv0 := hF 0 9 (by decide) rfl
  obtain hv1 := hF 1 10 (by decide) rfl
  obtain hv2 := hF 2 11 (by decide) rfl
  obtain hv3 := hF 3 12 (by decide) rfl
  obtain hv4 := hF 4 2 (by decide) rfl
  refine Z7z [(2, vi x24), (12, vi x25), (11, pt b5 1), (10, vi x24), (9, pt b5 0), (5, pt b5 0)] (Z0 (Z0 (Z0 (Z0 (Z0 hat hv0) hv1) hv2) hv3) hv4) ?_
  have S32 := S23.trans0 s29
  refine Wa rfl rfl <| Wa rfl rfl <| Z7 <| Z6 <| Z00 <| WQ.ret3 rfl rfl rfl rfl ?_
  obtain rfl := Option.some.inj HF
  exact ⟨_, rfl, h28, S32, _, _, _, rfl, rfl, rfl, rfl⟩
 intro J33
 refine Zb <| Z1 <| Wm rfl rfl ?_
 obtain ⟨r11, hr12, HF⟩ := Z8 HF
 refine Wc rfl (Ze (vs := [pt b5 0, v2, vi 1]) rfl t_ent_43) (Zec _ hr12 S10.sub (rs3.mono (s7.le)) ob8) ?_
 rintro _ w14 ⟨h15, s16, rfl, ob17⟩
 have S18 := S10.trans s16 (Zn (.inr g9) Z04)
 refine Wv rfl (Z3c rfl) <| Z7 <| Z6 <| Z17 HF rfl (fun HF => ?_) (fun HF => ?_)
 ·refine Zb <| Z1 <| Wa rfl rfl <| Wa rfl rfl <| Wa rfl rfl <| Z7 <| Z6 <| Z00 <| Zi <| WQ.ret3 rfl rfl rfl rfl ?_
  obtain rfl := Option.some.inj HF
  exact ⟨_, rfl, h15, S18, _, _, _, rfl, rfl, rfl, rfl⟩
 refine Zm <| Z0g [5] _ rfl ?_
 exact J33 ⟨h15, r11.2.1, r11.2.2, HF, rfl, S18, s16.le, ob17⟩
theorem ok_syntax_Nodes (k : Nat) : C_syntax_Nodes (Zge k) := s_syntax_Nodes k
def C_law02_awake (φ : Option Bool) : Prop := ∀ ⦃r : Bool⦄, φ  = some r → ∀ ⦃w0 : World⦄ ⦃h0 : Hp⦄, Sub h0 w0 →
  Calls Tryz.prog 16 #[] w0 fun e w1 => ∃ v, e = .returned v ∧ ∃ h1, Stp [] w0 h0 w1 h1 ∧ v = .bool r
theorem s_law02_awake (k : Nat) : C_law02_awake (Z9j k) := by
 intro  r HF w0 h0  hs0 
 have S0 : Stp [] w0 h0 w0 h0 := Stp.refl hs0 _
 refine Z4j (n := 53) Tryz.func16 rfl Tryz.ntmps16 rfl [] rfl <| Zb <| Z1 <| Wa rfl rfl <| Z7 <| Z6 <| Zb <| Z1 ?_
 obtain ⟨r1, hr2, HF⟩ := Z8 HF
 refine Wc rfl (Ze (vs := [.string (⟨#[120, 32, 58, 61, 32, 49, 32, 43, 32, 50, 32, 42, 32, 51, 59]⟩ : ByteArray)]) rfl t_ent_12) (ok_syntax_Text _ hr2 S0.sub) ?_
 rintro _ w4 ⟨h5, s6, v7, _, _, rfl, rs8, rfl, rfl⟩
 have S9 := S0.trans0 s6
 refine Wm rfl rfl <| Wv rfl (Z0c rfl rfl) <| Wv rfl (Z0c rfl rfl) <| Wv rfl (Z0c rfl rfl) <| Wa rfl rfl <| Wa rfl rfl <| Wa rfl rfl <| Z7 <| Z6 <| Zb <| Z1 <| Wm rfl rfl ?_
 obtain ⟨r10, hr11, HF⟩ := Z8 HF
 refine Wc rfl (Ze (vs := [v7]) rfl t_ent_21) (ok_syntax_Nodes _ hr11 S9.sub rs8) ?_
 rintro _ w13 ⟨h14, s15, _, _, _, rfl, rfl, rfl, rfl⟩
 have S16 := S9.trans0 s15
 refine Wm rfl rfl <| Wv rfl (Z0c rfl rfl) <| Wv rfl (Z0c rfl rfl) <| Wv rfl (Z0c rfl rfl) <| Wa rfl rfl <| Wa rfl rfl <| Wa rfl rfl <| Z7 <| Z6 <| Zb <| Z1 ?_
 obtain ⟨r17, hr18, HF⟩ := Z8 HF
 refine Wc rfl (Ze (vs := [.string (⟨#[105, 102, 32, 97, 32, 116, 104, 101, 110, 32, 120, 32, 58, 61, 32, 49, 59]⟩ : ByteArray)]) rfl t_ent_12) (ok_syntax_Text _ hr18 S16.sub) ?_
 rintro _ w20 ⟨h21, s22, v23, _, _, rfl, rs24, rfl, rfl⟩
 have S25 := S16.trans0 s22
 refine Wm rfl rfl <| Wv rfl (Z0c rfl rfl) <| Wv rfl (Z0c rfl rfl) <| Wv rfl (Z0c rfl rfl) <| Wa rfl rfl <| Wa rfl rfl <| Wa rfl rfl <| Z7 <| Z6 <| Z09 (fun E w43 => ∃ (h42 : Hp), law02_awake_j2 k  = some r ∧ E = [] ∧ Stp [] w0 h0 w43 h42 ∧ Hle h21 h42) ?_ ?_
 ·rintro E w43 ⟨h42, HF, rfl, S45, le44⟩
  refine Zb <| Z1 <| Wa rfl rfl <| Z7 <| Z6 <| Z00 <| Zt rfl rfl ?_
  obtain rfl := Option.some.inj HF
  exact ⟨_, rfl, h42, S45, rfl⟩
 intro J46
 refine Z09 (fun E w36 => ∃ (h35 : Hp) (x39 : Bool), Z63 k x39 = some r ∧ E = [(52, .bool x39)] ∧ Stp [] w0 h0 w36 h35 ∧ Hle h21 h35) ?_ ?_
 ·rintro E w36 ⟨h35, x39, HF, rfl, S38, le37⟩
  refine Z17 HF rfl (fun HF => ?_) (fun HF => ?_)
  ·refine Zb <| Z1 <| Wa rfl rfl <| Z7 <| Z6 <| Z00 <| Zi <| Zt rfl rfl ?_
   obtain rfl := Option.some.inj HF
   exact ⟨_, rfl, h35, S38, rfl⟩
  refine Zm <| Z0g [] _ rfl ?_
  exact J46 ⟨h35, HF, rfl, S38, le37⟩
 intro J41
 refine Z1 <| Wm rfl rfl <| Wv rfl (Z7e rfl rfl) <| Wm rfl rfl <| Z3g 28 HF rfl (fun HF => ?_) (fun HF => ?_)
 ·refine Wp rfl <| Wp rfl <| Wp rfl <| Wv rfl (Zh rfl rfl) <| Wm rfl rfl <| Wp rfl <| Wp rfl <| Wv rfl (Zh rfl rfl) <| Wm rfl rfl <| Wp rfl <| Wp rfl <| Wv rfl (Zh rfl rfl) <| Wm rfl rfl <| Wp rfl <| Wp rfl <| Wv rfl (Zh rfl rfl) <| Wm rfl rfl <| Wp rfl <| Wp rfl <| Wv rfl (Zh rfl rfl) <| Wm rfl rfl <| Wp rfl <| Wp rfl <| Wv rfl (Zh rfl rfl) <| Z7 <| Z0g [52] _ rfl ?_
  exact J41 ⟨h21, true, HF, rfl, S25, Hle.refl _⟩
 refine Wm rfl rfl ?_
 obtain ⟨A27, c28, rfl, rs29⟩ := RS.form (rs8.mono ((s15.le).trans s22.le))
 refine Wv rfl (Z1n rfl Z1y) <| Wv rfl (Z7e rfl rfl) <| Wv rfl (Zg rfl rfl) <| Wm rfl rfl <| Z3g 33 HF rfl (fun HF => ?_) (fun HF => ?_)
 ·refine Wp rfl <| Wp rfl <| Wv rfl (Zh rfl rfl) <| Wm rfl rfl <| Wp rfl <| Wp rfl <| Wv rfl (Zh rfl rfl) <| Wm rfl rfl <| Wp rfl <| Wp rfl <| Wv rfl (Zh rfl rfl) <| Wm rfl rfl <| Wp rfl <| Wp rfl <| Wv rfl (Zh rfl rfl) <| Wm rfl rfl <| Wp rfl <| Wp rfl <| Wv rfl (Zh rfl rfl) <| Z7 <| Z0g [52] _ rfl ?_
  exact J41 ⟨h21, true, HF, rfl, S25, Hle.refl _⟩
 refine Wm rfl rfl <| Wv rfl (Z7e rfl rfl) <| Wv rfl (Zg rfl rfl) <| Wm rfl rfl <| Z3g 37 HF rfl (fun HF => ?_) (fun HF => ?_)
 ·refine Wp rfl <| Wp rfl <| Wv rfl (Zh rfl rfl) <| Wm rfl rfl <| Wp rfl <| Wp rfl <| Wv rfl (Zh rfl rfl) <| Wm rfl rfl <| Wp rfl <| Wp rfl <| Wv rfl (Zh rfl rfl) <| Wm rfl rfl <| Wp rfl <| Wp rfl <| Wv rfl (Zh rfl rfl) <| Z7 <| Z0g [52] _ rfl ?_
  exact J41 ⟨h21, true, HF, rfl, S25, Hle.refl _⟩
 refine Wm rfl rfl <| Wv rfl (Z7e rfl rfl) <| Wv rfl (Zg rfl rfl) <| Wm rfl rfl <| Z3g 41 HF rfl (fun HF => ?_) (fun HF => ?_)
 ·refine Wp rfl <| Wp rfl <| Wv rfl (Zh rfl rfl) <| Wm rfl rfl <| Wp rfl <| Wp rfl <| Wv rfl (Zh rfl rfl) <| Wm rfl rfl <| Wp rfl <| Wp rfl <| Wv rfl (Zh rfl rfl) <| Z7 <| Z0g [52] _ rfl ?_
  exact J41 ⟨h21, true, HF, rfl, S25, Hle.refl _⟩
 refine Wm rfl rfl <| Wv rfl (Z7e rfl rfl) <| Wv rfl (Zg rfl rfl) <| Wm rfl rfl <| Z3g 45 HF rfl (fun HF => ?_) (fun HF => ?_)
 ·refine Wp rfl <| Wp rfl <| Wv rfl (Zh rfl rfl) <| Wm rfl rfl <| Wp rfl <| Wp rfl <| Wv rfl (Zh rfl rfl) <| Z7 <| Z0g [52] _ rfl ?_
  exact J41 ⟨h21, true, HF, rfl, S25, Hle.refl _⟩
 refine Wm rfl rfl <| Wv rfl (Z7e rfl rfl) <| Wv rfl (Zg rfl rfl) <| Wm rfl rfl <| Z3g 49 HF rfl (fun HF => ?_) (fun HF => ?_)
 ·refine Wp rfl <| Wp rfl <| Wv rfl (Zh rfl rfl) <| Z7 <| Z0g [52] _ rfl ?_
  exact J41 ⟨h21, true, HF, rfl, S25, Hle.refl _⟩
 refine Wm rfl rfl <| Wv rfl (Z7e rfl rfl) <| Wv rfl (Zg rfl rfl) <| Z7 <| Z0g [52] _ rfl ?_
 exact J41 ⟨h21, (r17.2.1 : Int) != 17, HF, rfl, S25, Hle.refl _⟩
theorem ok_law02_awake (k : Nat) : C_law02_awake (Z9j k) := s_law02_awake k
def Zh3 (φ : Ex → Ex → Option Bool) : Prop := ∀ ⦃x1 : Ex⦄ ⦃x4 : Ex⦄ ⦃r : Bool⦄, φ x1 x4 = some r → ∀ ⦃w0 : World⦄ ⦃h0 : Hp⦄ ⦃cs2 : List Value⦄ ⦃cs5 : List Value⦄, Sub h0 w0 → Rp.R h0 x1 cs2 → Rp.R h0 x4 cs5 →
  Calls Tryz.prog 30 #[.agg cs2.toArray, .agg cs5.toArray] w0 fun e w1 => ∃ v, e = .returned v ∧ ∃ h1, Stp [] w0 h0 w1 h1 ∧ v = .bool r
theorem s_syntax_SameExpr (k : Nat) : Zh3 (Z7f k) := by
 intro x1 x4 r HF w0 h0 cs2 cs5 hs0 r3 r6
 have S0 : Stp [] w0 h0 w0 h0 := Stp.refl hs0 _
 refine Z4j (n := 8) Tryz.func30 rfl Tryz.ntmps30 rfl [(0, .agg cs2.toArray), (1, .agg cs5.toArray)] rfl <| Zb <| Z1 ?_
 obtain ⟨v7, rfl, rs8⟩ := Z7n.1 r3
 refine Zhq (cs := [vi x1.op, vi x1.kind, vi x1.n, .string x1.s, .string x1.f, v7]) rfl rfl rfl rfl S0.sub (fun w9 b10 hb11 s12 ob13 => ?_)
 have g14 : w0.heap.size ≤ b10 := by rw [hb11]; exact S0.size
 have S15 := S0.trans0 s12
 obtain ⟨v16, rfl, rs17⟩ := Z7n.1 (Rp.mono (s12.le) r6)
 refine Zhq (cs := [vi x4.op, vi x4.kind, vi x4.n, .string x4.s, .string x4.f, v16]) rfl rfl rfl rfl S15.sub (fun w18 b19 hb20 s21 ob22 => ?_)
 have ne23 : b10 ≠ b19 := ob13.ne_new hb20
 have g24 : w0.heap.size ≤ b19 := by rw [hb20]; exact S15.size
 have S25 := S15.trans0 s21
 refine Wa rfl rfl <| Z7 <| Z6 <| Zb <| Z1 ?_
 have ob26 := (ob13.step0 s21)
 refine Wv rfl (Z16 (cs := [vi x1.op, vi x1.kind, vi x1.n, .string x1.s, .string x1.f, v7]) rfl Z2a Zw (OB.cells ob26 0 rfl)) <| Wv rfl (Z16 (cs := [vi x4.op, vi x4.kind, vi x4.n, .string x4.s, .string x4.f, v16]) rfl Z2a Zw (OB.cells ob22 0 rfl)) ?_
 obtain ⟨r27, hr28, HF⟩ := Z8 HF
 refine Wc rfl (Ze (vs := [.agg #[vi x1.op, vi x1.kind, vi x1.n, .string x1.s, .string x1.f, v7], .agg #[vi x4.op, vi x4.kind, vi x4.n, .string x4.s, .string x4.f, v16]]) rfl t_ent_51) (ok_ast_SameExpr _ hr28 S25.sub (Z7n.2 ⟨_, rfl, (rs8.mono ((s12.le).trans s21.le))⟩) (Z7n.2 ⟨_, rfl, (rs17.mono (s21.le))⟩)) ?_
 rintro _ w30 ⟨h31, s32, rfl⟩
 have S33 := S25.trans0 s32
 refine Wa rfl rfl <| Z7 <| Z6 <| Z00 <| Zt rfl rfl ?_
 obtain rfl := Option.some.inj HF
 exact ⟨_, rfl, h31, S33, rfl⟩
theorem Zb3 (k : Nat) : Zh3 (Z7f k) := s_syntax_SameExpr k
def Zfs (φ : (List St) → (List St) → Ex → Ex → Option Bool) : Prop := ∀ ⦃xs1 : List St⦄ ⦃xs4 : List St⦄ ⦃x7 : Ex⦄ ⦃x10 : Ex⦄ ⦃r : Bool⦄, φ xs1 xs4 x7 x10 = some r → ∀ ⦃w0 : World⦄ ⦃h0 : Hp⦄ ⦃v2 : Value⦄ ⦃v5 : Value⦄ ⦃cs8 : List Value⦄ ⦃cs11 : List Value⦄, Sub h0 w0 → RS h0 v2 xs1 → RS h0 v5 xs4 → Rp.R h0 x7 cs8 → Rp.R h0 x10 cs11 →
  Calls Tryz.prog 10 #[v2, v5, .agg (cs8 ++ cs11).toArray] w0 fun e w1 => ∃ v, e = .returned v ∧ ∃ h1, Stp [] w0 h0 w1 h1 ∧ v = .bool r
theorem s_law02_SyntaxSame (k : Nat) : Zfs (Z8j k) := by
 intro xs1 xs4 x7 x10 r HF w0 h0 v2 v5 cs8 cs11 hs0 rs3 rs6 r9 r12
 have S0 : Stp [] w0 h0 w0 h0 := Stp.refl hs0 _
 refine Z4j (n := 56) Tryz.func10 rfl Tryz.ntmps10 rfl [(0, v2), (1, v5), (2, .agg (cs8 ++ cs11).toArray)] rfl <| Zb <| Z1 ?_
 obtain ⟨v13, rfl, rs14⟩ := Z7n.1 r9
 obtain ⟨v15, rfl, rs16⟩ := Z7n.1 r12
 refine WL.boxD (cs := [vi x7.op, vi x7.kind, vi x7.n, .string x7.s, .string x7.f, v13, vi x10.op, vi x10.kind, vi x10.n, .string x10.s, .string x10.f, v15]) rfl rfl rfl rfl S0.sub (fun w17 h18 b19 hb20 s21 hc22 => ?_)
 have S24 := S0.trans0 s21
 have rs23 : RS h18 (sl b19 0 2 2) ([x7, x10] : List Ex) := RS.litL _ [[vi x7.op, vi x7.kind, vi x7.n, .string x7.s, .string x7.f, v13], [vi x10.op, vi x10.kind, vi x10.n, .string x10.s, .string x10.f, v15]] rfl rfl hc22 ⟨(Z7n.2 ⟨_, rfl, (rs14.mono (s21.le))⟩), (Z7n.2 ⟨_, rfl, (rs16.mono (s21.le))⟩), trivial⟩
 refine Wa rfl rfl <| Z7 <| Z6 <| Z09 (fun E w63 => ∃ (h62 : Hp), Zae k xs1 xs4 x7 x10 = some r ∧ E = [(0, v2), (1, v5), (5, pt b19 0)] ∧ Stp [] w0 h0 w63 h62 ∧ Hle h18 h62) ?_ ?_
 ·rintro E w63 ⟨h62, HF, rfl, S65, le64⟩
  refine Zb ?_
  obtain ⟨r66, hr67, HF⟩ := Z8 HF
  obtain ⟨r68, hr69, HF⟩ := Z8 HF
  refine Z6x (b := r66 == r68) (fun hb70 => ?_) (fun hb70 => ?_)
  ·replace HF := bif_t hb70 HF
   obtain ⟨r71, hr72, HF⟩ := Z8 HF
   refine Z6x (b := r71) (fun hb73 => ?_) (fun hb73 => ?_)
   ·replace HF := bif_t hb73 HF
    obtain ⟨e74, he75, HF⟩ := Z8 HF
    obtain ⟨b76, o77, hA, h79, h80, ra78⟩ := RS.atO (rs23.mono (le64)) he75
    cases hA
    obtain ⟨cs81, r82, hc83⟩ := ra78
    obtain ⟨e84, he85, HF⟩ := Z8 HF
    obtain ⟨b86, o87, hA, h89, h90, ra88⟩ := RS.atO (rs23.mono (le64)) he85
    cases hA
    obtain ⟨cs91, r92, hc93⟩ := ra88
    obtain ⟨r94, hr95, HF⟩ := Z8 HF
    obtain ⟨e96, he97, HF⟩ := Z8 HF
    obtain ⟨b98, o99, hA, h101, h102, ra100⟩ := RS.atO (rs23.mono (le64)) he97
    cases hA
    obtain ⟨cs103, r104, hc105⟩ := ra100
    obtain ⟨e106, he107, HF⟩ := Z8 HF
    obtain ⟨b108, o109, hA, h111, h112, ra110⟩ := RS.atO (rs23.mono (le64)) he107
    cases hA
    obtain ⟨cs113, r114, hc115⟩ := ra110
    obtain ⟨r116, hr117, HF⟩ := Z8 HF
    refine Z6x (b := r94 == r116) (fun hb118 => ?_) (fun hb118 => ?_)
    ·replace HF := bif_t hb118 HF
     obtain ⟨e119, he120, HF⟩ := Z8 HF
     obtain ⟨b121, o122, hA, h124, h125, ra123⟩ := RS.atO (rs23.mono (le64)) he120
     cases hA
     obtain ⟨cs126, r127, hc128⟩ := ra123
     obtain ⟨e129, he130, HF⟩ := Z8 HF
     obtain ⟨b131, o132, hA, h134, h135, ra133⟩ := RS.atO (rs23.mono (le64)) he130
     cases hA
     obtain ⟨cs136, r137, hc138⟩ := ra133
     refine Z2x (m := 30) [(0, v2), (1, v5), (5, pt b19 0)] [0, 1, 5] rfl (fun i v w h => match i with | 0 => v = v2 | 1 => v = v5 | 2 => v = .bool r66 | 3 => v = v2 | 4 => v = v5 | 5 => v = .bool r68 | 6 => v = .bool (r66 == r68) | 7 => v = .bool true | 8 => v = v2 | 9 => v = v2 | 10 => v = .bool r71 | 11 => v = .bool r71 | 12 => v = .bool true | 13 => v = pt b19 (0 + Int.toNat 0 * 6) | 14 => v = .agg cs81.toArray | 15 => v = pt b19 (0 + Int.toNat 1 * 6) | 16 => v = .agg cs91.toArray | 17 => v = .bool r94 | 18 => v = pt b19 (0 + Int.toNat 0 * 6) | 19 => v = .agg cs103.toArray | 20 => v = pt b19 (0 + Int.toNat 1 * 6) | 21 => v = .agg cs113.toArray | 22 => v = .bool r116 | 23 => v = .bool (r94 == r116) | 24 => v = .bool (r94 == r116) | 25 => v = .bool true | 26 => v = pt b19 (0 + Int.toNat 1 * 6) | 27 => v = .agg cs126.toArray | 28 => v = pt b19 (0 + Int.toNat 1 * 6) | 29 => v = .agg cs136.toArray | _ => True) Z3f S65.sub rfl rfl rfl rfl rfl ?_ ?_ ?_
     ·intro i v w h w2 h2 hΦ hst
      match i, hΦ with
      | 0, hΦ | 1, hΦ | 2, hΦ | 3, hΦ | 4, hΦ | 5, hΦ | 6, hΦ | 7, hΦ | 8, hΦ | 9, hΦ | 10, hΦ | 11, hΦ | 12, hΦ | 13, hΦ | 14, hΦ | 15, hΦ | 16, hΦ | 17, hΦ | 18, hΦ | 19, hΦ | 20, hΦ | 21, hΦ | 22, hΦ | 23, hΦ | 24, hΦ | 25, hΦ | 26, hΦ | 27, hΦ | 28, hΦ | 29, hΦ => exact hΦ
      | i + 30, _ => exact trivial
     ·refine ⟨?_, ?_, ?_, ?_, ?_, ?_, ?_, ?_, ?_, ?_, ?_, ?_, ?_, ?_, ?_, ?_, ?_, ?_, ?_, ?_, ?_, ?_, ?_, ?_, ?_, ?_, ?_, ?_, ?_, ?_, trivial⟩
      ·intro a w139 h140 s141 hat hF
       exact Z3 hat rfl (Zu rfl) s141.sub (by exact rfl)
      ·intro a w139 h140 s141 hat hF
       exact Z3 hat rfl (Zu rfl) s141.sub (by exact rfl)
      ·intro a w139 h140 s141 hat hF
       refine Z2d (Z0 (Z0 hat (hF 0 21 rfl rfl)) (hF 1 22 rfl rfl)) rfl (Ze (vs := [v2, v5]) rfl t_ent_29) (Z71 _ hr67 s141.sub (rs3.mono ((s21.le).trans ((le64).trans s141.le))) (rs6.mono ((s21.le).trans ((le64).trans s141.le)))) ?_
       rintro _ w142 ⟨h143, s144, rfl⟩
       exact ⟨_, h143, rfl, s144, (by exact rfl)⟩
      ·intro a w139 h140 s141 hat hF
       exact Z3 hat rfl (Zu rfl) s141.sub (by exact rfl)
      ·intro a w139 h140 s141 hat hF
       exact Z3 hat rfl (Zu rfl) s141.sub (by exact rfl)
      ·intro a w139 h140 s141 hat hF
       refine Z2d (Z0 (Z0 hat (hF 3 24 rfl rfl)) (hF 4 25 rfl rfl)) rfl (Ze (vs := [v2, v5]) rfl t_ent_15) (Zee _ hr69 s141.sub (rs3.mono ((s21.le).trans ((le64).trans s141.le))) (rs6.mono ((s21.le).trans ((le64).trans s141.le)))) ?_
       rintro _ w145 ⟨h146, s147, rfl⟩
       exact ⟨_, h146, rfl, s147, (by exact rfl)⟩
      ·intro a w139 h140 s141 hat hF
       exact Z3 (Z0 (Z0 hat (hF 2 23 rfl rfl)) (hF 5 26 rfl rfl)) rfl (ov_eqlB rfl rfl Zf9) s141.sub (by exact rfl)
      ·intro a w139 h140 s141 hat hF
       exact Z3 (Z0 hat (hF 6 27 rfl rfl)) rfl (Zci (Zu rfl) hb70) s141.sub (by exact rfl)
      ·intro a w139 h140 s141 hat hF
       exact Z3 (Z0 hat (hF 7 28 rfl rfl)) rfl (Zu rfl) s141.sub (by exact rfl)
      ·intro a w139 h140 s141 hat hF
       exact Z3 (Z0 hat (hF 7 28 rfl rfl)) rfl (Zu rfl) s141.sub (by exact rfl)
      ·intro a w139 h140 s141 hat hF
       refine Z2d (Z0 (Z0 (Z0 hat (hF 7 28 rfl rfl)) (hF 8 29 rfl rfl)) (hF 9 30 rfl rfl)) rfl (Ze (vs := [v2, v2]) rfl t_ent_29) (Z71 _ hr72 s141.sub (rs3.mono ((s21.le).trans ((le64).trans s141.le))) (rs3.mono ((s21.le).trans ((le64).trans s141.le)))) ?_
       rintro _ w148 ⟨h149, s150, rfl⟩
       exact ⟨_, h149, rfl, s150, (by exact rfl)⟩
      ·intro a w139 h140 s141 hat hF
       exact Z3 (Z0 (Z0 hat (hF 7 28 rfl rfl)) (hF 10 31 rfl rfl)) rfl (Zh rfl rfl) s141.sub (by exact rfl)
      ·intro a w139 h140 s141 hat hF
       exact Z3 (Z0 hat (hF 11 32 rfl rfl)) rfl (Zci (Zu rfl) hb73) s141.sub (by exact rfl)
      ·intro a w139 h140 s141 hat hF
       exact Z3 (Z0 hat (hF 12 33 rfl rfl)) rfl (Z4z rfl rfl Zdp Zw h79 h80) s141.sub (by exact rfl)
      ·intro a w139 h140 s141 hat hF
       exact Z3 (Z0 (Z0 hat (hF 12 33 rfl rfl)) (hF 13 34 rfl rfl)) rfl (Z16 (cs := cs81) rfl Z2a (by rw [Rp.len (Rp.mono (s141.le) r82)]; exact Zw) (fun j v hv => s141.sub.at_ _ _ _ ((fun i v hv => (s141.le).1 _ _ _ (hc83 i v hv)) j v hv))) s141.sub (by exact rfl)
      ·intro a w139 h140 s141 hat hF
       exact Z3 (Z0 hat (hF 12 33 rfl rfl)) rfl (Z4z rfl rfl Zdp Zw h89 h90) s141.sub (by exact rfl)
      ·intro a w139 h140 s141 hat hF
       exact Z3 (Z0 (Z0 hat (hF 12 33 rfl rfl)) (hF 15 36 rfl rfl)) rfl (Z16 (cs := cs91) rfl Z2a (by rw [Rp.len (Rp.mono (s141.le) r92)]; exact Zw) (fun j v hv => s141.sub.at_ _ _ _ ((fun i v hv => (s141.le).1 _ _ _ (hc93 i v hv)) j v hv))) s141.sub (by exact rfl)
      ·intro a w139 h140 s141 hat hF
       refine Z2d (Z0 (Z0 (Z0 hat (hF 12 33 rfl rfl)) (hF 14 35 rfl rfl)) (hF 16 37 rfl rfl)) rfl (Ze (vs := [.agg cs81.toArray, .agg cs91.toArray]) rfl t_ent_30) (Zb3 _ hr95 s141.sub (Rp.mono (s141.le) r82) (Rp.mono (s141.le) r92)) ?_
       rintro _ w151 ⟨h152, s153, rfl⟩
       exact ⟨_, h152, rfl, s153, (by exact rfl)⟩
      ·intro a w139 h140 s141 hat hF
       exact Z3 (Z0 hat (hF 12 33 rfl rfl)) rfl (Z4z rfl rfl Zdp Zw h101 h102) s141.sub (by exact rfl)
      ·intro a w139 h140 s141 hat hF
       exact Z3 (Z0 (Z0 hat (hF 12 33 rfl rfl)) (hF 18 39 rfl rfl)) rfl (Z16 (cs := cs103) rfl Z2a (by rw [Rp.len (Rp.mono (s141.le) r104)]; exact Zw) (fun j v hv => s141.sub.at_ _ _ _ ((fun i v hv => (s141.le).1 _ _ _ (hc105 i v hv)) j v hv))) s141.sub (by exact rfl)
      ·intro a w139 h140 s141 hat hF
       exact Z3 (Z0 hat (hF 12 33 rfl rfl)) rfl (Z4z rfl rfl Zdp Zw h111 h112) s141.sub (by exact rfl)
      ·intro a w139 h140 s141 hat hF
       exact Z3 (Z0 (Z0 hat (hF 12 33 rfl rfl)) (hF 20 41 rfl rfl)) rfl (Z16 (cs := cs113) rfl Z2a (by rw [Rp.len (Rp.mono (s141.le) r114)]; exact Zw) (fun j v hv => s141.sub.at_ _ _ _ ((fun i v hv => (s141.le).1 _ _ _ (hc115 i v hv)) j v hv))) s141.sub (by exact rfl)
      ·intro a w139 h140 s141 hat hF
       refine Z2d (Z0 (Z0 (Z0 hat (hF 12 33 rfl rfl)) (hF 19 40 rfl rfl)) (hF 21 42 rfl rfl)) rfl (Ze (vs := [.agg cs103.toArray, .agg cs113.toArray]) rfl t_ent_25) (Zh0 _ hr117 s141.sub (Rp.mono (s141.le) r104) (Rp.mono (s141.le) r114)) ?_
       rintro _ w154 ⟨h155, s156, rfl⟩
       exact ⟨_, h155, rfl, s156, (by exact rfl)⟩
      ·intro a w139 h140 s141 hat hF
       exact Z3 (Z0 (Z0 (Z0 hat (hF 12 33 rfl rfl)) (hF 17 38 rfl rfl)) (hF 22 43 rfl rfl)) rfl (ov_eqlB rfl rfl Zf9) s141.sub (by exact rfl)
      ·intro a w139 h140 s141 hat hF
       exact Z3 (Z0 (Z0 hat (hF 12 33 rfl rfl)) (hF 23 44 rfl rfl)) rfl (Zh rfl rfl) s141.sub (by exact rfl)
      ·intro a w139 h140 s141 hat hF
       exact Z3 (Z0 hat (hF 24 45 rfl rfl)) rfl (Zci (Zu rfl) hb118) s141.sub (by exact rfl)
      ·intro a w139 h140 s141 hat hF
       exact Z3 (Z0 hat (hF 25 46 rfl rfl)) rfl (Z4z rfl rfl Zdp Zw h124 h125) s141.sub (by exact rfl)
      ·intro a w139 h140 s141 hat hF
       exact Z3 (Z0 (Z0 hat (hF 25 46 rfl rfl)) (hF 26 47 rfl rfl)) rfl (Z16 (cs := cs126) rfl Z2a (by rw [Rp.len (Rp.mono (s141.le) r127)]; exact Zw) (fun j v hv => s141.sub.at_ _ _ _ ((fun i v hv => (s141.le).1 _ _ _ (hc128 i v hv)) j v hv))) s141.sub (by exact rfl)
      ·intro a w139 h140 s141 hat hF
       exact Z3 (Z0 hat (hF 25 46 rfl rfl)) rfl (Z4z rfl rfl Zdp Zw h134 h135) s141.sub (by exact rfl)
      intro a w139 h140 s141 hat hF
      exact Z3 (Z0 (Z0 hat (hF 25 46 rfl rfl)) (hF 28 49 rfl rfl)) rfl (Z16 (cs := cs136) rfl Z2a (by rw [Rp.len (Rp.mono (s141.le) r137)]; exact Zw) (fun j v hv => s141.sub.at_ _ _ _ ((fun i v hv => (s141.le).1 _ _ _ (hc138 i v hv)) j v hv))) s141.sub (by exact rfl)
     intro a w139 h140 s141 hat hF
     obtain hv0 := hF 0 21 (by decide) rfl
     obtain hv1 := hF 1 22 (by decide) rfl
     obtain hv2 := hF 2 23 (by decide) rfl
     obtain hv3 := hF 3 24 (by decide) rfl
     obtain hv4 := hF 4 25 (by decide) rfl
     obtain hv5 := hF 5 26 (by decide) rfl
     obtain hv6 := hF 6 27 (by decide) rfl
     obtain hv7 := hF 7 28 (by decide) rfl
     obtain hv8 := hF 8 29 (by decide) rfl
     obtain hv9 := hF 9 30 (by decide) rfl
     obtain hv10 := hF 10 31 (by decide) rfl
     obtain hv11 := hF 11 32 (by decide) rfl
     obtain hv12 := hF 12 33 (by decide) rfl
     obtain hv13 := hF 13 34 (by decide) rfl
     obtain hv14 := hF 14 35 (by decide) rfl
     obtain hv15 := hF 15 36 (by decide) rfl
     obtain hv16 := hF 16 37 (by decide) rfl
     obtain hv17 := hF 17 38 (by decide) rfl
     obtain hv18 := hF 18 39 (by decide) rfl
     obtain hv19 := hF 19 40 (by decide) rfl
     obtain hv20 := hF 20 41 (by decide) rfl
     obtain hv21 := hF 21 42 (by decide) rfl
     obtain hv22 := hF 22 43 (by decide) rfl
     obtain hv23 := hF 23 44 (by decide) rfl
     obtain hv24 := hF 24 45 (by decide) rfl
     obtain hv25 := hF 25 46 (by decide) rfl
     obtain hv26 := hF 26 47 (by decide) rfl
     obtain hv27 := hF 27 48 (by decide) rfl
     obtain hv28 := hF 28 49 (by decide) rfl
     obtain hv29 := hF 29 50 (by decide) rfl
     refine Z7z [(50, .agg cs136.toArray), (49, pt b19 (0 + Int.toNat 1 * 6)), (48, .agg cs126.toArray), (47, pt b19 (0 + Int.toNat 1 * 6)), (46, .bool true), (45, .bool (r94 == r116)), (44, .bool (r94 == r116)), (43, .bool r116), (42, .agg cs113.toArray), (41, pt b19 (0 + Int.toNat 1 * 6)), (40, .agg cs103.toArray), (39, pt b19 (0 + Int.toNat 0 * 6)), (38, .bool r94), (37, .agg cs91.toArray), (36, pt b19 (0 + Int.toNat 1 * 6)), (35, .agg cs81.toArray), (34, pt b19 (0 + Int.toNat 0 * 6)), (33, .bool true), (32, .bool r71), (31, .bool r71), (30, v2), (29, v2), (28, .bool true), (27, .bool (r66 == r68)), (26, .bool r68), (25, v5), (24, v2), (23, .bool r66), (22, v5), (21, v2), (0, v2), (1, v5), (5, pt b19 0)] (Z0 (Z0 (Z0 (Z0 (Z0 (Z0 (Z0 (Z0 (Z0 (Z0 (Z0 (Z0 (Z0 (Z0 (Z0 (Z0 (Z0 (Z0 (Z0 (Z0 (Z0 (Z0 (Z0 (Z0 (Z0 (Z0 (Z0 (Z0 (Z0 (Z0 hat hv0) hv1) hv2) hv3) hv4) hv5) hv6) hv7) hv8) hv9) hv10) hv11) hv12) hv13) hv14) hv15) hv16) hv17) hv18) hv19) hv20) hv21) hv22) hv23) hv24) hv25) hv26) hv27) hv28) hv29) ?_
     have S157 := S65.trans0 s141
     obtain ⟨r158, hr159, HF⟩ := Z8 HF
     refine Wc rfl (Ze (vs := [.agg cs126.toArray, .agg cs136.toArray]) rfl t_ent_30) (Zb3 _ hr159 S157.sub (Rp.mono (s141.le) r127) (Rp.mono (s141.le) r137)) ?_
     rintro _ w161 ⟨h162, s163, rfl⟩
     have S164 := S157.trans0 s163
     refine Wv rfl (Zh rfl rfl) <| Wm rfl rfl <| Z3g 53 HF rfl (fun HF => ?_) (fun HF => ?_)
     ·obtain ⟨r166, hr167, HF⟩ := Z8 HF
      refine Wc rfl (Ze (vs := []) rfl t_ent_16) (ok_law02_awake _ hr167 S164.sub) ?_
      rintro _ w169 ⟨h170, s171, rfl⟩
      have S172 := S164.trans0 s171
      refine Wv rfl (Zh rfl rfl) <| Wa rfl rfl <| Z7 <| Z6 <| Z00 <| Zt rfl rfl ?_
      obtain rfl := Option.some.inj HF
      exact ⟨_, rfl, h170, S172, rfl⟩
     refine Wp rfl <| Wv rfl (Zg rfl rfl) <| Wa rfl rfl <| Z7 <| Z6 <| Z00 <| Zt rfl rfl ?_
     obtain rfl := Option.some.inj HF
     exact ⟨_, rfl, h162, S164, rfl⟩
    replace HF := bif_f hb118 HF
    refine Z2x (m := 30) [(0, v2), (1, v5), (5, pt b19 0)] [0, 1, 5] rfl (fun i v w h => match i with | 0 => v = v2 | 1 => v = v5 | 2 => v = .bool r66 | 3 => v = v2 | 4 => v = v5 | 5 => v = .bool r68 | 6 => v = .bool (r66 == r68) | 7 => v = .bool true | 8 => v = v2 | 9 => v = v2 | 10 => v = .bool r71 | 11 => v = .bool r71 | 12 => v = .bool true | 13 => v = pt b19 (0 + Int.toNat 0 * 6) | 14 => v = .agg cs81.toArray | 15 => v = pt b19 (0 + Int.toNat 1 * 6) | 16 => v = .agg cs91.toArray | 17 => v = .bool r94 | 18 => v = pt b19 (0 + Int.toNat 0 * 6) | 19 => v = .agg cs103.toArray | 20 => v = pt b19 (0 + Int.toNat 1 * 6) | 21 => v = .agg cs113.toArray | 22 => v = .bool r116 | 23 => v = .bool (r94 == r116) | 24 => v = .bool (r94 == r116) | 25 => v = .bool false | 26 => v = undef | 27 => v = undef | 28 => v = undef | 29 => v = undef | _ => True) Z3f S65.sub rfl rfl rfl rfl rfl ?_ ?_ ?_
    ·intro i v w h w2 h2 hΦ hst
     match i, hΦ with
     | 0, hΦ | 1, hΦ | 2, hΦ | 3, hΦ | 4, hΦ | 5, hΦ | 6, hΦ | 7, hΦ | 8, hΦ | 9, hΦ | 10, hΦ | 11, hΦ | 12, hΦ | 13, hΦ | 14, hΦ | 15, hΦ | 16, hΦ | 17, hΦ | 18, hΦ | 19, hΦ | 20, hΦ | 21, hΦ | 22, hΦ | 23, hΦ | 24, hΦ | 25, hΦ | 26, hΦ | 27, hΦ | 28, hΦ | 29, hΦ => exact hΦ
     | i + 30, _ => exact trivial
    ·refine ⟨?_, ?_, ?_, ?_, ?_, ?_, ?_, ?_, ?_, ?_, ?_, ?_, ?_, ?_, ?_, ?_, ?_, ?_, ?_, ?_, ?_, ?_, ?_, ?_, ?_, ?_, ?_, ?_, ?_, ?_, trivial⟩
     ·intro a w173 h174 s175 hat hF
      exact Z3 hat rfl (Zu rfl) s175.sub (by exact rfl)
     ·intro a w173 h174 s175 hat hF
      exact Z3 hat rfl (Zu rfl) s175.sub (by exact rfl)
     ·intro a w173 h174 s175 hat hF
      refine Z2d (Z0 (Z0 hat (hF 0 21 rfl rfl)) (hF 1 22 rfl rfl)) rfl (Ze (vs := [v2, v5]) rfl t_ent_29) (Z71 _ hr67 s175.sub (rs3.mono ((s21.le).trans ((le64).trans s175.le))) (rs6.mono ((s21.le).trans ((le64).trans s175.le)))) ?_
      rintro _ w176 ⟨h177, s178, rfl⟩
      exact ⟨_, h177, rfl, s178, (by exact rfl)⟩
     ·intro a w173 h174 s175 hat hF
      exact Z3 hat rfl (Zu rfl) s175.sub (by exact rfl)
     ·intro a w173 h174 s175 hat hF
      exact Z3 hat rfl (Zu rfl) s175.sub (by exact rfl)
     ·intro a w173 h174 s175 hat hF
      refine Z2d (Z0 (Z0 hat (hF 3 24 rfl rfl)) (hF 4 25 rfl rfl)) rfl (Ze (vs := [v2, v5]) rfl t_ent_15) (Zee _ hr69 s175.sub (rs3.mono ((s21.le).trans ((le64).trans s175.le))) (rs6.mono ((s21.le).trans ((le64).trans s175.le)))) ?_
      rintro _ w179 ⟨h180, s181, rfl⟩
      exact ⟨_, h180, rfl, s181, (by exact rfl)⟩
     ·intro a w173 h174 s175 hat hF
      exact Z3 (Z0 (Z0 hat (hF 2 23 rfl rfl)) (hF 5 26 rfl rfl)) rfl (ov_eqlB rfl rfl Zf9) s175.sub (by exact rfl)
     ·intro a w173 h174 s175 hat hF
      exact Z3 (Z0 hat (hF 6 27 rfl rfl)) rfl (Zci (Zu rfl) hb70) s175.sub (by exact rfl)
     ·intro a w173 h174 s175 hat hF
      exact Z3 (Z0 hat (hF 7 28 rfl rfl)) rfl (Zu rfl) s175.sub (by exact rfl)
     ·intro a w173 h174 s175 hat hF
      exact Z3 (Z0 hat (hF 7 28 rfl rfl)) rfl (Zu rfl) s175.sub (by exact rfl)
     ·intro a w173 h174 s175 hat hF
      refine Z2d (Z0 (Z0 (Z0 hat (hF 7 28 rfl rfl)) (hF 8 29 rfl rfl)) (hF 9 30 rfl rfl)) rfl (Ze (vs := [v2, v2]) rfl t_ent_29) (Z71 _ hr72 s175.sub (rs3.mono ((s21.le).trans ((le64).trans s175.le))) (rs3.mono ((s21.le).trans ((le64).trans s175.le)))) ?_
      rintro _ w182 ⟨h183, s184, rfl⟩
      exact ⟨_, h183, rfl, s184, (by exact rfl)⟩
     ·intro a w173 h174 s175 hat hF
      exact Z3 (Z0 (Z0 hat (hF 7 28 rfl rfl)) (hF 10 31 rfl rfl)) rfl (Zh rfl rfl) s175.sub (by exact rfl)
     ·intro a w173 h174 s175 hat hF
      exact Z3 (Z0 hat (hF 11 32 rfl rfl)) rfl (Zci (Zu rfl) hb73) s175.sub (by exact rfl)
     ·intro a w173 h174 s175 hat hF
      exact Z3 (Z0 hat (hF 12 33 rfl rfl)) rfl (Z4z rfl rfl Zdp Zw h79 h80) s175.sub (by exact rfl)
     ·intro a w173 h174 s175 hat hF
      exact Z3 (Z0 (Z0 hat (hF 12 33 rfl rfl)) (hF 13 34 rfl rfl)) rfl (Z16 (cs := cs81) rfl Z2a (by rw [Rp.len (Rp.mono (s175.le) r82)]; exact Zw) (fun j v hv => s175.sub.at_ _ _ _ ((fun i v hv => (s175.le).1 _ _ _ (hc83 i v hv)) j v hv))) s175.sub (by exact rfl)
     ·intro a w173 h174 s175 hat hF
      exact Z3 (Z0 hat (hF 12 33 rfl rfl)) rfl (Z4z rfl rfl Zdp Zw h89 h90) s175.sub (by exact rfl)
     ·intro a w173 h174 s175 hat hF
      exact Z3 (Z0 (Z0 hat (hF 12 33 rfl rfl)) (hF 15 36 rfl rfl)) rfl (Z16 (cs := cs91) rfl Z2a (by rw [Rp.len (Rp.mono (s175.le) r92)]; exact Zw) (fun j v hv => s175.sub.at_ _ _ _ ((fun i v hv => (s175.le).1 _ _ _ (hc93 i v hv)) j v hv))) s175.sub (by exact rfl)
     ·intro a w173 h174 s175 hat hF
      refine Z2d (Z0 (Z0 (Z0 hat (hF 12 33 rfl rfl)) (hF 14 35 rfl rfl)) (hF 16 37 rfl rfl)) rfl (Ze (vs := [.agg cs81.toArray, .agg cs91.toArray]) rfl t_ent_30) (Zb3 _ hr95 s175.sub (Rp.mono (s175.le) r82) (Rp.mono (s175.le) r92)) ?_
      rintro _ w185 ⟨h186, s187, rfl⟩
      exact ⟨_, h186, rfl, s187, (by exact rfl)⟩
     ·intro a w173 h174 s175 hat hF
      exact Z3 (Z0 hat (hF 12 33 rfl rfl)) rfl (Z4z rfl rfl Zdp Zw h101 h102) s175.sub (by exact rfl)
     ·intro a w173 h174 s175 hat hF
      exact Z3 (Z0 (Z0 hat (hF 12 33 rfl rfl)) (hF 18 39 rfl rfl)) rfl (Z16 (cs := cs103) rfl Z2a (by rw [Rp.len (Rp.mono (s175.le) r104)]; exact Zw) (fun j v hv => s175.sub.at_ _ _ _ ((fun i v hv => (s175.le).1 _ _ _ (hc105 i v hv)) j v hv))) s175.sub (by exact rfl)
     ·intro a w173 h174 s175 hat hF
      exact Z3 (Z0 hat (hF 12 33 rfl rfl)) rfl (Z4z rfl rfl Zdp Zw h111 h112) s175.sub (by exact rfl)
     ·intro a w173 h174 s175 hat hF
      exact Z3 (Z0 (Z0 hat (hF 12 33 rfl rfl)) (hF 20 41 rfl rfl)) rfl (Z16 (cs := cs113) rfl Z2a (by rw [Rp.len (Rp.mono (s175.le) r114)]; exact Zw) (fun j v hv => s175.sub.at_ _ _ _ ((fun i v hv => (s175.le).1 _ _ _ (hc115 i v hv)) j v hv))) s175.sub (by exact rfl)
     ·intro a w173 h174 s175 hat hF
      refine Z2d (Z0 (Z0 (Z0 hat (hF 12 33 rfl rfl)) (hF 19 40 rfl rfl)) (hF 21 42 rfl rfl)) rfl (Ze (vs := [.agg cs103.toArray, .agg cs113.toArray]) rfl t_ent_25) (Zh0 _ hr117 s175.sub (Rp.mono (s175.le) r104) (Rp.mono (s175.le) r114)) ?_
      rintro _ w188 ⟨h189, s190, rfl⟩
      exact ⟨_, h189, rfl, s190, (by exact rfl)⟩
     ·intro a w173 h174 s175 hat hF
      exact Z3 (Z0 (Z0 (Z0 hat (hF 12 33 rfl rfl)) (hF 17 38 rfl rfl)) (hF 22 43 rfl rfl)) rfl (ov_eqlB rfl rfl Zf9) s175.sub (by exact rfl)
     ·intro a w173 h174 s175 hat hF
      exact Z3 (Z0 (Z0 hat (hF 12 33 rfl rfl)) (hF 23 44 rfl rfl)) rfl (Zh rfl rfl) s175.sub (by exact rfl)
     ·intro a w173 h174 s175 hat hF
      exact Z3 (Z0 hat (hF 24 45 rfl rfl)) rfl (Zci (Zu rfl) hb118) s175.sub (by exact rfl)
     ·intro a w173 h174 s175 hat hF
      exact Zv (Z0 hat (hF 25 46 rfl rfl)) rfl (by exact rfl)
     ·intro a w173 h174 s175 hat hF
      exact Zv (Z0 (Z0 hat (hF 25 46 rfl rfl)) (hF 26 47 rfl rfl)) rfl (by exact rfl)
     ·intro a w173 h174 s175 hat hF
      exact Zv (Z0 hat (hF 25 46 rfl rfl)) rfl (by exact rfl)
     intro a w173 h174 s175 hat hF
     exact Zv (Z0 (Z0 hat (hF 25 46 rfl rfl)) (hF 28 49 rfl rfl)) rfl (by exact rfl)
    intro a w173 h174 s175 hat hF
    obtain hv0 := hF 0 21 (by decide) rfl
    obtain hv1 := hF 1 22 (by decide) rfl
    obtain hv2 := hF 2 23 (by decide) rfl
    obtain hv3 := hF 3 24 (by decide) rfl
    obtain hv4 := hF 4 25 (by decide) rfl
    obtain hv5 := hF 5 26 (by decide) rfl
    obtain hv6 := hF 6 27 (by decide) rfl
    obtain hv7 := hF 7 28 (by decide) rfl
    obtain hv8 := hF 8 29 (by decide) rfl
    obtain hv9 := hF 9 30 (by decide) rfl
    obtain hv10 := hF 10 31 (by decide) rfl
    obtain hv11 := hF 11 32 (by decide) rfl
    obtain hv12 := hF 12 33 (by decide) rfl
    obtain hv13 := hF 13 34 (by decide) rfl
    obtain hv14 := hF 14 35 (by decide) rfl
    obtain hv15 := hF 15 36 (by decide) rfl
    obtain hv16 := hF 16 37 (by decide) rfl
    obtain hv17 := hF 17 38 (by decide) rfl
    obtain hv18 := hF 18 39 (by decide) rfl
    obtain hv19 := hF 19 40 (by decide) rfl
    obtain hv20 := hF 20 41 (by decide) rfl
    obtain hv21 := hF 21 42 (by decide) rfl
    obtain hv22 := hF 22 43 (by decide) rfl
    obtain hv23 := hF 23 44 (by decide) rfl
    obtain hv24 := hF 24 45 (by decide) rfl
    obtain hv25 := hF 25 46 (by decide) rfl
    obtain hv26 := hF 26 47 (by decide) rfl
    obtain hv27 := hF 27 48 (by decide) rfl
    obtain hv28 := hF 28 49 (by decide) rfl
    obtain hv29 := hF 29 50 (by decide) rfl
    refine Z7z [(50, undef), (49, undef), (48, undef), (47, undef), (46, .bool false), (45, .bool (r94 == r116)), (44, .bool (r94 == r116)), (43, .bool r116), (42, .agg cs113.toArray), (41, pt b19 (0 + Int.toNat 1 * 6)), (40, .agg cs103.toArray), (39, pt b19 (0 + Int.toNat 0 * 6)), (38, .bool r94), (37, .agg cs91.toArray), (36, pt b19 (0 + Int.toNat 1 * 6)), (35, .agg cs81.toArray), (34, pt b19 (0 + Int.toNat 0 * 6)), (33, .bool true), (32, .bool r71), (31, .bool r71), (30, v2), (29, v2), (28, .bool true), (27, .bool (r66 == r68)), (26, .bool r68), (25, v5), (24, v2), (23, .bool r66), (22, v5), (21, v2), (0, v2), (1, v5), (5, pt b19 0)] (Z0 (Z0 (Z0 (Z0 (Z0 (Z0 (Z0 (Z0 (Z0 (Z0 (Z0 (Z0 (Z0 (Z0 (Z0 (Z0 (Z0 (Z0 (Z0 (Z0 (Z0 (Z0 (Z0 (Z0 (Z0 (Z0 (Z0 (Z0 (Z0 (Z0 hat hv0) hv1) hv2) hv3) hv4) hv5) hv6) hv7) hv8) hv9) hv10) hv11) hv12) hv13) hv14) hv15) hv16) hv17) hv18) hv19) hv20) hv21) hv22) hv23) hv24) hv25) hv26) hv27) hv28) hv29) ?_
    have S191 := S65.trans0 s175
    refine Wp rfl <| Wv rfl (Zg rfl rfl) <| Wm rfl rfl <| Wp rfl <| Wv rfl (Zg rfl rfl) <| Wa rfl rfl <| Z7 <| Z6 <| Z00 <| Zt rfl rfl ?_
    obtain rfl := Option.some.inj HF
    exact ⟨_, rfl, h174, S191, rfl⟩
   replace HF := bif_f hb73 HF
   refine Z2x (m := 30) [(0, v2), (1, v5), (5, pt b19 0)] [0, 1, 5] rfl (fun i v w h => match i with | 0 => v = v2 | 1 => v = v5 | 2 => v = .bool r66 | 3 => v = v2 | 4 => v = v5 | 5 => v = .bool r68 | 6 => v = .bool (r66 == r68) | 7 => v = .bool true | 8 => v = v2 | 9 => v = v2 | 10 => v = .bool r71 | 11 => v = .bool r71 | 12 => v = .bool false | 13 => v = undef | 14 => v = undef | 15 => v = undef | 16 => v = undef | 17 => v = undef | 18 => v = undef | 19 => v = undef | 20 => v = undef | 21 => v = undef | 22 => v = undef | 23 => v = undef | 24 => v = .bool false | 25 => v = .bool false | 26 => v = undef | 27 => v = undef | 28 => v = undef | 29 => v = undef | _ => True) Z3f S65.sub rfl rfl rfl rfl rfl ?_ ?_ ?_
   ·intro i v w h w2 h2 hΦ hst
    match i, hΦ with
    | 0, hΦ | 1, hΦ | 2, hΦ | 3, hΦ | 4, hΦ | 5, hΦ | 6, hΦ | 7, hΦ | 8, hΦ | 9, hΦ | 10, hΦ | 11, hΦ | 12, hΦ | 13, hΦ | 14, hΦ | 15, hΦ | 16, hΦ | 17, hΦ | 18, hΦ | 19, hΦ | 20, hΦ | 21, hΦ | 22, hΦ | 23, hΦ | 24, hΦ | 25, hΦ | 26, hΦ | 27, hΦ | 28, hΦ | 29, hΦ => exact hΦ
    | i + 30, _ => exact trivial
   ·refine ⟨?_, ?_, ?_, ?_, ?_, ?_, ?_, ?_, ?_, ?_, ?_, ?_, ?_, ?_, ?_, ?_, ?_, ?_, ?_, ?_, ?_, ?_, ?_, ?_, ?_, ?_, ?_, ?_, ?_, ?_, trivial⟩
    ·intro a w192 h193 s194 hat hF
     exact Z3 hat rfl (Zu rfl) s194.sub (by exact rfl)
    ·intro a w192 h193 s194 hat hF
     exact Z3 hat rfl (Zu rfl) s194.sub (by exact rfl)
    ·intro a w192 h193 s194 hat hF
     refine Z2d (Z0 (Z0 hat (hF 0 21 rfl rfl)) (hF 1 22 rfl rfl)) rfl (Ze (vs := [v2, v5]) rfl t_ent_29) (Z71 _ hr67 s194.sub (rs3.mono ((s21.le).trans ((le64).trans s194.le))) (rs6.mono ((s21.le).trans ((le64).trans s194.le)))) ?_
     rintro _ w195 ⟨h196, s197, rfl⟩
     exact ⟨_, h196, rfl, s197, (by exact rfl)⟩
    ·intro a w192 h193 s194 hat hF
     exact Z3 hat rfl (Zu rfl) s194.sub (by exact rfl)
    ·intro a w192 h193 s194 hat hF
     exact Z3 hat rfl (Zu rfl) s194.sub (by exact rfl)
    ·intro a w192 h193 s194 hat hF
     refine Z2d (Z0 (Z0 hat (hF 3 24 rfl rfl)) (hF 4 25 rfl rfl)) rfl (Ze (vs := [v2, v5]) rfl t_ent_15) (Zee _ hr69 s194.sub (rs3.mono ((s21.le).trans ((le64).trans s194.le))) (rs6.mono ((s21.le).trans ((le64).trans s194.le)))) ?_
     rintro _ w198 ⟨h199, s200, rfl⟩
     exact ⟨_, h199, rfl, s200, (by exact rfl)⟩
    ·intro a w192 h193 s194 hat hF
     exact Z3 (Z0 (Z0 hat (hF 2 23 rfl rfl)) (hF 5 26 rfl rfl)) rfl (ov_eqlB rfl rfl Zf9) s194.sub (by exact rfl)
    ·intro a w192 h193 s194 hat hF
     exact Z3 (Z0 hat (hF 6 27 rfl rfl)) rfl (Zci (Zu rfl) hb70) s194.sub (by exact rfl)
    ·intro a w192 h193 s194 hat hF
     exact Z3 (Z0 hat (hF 7 28 rfl rfl)) rfl (Zu rfl) s194.sub (by exact rfl)
    ·intro a w192 h193 s194 hat hF
     exact Z3 (Z0 hat (hF 7 28 rfl rfl)) rfl (Zu rfl) s194.sub (by exact rfl)
    ·intro a w192 h193 s194 hat hF
     refine Z2d (Z0 (Z0 (Z0 hat (hF 7 28 rfl rfl)) (hF 8 29 rfl rfl)) (hF 9 30 rfl rfl)) rfl (Ze (vs := [v2, v2]) rfl t_ent_29) (Z71 _ hr72 s194.sub (rs3.mono ((s21.le).trans ((le64).trans s194.le))) (rs3.mono ((s21.le).trans ((le64).trans s194.le)))) ?_
     rintro _ w201 ⟨h202, s203, rfl⟩
     exact ⟨_, h202, rfl, s203, (by exact rfl)⟩
    ·intro a w192 h193 s194 hat hF
     exact Z3 (Z0 (Z0 hat (hF 7 28 rfl rfl)) (hF 10 31 rfl rfl)) rfl (Zh rfl rfl) s194.sub (by exact rfl)
    ·intro a w192 h193 s194 hat hF
     exact Z3 (Z0 hat (hF 11 32 rfl rfl)) rfl (Zci (Zu rfl) hb73) s194.sub (by exact rfl)
    ·intro a w192 h193 s194 hat hF
     exact Zv (Z0 hat (hF 12 33 rfl rfl)) rfl (by exact rfl)
    ·intro a w192 h193 s194 hat hF
     exact Zv (Z0 (Z0 hat (hF 12 33 rfl rfl)) (hF 13 34 rfl rfl)) rfl (by exact rfl)
    ·intro a w192 h193 s194 hat hF
     exact Zv (Z0 hat (hF 12 33 rfl rfl)) rfl (by exact rfl)
    ·intro a w192 h193 s194 hat hF
     exact Zv (Z0 (Z0 hat (hF 12 33 rfl rfl)) (hF 15 36 rfl rfl)) rfl (by exact rfl)
    ·intro a w192 h193 s194 hat hF
     exact Zv (Z0 (Z0 (Z0 hat (hF 12 33 rfl rfl)) (hF 14 35 rfl rfl)) (hF 16 37 rfl rfl)) rfl (by exact rfl)
    ·intro a w192 h193 s194 hat hF
     exact Zv (Z0 hat (hF 12 33 rfl rfl)) rfl (by exact rfl)
    ·intro a w192 h193 s194 hat hF
     exact Zv (Z0 (Z0 hat (hF 12 33 rfl rfl)) (hF 18 39 rfl rfl)) rfl (by exact rfl)
    ·intro a w192 h193 s194 hat hF
     exact Zv (Z0 hat (hF 12 33 rfl rfl)) rfl (by exact rfl)
    ·intro a w192 h193 s194 hat hF
     exact Zv (Z0 (Z0 hat (hF 12 33 rfl rfl)) (hF 20 41 rfl rfl)) rfl (by exact rfl)
    ·intro a w192 h193 s194 hat hF
     exact Zv (Z0 (Z0 (Z0 hat (hF 12 33 rfl rfl)) (hF 19 40 rfl rfl)) (hF 21 42 rfl rfl)) rfl (by exact rfl)
    ·intro a w192 h193 s194 hat hF
     exact Zv (Z0 (Z0 (Z0 hat (hF 12 33 rfl rfl)) (hF 17 38 rfl rfl)) (hF 22 43 rfl rfl)) rfl (by exact rfl)
    ·intro a w192 h193 s194 hat hF
     exact Z3 (Z0 (Z0 hat (hF 12 33 rfl rfl)) (hF 23 44 rfl rfl)) rfl (Zg rfl rfl) s194.sub (by exact rfl)
    ·intro a w192 h193 s194 hat hF
     exact Z3 (Z0 hat (hF 24 45 rfl rfl)) rfl (Zu rfl) s194.sub (by exact rfl)
    ·intro a w192 h193 s194 hat hF
     exact Zv (Z0 hat (hF 25 46 rfl rfl)) rfl (by exact rfl)
    ·intro a w192 h193 s194 hat hF
     exact Zv (Z0 (Z0 hat (hF 25 46 rfl rfl)) (hF 26 47 rfl rfl)) rfl (by exact rfl)
    ·intro a w192 h193 s194 hat hF
     exact Zv (Z0 hat (hF 25 46 rfl rfl)) rfl (by exact rfl)
    intro a w192 h193 s194 hat hF
    exact Zv (Z0 (Z0 hat (hF 25 46 rfl rfl)) (hF 28 49 rfl rfl)) rfl (by exact rfl)
   intro a w192 h193 s194 hat hF
   obtain hv0 := hF 0 21 (by decide) rfl
   obtain hv1 := hF 1 22 (by decide) rfl
   obtain hv2 := hF 2 23 (by decide) rfl
   obtain hv3 := hF 3 24 (by decide) rfl
   obtain hv4 := hF 4 25 (by decide) rfl
   obtain hv5 := hF 5 26 (by decide) rfl
   obtain hv6 := hF 6 27 (by decide) rfl
   obtain hv7 := hF 7 28 (by decide) rfl
   obtain hv8 := hF 8 29 (by decide) rfl
   obtain hv9 := hF 9 30 (by decide) rfl
   obtain hv10 := hF 10 31 (by decide) rfl
   obtain hv11 := hF 11 32 (by decide) rfl
   obtain hv12 := hF 12 33 (by decide) rfl
   obtain hv13 := hF 13 34 (by decide) rfl
   obtain hv14 := hF 14 35 (by decide) rfl
   obtain hv15 := hF 15 36 (by decide) rfl
   obtain hv16 := hF 16 37 (by decide) rfl
   obtain hv17 := hF 17 38 (by decide) rfl
   obtain hv18 := hF 18 39 (by decide) rfl
   obtain hv19 := hF 19 40 (by decide) rfl
   obtain hv20 := hF 20 41 (by decide) rfl
   obtain hv21 := hF 21 42 (by decide) rfl
   obtain hv22 := hF 22 43 (by decide) rfl
   obtain hv23 := hF 23 44 (by decide) rfl
   obtain hv24 := hF 24 45 (by decide) rfl
   obtain hv25 := hF 25 46 (by decide) rfl
   obtain hv26 := hF 26 47 (by decide) rfl
   obtain hv27 := hF 27 48 (by decide) rfl
   obtain hv28 := hF 28 49 (by decide) rfl
   obtain hv29 := hF 29 50 (by decide) rfl
   refine Z7z [(50, undef), (49, undef), (48, undef), (47, undef), (46, .bool false), (45, .bool false), (44, undef), (43, undef), (42, undef), (41, undef), (40, undef), (39, undef), (38, undef), (37, undef), (36, undef), (35, undef), (34, undef), (33, .bool false), (32, .bool r71), (31, .bool r71), (30, v2), (29, v2), (28, .bool true), (27, .bool (r66 == r68)), (26, .bool r68), (25, v5), (24, v2), (23, .bool r66), (22, v5), (21, v2), (0, v2), (1, v5), (5, pt b19 0)] (Z0 (Z0 (Z0 (Z0 (Z0 (Z0 (Z0 (Z0 (Z0 (Z0 (Z0 (Z0 (Z0 (Z0 (Z0 (Z0 (Z0 (Z0 (Z0 (Z0 (Z0 (Z0 (Z0 (Z0 (Z0 (Z0 (Z0 (Z0 (Z0 (Z0 hat hv0) hv1) hv2) hv3) hv4) hv5) hv6) hv7) hv8) hv9) hv10) hv11) hv12) hv13) hv14) hv15) hv16) hv17) hv18) hv19) hv20) hv21) hv22) hv23) hv24) hv25) hv26) hv27) hv28) hv29) ?_
   have S204 := S65.trans0 s194
   refine Wp rfl <| Wv rfl (Zg rfl rfl) <| Wm rfl rfl <| Wp rfl <| Wv rfl (Zg rfl rfl) <| Wa rfl rfl <| Z7 <| Z6 <| Z00 <| Zt rfl rfl ?_
   obtain rfl := Option.some.inj HF
   exact ⟨_, rfl, h193, S204, rfl⟩
  replace HF := bif_f hb70 HF
  refine Z2x (m := 30) [(0, v2), (1, v5), (5, pt b19 0)] [0, 1, 5] rfl (fun i v w h => match i with | 0 => v = v2 | 1 => v = v5 | 2 => v = .bool r66 | 3 => v = v2 | 4 => v = v5 | 5 => v = .bool r68 | 6 => v = .bool (r66 == r68) | 7 => v = .bool false | 8 => v = undef | 9 => v = undef | 10 => v = undef | 11 => v = .bool false | 12 => v = .bool false | 13 => v = undef | 14 => v = undef | 15 => v = undef | 16 => v = undef | 17 => v = undef | 18 => v = undef | 19 => v = undef | 20 => v = undef | 21 => v = undef | 22 => v = undef | 23 => v = undef | 24 => v = .bool false | 25 => v = .bool false | 26 => v = undef | 27 => v = undef | 28 => v = undef | 29 => v = undef | _ => True) Z3f S65.sub rfl rfl rfl rfl rfl ?_ ?_ ?_
  ·intro i v w h w2 h2 hΦ hst
   match i, hΦ with
   | 0, hΦ | 1, hΦ | 2, hΦ | 3, hΦ | 4, hΦ | 5, hΦ | 6, hΦ | 7, hΦ | 8, hΦ | 9, hΦ | 10, hΦ | 11, hΦ | 12, hΦ | 13, hΦ | 14, hΦ | 15, hΦ | 16, hΦ | 17, hΦ | 18, hΦ | 19, hΦ | 20, hΦ | 21, hΦ | 22, hΦ | 23, hΦ | 24, hΦ | 25, hΦ | 26, hΦ | 27, hΦ | 28, hΦ | 29, hΦ => exact hΦ
   | i + 30, _ => exact trivial
  ·refine ⟨?_, ?_, ?_, ?_, ?_, ?_, ?_, ?_, ?_, ?_, ?_, ?_, ?_, ?_, ?_, ?_, ?_, ?_, ?_, ?_, ?_, ?_, ?_, ?_, ?_, ?_, ?_, ?_, ?_, ?_, trivial⟩
   ·intro a w205 h206 s207 hat hF
    exact Z3 hat rfl (Zu rfl) s207.sub (by exact rfl)
   ·intro a w205 h206 s207 hat hF
    exact Z3 hat rfl (Zu rfl) s207.sub (by exact rfl)
   ·intro a w205 h206 s207 hat hF
    refine Z2d (Z0 (Z0 hat (hF 0 21 rfl rfl)) (hF 1 22 rfl rfl)) rfl (Ze (vs := [v2, v5]) rfl t_ent_29) (Z71 _ hr67 s207.sub (rs3.mono ((s21.le).trans ((le64).trans s207.le))) (rs6.mono ((s21.le).trans ((le64).trans s207.le)))) ?_
    rintro _ w208 ⟨h209, s210, rfl⟩
    exact ⟨_, h209, rfl, s210, (by exact rfl)⟩
   ·intro a w205 h206 s207 hat hF
    exact Z3 hat rfl (Zu rfl) s207.sub (by exact rfl)
   ·intro a w205 h206 s207 hat hF
    exact Z3 hat rfl (Zu rfl) s207.sub (by exact rfl)
   ·intro a w205 h206 s207 hat hF
    refine Z2d (Z0 (Z0 hat (hF 3 24 rfl rfl)) (hF 4 25 rfl rfl)) rfl (Ze (vs := [v2, v5]) rfl t_ent_15) (Zee _ hr69 s207.sub (rs3.mono ((s21.le).trans ((le64).trans s207.le))) (rs6.mono ((s21.le).trans ((le64).trans s207.le)))) ?_
    rintro _ w211 ⟨h212, s213, rfl⟩
    exact ⟨_, h212, rfl, s213, (by exact rfl)⟩
   ·intro a w205 h206 s207 hat hF
    exact Z3 (Z0 (Z0 hat (hF 2 23 rfl rfl)) (hF 5 26 rfl rfl)) rfl (ov_eqlB rfl rfl Zf9) s207.sub (by exact rfl)
   ·intro a w205 h206 s207 hat hF
    exact Z3 (Z0 hat (hF 6 27 rfl rfl)) rfl (Zci (Zu rfl) hb70) s207.sub (by exact rfl)
   ·intro a w205 h206 s207 hat hF
    exact Zv (Z0 hat (hF 7 28 rfl rfl)) rfl (by exact rfl)
   ·intro a w205 h206 s207 hat hF
    exact Zv (Z0 hat (hF 7 28 rfl rfl)) rfl (by exact rfl)
   ·intro a w205 h206 s207 hat hF
    exact Zv (Z0 (Z0 (Z0 hat (hF 7 28 rfl rfl)) (hF 8 29 rfl rfl)) (hF 9 30 rfl rfl)) rfl (by exact rfl)
   ·intro a w205 h206 s207 hat hF
    exact Z3 (Z0 (Z0 hat (hF 7 28 rfl rfl)) (hF 10 31 rfl rfl)) rfl (Zg rfl rfl) s207.sub (by exact rfl)
   ·intro a w205 h206 s207 hat hF
    exact Z3 (Z0 hat (hF 11 32 rfl rfl)) rfl (Zu rfl) s207.sub (by exact rfl)
   ·intro a w205 h206 s207 hat hF
    exact Zv (Z0 hat (hF 12 33 rfl rfl)) rfl (by exact rfl)
   ·intro a w205 h206 s207 hat hF
    exact Zv (Z0 (Z0 hat (hF 12 33 rfl rfl)) (hF 13 34 rfl rfl)) rfl (by exact rfl)
   ·intro a w205 h206 s207 hat hF
    exact Zv (Z0 hat (hF 12 33 rfl rfl)) rfl (by exact rfl)
   ·intro a w205 h206 s207 hat hF
    exact Zv (Z0 (Z0 hat (hF 12 33 rfl rfl)) (hF 15 36 rfl rfl)) rfl (by exact rfl)
   ·intro a w205 h206 s207 hat hF
    exact Zv (Z0 (Z0 (Z0 hat (hF 12 33 rfl rfl)) (hF 14 35 rfl rfl)) (hF 16 37 rfl rfl)) rfl (by exact rfl)
   ·intro a w205 h206 s207 hat hF
    exact Zv (Z0 hat (hF 12 33 rfl rfl)) rfl (by exact rfl)
   ·intro a w205 h206 s207 hat hF
    exact Zv (Z0 (Z0 hat (hF 12 33 rfl rfl)) (hF 18 39 rfl rfl)) rfl (by exact rfl)
   ·intro a w205 h206 s207 hat hF
    exact Zv (Z0 hat (hF 12 33 rfl rfl)) rfl (by exact rfl)
   ·intro a w205 h206 s207 hat hF
    exact Zv (Z0 (Z0 hat (hF 12 33 rfl rfl)) (hF 20 41 rfl rfl)) rfl (by exact rfl)
   ·intro a w205 h206 s207 hat hF
    exact Zv (Z0 (Z0 (Z0 hat (hF 12 33 rfl rfl)) (hF 19 40 rfl rfl)) (hF 21 42 rfl rfl)) rfl (by exact rfl)
   ·intro a w205 h206 s207 hat hF
    exact Zv (Z0 (Z0 (Z0 hat (hF 12 33 rfl rfl)) (hF 17 38 rfl rfl)) (hF 22 43 rfl rfl)) rfl (by exact rfl)
   ·intro a w205 h206 s207 hat hF
    exact Z3 (Z0 (Z0 hat (hF 12 33 rfl rfl)) (hF 23 44 rfl rfl)) rfl (Zg rfl rfl) s207.sub (by exact rfl)
   ·intro a w205 h206 s207 hat hF
    exact Z3 (Z0 hat (hF 24 45 rfl rfl)) rfl (Zu rfl) s207.sub (by exact rfl)
   ·intro a w205 h206 s207 hat hF
    exact Zv (Z0 hat (hF 25 46 rfl rfl)) rfl (by exact rfl)
   ·intro a w205 h206 s207 hat hF
    exact Zv (Z0 (Z0 hat (hF 25 46 rfl rfl)) (hF 26 47 rfl rfl)) rfl (by exact rfl)
   ·intro a w205 h206 s207 hat hF
    exact Zv (Z0 hat (hF 25 46 rfl rfl)) rfl (by exact rfl)
   intro a w205 h206 s207 hat hF
   exact Zv (Z0 (Z0 hat (hF 25 46 rfl rfl)) (hF 28 49 rfl rfl)) rfl (by exact rfl)
  intro a w205 h206 s207 hat hF
  obtain hv0 := hF 0 21 (by decide) rfl
  obtain hv1 := hF 1 22 (by decide) rfl
  obtain hv2 := hF 2 23 (by decide) rfl
  obtain hv3 := hF 3 24 (by decide) rfl
  obtain hv4 := hF 4 25 (by decide) rfl
  obtain hv5 := hF 5 26 (by decide) rfl
  obtain hv6 := hF 6 27 (by decide) rfl
  obtain hv7 := hF 7 28 (by decide) rfl
  obtain hv8 := hF 8 29 (by decide) rfl
  obtain hv9 := hF 9 30 (by decide) rfl
  obtain hv10 := hF 10 31 (by decide) rfl
  obtain hv11 := hF 11 32 (by decide) rfl
  obtain hv12 := hF 12 33 (by decide) rfl
  obtain hv13 := hF 13 34 (by decide) rfl
  obtain hv14 := hF 14 35 (by decide) rfl
  obtain hv15 := hF 15 36 (by decide) rfl
  obtain hv16 := hF 16 37 (by decide) rfl
  obtain hv17 := hF 17 38 (by decide) rfl
  obtain hv18 := hF 18 39 (by decide) rfl
  obtain hv19 := hF 19 40 (by decide) rfl
  obtain hv20 := hF 20 41 (by decide) rfl
  obtain hv21 := hF 21 42 (by decide) rfl
  obtain hv22 := hF 22 43 (by decide) rfl
  obtain hv23 := hF 23 44 (by decide) rfl
  obtain hv24 := hF 24 45 (by decide) rfl
  obtain hv25 := hF 25 46 (by decide) rfl
  obtain hv26 := hF 26 47 (by decide) rfl
  obtain hv27 := hF 27 48 (by decide) rfl
  obtain hv28 := hF 28 49 (by decide) rfl
  obtain hv29 := hF 29 50 (by decide) rfl
  refine Z7z [(50, undef), (49, undef), (48, undef), (47, undef), (46, .bool false), (45, .bool false), (44, undef), (43, undef), (42, undef), (41, undef), (40, undef), (39, undef), (38, undef), (37, undef), (36, undef), (35, undef), (34, undef), (33, .bool false), (32, .bool false), (31, undef), (30, undef), (29, undef), (28, .bool false), (27, .bool (r66 == r68)), (26, .bool r68), (25, v5), (24, v2), (23, .bool r66), (22, v5), (21, v2), (0, v2), (1, v5), (5, pt b19 0)] (Z0 (Z0 (Z0 (Z0 (Z0 (Z0 (Z0 (Z0 (Z0 (Z0 (Z0 (Z0 (Z0 (Z0 (Z0 (Z0 (Z0 (Z0 (Z0 (Z0 (Z0 (Z0 (Z0 (Z0 (Z0 (Z0 (Z0 (Z0 (Z0 (Z0 hat hv0) hv1) hv2) hv3) hv4) hv5) hv6) hv7) hv8) hv9) hv10) hv11) hv12) hv13) hv14) hv15) hv16) hv17) hv18) hv19) hv20) hv21) hv22) hv23) hv24) hv25) hv26) hv27) hv28) hv29) ?_
  have S214 := S65.trans0 s207
  refine Wp rfl <| Wv rfl (Zg rfl rfl) <| Wm rfl rfl <| Wp rfl <| Wv rfl (Zg rfl rfl) <| Wa rfl rfl <| Z7 <| Z6 <| Z00 <| Zt rfl rfl ?_
  obtain rfl := Option.some.inj HF
  exact ⟨_, rfl, h206, S214, rfl⟩
 intro J215
 refine Z09 (fun E w49 => ∃ (h48 : Hp) (x52 : Bool), Z5w k xs1 xs4 x7 x10 x52 = some r ∧ E = [(0, v2), (1, v5), (5, pt b19 0), (19, .bool x52)] ∧ Stp [] w0 h0 w49 h48 ∧ Hle h18 h48) ?_ ?_
 ·rintro E w49 ⟨h48, x52, HF, rfl, S51, le50⟩
  refine Z17 HF rfl (fun HF => ?_) (fun HF => ?_)
  ·refine Zb <| Z1 ?_
   obtain ⟨r54, hr55, HF⟩ := Z8 HF
   refine Wc rfl (Ze (vs := []) rfl t_ent_16) (ok_law02_awake _ hr55 S51.sub) ?_
   rintro _ w57 ⟨h58, s59, rfl⟩
   have S60 := S51.trans0 s59
   refine Wa rfl rfl <| Z7 <| Z6 <| Z00 <| Zi <| Zt rfl rfl ?_
   obtain rfl := Option.some.inj HF
   exact ⟨_, rfl, h58, S60, rfl⟩
  refine Zm <| Z0g [0, 1, 5] _ rfl ?_
  exact J215 ⟨h48, HF, rfl, S51, le50⟩
 intro J61
 refine Z1 <| Wm rfl rfl ?_
 obtain ⟨r25, hr26, HF⟩ := Z8 HF
 refine Wc rfl (Ze (vs := [v2]) rfl t_ent_19) (ok_law02_small _ hr26 S24.sub (rs3.mono (s21.le))) ?_
 rintro _ w28 ⟨h29, s30, rfl⟩
 have S31 := S24.trans0 s30
 refine Wv rfl (Z3c rfl) <| Wm rfl rfl <| Z3g 10 HF rfl (fun HF => ?_) (fun HF => ?_)
 ·refine Wp rfl <| Wp rfl <| Wp rfl <| Wv rfl (Zh rfl rfl) <| Wm rfl rfl <| Wp rfl <| Wp rfl <| Wp rfl <| Wv rfl (Zh rfl rfl) <| Z7 <| Z0g [0, 1, 5, 19] _ rfl ?_
  exact J61 ⟨h29, true, HF, rfl, S31, s30.le⟩
 refine Wm rfl rfl ?_
 obtain ⟨r33, hr34, HF⟩ := Z8 HF
 refine Wc rfl (Ze (vs := [v5]) rfl t_ent_19) (ok_law02_small _ hr34 S31.sub (rs6.mono ((s21.le).trans s30.le))) ?_
 rintro _ w36 ⟨h37, s38, rfl⟩
 have S39 := S31.trans0 s38
 refine Wv rfl (Z3c rfl) <| Wv rfl (Zg rfl rfl) <| Wm rfl rfl <| Z3g 15 HF rfl (fun HF => ?_) (fun HF => ?_)
 ·refine Wp rfl <| Wp rfl <| Wp rfl <| Wv rfl (Zh rfl rfl) <| Z7 <| Z0g [0, 1, 5, 19] _ rfl ?_
  exact J61 ⟨h37, true, HF, rfl, S39, (s30.le).trans s38.le⟩
 refine Wv rfl (ov_sliceA rfl Zdp Zw) ?_
 obtain ⟨r41, hr42, HF⟩ := Z8 HF
 refine Wc rfl (Ze (vs := [sl b19 0 2 2, vi 0]) rfl t_ent_26) (Z7x _ hr42 S39.sub (rs23.mono ((s30.le).trans s38.le))) ?_
 rintro _ w44 ⟨h45, s46, rfl⟩
 have S47 := S39.trans0 s46
 refine Wv rfl (Ze7 rfl rfl) <| Wv rfl (Zg rfl rfl) <| Z7 <| Z0g [0, 1, 5, 19] _ rfl ?_
 exact J61 ⟨h45, decide ((2000 : Int) < r41), HF, rfl, S47, (s30.le).trans ((s38.le).trans s46.le)⟩
theorem ok_law02_SyntaxSame (k : Nat) : Zfs (Z8j k) := s_law02_SyntaxSame k
end Go.Proofs.YtkodnhngllfemaaGreatDoor
