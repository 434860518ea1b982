import Derived.Test.YtkodnhngllfemaaGreatDoorE0
import Derived.Test.YtkodnhngllfemaaGreatDoorGP1
set_option linter.unusedVariables false
set_option linter.unusedSimpArgs false
set_option maxRecDepth 20000
set_option maxHeartbeats 4000000
namespace Go.Proofs.YtkodnhngllfemaaGreatDoor
open Go
def Z3k (φ : (List Tok) → Int → Option (Except (Int × Int × Int) (Ex × Int))) : Prop := ∀ ⦃xs3 : List Tok⦄ ⦃x6 : Int⦄ ⦃r : Except (Int × Int × Int) (Ex × Int)⦄, φ xs3 x6 = some r → ∀ ⦃w0 : World⦄ ⦃h0 : Hp⦄ ⦃b1 : Nat⦄ ⦃T2 : Nat⦄ ⦃v4 : Value⦄, Sub h0 w0 → RS h0 v4 xs3 → OB w0 h0 b1 T2 [v4, .int .i64 x6] →
  Calls Tryz.prog 46 #[.pointer (some ⟨b1, 0, none⟩)] w0 fun e w1 => match r with | .ok r => ∃ v, e = .returned v ∧ ∃ h1, Stp [b1] w0 h0 w1 h1 ∧ (∃ cs : List Value, v = .agg cs.toArray ∧ Rp.R h1 r.1 cs) ∧ (OB w1 h1 b1 T2 [v4, .int .i64 r.2]) | .error t => ∃ ch, e = .panicked ch ∧ Z8l 138 t.1 t.2.1 ch ∧ ∃ h1, Stp [b1] w0 h0 w1 h1 ∧ (OB w1 h1 b1 T2 [v4, .int .i64 t.2.2])
def Z44 (φ : (List Tok) → Int → (List (List (ByteArray × Int))) → Option (Except (Int × Int × Int) (Ex × Int))) : Prop := ∀ ⦃xs3 : List Tok⦄ ⦃x6 : Int⦄ ⦃xs8 : List (List (ByteArray × Int))⦄ ⦃r : Except (Int × Int × Int) (Ex × Int)⦄, φ xs3 x6 xs8 = some r → ∀ ⦃w0 : World⦄ ⦃h0 : Hp⦄ ⦃b1 : Nat⦄ ⦃T2 : Nat⦄ ⦃v4 : Value⦄ ⦃v9 : Value⦄, Sub h0 w0 → RS h0 v4 xs3 → RS h0 v9 xs8 → OB w0 h0 b1 T2 [v4, .int .i64 x6] →
  Calls Tryz.prog 78 #[.pointer (some ⟨b1, 0, none⟩), v9] w0 fun e w1 => match r with | .ok r => ∃ v, e = .returned v ∧ ∃ h1, Stp [b1] w0 h0 w1 h1 ∧ (∃ cs : List Value, v = .agg cs.toArray ∧ Rp.R h1 r.1 cs) ∧ (OB w1 h1 b1 T2 [v4, .int .i64 r.2]) | .error t => ∃ ch, e = .panicked ch ∧ Z8l 138 t.1 t.2.1 ch ∧ ∃ h1, Stp [b1] w0 h0 w1 h1 ∧ (OB w1 h1 b1 T2 [v4, .int .i64 t.2.2])
def Z41 (φ : (List Tok) → Int → Option (Except (Int × Int × Int) (Ex × Int))) : Prop := ∀ ⦃xs3 : List Tok⦄ ⦃x6 : Int⦄ ⦃r : Except (Int × Int × Int) (Ex × Int)⦄, φ xs3 x6 = some r → ∀ ⦃w0 : World⦄ ⦃h0 : Hp⦄ ⦃b1 : Nat⦄ ⦃T2 : Nat⦄ ⦃v4 : Value⦄, Sub h0 w0 → RS h0 v4 xs3 → OB w0 h0 b1 T2 [v4, .int .i64 x6] →
  Calls Tryz.prog 174 #[.pointer (some ⟨b1, 0, none⟩)] w0 fun e w1 => match r with | .ok r => ∃ v, e = .returned v ∧ ∃ h1, Stp [b1] w0 h0 w1 h1 ∧ (∃ cs : List Value, v = .agg cs.toArray ∧ Rp.R h1 r.1 cs) ∧ (OB w1 h1 b1 T2 [v4, .int .i64 r.2]) | .error t => ∃ ch, e = .panicked ch ∧ Z8l 138 t.1 t.2.1 ch ∧ ∃ h1, Stp [b1] w0 h0 w1 h1 ∧ (OB w1 h1 b1 T2 [v4, .int .i64 t.2.2])
def Z3y (φ : (List Tok) → Int → Option (Except (Int × Int × Int) (Ex × Int))) : Prop := ∀ ⦃xs3 : List Tok⦄ ⦃x6 : Int⦄ ⦃r : Except (Int × Int × Int) (Ex × Int)⦄, φ xs3 x6 = some r → ∀ ⦃w0 : World⦄ ⦃h0 : Hp⦄ ⦃b1 : Nat⦄ ⦃T2 : Nat⦄ ⦃v4 : Value⦄, Sub h0 w0 → RS h0 v4 xs3 → OB w0 h0 b1 T2 [v4, .int .i64 x6] →
  Calls Tryz.prog 138 #[.pointer (some ⟨b1, 0, none⟩)] w0 fun e w1 => match r with | .ok r => ∃ v, e = .returned v ∧ ∃ h1, Stp [b1] w0 h0 w1 h1 ∧ (∃ cs : List Value, v = .agg cs.toArray ∧ Rp.R h1 r.1 cs) ∧ (OB w1 h1 b1 T2 [v4, .int .i64 r.2]) | .error t => ∃ ch, e = .panicked ch ∧ Z8l 138 t.1 t.2.1 ch ∧ ∃ h1, Stp [b1] w0 h0 w1 h1 ∧ (OB w1 h1 b1 T2 [v4, .int .i64 t.2.2])
theorem s_parse_Parser_Expr (k : Nat) (IH : ∀ j, j ≤ k → Z3k (Zk j).parse_Parser_Expr ∧ Z44 (Zk j).parse_Parser_level ∧ Z41 (Zk j).parse_Parser_named ∧ Z3y (Zk j).parse_Parser_unary) : Z3k (Zer k (Zk k)) := by
 intro xs3 x6 r HF w0 h0 b1 T2 v4 hs0 rs5 ob7
 have S0 : Stp [b1] w0 h0 w0 h0 := Stp.refl hs0 _
 have lt8 : b1 < w0.heap.size := OB.lt ob7
 refine Z4j (n := 6) Tryz.func46 rfl Tryz.ntmps46 rfl [(0, pt b1 0)] rfl <| Zb <| Z1 <| Z15 (zs := [vi 0, vi 0, vi 0, .string b'47, .string b'47, .slice none 0 0]) rfl rfl Z1t rfl S0.sub (fun w9 b10 hb11 s12 ob13 => ?_)
 have ne14 : b1 ≠ b10 := ob7.ne_new hb11
 have g15 : w0.heap.size ≤ b10 := by rw [hb11]; exact S0.size
 have S16 := S0.trans0 s12
 refine Z7 <| Z6 <| Zb <| Z1 <| Wm rfl rfl ?_
 obtain ⟨r17, hr18, HF⟩ := Z8 HF
 refine Wc rfl (Ze (vs := []) rfl t_ent_79) (ok_parse_levels _ hr18 S16.sub) ?_
 rintro v23 w20 ⟨h21, s22, rs24⟩
 have S25 := S16.trans0 s22
 have ob26 := ((ob7.step0 s12).step0 s22)
 obtain ⟨r27, hr28, HF⟩ := Z8 HF
 rcases r27 with t29 | r30
 ·obtain rfl := Z01 HF
  refine Z0i rfl (Ze (vs := [pt b1 0, v23]) rfl t_ent_78) ((IH _ (Nat.le_refl _)).2.1 hr28 S25.sub (rs5.mono ((s12.le).trans s22.le)) rs24 ob26) ?_
  rintro ch36 w37 ⟨ht38, h39, s40, ob35⟩
  refine Zd <| Zp ?_
  have S41 := S25.trans s40 (Zn (.inl (by simp)) Z04)
  exact ⟨_, rfl, ht38, h39, S41, ob35⟩
 replace HF := Z0j HF
 refine Wc rfl (Ze (vs := [pt b1 0, v23]) rfl t_ent_78) ((IH _ (Nat.le_refl _)).2.1 hr28 S25.sub (rs5.mono ((s12.le).trans s22.le)) rs24 ob26) ?_
 rintro _ w32 ⟨h33, s34, ⟨cs42, rfl, r43⟩, ob44⟩
 have S45 := S25.trans s34 (Zn (.inl (by simp)) Z04)
 have ob46 := ((ob13.step0 s22).step1 s34 (Ne.symm ne14))
 obtain ⟨v47, rfl, rs48⟩ := Z7n.1 r43
 refine Zo (vs := [vi r30.1.op, vi r30.1.kind, vi r30.1.n, .string r30.1.s, .string r30.1.f, v47]) rfl rfl rfl rfl Zw (Z5 rfl (Z5 rfl (Z5 rfl (Z5 rfl (Z5 rfl (Z5 (RS.one rs48) Zx)))))) ob46 S45.sub (by simp) (ds := [vi r30.1.op, vi r30.1.kind, vi r30.1.n, .string r30.1.s, .string r30.1.f, v47]) rfl (fun w49 s50 ob51 => ?_)
 have S52 := S45.trans1 s50 (.inr g15)
 refine Z7 <| Z6 <| Z00 ?_
 have ob53 := (ob44.step1 s50 ne14)
 refine Z5p rfl rfl (Z11 (cs := [vi r30.1.op, vi r30.1.kind, vi r30.1.n, .string r30.1.s, .string r30.1.f, v47]) Z2a Zw (OB.cells ob51 0 rfl)) ?_
 obtain rfl := Option.some.inj HF
 exact ⟨_, rfl, h33, S52, ⟨_, rfl, (Z7n.2 ⟨_, rfl, (rs48.mono (s50.le))⟩)⟩, ob53⟩
theorem s_parse_Parser_level (k : Nat) (IH : ∀ j, j ≤ k → Z3k (Zk j).parse_Parser_Expr ∧ Z44 (Zk j).parse_Parser_level ∧ Z41 (Zk j).parse_Parser_named ∧ Z3y (Zk j).parse_Parser_unary) : Z44 (Zdm k (Zk k)) := by
 intro xs3 x6 xs8 r HF w0 h0 b1 T2 v4 v9 hs0 rs5 rs10 ob7
 have S0 : Stp [b1] w0 h0 w0 h0 := Stp.refl hs0 _
 have lt11 : b1 < w0.heap.size := OB.lt ob7
 refine Z4j (n := 59) Tryz.func78 rfl Tryz.ntmps78 rfl [(0, pt b1 0), (1, v9)] rfl <| Zb <| Z1 <| Z15 (zs := [vi 0, vi 0, vi 0, .string b'47, .string b'47, .slice none 0 0]) rfl rfl Z1t rfl S0.sub (fun w12 b13 hb14 s15 ob16 => ?_)
 have ne17 : b1 ≠ b13 := ob7.ne_new hb14
 have g18 : w0.heap.size ≤ b13 := by rw [hb14]; exact S0.size
 have S19 := S0.trans0 s15
 refine Z7 <| Z6 <| Z09 (fun E w53 => ∃ (h52 : Hp), Zcl k (Zk k) xs3 x6 xs8 = some r ∧ E = [(0, pt b1 0), (1, v9), (4, pt b13 0)] ∧ Stp [b1] w0 h0 w53 h52 ∧ Hle h0 h52 ∧ OB w53 h52 b1 T2 [v4, vi x6] ∧ OB w53 h52 b13 47 [vi 0, vi 0, vi 0, .string b'47, .string b'47, .slice none 0 0]) ?_ ?_
 ·rintro E w53 ⟨h52, HF, rfl, S55, le54, ob56, ob57⟩
  refine Zb <| Z1 <| Wm rfl rfl <| Wm rfl rfl ?_
  obtain ⟨A58, c59, rfl, rs60⟩ := RS.form (rs10.mono ((s15.le).trans le54))
  obtain ⟨xs61, ht62, HF⟩ := Z8 HF
  obtain ⟨v64, hov, rs63⟩ := ov_sliceLL (P := Tryz.prog) rs60 Zfq t_size_166 ht62
  refine Wv rfl (hov rfl rfl) ?_
  obtain ⟨r65, hr66, HF⟩ := Z8 HF
  rcases r65 with t67 | r68
  ·obtain rfl := Z01 HF
   refine Z0i rfl (Ze (vs := [pt b1 0, v64]) rfl t_ent_78) ((IH _ (Nat.le_refl _)).2.1 hr66 S55.sub (rs5.mono ((s15.le).trans le54)) rs63 ob56) ?_
   rintro ch74 w75 ⟨ht76, h77, s78, ob73⟩
   refine Zd <| Zp ?_
   have S79 := S55.trans s78 (Zn (.inl (by simp)) Z04)
   exact ⟨_, rfl, ht76, h77, S79, ob73⟩
  replace HF := Z0j HF
  refine Wc rfl (Ze (vs := [pt b1 0, v64]) rfl t_ent_78) ((IH _ (Nat.le_refl _)).2.1 hr66 S55.sub (rs5.mono ((s15.le).trans le54)) rs63 ob56) ?_
  rintro _ w70 ⟨h71, s72, ⟨cs80, rfl, r81⟩, ob82⟩
  have S83 := S55.trans s72 (Zn (.inl (by simp)) Z04)
  have ob84 := (ob57.step1 s72 (Ne.symm ne17))
  refine Z15 (zs := [vi 0, vi 0, vi 0, .string b'47, .string b'47, .slice none 0 0]) rfl rfl Z1t rfl S83.sub (fun w85 b86 hb87 s88 ob89 => ?_)
  have ne90 : b1 ≠ b86 := ob82.ne_new hb87
  have ne91 : b13 ≠ b86 := ob84.ne_new hb87
  have g92 : w0.heap.size ≤ b86 := by rw [hb87]; exact S83.size
  have S93 := S83.trans0 s88
  obtain ⟨v94, rfl, rs95⟩ := Z7n.1 (Rp.mono (s88.le) r81)
  refine Zo (vs := [vi r68.1.op, vi r68.1.kind, vi r68.1.n, .string r68.1.s, .string r68.1.f, v94]) rfl rfl rfl rfl Zw (Z5 rfl (Z5 rfl (Z5 rfl (Z5 rfl (Z5 rfl (Z5 (RS.one rs95) Zx)))))) ob89 S93.sub (by simp) (ds := [vi r68.1.op, vi r68.1.kind, vi r68.1.n, .string r68.1.s, .string r68.1.f, v94]) rfl (fun w96 s97 ob98 => ?_)
  have S99 := S93.trans1 s97 (.inr g92)
  refine Z7 <| Z6 <| Z0p <| Z4m <| Z7y [0, 1, 4, 5] [(0, pt b1 0), (1, .slice A58 (xs8).length c59), (4, pt b13 0), (5, pt b86 0)] rfl <| Z4k (K := k) (fun j E w101 => ∃ (h100 : Hp) (x104 : Int) (x107 : Int) (x108 : Int) (x109 : Int) (x110 : ByteArray) (x111 : ByteArray) (xs112 : List Ex) (v113 : Value), (Zk j).parse_Parser_level_l2 xs3 xs8 x104 x107 x108 x109 x110 x111 xs112 = some r ∧ E = [(0, pt b1 0), (1, .slice A58 (xs8).length c59), (4, pt b13 0), (5, pt b86 0)] ∧ Stp [b1] w0 h0 w101 h100 ∧ Hle h71 h100 ∧ RS h100 v113 xs112 ∧ OB w101 h100 b1 T2 [v4, vi x104] ∧ OB w101 h100 b13 47 [vi 0, vi 0, vi 0, .string b'47, .string b'47, .slice none 0 0] ∧ OB w101 h100 b86 47 [vi x107, vi x108, vi x109, .string x110, .string x111, v113]) ?_ ?_ (j := k) (Nat.le_refl _) ?_
  ·rintro E w101 ⟨_, _, _, _, _, _, _, _, _, HF, _⟩; cases HF
  ·rintro j116 hj118 IHL117 E w101 ⟨h100, x104, x107, x108, x109, x110, x111, xs112, v113, HF, rfl, S103, le102, rs114, ob105, ob106, ob115⟩
   refine Z0p <| Zb <| Z1 <| Wm rfl rfl ?_
   obtain ⟨r119, hr120, HF⟩ := Z8 HF
   refine Wc rfl (Ze (vs := [pt b1 0]) rfl Z7s) (Z1b _ hr120 S103.sub (rs5.mono ((s15.le).trans ((le54).trans ((s72.le).trans ((s88.le).trans ((s97.le).trans le102)))))) ob105) ?_
   rintro _ w122 ⟨h123, s124, ⟨cs125, rfl, r126⟩⟩
   have S127 := S103.trans0 s124
   have ob128 := (ob105.step0 s124)
   have ob129 := (ob106.step0 s124)
   have ob130 := (ob115.step0 s124)
   refine Z15 (zs := [vi 0, .string b'47, vi 0]) rfl rfl Z60 rfl S127.sub (fun w131 b132 hb133 s134 ob135 => ?_)
   have ne136 : b1 ≠ b132 := ob128.ne_new hb133
   have ne137 : b13 ≠ b132 := ob129.ne_new hb133
   have ne138 : b86 ≠ b132 := ob130.ne_new hb133
   have g139 : w0.heap.size ≤ b132 := by rw [hb133]; exact S127.size
   have S140 := S127.trans0 s134
   obtain rfl := Z62.1 (Rp.mono (s134.le) r126)
   refine Zo (vs := [vi r119.kind, .string r119.text, vi r119.pos]) rfl rfl rfl rfl Z1o (Z5 rfl (Z5 rfl (Z5 rfl Zx))) ob135 S140.sub (by simp) (ds := [vi r119.kind, .string r119.text, vi r119.pos]) rfl (fun w141 s142 ob143 => ?_)
   have S144 := S140.trans1 s142 (.inr g139)
   refine Z7 <| Z6 <| Zb ?_
   obtain ⟨e145, he146, HF⟩ := Z8 HF
   obtain ⟨b147, o148, rfl, h150, h151, ra149⟩ := RS.atO (rs60.mono ((s72.le).trans ((s88.le).trans ((s97.le).trans ((le102).trans ((s124.le).trans ((s134.le).trans s142.le))))))) he146
   obtain ⟨cs152, r153, hc154⟩ := ra149
   obtain ⟨v155, rfl, rm156⟩ := r153
   obtain ⟨r157, hr158, HF⟩ := Z8 HF
   replace hr158 := Option.some.inj hr158
   refine Z2x (m := 10) [(0, pt b1 0), (1, sl b147 o148 (xs8).length c59), (4, pt b13 0), (5, pt b86 0), (6, pt b132 0)] [0, 1, 4, 5, 6] rfl (fun i v w h => match i with | 0 => v = sl b147 o148 (xs8).length c59 | 1 => v = pt b147 (o148 + Int.toNat 0 * 1) | 2 => v = v155 | 3 => v = pt b132 1 | 4 => v = .string r119.text | 5 => v = .tuple #[vi (r157.getD 0), .bool r157.isSome] | 6 => v = .tuple #[vi (r157.getD 0), .bool r157.isSome] | 7 => v = vi (r157.getD 0) | 8 => v = .bool r157.isSome | 9 => v = vi (r157.getD 0) | _ => True) Z3f S144.sub rfl rfl rfl rfl rfl ?_ ?_ ?_
   ·intro i v w h w2 h2 hΦ hst
    match i, hΦ with
    | 0, hΦ | 1, hΦ | 2, hΦ | 3, hΦ | 4, hΦ | 5, hΦ | 6, hΦ | 7, hΦ | 8, hΦ | 9, hΦ => exact hΦ
    | i + 10, _ => exact trivial
   ·refine ⟨?_, ?_, ?_, ?_, ?_, ?_, ?_, ?_, ?_, ?_, trivial⟩
    ·intro a w159 h160 s161 hat hF
     exact Z3 hat rfl (Zu rfl) s161.sub (by exact rfl)
    ·intro a w159 h160 s161 hat hF
     exact Z3 (Z0 hat (hF 0 22 rfl rfl)) rfl (Z07 rfl rfl Zfq t_size_166 h150 h151) s161.sub (by exact rfl)
    ·intro a w159 h160 s161 hat hF
     exact Z3 (Z0 hat (hF 1 23 rfl rfl)) rfl (Zc rfl t_agg_166 (s161.sub.at_ _ _ _ ((fun i v hv => (s161.le).1 _ _ _ (hc154 i v hv)) 0 _ rfl))) s161.sub (by exact rfl)
    ·intro a w159 h160 s161 hat hF
     exact Z3 hat rfl (Z2 rfl Zgi) s161.sub (by exact rfl)
    ·intro a w159 h160 s161 hat hF
     have ob162 := (ob143.step0 s161)
     exact Z3 (Z0 hat (hF 3 25 rfl rfl)) rfl (Zc rfl Z2r (OB.cell ob162 (j := 1) rfl)) s161.sub (by exact rfl)
    ·intro a w159 h160 s161 hat hF
     exact Z3 (Z0 (Z0 hat (hF 2 24 rfl rfl)) (hF 4 26 rfl rfl)) rfl (ov_lookupS2 (evl := (fun x : Int => vi x)) (z := 0) rfl rfl Z72 Z08 t_zero_3 (rm156.mono (s161.le)) s161.sub hr158) s161.sub (by exact rfl)
    ·intro a w159 h160 s161 hat hF
     exact Z3 (Z0 hat (hF 5 27 rfl rfl)) rfl (Zu rfl) s161.sub (by exact rfl)
    ·intro a w159 h160 s161 hat hF
     exact Z3 (Z0 hat (hF 6 21 rfl rfl)) rfl (Z0c rfl rfl) s161.sub (by exact rfl)
    ·intro a w159 h160 s161 hat hF
     exact Z3 (Z0 hat (hF 6 21 rfl rfl)) rfl (Z0c rfl rfl) s161.sub (by exact rfl)
    intro a w159 h160 s161 hat hF
    exact Z3 (Z0 hat (hF 7 28 rfl rfl)) rfl (ov_assign rfl) s161.sub (by exact rfl)
   intro a w159 h160 s161 hat hF
   obtain hv0 := hF 0 22 (by decide) rfl
   obtain hv1 := hF 1 23 (by decide) rfl
   obtain hv2 := hF 2 24 (by decide) rfl
   obtain hv3 := hF 3 25 (by decide) rfl
   obtain hv4 := hF 4 26 (by decide) rfl
   obtain hv5 := hF 5 27 (by decide) rfl
   obtain hv6 := hF 6 21 (by decide) rfl
   obtain hv7 := hF 7 28 (by decide) rfl
   obtain hv8 := hF 8 29 (by decide) rfl
   obtain hv9 := hF 9 7 (by decide) rfl
   refine Z7z [(7, vi (r157.getD 0)), (29, .bool r157.isSome), (28, vi (r157.getD 0)), (21, .tuple #[vi (r157.getD 0), .bool r157.isSome]), (27, .tuple #[vi (r157.getD 0), .bool r157.isSome]), (26, .string r119.text), (25, pt b132 1), (24, v155), (23, pt b147 (o148 + Int.toNat 0 * 1)), (22, sl b147 o148 (xs8).length c59), (0, pt b1 0), (1, sl b147 o148 (xs8).length c59), (4, pt b13 0), (5, pt b86 0), (6, pt b132 0)] (Z0 (Z0 (Z0 (Z0 (Z0 (Z0 (Z0 (Z0 (Z0 (Z0 hat hv0) hv1) hv2) hv3) hv4) hv5) hv6) hv7) hv8) hv9) ?_
   have S163 := S144.trans0 s161
   refine Wa rfl rfl <| Z7 <| Z6 <| Z09 (fun E w192 => ∃ (h191 : Hp), Zcj j116 (Zk j116) xs3 xs8 x104 x107 x108 x109 x110 x111 xs112 r157 = some r ∧ E = [(0, pt b1 0), (1, sl b147 o148 (xs8).length c59), (4, pt b13 0), (5, pt b86 0), (7, vi (r157.getD 0))] ∧ Stp [b1] w0 h0 w192 h191 ∧ Hle h160 h191 ∧ OB w192 h191 b1 T2 [v4, vi x104] ∧ OB w192 h191 b13 47 [vi 0, vi 0, vi 0, .string b'47, .string b'47, .slice none 0 0] ∧ OB w192 h191 b86 47 [vi x107, vi x108, vi x109, .string x110, .string x111, v113]) ?_ ?_
   ·rintro E w192 ⟨h191, HF, rfl, S194, le193, ob195, ob196, ob197⟩
    refine Zb <| Z1 <| Wm rfl rfl <| Wv rfl (Zs rfl) <| Wv rfl (Z2 rfl Z61) <| Wv rfl (Zc rfl Z0f (OB.cell ob195 (j := 1) rfl)) <| Wv rfl (Z3n rfl rfl) <| Wv rfl (Zs rfl) <| Wv rfl (Z2 rfl Z61) <| Zo (vs := [vi (IntKind.i64.wrap (x104 + 1))]) rfl rfl rfl rfl Z1p (Z5 rfl Zx) ob195 S194.sub (by simp) (ds := [v4, vi (IntKind.i64.wrap (x104 + 1))]) rfl (fun w198 s199 ob200 => ?_)
    have S201 := S194.trans1 s199 (.inl (by simp))
    refine Z7 <| Z6 <| Zb <| Z1 <| Wm rfl rfl <| Wm rfl rfl ?_
    obtain ⟨xs202, ht203, HF⟩ := Z8 HF
    obtain ⟨v205, hov, rs204⟩ := ov_sliceLL (P := Tryz.prog) (rs60.mono ((s72.le).trans ((s88.le).trans ((s97.le).trans ((le102).trans ((s124.le).trans ((s134.le).trans ((s142.le).trans ((s161.le).trans ((le193).trans s199.le)))))))))) Zfq t_size_166 ht203
    refine Wv rfl (hov rfl rfl) ?_
    obtain ⟨r206, hr207, HF⟩ := Z8 HF
    rcases r206 with t208 | r209
    ·obtain rfl := Z01 HF
     refine Z0i rfl (Ze (vs := [pt b1 0, v205]) rfl t_ent_78) ((IH _ (Nat.le_trans (Nat.le_of_succ_le hj118) (Nat.le_refl _))).2.1 hr207 S201.sub (rs5.mono ((s15.le).trans ((le54).trans ((s72.le).trans ((s88.le).trans ((s97.le).trans ((le102).trans ((s124.le).trans ((s134.le).trans ((s142.le).trans ((s161.le).trans ((le193).trans s199.le)))))))))))) rs204 ob200) ?_
     rintro ch215 w216 ⟨ht217, h218, s219, ob214⟩
     refine Zd <| Zr <| Zd <| Zr <| Zp ?_
     have S220 := S201.trans s219 (Zn (.inl (by simp)) Z04)
     exact ⟨_, rfl, ht217, h218, S220, ob214⟩
    replace HF := Z0j HF
    refine Wc rfl (Ze (vs := [pt b1 0, v205]) rfl t_ent_78) ((IH _ (Nat.le_trans (Nat.le_of_succ_le hj118) (Nat.le_refl _))).2.1 hr207 S201.sub (rs5.mono ((s15.le).trans ((le54).trans ((s72.le).trans ((s88.le).trans ((s97.le).trans ((le102).trans ((s124.le).trans ((s134.le).trans ((s142.le).trans ((s161.le).trans ((le193).trans s199.le)))))))))))) rs204 ob200) ?_
    rintro _ w211 ⟨h212, s213, ⟨cs221, rfl, r222⟩, ob223⟩
    have S224 := S201.trans s213 (Zn (.inl (by simp)) Z04)
    have ob225 := ((ob196.step1 s199 (Ne.symm ne17)).step1 s213 (Ne.symm ne17))
    have ob226 := ((ob197.step1 s199 (Ne.symm ne90)).step1 s213 (Ne.symm ne90))
    refine Z15 (zs := [vi 0, vi 0, vi 0, .string b'47, .string b'47, .slice none 0 0]) rfl rfl Z1t rfl S224.sub (fun w227 b228 hb229 s230 ob231 => ?_)
    have ne232 : b1 ≠ b228 := ob223.ne_new hb229
    have ne233 : b13 ≠ b228 := ob225.ne_new hb229
    have ne234 : b86 ≠ b228 := ob226.ne_new hb229
    have g235 : w0.heap.size ≤ b228 := by rw [hb229]; exact S224.size
    have S236 := S224.trans0 s230
    obtain ⟨v237, rfl, rs238⟩ := Z7n.1 (Rp.mono (s230.le) r222)
    refine Zo (vs := [vi r209.1.op, vi r209.1.kind, vi r209.1.n, .string r209.1.s, .string r209.1.f, v237]) rfl rfl rfl rfl Zw (Z5 rfl (Z5 rfl (Z5 rfl (Z5 rfl (Z5 rfl (Z5 (RS.one rs238) Zx)))))) ob231 S236.sub (by simp) (ds := [vi r209.1.op, vi r209.1.kind, vi r209.1.n, .string r209.1.s, .string r209.1.f, v237]) rfl (fun w239 s240 ob241 => ?_)
    have S242 := S236.trans1 s240 (.inr g235)
    refine Z7 <| Z6 <| Z1 <| Wm rfl rfl ?_
    have ob243 := ((ob226.step0 s230).step1 s240 ne234)
    refine Wv rfl (Z16 (cs := [vi x107, vi x108, vi x109, .string x110, .string x111, v113]) rfl Z2a Zw (OB.cells ob243 0 rfl)) <| Wv rfl (Z16 (cs := [vi r209.1.op, vi r209.1.kind, vi r209.1.n, .string r209.1.s, .string r209.1.f, v237]) rfl Z2a Zw (OB.cells ob241 0 rfl)) ?_
    have ob251 := ((ob223.step0 s230).step1 s240 ne232)
    have ob252 := ((ob225.step0 s230).step1 s240 ne233)
    refine Z14 (us := [.agg #[vi x107, vi x108, vi x109, .string x110, .string x111, v113], .agg #[vi r209.1.op, vi r209.1.kind, vi r209.1.n, .string r209.1.s, .string r209.1.f, v237]]) (cs := [vi x107, vi x108, vi x109, .string x110, .string x111, v113, vi r209.1.op, vi r209.1.kind, vi r209.1.n, .string r209.1.s, .string r209.1.f, v237]) rfl rfl rfl Z0y Zw Z1t rfl (Z4a rfl (Z4a rfl Zc3)) rfl rfl rfl S242.sub (fun w244 h245 b246 hb247 s248 hk249 hc250 => ?_)
    have S253 := S242.trans0 s248
    have rs254 : RS h245 (sl b246 0 2 2) ([(Ex.mk x107 x108 x109 x110 x111 xs112), (Ex.mk r209.1.op r209.1.kind r209.1.n r209.1.s r209.1.f r209.1.args)] : List Ex) := RS.litL _ [[vi x107, vi x108, vi x109, .string x110, .string x111, v113], [vi r209.1.op, vi r209.1.kind, vi r209.1.n, .string r209.1.s, .string r209.1.f, v237]] rfl rfl hc250 ⟨(Z7n.2 ⟨_, rfl, (rs114.mono ((s124.le).trans ((s134.le).trans ((s142.le).trans ((s161.le).trans ((le193).trans ((s199.le).trans ((s213.le).trans ((s230.le).trans ((s240.le).trans s248.le))))))))))⟩), (Z7n.2 ⟨_, rfl, (rs238.mono ((s240.le).trans s248.le))⟩), trivial⟩
    have ow255 := Own.lit (base := w0.heap.size) (sz := 6) (m := 2) hk249 hc250 (by rw [hb247]; exact S242.size) rfl (by decide)
    refine Wv rfl (Z38 (vs := [(0, vi (r157.getD 0)), (5, sl b246 0 2 2)]) (cs := [vi (r157.getD 0), vi 0, vi 0, .string b'47, .string b'47, sl b246 0 2 2]) rfl Z9l Z1t rfl) ?_
    have ob256 := (ob243.step0 s248)
    refine Zo (vs := [vi (r157.getD 0), vi 0, vi 0, .string b'47, .string b'47, sl b246 0 2 2]) rfl rfl rfl rfl Zw (Z5 rfl (Z5 rfl (Z5 rfl (Z5 rfl (Z5 rfl (Z5 rfl Zx)))))) ob256 S253.sub (by simp) (ds := [vi (r157.getD 0), vi 0, vi 0, .string b'47, .string b'47, sl b246 0 2 2]) rfl (fun w257 s258 ob259 => ?_)
    have S260 := S253.trans1 s258 (.inr g92)
    refine Z7 <| Z0a ?_
    have ob262 := ((ob251.step0 s248).step1 s258 ne90)
    have ob263 := ((ob252.step0 s248).step1 s258 ne91)
    refine Z2c <| Z7y [0, 1, 4, 5] [(0, pt b1 0), (1, sl b147 o148 (xs8).length c59), (4, pt b13 0), (5, pt b86 0)] rfl ?_
    exact IHL117 j116 (Nat.le_refl _) _ _ ⟨h245, r209.2, (r157.getD 0), 0, 0, b'47, b'47, [(Ex.mk x107 x108 x109 x110 x111 xs112), (Ex.mk r209.1.op r209.1.kind r209.1.n r209.1.s r209.1.f r209.1.args)], sl b246 0 2 2, HF, rfl, S260, (le102).trans ((s124.le).trans ((s134.le).trans ((s142.le).trans ((s161.le).trans ((le193).trans ((s199.le).trans ((s213.le).trans ((s230.le).trans ((s240.le).trans ((s248.le).trans s258.le)))))))))), (rs254.mono (s258.le)), ob262, ob263, ob259⟩
   intro J261
   refine Z09 (fun E w168 => ∃ (h167 : Hp) (x171 : Bool), Z6d j116 (Zk j116) xs3 xs8 x104 x107 x108 x109 x110 x111 xs112 r157 x171 = some r ∧ E = [(0, pt b1 0), (1, sl b147 o148 (xs8).length c59), (4, pt b13 0), (5, pt b86 0), (7, vi (r157.getD 0)), (41, .bool x171)] ∧ Stp [b1] w0 h0 w168 h167 ∧ Hle h160 h167 ∧ OB w168 h167 b1 T2 [v4, vi x104] ∧ OB w168 h167 b13 47 [vi 0, vi 0, vi 0, .string b'47, .string b'47, .slice none 0 0] ∧ OB w168 h167 b86 47 [vi x107, vi x108, vi x109, .string x110, .string x111, v113]) ?_ ?_
   ·rintro E w168 ⟨h167, x171, HF, rfl, S170, le169, ob172, ob173, ob174⟩
    refine Z17 HF rfl (fun HF => ?_) (fun HF => ?_)
    ·refine Zb <| Z1 <| Wv rfl (Z16 (cs := [vi x107, vi x108, vi x109, .string x110, .string x111, v113]) rfl Z2a Zw (OB.cells ob174 0 rfl)) <| Zo (vs := [vi x107, vi x108, vi x109, .string x110, .string x111, v113]) rfl rfl rfl rfl Zw (Z5 rfl (Z5 rfl (Z5 rfl (Z5 rfl (Z5 rfl (Z5 (RS.one (rs114.mono ((s124.le).trans ((s134.le).trans ((s142.le).trans ((s161.le).trans le169)))))) Zx)))))) ob173 S170.sub (by simp) (ds := [vi x107, vi x108, vi x109, .string x110, .string x111, v113]) rfl (fun w176 s177 ob178 => ?_)
     have S179 := S170.trans1 s177 (.inr g18)
     refine Z7 <| Z6 <| Z00 <| Zi <| Zy <| Zi <| Zy ?_
     have ob180 := (ob172.step1 s177 ne17)
     refine Z5p rfl rfl (Z11 (cs := [vi x107, vi x108, vi x109, .string x110, .string x111, v113]) Z2a Zw (OB.cells ob178 0 rfl)) ?_
     obtain rfl := Option.some.inj HF
     exact ⟨_, rfl, h167, S179, ⟨_, rfl, (Z7n.2 ⟨_, rfl, (rs114.mono ((s124.le).trans ((s134.le).trans ((s142.le).trans ((s161.le).trans ((le169).trans s177.le))))))⟩)⟩, ob180⟩
    refine Zm <| Z0g [0, 1, 4, 5, 7] _ rfl ?_
    exact J261 ⟨h167, HF, rfl, S170, le169, ob172, ob173, ob174⟩
   intro J181
   refine Z1 <| Wm rfl rfl <| Wv rfl (Z3c rfl) <| Wm rfl rfl <| Z3g 32 HF rfl (fun HF => ?_) (fun HF => ?_)
   ·refine Wp rfl <| Wp rfl <| Wp rfl <| Wp rfl <| Wp rfl <| Wp rfl <| Wp rfl <| Wp rfl <| Wv rfl (Zh rfl rfl) <| Z7 ?_
    have ob182 := (((ob128.step0 s134).step1 s142 ne136).step0 s161)
    have ob183 := (((ob129.step0 s134).step1 s142 ne137).step0 s161)
    have ob184 := (((ob130.step0 s134).step1 s142 ne138).step0 s161)
    refine Z0g [0, 1, 4, 5, 7, 41] _ rfl ?_
    exact J181 ⟨h160, true, HF, rfl, S163, Hle.refl _, ob182, ob183, ob184⟩
   refine Wv rfl (Z2 rfl Zda) ?_
   have ob165 := (ob143.step0 s161)
   refine Wv rfl (Zc rfl Z0f (OB.cell ob165 (j := 0) rfl)) <| Wv rfl (Z7e rfl rfl) <| Wm rfl rfl <| Z3g 36 HF rfl (fun HF => ?_) (fun HF => ?_)
   ·refine Wv rfl (Z2 rfl Zda) <| Wv rfl (Zc rfl Z0f (OB.cell ob165 (j := 0) rfl)) <| Wv rfl (Z7e rfl rfl) <| Wv rfl (Zh rfl rfl) <| Wv rfl (Zg rfl rfl) <| Z7 ?_
    have ob185 := (((ob128.step0 s134).step1 s142 ne136).step0 s161)
    have ob186 := (((ob129.step0 s134).step1 s142 ne137).step0 s161)
    have ob187 := (((ob130.step0 s134).step1 s142 ne138).step0 s161)
    refine Z0g [0, 1, 4, 5, 7, 41] _ rfl ?_
    exact J181 ⟨h160, (r119.kind : Int) != 5, HF, rfl, S163, Hle.refl _, ob185, ob186, ob187⟩
   refine Wp rfl <| Wp rfl <| Wp rfl <| Wv rfl (Zg rfl rfl) <| Wv rfl (Zg rfl rfl) <| Z7 ?_
   have ob188 := (((ob128.step0 s134).step1 s142 ne136).step0 s161)
   have ob189 := (((ob129.step0 s134).step1 s142 ne137).step0 s161)
   have ob190 := (((ob130.step0 s134).step1 s142 ne138).step0 s161)
   refine Z0g [0, 1, 4, 5, 7, 41] _ rfl ?_
   exact J181 ⟨h160, false, HF, rfl, S163, Hle.refl _, ob188, ob189, ob190⟩
  have ob264 := ((ob82.step0 s88).step1 s97 ne90)
  have ob265 := ((ob84.step0 s88).step1 s97 ne91)
  exact ⟨h71, r68.2, r68.1.op, r68.1.kind, r68.1.n, r68.1.s, r68.1.f, r68.1.args, v94, HF, rfl, S99, Hle.refl _, (rs95.mono (s97.le)), ob264, ob265, ob98⟩
 intro J266
 refine Zb <| Z1 <| Wm rfl rfl ?_
 obtain ⟨A20, c21, rfl, rs22⟩ := RS.form (rs10.mono (s15.le))
 refine Wv rfl (Z1n rfl Zfq) <| Wv rfl (Z4n rfl rfl) <| Z7 <| Z6 <| Z17 HF rfl (fun HF => ?_) (fun HF => ?_)
 ·refine Zb <| Z1 <| Wm rfl rfl ?_
  have ob24 := (ob7.step0 s15)
  obtain ⟨r25, hr26, HF⟩ := Z8 HF
  rcases r25 with t27 | r28
  ·obtain rfl := Z01 HF
   refine Z0i rfl (Ze (vs := [pt b1 0]) rfl t_ent_138) ((IH _ (Nat.le_refl _)).2.2.2 hr26 S19.sub (rs5.mono (s15.le)) ob24) ?_
   rintro ch34 w35 ⟨ht36, h37, s38, ob33⟩
   refine Zd <| Zd <| Zp ?_
   have S39 := S19.trans s38 (Zn (.inl (by simp)) Z04)
   exact ⟨_, rfl, ht36, h37, S39, ob33⟩
  replace HF := Z0j HF
  refine Wc rfl (Ze (vs := [pt b1 0]) rfl t_ent_138) ((IH _ (Nat.le_refl _)).2.2.2 hr26 S19.sub (rs5.mono (s15.le)) ob24) ?_
  rintro _ w30 ⟨h31, s32, ⟨cs40, rfl, r41⟩, ob42⟩
  have S43 := S19.trans s32 (Zn (.inl (by simp)) Z04)
  have ob44 := (ob16.step1 s32 (Ne.symm ne17))
  obtain ⟨v45, rfl, rs46⟩ := Z7n.1 r41
  refine Zo (vs := [vi r28.1.op, vi r28.1.kind, vi r28.1.n, .string r28.1.s, .string r28.1.f, v45]) rfl rfl rfl rfl Zw (Z5 rfl (Z5 rfl (Z5 rfl (Z5 rfl (Z5 rfl (Z5 (RS.one rs46) Zx)))))) ob44 S43.sub (by simp) (ds := [vi r28.1.op, vi r28.1.kind, vi r28.1.n, .string r28.1.s, .string r28.1.f, v45]) rfl (fun w47 s48 ob49 => ?_)
  have S50 := S43.trans1 s48 (.inr g18)
  refine Z7 <| Z6 <| Z00 <| Zi ?_
  have ob51 := (ob42.step1 s48 ne17)
  refine Z5p rfl rfl (Z11 (cs := [vi r28.1.op, vi r28.1.kind, vi r28.1.n, .string r28.1.s, .string r28.1.f, v45]) Z2a Zw (OB.cells ob49 0 rfl)) ?_
  obtain rfl := Option.some.inj HF
  exact ⟨_, rfl, h31, S50, ⟨_, rfl, (Z7n.2 ⟨_, rfl, (rs46.mono (s48.le))⟩)⟩, ob51⟩
 refine Zm ?_
 have ob267 := (ob7.step0 s15)
 refine Z0g [0, 1, 4] _ rfl ?_
 exact J266 ⟨h0, HF, rfl, S19, Hle.refl _, ob267, ob16⟩
theorem s_parse_Parser_named (k : Nat) (IH : ∀ j, j ≤ k → Z3k (Zk j).parse_Parser_Expr ∧ Z44 (Zk j).parse_Parser_level ∧ Z41 (Zk j).parse_Parser_named ∧ Z3y (Zk j).parse_Parser_unary) : Z41 (Ze0 k (Zk k)) := by
 intro xs3 x6 r HF w0 h0 b1 T2 v4 hs0 rs5 ob7
 have S0 : Stp [b1] w0 h0 w0 h0 := Stp.refl hs0 _
 have lt8 : b1 < w0.heap.size := OB.lt ob7
 refine Z4j (n := 57) Tryz.func174 rfl Tryz.ntmps174 rfl [(0, pt b1 0)] rfl <| Zb <| Z1 <| Z15 (zs := [vi 0, vi 0, vi 0, .string b'47, .string b'47, .slice none 0 0]) rfl rfl Z1t rfl S0.sub (fun w9 b10 hb11 s12 ob13 => ?_)
 have ne14 : b1 ≠ b10 := ob7.ne_new hb11
 have g15 : w0.heap.size ≤ b10 := by rw [hb11]; exact S0.size
 have S16 := S0.trans0 s12
 refine Z7 <| Z6 <| Zb <| Z1 <| Wm rfl rfl ?_
 have ob17 := (ob7.step0 s12)
 obtain ⟨r18, hr19, HF⟩ := Z8 HF
 rcases r18 with t20 | r21
 ·obtain rfl := Z01 HF
  refine Z0i rfl (Ze (vs := [pt b1 0]) rfl Zbe) (Z24 _ hr19 S16.sub (rs5.mono (s12.le)) ob17) ?_
  rintro ch27 w28 ⟨ht29, h30, s31, ob26⟩
  refine Zd <| Zp ?_
  have S32 := S16.trans s31 (Zn (.inl (by simp)) Z04)
  exact ⟨_, rfl, ht29, h30, S32, ob26⟩
 replace HF := Z0j HF
 refine Wc rfl (Ze (vs := [pt b1 0]) rfl Zbe) (Z24 _ hr19 S16.sub (rs5.mono (s12.le)) ob17) ?_
 rintro _ w23 ⟨h24, s25, rfl, ob33⟩
 have S34 := S16.trans s25 (Zn (.inl (by simp)) Z04)
 refine Wv rfl (Z38 (vs := [(0, vi 2), (3, .string r21.1)]) (cs := [vi 2, vi 0, vi 0, .string r21.1, .string b'47, .slice none 0 0]) rfl Z9l Z1t rfl) ?_
 have ob35 := (ob13.step1 s25 (Ne.symm ne14))
 refine Z15 (zs := [vi 0, vi 0, vi 0, .string b'47, .string b'47, .slice none 0 0]) rfl rfl Z1t rfl S34.sub (fun w36 b37 hb38 s39 ob40 => ?_)
 have ne41 : b1 ≠ b37 := ob33.ne_new hb38
 have ne42 : b10 ≠ b37 := ob35.ne_new hb38
 have g43 : w0.heap.size ≤ b37 := by rw [hb38]; exact S34.size
 have S44 := S34.trans0 s39
 refine Zo (vs := [vi 2, vi 0, vi 0, .string r21.1, .string b'47, .slice none 0 0]) rfl rfl rfl rfl Zw (Z5 rfl (Z5 rfl (Z5 rfl (Z5 rfl (Z5 rfl (Z5 rfl Zx)))))) ob40 S44.sub (by simp) (ds := [vi 2, vi 0, vi 0, .string r21.1, .string b'47, .slice none 0 0]) rfl (fun w45 s46 ob47 => ?_)
 have S48 := S44.trans1 s46 (.inr g43)
 refine Z7 <| Z6 <| Z09 (fun E w381 => ∃ (q394 : Nat) (h380 : Hp) (x384 : Int) (x387 : Int) (x388 : ByteArray) (xs389 : List Ex) (v390 : Value), q394 ≤ k ∧ Z4p q394 (Zk q394) r21 x384 x387 x388 xs389 = some r ∧ E = [(2, pt b10 0), (3, pt b37 0)] ∧ Stp [b1] w0 h0 w381 h380 ∧ Hle h24 h380 ∧ RS h380 v390 xs389 ∧ Own w381 h380 w0.heap.size 47 6 v390 xs389.length ∧ OB w381 h380 b1 T2 [v4, vi x384] ∧ OB w381 h380 b10 47 [vi 0, vi 0, vi 0, .string b'47, .string b'47, .slice none 0 0] ∧ OB w381 h380 b37 47 [vi x387, vi 0, vi 0, .string r21.1, .string x388, v390]) ?_ ?_
 ·rintro E w381 ⟨q394, h380, x384, x387, x388, xs389, v390, hq395, HF, rfl, S383, le382, rs391, ow392, ob385, ob386, ob393⟩
  refine Zb <| Z1 <| Wv rfl (Z16 (cs := [vi x387, vi 0, vi 0, .string r21.1, .string x388, v390]) rfl Z2a Zw (OB.cells ob393 0 rfl)) <| Zo (vs := [vi x387, vi 0, vi 0, .string r21.1, .string x388, v390]) rfl rfl rfl rfl Zw (Z5 rfl (Z5 rfl (Z5 rfl (Z5 rfl (Z5 rfl (Z5 (RS.one rs391) Zx)))))) ob386 S383.sub (by simp) (ds := [vi x387, vi 0, vi 0, .string r21.1, .string x388, v390]) rfl (fun w396 s397 ob398 => ?_)
  have S399 := S383.trans1 s397 (.inr g15)
  refine Z7 <| Z6 <| Z00 ?_
  have ob400 := (ob385.step1 s397 ne14)
  refine Z5p rfl rfl (Z11 (cs := [vi x387, vi 0, vi 0, .string r21.1, .string x388, v390]) Z2a Zw (OB.cells ob398 0 rfl)) ?_
  obtain rfl := Option.some.inj HF
  exact ⟨_, rfl, h380, S399, ⟨_, rfl, (Z7n.2 ⟨_, rfl, (rs391.mono (s397.le))⟩)⟩, ob400⟩
 intro J401
 refine Z0p <| Zb <| Z1 <| Wm rfl rfl ?_
 have ob49 := ((ob33.step0 s39).step1 s46 ne41)
 obtain ⟨r50, hr51, HF⟩ := Z8 HF
 refine Wc rfl (Ze (vs := [pt b1 0, .string b'31]) rfl Z4r) (Z0n _ hr51 S48.sub (rs5.mono ((s12.le).trans ((s25.le).trans ((s39.le).trans s46.le)))) ob49) ?_
 rintro _ w53 ⟨h54, s55, rfl, ob56⟩
 have S57 := S48.trans s55 (Zn (.inl (by simp)) Z04)
 refine Wa rfl rfl <| Z7 <| Z6 <| Z17 HF rfl (fun HF => ?_) (fun HF => ?_)
 ·refine Zb <| Z1 <| Wv rfl (Z2 rfl Z64) ?_
  have ob59 := (ob47.step1 s55 (Ne.symm ne41))
  refine Zo (vs := [vi 3]) rfl rfl rfl rfl Z1p (Z5 rfl Zx) ob59 S57.sub (by simp) (ds := [vi 3, vi 0, vi 0, .string r21.1, .string b'47, .slice none 0 0]) rfl (fun w60 s61 ob62 => ?_)
  have S63 := S57.trans1 s61 (.inr g43)
  refine Z7 <| Z6 <| Z1 <| Wm rfl rfl ?_
  have ob64 := (ob56.step1 s61 ne41)
  obtain ⟨r65, hr66, HF⟩ := Z8 HF
  rcases r65 with t67 | r68
  ·obtain rfl := Z01 HF
   refine Z0i rfl (Ze (vs := [pt b1 0]) rfl Zbe) (Z24 _ hr66 S63.sub (rs5.mono ((s12.le).trans ((s25.le).trans ((s39.le).trans ((s46.le).trans ((s55.le).trans s61.le)))))) ob64) ?_
   rintro ch74 w75 ⟨ht76, h77, s78, ob73⟩
   refine Zr <| Zd <| Zp ?_
   have S79 := S63.trans s78 (Zn (.inl (by simp)) Z04)
   exact ⟨_, rfl, ht76, h77, S79, ob73⟩
  replace HF := Z0j HF
  refine Wc rfl (Ze (vs := [pt b1 0]) rfl Zbe) (Z24 _ hr66 S63.sub (rs5.mono ((s12.le).trans ((s25.le).trans ((s39.le).trans ((s46.le).trans ((s55.le).trans s61.le)))))) ob64) ?_
  rintro _ w70 ⟨h71, s72, rfl, ob80⟩
  have S81 := S63.trans s72 (Zn (.inl (by simp)) Z04)
  refine Wv rfl (Z2 rfl Zb9) ?_
  have ob82 := (ob62.step1 s72 (Ne.symm ne41))
  refine Zo (vs := [.string r68.1]) rfl rfl rfl rfl t_size_9 (Z5 rfl Zx) ob82 S81.sub (by simp) (ds := [vi 3, vi 0, vi 0, .string r21.1, .string r68.1, .slice none 0 0]) rfl (fun w83 s84 ob85 => ?_)
  have S86 := S81.trans1 s84 (.inr g43)
  refine Z7 <| Z0a ?_
  have ob402 := (ob80.step1 s84 ne41)
  have ob403 := ((((((ob35.step0 s39).step1 s46 ne42).step1 s55 (Ne.symm ne14)).step1 s61 ne42).step1 s72 (Ne.symm ne14)).step1 s84 ne42)
  refine Z0g [2, 3] _ rfl ?_
  exact J401 ⟨k, h71, r68.2, 3, r68.1, ([] : List Ex), .slice none 0 0, (Nat.le_refl _), HF, rfl, S86, (s55.le).trans ((s61.le).trans ((s72.le).trans s84.le)), (RS.nil _), (Own.nil _ _ _ _ _), ob402, ob403, ob85⟩
 refine Zb <| Z1 <| Wm rfl rfl ?_
 obtain ⟨r87, hr88, HF⟩ := Z8 HF
 refine Wc rfl (Ze (vs := [pt b1 0, .string b'42]) rfl Z4r) (Z0n _ hr88 S57.sub (rs5.mono ((s12.le).trans ((s25.le).trans ((s39.le).trans ((s46.le).trans s55.le))))) ob56) ?_
 rintro _ w90 ⟨h91, s92, rfl, ob93⟩
 have S94 := S57.trans s92 (Zn (.inl (by simp)) Z04)
 refine Wa rfl rfl <| Z7 <| Z6 <| Z17 HF rfl (fun HF => ?_) (fun HF => ?_)
 ·refine Zb <| Z1 <| Wv rfl (Z2 rfl Z64) ?_
  have ob96 := ((ob47.step1 s55 (Ne.symm ne41)).step1 s92 (Ne.symm ne41))
  refine Zo (vs := [vi 4]) rfl rfl rfl rfl Z1p (Z5 rfl Zx) ob96 S94.sub (by simp) (ds := [vi 4, vi 0, vi 0, .string r21.1, .string b'47, .slice none 0 0]) rfl (fun w97 s98 ob99 => ?_)
  have S100 := S94.trans1 s98 (.inr g43)
  refine Z7 <| Z6 <| Zb <| Z1 <| Wm rfl rfl ?_
  have ob101 := (ob93.step1 s98 ne41)
  obtain ⟨r102, hr103, HF⟩ := Z8 HF
  rcases r102 with t104 | r105
  ·obtain rfl := Z01 HF
   refine Z0i rfl (Ze (vs := [pt b1 0]) rfl Z3e) ((IH _ (Nat.le_refl _)).1 hr103 S100.sub (rs5.mono ((s12.le).trans ((s25.le).trans ((s39.le).trans ((s46.le).trans ((s55.le).trans ((s92.le).trans s98.le))))))) ob101) ?_
   rintro ch111 w112 ⟨ht113, h114, s115, ob110⟩
   refine Zd <| Zr <| Zd <| Zp ?_
   have S116 := S100.trans s115 (Zn (.inl (by simp)) Z04)
   exact ⟨_, rfl, ht113, h114, S116, ob110⟩
  replace HF := Z0j HF
  refine Wc rfl (Ze (vs := [pt b1 0]) rfl Z3e) ((IH _ (Nat.le_refl _)).1 hr103 S100.sub (rs5.mono ((s12.le).trans ((s25.le).trans ((s39.le).trans ((s46.le).trans ((s55.le).trans ((s92.le).trans s98.le))))))) ob101) ?_
  rintro _ w107 ⟨h108, s109, ⟨cs117, rfl, r118⟩, ob119⟩
  have S120 := S100.trans s109 (Zn (.inl (by simp)) Z04)
  obtain ⟨v121, rfl, rs122⟩ := Z7n.1 r118
  have ob130 := ((((((ob35.step0 s39).step1 s46 ne42).step1 s55 (Ne.symm ne14)).step1 s92 (Ne.symm ne14)).step1 s98 ne42).step1 s109 (Ne.symm ne14))
  have ob131 := (ob99.step1 s109 (Ne.symm ne41))
  refine Z14 (us := [.agg #[vi r105.1.op, vi r105.1.kind, vi r105.1.n, .string r105.1.s, .string r105.1.f, v121]]) (cs := [vi r105.1.op, vi r105.1.kind, vi r105.1.n, .string r105.1.s, .string r105.1.f, v121]) rfl rfl rfl Z0y Zw Z1t rfl (Z4a rfl Zc3) rfl rfl rfl S120.sub (fun w123 h124 b125 hb126 s127 hk128 hc129 => ?_)
  have S132 := S120.trans0 s127
  have rs133 : RS h124 (sl b125 0 1 1) ([r105.1] : List Ex) := RS.litL _ [[vi r105.1.op, vi r105.1.kind, vi r105.1.n, .string r105.1.s, .string r105.1.f, v121]] rfl rfl hc129 ⟨(Z7n.2 ⟨_, rfl, (rs122.mono (s127.le))⟩), trivial⟩
  have ow134 := Own.lit (base := w0.heap.size) (sz := 6) (m := 1) hk128 hc129 (by rw [hb126]; exact S120.size) rfl (by decide)
  refine Wv rfl (Z2 rfl Z4i) ?_
  have ob135 := (ob131.step0 s127)
  refine Zo (vs := [sl b125 0 1 1]) rfl rfl rfl rfl Zcs (Z5 rfl Zx) ob135 S132.sub (by simp) (ds := [vi 4, vi 0, vi 0, .string r21.1, .string b'47, sl b125 0 1 1]) rfl (fun w136 s137 ob138 => ?_)
  have S139 := S132.trans1 s137 (.inr g43)
  refine Z7 <| Z6 <| Z1 <| Wm rfl rfl ?_
  have ob140 := ((ob119.step0 s127).step1 s137 ne41)
  obtain ⟨r141, hr142, HF⟩ := Z8 HF
  rcases r141 with t143 | r144
  ·obtain rfl := Z01 HF
   have ob149 := ((ob130.step0 s127).step1 s137 ne42)
   refine Z0i rfl (Ze (vs := [pt b1 0, .string b'43]) rfl Z21) (Zj _ hr142 S139.sub (rs5.mono ((s12.le).trans ((s25.le).trans ((s39.le).trans ((s46.le).trans ((s55.le).trans ((s92.le).trans ((s98.le).trans ((s109.le).trans ((s127.le).trans s137.le)))))))))) ob140) ?_
   rintro ch151 w152 ⟨ht153, h154, s155, ob150⟩
   refine Zr <| Zd <| Zp ?_
   have S156 := S139.trans s155 (Zn (.inl (by simp)) Z04)
   exact ⟨_, rfl, ht153, h154, S156, ob150⟩
  replace HF := Z0j HF
  refine Wc rfl (Ze (vs := [pt b1 0, .string b'43]) rfl Z21) (Zj _ hr142 S139.sub (rs5.mono ((s12.le).trans ((s25.le).trans ((s39.le).trans ((s46.le).trans ((s55.le).trans ((s92.le).trans ((s98.le).trans ((s109.le).trans ((s127.le).trans s137.le)))))))))) ob140) ?_
  have ob157 := ((ob130.step0 s127).step1 s137 ne42)
  rintro v145 w146 ⟨h147, s148, rfl, ob158⟩
  have S159 := S139.trans s148 (Zn (.inl (by simp)) Z04)
  refine Z7 <| Z0a ?_
  have ob404 := (ob157.step1 s148 (Ne.symm ne14))
  have ob405 := (ob138.step1 s148 (Ne.symm ne41))
  refine Z0g [2, 3] _ rfl ?_
  exact J401 ⟨k, h147, r144, 4, b'47, [r105.1], sl b125 0 1 1, (Nat.le_refl _), HF, rfl, S159, (s55.le).trans ((s92.le).trans ((s98.le).trans ((s109.le).trans ((s127.le).trans ((s137.le).trans s148.le))))), (rs133.mono ((s137.le).trans s148.le)), ((ow134.step s137 (Z4 (ow134.ne_obS1 rs133 ob135) Za)).step s148 (Z4 ((ow134.step s137 (Z4 (ow134.ne_obS1 rs133 ob135) Za)).ne_old lt8) Za)), ob158, ob404, ob405⟩
 refine Zb <| Z1 <| Wm rfl rfl ?_
 obtain ⟨r160, hr161, HF⟩ := Z8 HF
 refine Wc rfl (Ze (vs := [pt b1 0, .string b'25]) rfl Z4r) (Z0n _ hr161 S94.sub (rs5.mono ((s12.le).trans ((s25.le).trans ((s39.le).trans ((s46.le).trans ((s55.le).trans s92.le)))))) ob93) ?_
 rintro _ w163 ⟨h164, s165, rfl, ob166⟩
 have S167 := S94.trans s165 (Zn (.inl (by simp)) Z04)
 refine Wa rfl rfl <| Z7 <| Z6 <| Z17 HF rfl (fun HF => ?_) (fun HF => ?_)
 ·refine Zb <| Z1 <| Wv rfl (Z2 rfl Z64) ?_
  have ob169 := (((ob47.step1 s55 (Ne.symm ne41)).step1 s92 (Ne.symm ne41)).step1 s165 (Ne.symm ne41))
  refine Zo (vs := [vi 5]) rfl rfl rfl rfl Z1p (Z5 rfl Zx) ob169 S167.sub (by simp) (ds := [vi 5, vi 0, vi 0, .string r21.1, .string b'47, .slice none 0 0]) rfl (fun w170 s171 ob172 => ?_)
  have S173 := S167.trans1 s171 (.inr g43)
  refine Z7 <| Z6 <| Z0p <| Z4m <| Z7y [0, 2, 3] [(0, pt b1 0), (2, pt b10 0), (3, pt b37 0)] rfl <| Z4k (K := k) (fun j E w175 => ∃ (h174 : Hp) (x178 : Int) (xs181 : List Ex) (v182 : Value), (Zk j).parse_Parser_named_l1 xs3 r21 x178 xs181 = some r ∧ E = [(0, pt b1 0), (2, pt b10 0), (3, pt b37 0)] ∧ Stp [b1] w0 h0 w175 h174 ∧ Hle h164 h174 ∧ RS h174 v182 xs181 ∧ Own w175 h174 w0.heap.size 47 6 v182 xs181.length ∧ OB w175 h174 b1 T2 [v4, vi x178] ∧ OB w175 h174 b10 47 [vi 0, vi 0, vi 0, .string b'47, .string b'47, .slice none 0 0] ∧ OB w175 h174 b37 47 [vi 5, vi 0, vi 0, .string r21.1, .string b'47, v182]) ?_ ?_ (j := k) (Nat.le_refl _) ?_
  ·rintro E w175 ⟨_, _, _, _, HF, _⟩; cases HF
  ·rintro j186 hj188 IHL187 E w175 ⟨h174, x178, xs181, v182, HF, rfl, S177, le176, rs183, ow184, ob179, ob180, ob185⟩
   refine Z09 (fun E w199 => ∃ (h198 : Hp) (x202 : Int) (xs205 : List Ex) (v206 : Value), Zc9 j186 (Zk j186) xs3 r21 x202 xs205 = some r ∧ E = [(0, pt b1 0), (2, pt b10 0), (3, pt b37 0)] ∧ Stp [b1] w0 h0 w199 h198 ∧ Hle h174 h198 ∧ RS h198 v206 xs205 ∧ Own w199 h198 w0.heap.size 47 6 v206 xs205.length ∧ OB w199 h198 b1 T2 [v4, vi x202] ∧ OB w199 h198 b10 47 [vi 0, vi 0, vi 0, .string b'47, .string b'47, .slice none 0 0] ∧ OB w199 h198 b37 47 [vi 5, vi 0, vi 0, .string r21.1, .string b'47, v206]) ?_ ?_
   ·rintro E w199 ⟨h198, x202, xs205, v206, HF, rfl, S201, le200, rs207, ow208, ob203, ob204, ob209⟩
    refine Z0p <| Z09 (fun E w232 => ∃ (h231 : Hp) (x235 : Int) (xs238 : List Ex) (v239 : Value), Z8u j186 (Zk j186) xs3 r21 x235 xs238 = some r ∧ E = [(0, pt b1 0), (2, pt b10 0), (3, pt b37 0)] ∧ Stp [b1] w0 h0 w232 h231 ∧ Hle h198 h231 ∧ RS h231 v239 xs238 ∧ Own w232 h231 w0.heap.size 47 6 v239 xs238.length ∧ OB w232 h231 b1 T2 [v4, vi x235] ∧ OB w232 h231 b10 47 [vi 0, vi 0, vi 0, .string b'47, .string b'47, .slice none 0 0] ∧ OB w232 h231 b37 47 [vi 5, vi 0, vi 0, .string r21.1, .string b'47, v239]) ?_ ?_
    ·rintro E w232 ⟨h231, x235, xs238, v239, HF, rfl, S234, le233, rs240, ow241, ob236, ob237, ob242⟩
     refine Zb <| Z1 <| Wm rfl rfl ?_
     obtain ⟨r243, hr244, HF⟩ := Z8 HF
     rcases r243 with t245 | r246
     ·obtain rfl := Z01 HF
      refine Z0i rfl (Ze (vs := [pt b1 0]) rfl Z3e) ((IH _ (Nat.le_trans (Nat.le_of_succ_le hj188) (Nat.le_refl _))).1 hr244 S234.sub (rs5.mono ((s12.le).trans ((s25.le).trans ((s39.le).trans ((s46.le).trans ((s55.le).trans ((s92.le).trans ((s165.le).trans ((s171.le).trans ((le176).trans ((le200).trans le233))))))))))) ob236) ?_
      rintro ch252 w253 ⟨ht254, h255, s256, ob251⟩
      refine Zd <| Zr <| Zd <| Zr <| Zr <| Zd <| Zp ?_
      have S257 := S234.trans s256 (Zn (.inl (by simp)) Z04)
      exact ⟨_, rfl, ht254, h255, S257, ob251⟩
     replace HF := Z0j HF
     refine Wc rfl (Ze (vs := [pt b1 0]) rfl Z3e) ((IH _ (Nat.le_trans (Nat.le_of_succ_le hj188) (Nat.le_refl _))).1 hr244 S234.sub (rs5.mono ((s12.le).trans ((s25.le).trans ((s39.le).trans ((s46.le).trans ((s55.le).trans ((s92.le).trans ((s165.le).trans ((s171.le).trans ((le176).trans ((le200).trans le233))))))))))) ob236) ?_
     rintro _ w248 ⟨h249, s250, ⟨cs258, rfl, r259⟩, ob260⟩
     have S261 := S234.trans s250 (Zn (.inl (by simp)) Z04)
     have ob262 := (ob237.step1 s250 (Ne.symm ne14))
     have ob263 := (ob242.step1 s250 (Ne.symm ne41))
     refine Z15 (zs := [vi 0, vi 0, vi 0, .string b'47, .string b'47, .slice none 0 0]) rfl rfl Z1t rfl S261.sub (fun w264 b265 hb266 s267 ob268 => ?_)
     have ne269 : b1 ≠ b265 := ob260.ne_new hb266
     have ne270 : b10 ≠ b265 := ob262.ne_new hb266
     have ne271 : b37 ≠ b265 := ob263.ne_new hb266
     have g272 : w0.heap.size ≤ b265 := by rw [hb266]; exact S261.size
     have S273 := S261.trans0 s267
     obtain ⟨v274, rfl, rs275⟩ := Z7n.1 (Rp.mono (s267.le) r259)
     refine Zo (vs := [vi r246.1.op, vi r246.1.kind, vi r246.1.n, .string r246.1.s, .string r246.1.f, v274]) rfl rfl rfl rfl Zw (Z5 rfl (Z5 rfl (Z5 rfl (Z5 rfl (Z5 rfl (Z5 (RS.one rs275) Zx)))))) ob268 S273.sub (by simp) (ds := [vi r246.1.op, vi r246.1.kind, vi r246.1.n, .string r246.1.s, .string r246.1.f, v274]) rfl (fun w276 s277 ob278 => ?_)
     have S279 := S273.trans1 s277 (.inr g272)
     refine Z7 <| Z6 <| Zb <| Z1 <| Wv rfl (Z2 rfl Z4i) ?_
     have ob280 := ((ob263.step0 s267).step1 s277 ne271)
     refine Wv rfl (Zc rfl Z2k (OB.cell ob280 (j := 5) rfl)) <| Wv rfl (Z16 (cs := [vi r246.1.op, vi r246.1.kind, vi r246.1.n, .string r246.1.s, .string r246.1.f, v274]) rfl Z2a Zw (OB.cells ob278 0 rfl)) ?_
     have ob288 := ((ob260.step0 s267).step1 s277 ne269)
     have ob289 := ((ob262.step0 s267).step1 s277 ne270)
     refine Z14 (us := [.agg #[vi r246.1.op, vi r246.1.kind, vi r246.1.n, .string r246.1.s, .string r246.1.f, v274]]) (cs := [vi r246.1.op, vi r246.1.kind, vi r246.1.n, .string r246.1.s, .string r246.1.f, v274]) rfl rfl rfl Z0y Zw Z1t rfl (Z4a rfl Zc3) rfl rfl rfl S279.sub (fun w281 h282 b283 hb284 s285 hk286 hc287 => ?_)
     have S290 := S279.trans0 s285
     have rs291 : RS h282 (sl b283 0 1 1) ([(Ex.mk r246.1.op r246.1.kind r246.1.n r246.1.s r246.1.f r246.1.args)] : List Ex) := RS.litL _ [[vi r246.1.op, vi r246.1.kind, vi r246.1.n, .string r246.1.s, .string r246.1.f, v274]] rfl rfl hc287 ⟨(Z7n.2 ⟨_, rfl, (rs275.mono ((s277.le).trans s285.le))⟩), trivial⟩
     have ow292 := Own.lit (base := w0.heap.size) (sz := 6) (m := 1) hk286 hc287 (by rw [hb284]; exact S279.size) rfl (by decide)
     obtain ⟨hl293, HF⟩ := Zdu HF
     have ob301 := (ob288.step0 s285)
     have ob302 := (ob289.step0 s285)
     have ob303 := (ob280.step0 s285)
     have ob304 := (ob278.step0 s285)
     refine Zeb (xs := (xs238 : List Ex)) (ys := [(Ex.mk r246.1.op r246.1.kind r246.1.n r246.1.s r246.1.f r246.1.args)]) rfl rfl rfl rfl Z0y Zw Z1t rfl t_bytes_47 rfl ((((ow241.step s250 (Z4 (ow241.ne_old lt8) Za)).step0 s267).step s277 (Z4 (((ow241.step s250 (Z4 (ow241.ne_old lt8) Za)).step0 s267).ne_obS1 (rs240.mono ((s250.le).trans s267.le)) ob268) Za)).step0 s285) (rs240.mono ((s250.le).trans ((s267.le).trans ((s277.le).trans s285.le)))) rs291 hl293 S290.sub S290.size (by rw [S290.eqb]; exact hs0.big) (fun v294 w295 h296 rs297 ow298 s299 at300 => ?_)
     have S305 := S290.trans s299 (fun i hi => .inr (((((ow241.step s250 (Z4 (ow241.ne_old lt8) Za)).step0 s267).step s277 (Z4 (((ow241.step s250 (Z4 (ow241.ne_old lt8) Za)).step0 s267).ne_obS1 (rs240.mono ((s250.le).trans s267.le)) ob268) Za)).step0 s285).base_le i hi))
     refine Wv rfl (Z2 rfl Z4i) ?_
     have ob306 := (ob303.step s299 (fun hm => ((((ow241.step s250 (Z4 (ow241.ne_old lt8) Za)).step0 s267).step s277 (Z4 (((ow241.step s250 (Z4 (ow241.ne_old lt8) Za)).step0 s267).ne_obS1 (rs240.mono ((s250.le).trans s267.le)) ob268) Za)).step0 s285).ne_obS (rs240.mono ((s250.le).trans ((s267.le).trans ((s277.le).trans s285.le)))) ob303 _ hm rfl))
     refine Zo (vs := [v294]) rfl rfl rfl (RS.cellsL rs297) Zcs (Z5 (RS.one rs297) Zx) ob306 S305.sub (by simp) (ds := [vi 5, vi 0, vi 0, .string r21.1, .string b'47, v294]) rfl (fun w307 s308 ob309 => ?_)
     have S310 := S305.trans1 s308 (.inr g43)
     refine Z7 <| Z6 <| Z09 (fun E w334 => ∃ (h333 : Hp) (x337 : Bool) (xs340 : List Ex) (v341 : Value), Z8q j186 (Zk j186) xs3 r21 r246 x337 xs340 = some r ∧ E = [(0, pt b1 0), (2, pt b10 0), (3, pt b37 0), (53, .bool x337)] ∧ Stp [b1] w0 h0 w334 h333 ∧ Hle h296 h333 ∧ RS h333 v341 xs340 ∧ Own w334 h333 w0.heap.size 47 6 v341 xs340.length ∧ OB w334 h333 b1 T2 [v4, vi r246.2] ∧ OB w334 h333 b10 47 [vi 0, vi 0, vi 0, .string b'47, .string b'47, .slice none 0 0] ∧ OB w334 h333 b37 47 [vi 5, vi 0, vi 0, .string r21.1, .string b'47, v341]) ?_ ?_
     ·rintro E w334 ⟨h333, x337, xs340, v341, HF, rfl, S336, le335, rs342, ow343, ob338, ob339, ob344⟩
      refine Z17 HF rfl (fun HF => ?_) (fun HF => ?_)
      ·refine Z1 <| Wm rfl rfl ?_
       obtain ⟨r346, hr347, HF⟩ := Z8 HF
       rcases r346 with t348 | r349
       ·obtain rfl := Z01 HF
        refine Z0i rfl (Ze (vs := [pt b1 0]) rfl Z98) (Z1m _ hr347 S336.sub (rs5.mono ((s12.le).trans ((s25.le).trans ((s39.le).trans ((s46.le).trans ((s55.le).trans ((s92.le).trans ((s165.le).trans ((s171.le).trans ((le176).trans ((le200).trans ((le233).trans ((s250.le).trans ((s267.le).trans ((s277.le).trans ((s285.le).trans ((s299.le).trans ((s308.le).trans le335)))))))))))))))))) ob338) ?_
        rintro ch354 w355 ⟨ht356, h357, s358⟩
        refine Zr <| Zd <| Zr <| Zr <| Zd <| Zp ?_
        have S359 := S336.trans0 s358
        have ob360 := (ob338.step0 s358)
        exact ⟨_, rfl, ht356, h357, S359, ob360⟩
       replace HF := Z0j HF
       refine Wc rfl (Ze (vs := [pt b1 0]) rfl Z98) (Z1m _ hr347 S336.sub (rs5.mono ((s12.le).trans ((s25.le).trans ((s39.le).trans ((s46.le).trans ((s55.le).trans ((s92.le).trans ((s165.le).trans ((s171.le).trans ((le176).trans ((le200).trans ((le233).trans ((s250.le).trans ((s267.le).trans ((s277.le).trans ((s285.le).trans ((s299.le).trans ((s308.le).trans le335)))))))))))))))))) ob338) ?_
       rintro v350 w351 ⟨h352, s353, rfl⟩
       have S361 := S336.trans0 s353
       refine Z7 <| Z0a ?_
       have ob375 := (ob338.step0 s353)
       have ob376 := (ob339.step0 s353)
       have ob377 := (ob344.step0 s353)
       refine Z2c <| Z7y [0, 2, 3] [(0, pt b1 0), (2, pt b10 0), (3, pt b37 0)] rfl ?_
       exact IHL187 j186 (Nat.le_refl _) _ _ ⟨h352, r246.2, xs340, v341, HF, rfl, S361, (le176).trans ((le200).trans ((le233).trans ((s250.le).trans ((s267.le).trans ((s277.le).trans ((s285.le).trans ((s299.le).trans ((s308.le).trans ((le335).trans s353.le))))))))), (rs342.mono (s353.le)), (ow343.step0 s353), ob375, ob376, ob377⟩
      refine Zm <| Z0a <| Z2c <| Z7y [0, 2, 3] [(0, pt b1 0), (2, pt b10 0), (3, pt b37 0)] rfl ?_
      exact IHL187 j186 (Nat.le_refl _) _ _ ⟨h333, r246.2, xs340, v341, HF, rfl, S336, (le176).trans ((le200).trans ((le233).trans ((s250.le).trans ((s267.le).trans ((s277.le).trans ((s285.le).trans ((s299.le).trans ((s308.le).trans le335)))))))), rs342, ow343, ob338, ob339, ob344⟩
     intro J362
     refine Z1 <| Wm rfl rfl ?_
     have ob311 := ((ob301.step s299 (fun hm => absurd (((((ow241.step s250 (Z4 (ow241.ne_old lt8) Za)).step0 s267).step s277 (Z4 (((ow241.step s250 (Z4 (ow241.ne_old lt8) Za)).step0 s267).ne_obS1 (rs240.mono ((s250.le).trans s267.le)) ob268) Za)).step0 s285).base_le _ hm) (Nat.not_le.2 lt8))).step1 s308 ne41)
     obtain ⟨r312, hr313, HF⟩ := Z8 HF
     refine Wc rfl (Ze (vs := [pt b1 0, .string b'29]) rfl t_ent_157) (Z55 _ hr313 S310.sub (rs5.mono ((s12.le).trans ((s25.le).trans ((s39.le).trans ((s46.le).trans ((s55.le).trans ((s92.le).trans ((s165.le).trans ((s171.le).trans ((le176).trans ((le200).trans ((le233).trans ((s250.le).trans ((s267.le).trans ((s277.le).trans ((s285.le).trans ((s299.le).trans s308.le))))))))))))))))) ob311) ?_
     have ob318 := ((ob302.step s299 (fun hm => ((((ow241.step s250 (Z4 (ow241.ne_old lt8) Za)).step0 s267).step s277 (Z4 (((ow241.step s250 (Z4 (ow241.ne_old lt8) Za)).step0 s267).ne_obS1 (rs240.mono ((s250.le).trans s267.le)) ob268) Za)).step0 s285).ne_obS (rs240.mono ((s250.le).trans ((s267.le).trans ((s277.le).trans s285.le)))) ob302 _ hm rfl)).step1 s308 ne42)
     have ob319 := ((ob304.step s299 (fun hm => ((((ow241.step s250 (Z4 (ow241.ne_old lt8) Za)).step0 s267).step s277 (Z4 (((ow241.step s250 (Z4 (ow241.ne_old lt8) Za)).step0 s267).ne_obS1 (rs240.mono ((s250.le).trans s267.le)) ob268) Za)).step0 s285).ne_obS (rs240.mono ((s250.le).trans ((s267.le).trans ((s277.le).trans s285.le)))) ob304 _ hm rfl)).step1 s308 (Ne.symm ne271))
     rintro _ w315 ⟨h316, s317, rfl⟩
     have S320 := S310.trans0 s317
     refine Wv rfl (Z3c rfl) <| Wm rfl rfl <| Z3g 49 HF rfl (fun HF => ?_) (fun HF => ?_)
     ·refine Wm rfl rfl ?_
      have ob322 := (ob311.step0 s317)
      obtain ⟨r323, hr324, HF⟩ := Z8 HF
      refine Wc rfl (Ze (vs := [pt b1 0, .string b'26]) rfl t_ent_157) (Z55 _ hr324 S320.sub (rs5.mono ((s12.le).trans ((s25.le).trans ((s39.le).trans ((s46.le).trans ((s55.le).trans ((s92.le).trans ((s165.le).trans ((s171.le).trans ((le176).trans ((le200).trans ((le233).trans ((s250.le).trans ((s267.le).trans ((s277.le).trans ((s285.le).trans ((s299.le).trans ((s308.le).trans s317.le)))))))))))))))))) ob322) ?_
      have ob329 := (ob318.step0 s317)
      have ob330 := (ob309.step0 s317)
      have ob331 := (ob319.step0 s317)
      rintro _ w326 ⟨h327, s328, rfl⟩
      have S332 := S320.trans0 s328
      refine Wv rfl (Z3c rfl) <| Wv rfl (Zh rfl rfl) <| Z7 ?_
      have ob363 := (ob322.step0 s328)
      have ob364 := (ob329.step0 s328)
      have ob365 := (ob330.step0 s328)
      refine Z0g [0, 2, 3, 53] _ rfl ?_
      exact J362 ⟨h327, !r323, xs238 ++ [(Ex.mk r246.1.op r246.1.kind r246.1.n r246.1.s r246.1.f r246.1.args)], v294, HF, rfl, S332, (s317.le).trans s328.le, (rs297.mono ((s308.le).trans ((s317.le).trans s328.le))), (((ow298.step s308 (Z4 (ow298.ne_obS1 rs297 ob306) Za)).step0 s317).step0 s328), ob363, ob364, ob365⟩
     refine Wp rfl <| Wp rfl <| Wp rfl <| Wv rfl (Zg rfl rfl) <| Z7 ?_
     have ob366 := (ob311.step0 s317)
     have ob367 := (ob318.step0 s317)
     have ob368 := (ob309.step0 s317)
     refine Z0g [0, 2, 3, 53] _ rfl ?_
     exact J362 ⟨h316, false, xs238 ++ [(Ex.mk r246.1.op r246.1.kind r246.1.n r246.1.s r246.1.f r246.1.args)], v294, HF, rfl, S320, s317.le, (rs297.mono ((s308.le).trans s317.le)), ((ow298.step s308 (Z4 (ow298.ne_obS1 rs297 ob306) Za)).step0 s317), ob366, ob367, ob368⟩
    intro J369
    refine Zb <| Z1 <| Wv rfl (Z2 rfl Z4i) <| Wv rfl (Zc rfl Z2k (OB.cell ob209 (j := 5) rfl)) ?_
    obtain ⟨A210, c211, rfl, rs212⟩ := RS.form rs207
    refine Wv rfl (Z1n rfl Z0y) <| Wv rfl (Ze7 rfl rfl) <| Z7 <| Z6 <| Z17 HF rfl (fun HF => ?_) (fun HF => ?_)
    ·refine Z1 <| Wm rfl rfl ?_
     obtain ⟨r214, hr215, HF⟩ := Z8 HF
     rcases r214 with t216 | r217
     ·obtain rfl := Z01 HF
      refine Z0i rfl (Ze (vs := [pt b1 0, .string b'29]) rfl Z21) (Zj _ hr215 S201.sub (rs5.mono ((s12.le).trans ((s25.le).trans ((s39.le).trans ((s46.le).trans ((s55.le).trans ((s92.le).trans ((s165.le).trans ((s171.le).trans ((le176).trans le200)))))))))) ob203) ?_
      rintro ch223 w224 ⟨ht225, h226, s227, ob222⟩
      refine Zd <| Zr <| Zd <| Zr <| Zr <| Zd <| Zp ?_
      have S228 := S201.trans s227 (Zn (.inl (by simp)) Z04)
      exact ⟨_, rfl, ht225, h226, S228, ob222⟩
     replace HF := Z0j HF
     refine Wc rfl (Ze (vs := [pt b1 0, .string b'29]) rfl Z21) (Zj _ hr215 S201.sub (rs5.mono ((s12.le).trans ((s25.le).trans ((s39.le).trans ((s46.le).trans ((s55.le).trans ((s92.le).trans ((s165.le).trans ((s171.le).trans ((le176).trans le200)))))))))) ob203) ?_
     rintro v218 w219 ⟨h220, s221, rfl, ob229⟩
     have S230 := S201.trans s221 (Zn (.inl (by simp)) Z04)
     refine Z7 ?_
     have ob370 := (ob204.step1 s221 (Ne.symm ne14))
     have ob371 := (ob209.step1 s221 (Ne.symm ne41))
     refine Z0g [0, 2, 3] _ rfl ?_
     exact J369 ⟨h220, r217, xs205, .slice A210 (xs205).length c211, HF, rfl, S230, s221.le, (rs212.mono (s221.le)), (ow208.step s221 (Z4 (ow208.ne_old lt8) Za)), ob229, ob370, ob371⟩
    refine Zm <| Z0g [0, 2, 3] _ rfl ?_
    exact J369 ⟨h198, x202, xs205, .slice A210 (xs205).length c211, HF, rfl, S201, Hle.refl _, rs212, ow208, ob203, ob204, ob209⟩
   intro J372
   refine Zb <| Z1 <| Wm rfl rfl ?_
   obtain ⟨r189, hr190, HF⟩ := Z8 HF
   refine Wc rfl (Ze (vs := [pt b1 0, .string b'26]) rfl Z4r) (Z0n _ hr190 S177.sub (rs5.mono ((s12.le).trans ((s25.le).trans ((s39.le).trans ((s46.le).trans ((s55.le).trans ((s92.le).trans ((s165.le).trans ((s171.le).trans le176))))))))) ob179) ?_
   rintro _ w192 ⟨h193, s194, rfl, ob195⟩
   have S196 := S177.trans s194 (Zn (.inl (by simp)) Z04)
   refine Wv rfl (Z3c rfl) <| Z7 <| Z6 <| Z17 HF rfl (fun HF => ?_) (fun HF => ?_)
   ·refine Zm ?_
    have ob373 := (ob180.step1 s194 (Ne.symm ne14))
    have ob374 := (ob185.step1 s194 (Ne.symm ne41))
    refine Z0g [0, 2, 3] _ rfl ?_
    exact J372 ⟨h193, r189.2, xs181, v182, HF, rfl, S196, s194.le, (rs183.mono (s194.le)), (ow184.step s194 (Z4 (ow184.ne_old lt8) Za)), ob195, ob373, ob374⟩
   refine Z4x <| Zz <| Zz <| Z1a <| Z0a ?_
   have ob406 := (ob180.step1 s194 (Ne.symm ne14))
   have ob407 := (ob185.step1 s194 (Ne.symm ne41))
   refine Z0g [2, 3] _ rfl ?_
   exact J401 ⟨j186, h193, r189.2, 5, b'47, xs181, v182, (Nat.le_trans (Nat.le_of_succ_le hj188) (Nat.le_refl _)), HF, rfl, S196, (s55.le).trans ((s92.le).trans ((s165.le).trans ((s171.le).trans ((le176).trans s194.le)))), (rs183.mono (s194.le)), (ow184.step s194 (Z4 (ow184.ne_old lt8) Za)), ob195, ob406, ob407⟩
  have ob378 := (ob166.step1 s171 ne41)
  have ob379 := ((((((ob35.step0 s39).step1 s46 ne42).step1 s55 (Ne.symm ne14)).step1 s92 (Ne.symm ne14)).step1 s165 (Ne.symm ne14)).step1 s171 ne42)
  exact ⟨h164, r160.2, ([] : List Ex), .slice none 0 0, HF, rfl, S173, Hle.refl _, (RS.nil _), (Own.nil _ _ _ _ _), ob378, ob379, ob172⟩
 refine Zm <| Z0a ?_
 have ob408 := (((((ob35.step0 s39).step1 s46 ne42).step1 s55 (Ne.symm ne14)).step1 s92 (Ne.symm ne14)).step1 s165 (Ne.symm ne14))
 have ob409 := (((ob47.step1 s55 (Ne.symm ne41)).step1 s92 (Ne.symm ne41)).step1 s165 (Ne.symm ne41))
 refine Z0g [2, 3] _ rfl ?_
 exact J401 ⟨k, h164, r160.2, 2, b'47, ([] : List Ex), .slice none 0 0, (Nat.le_refl _), HF, rfl, S167, (s55.le).trans ((s92.le).trans s165.le), (RS.nil _), (Own.nil _ _ _ _ _), ob166, ob408, ob409⟩
theorem s_parse_Parser_unary (k : Nat) (IH : ∀ j, j ≤ k → Z3k (Zk j).parse_Parser_Expr ∧ Z44 (Zk j).parse_Parser_level ∧ Z41 (Zk j).parse_Parser_named ∧ Z3y (Zk j).parse_Parser_unary) : Z3y (Zdk k (Zk k)) := by
 intro xs3 x6 r HF w0 h0 b1 T2 v4 hs0 rs5 ob7
 have S0 : Stp [b1] w0 h0 w0 h0 := Stp.refl hs0 _
 have lt8 : b1 < w0.heap.size := OB.lt ob7
 refine Z4j (n := 52) Tryz.func138 rfl Tryz.ntmps138 rfl [(0, pt b1 0)] rfl <| Zb <| Z1 <| Z15 (zs := [vi 0, vi 0, vi 0, .string b'47, .string b'47, .slice none 0 0]) rfl rfl Z1t rfl S0.sub (fun w9 b10 hb11 s12 ob13 => ?_)
 have ne14 : b1 ≠ b10 := ob7.ne_new hb11
 have g15 : w0.heap.size ≤ b10 := by rw [hb11]; exact S0.size
 have S16 := S0.trans0 s12
 refine Z7 <| Z6 <| Z09 (fun E w281 => ∃ (h280 : Hp) (x284 : Int), Zcg k (Zk k) xs3 x284 = some r ∧ E = [(0, pt b1 0), (2, pt b10 0)] ∧ Stp [b1] w0 h0 w281 h280 ∧ Hle h0 h280 ∧ OB w281 h280 b1 T2 [v4, vi x284] ∧ OB w281 h280 b10 47 [vi 0, vi 0, vi 0, .string b'47, .string b'47, .slice none 0 0]) ?_ ?_
 ·rintro E w281 ⟨h280, x284, HF, rfl, S283, le282, ob285, ob286⟩
  refine Zb <| Z1 <| Wm rfl rfl ?_
  obtain ⟨r287, hr288, HF⟩ := Z8 HF
  rcases r287 with t289 | r290
  ·obtain rfl := Z01 HF
   refine Z0i rfl (Ze (vs := [pt b1 0]) rfl t_ent_174) ((IH _ (Nat.le_refl _)).2.2.1 hr288 S283.sub (rs5.mono ((s12.le).trans le282)) ob285) ?_
   rintro ch296 w297 ⟨ht298, h299, s300, ob295⟩
   refine Zd <| Zp ?_
   have S301 := S283.trans s300 (Zn (.inl (by simp)) Z04)
   exact ⟨_, rfl, ht298, h299, S301, ob295⟩
  replace HF := Z0j HF
  refine Wc rfl (Ze (vs := [pt b1 0]) rfl t_ent_174) ((IH _ (Nat.le_refl _)).2.2.1 hr288 S283.sub (rs5.mono ((s12.le).trans le282)) ob285) ?_
  rintro _ w292 ⟨h293, s294, ⟨cs302, rfl, r303⟩, ob304⟩
  have S305 := S283.trans s294 (Zn (.inl (by simp)) Z04)
  have ob306 := (ob286.step1 s294 (Ne.symm ne14))
  obtain ⟨v307, rfl, rs308⟩ := Z7n.1 r303
  refine Zo (vs := [vi r290.1.op, vi r290.1.kind, vi r290.1.n, .string r290.1.s, .string r290.1.f, v307]) rfl rfl rfl rfl Zw (Z5 rfl (Z5 rfl (Z5 rfl (Z5 rfl (Z5 rfl (Z5 (RS.one rs308) Zx)))))) ob306 S305.sub (by simp) (ds := [vi r290.1.op, vi r290.1.kind, vi r290.1.n, .string r290.1.s, .string r290.1.f, v307]) rfl (fun w309 s310 ob311 => ?_)
  have S312 := S305.trans1 s310 (.inr g15)
  refine Z7 <| Z6 <| Z00 ?_
  have ob313 := (ob304.step1 s310 ne14)
  refine Z5p rfl rfl (Z11 (cs := [vi r290.1.op, vi r290.1.kind, vi r290.1.n, .string r290.1.s, .string r290.1.f, v307]) Z2a Zw (OB.cells ob311 0 rfl)) ?_
  obtain rfl := Option.some.inj HF
  exact ⟨_, rfl, h293, S312, ⟨_, rfl, (Z7n.2 ⟨_, rfl, (rs308.mono (s310.le))⟩)⟩, ob313⟩
 intro J314
 refine Z0p <| Zb <| Z1 <| Wm rfl rfl ?_
 have ob17 := (ob7.step0 s12)
 obtain ⟨r18, hr19, HF⟩ := Z8 HF
 refine Wc rfl (Ze (vs := [pt b1 0, .string b'13]) rfl Z4r) (Z0n _ hr19 S16.sub (rs5.mono (s12.le)) ob17) ?_
 rintro _ w21 ⟨h22, s23, rfl, ob24⟩
 have S25 := S16.trans s23 (Zn (.inl (by simp)) Z04)
 refine Wa rfl rfl <| Z7 <| Z6 <| Z17 HF rfl (fun HF => ?_) (fun HF => ?_)
 ·refine Zb <| Z1 <| Wm rfl rfl ?_
  obtain ⟨r27, hr28, HF⟩ := Z8 HF
  rcases r27 with t29 | r30
  ·obtain rfl := Z01 HF
   refine Z0i rfl (Ze (vs := [pt b1 0]) rfl t_ent_138) ((IH _ (Nat.le_refl _)).2.2.2 hr28 S25.sub (rs5.mono ((s12.le).trans s23.le)) ob24) ?_
   rintro ch36 w37 ⟨ht38, h39, s40, ob35⟩
   refine Zd <| Zr <| Zd <| Zp ?_
   have S41 := S25.trans s40 (Zn (.inl (by simp)) Z04)
   exact ⟨_, rfl, ht38, h39, S41, ob35⟩
  replace HF := Z0j HF
  refine Wc rfl (Ze (vs := [pt b1 0]) rfl t_ent_138) ((IH _ (Nat.le_refl _)).2.2.2 hr28 S25.sub (rs5.mono ((s12.le).trans s23.le)) ob24) ?_
  rintro _ w32 ⟨h33, s34, ⟨cs42, rfl, r43⟩, ob44⟩
  have S45 := S25.trans s34 (Zn (.inl (by simp)) Z04)
  obtain ⟨v46, rfl, rs47⟩ := Z7n.1 r43
  have ob55 := ((ob13.step1 s23 (Ne.symm ne14)).step1 s34 (Ne.symm ne14))
  refine Z14 (us := [.agg #[vi r30.1.op, vi r30.1.kind, vi r30.1.n, .string r30.1.s, .string r30.1.f, v46]]) (cs := [vi r30.1.op, vi r30.1.kind, vi r30.1.n, .string r30.1.s, .string r30.1.f, v46]) rfl rfl rfl Z0y Zw Z1t rfl (Z4a rfl Zc3) rfl rfl rfl S45.sub (fun w48 h49 b50 hb51 s52 hk53 hc54 => ?_)
  have S56 := S45.trans0 s52
  have rs57 : RS h49 (sl b50 0 1 1) ([r30.1] : List Ex) := RS.litL _ [[vi r30.1.op, vi r30.1.kind, vi r30.1.n, .string r30.1.s, .string r30.1.f, v46]] rfl rfl hc54 ⟨(Z7n.2 ⟨_, rfl, (rs47.mono (s52.le))⟩), trivial⟩
  have ow58 := Own.lit (base := w0.heap.size) (sz := 6) (m := 1) hk53 hc54 (by rw [hb51]; exact S45.size) rfl (by decide)
  refine Wv rfl (Z38 (vs := [(0, vi 6), (5, sl b50 0 1 1)]) (cs := [vi 6, vi 0, vi 0, .string b'47, .string b'47, sl b50 0 1 1]) rfl Z9l Z1t rfl) ?_
  have ob59 := (ob55.step0 s52)
  refine Zo (vs := [vi 6, vi 0, vi 0, .string b'47, .string b'47, sl b50 0 1 1]) rfl rfl rfl rfl Zw (Z5 rfl (Z5 rfl (Z5 rfl (Z5 rfl (Z5 rfl (Z5 rfl Zx)))))) ob59 S56.sub (by simp) (ds := [vi 6, vi 0, vi 0, .string b'47, .string b'47, sl b50 0 1 1]) rfl (fun w60 s61 ob62 => ?_)
  have S63 := S56.trans1 s61 (.inr g15)
  refine Z7 <| Z6 <| Z00 <| Zy <| Zi ?_
  have ob64 := ((ob44.step0 s52).step1 s61 ne14)
  refine Z5p rfl rfl (Z11 (cs := [vi 6, vi 0, vi 0, .string b'47, .string b'47, sl b50 0 1 1]) Z2a Zw (OB.cells ob62 0 rfl)) ?_
  obtain rfl := Option.some.inj HF
  exact ⟨_, rfl, h49, S63, ⟨_, rfl, (Z7n.2 ⟨_, rfl, (rs57.mono (s61.le))⟩)⟩, ob64⟩
 refine Zb <| Z1 <| Wm rfl rfl ?_
 obtain ⟨r65, hr66, HF⟩ := Z8 HF
 refine Wc rfl (Ze (vs := [pt b1 0, .string b'30]) rfl Z4r) (Z0n _ hr66 S25.sub (rs5.mono ((s12.le).trans s23.le)) ob24) ?_
 rintro _ w68 ⟨h69, s70, rfl, ob71⟩
 have S72 := S25.trans s70 (Zn (.inl (by simp)) Z04)
 refine Wa rfl rfl <| Z7 <| Z6 <| Z17 HF rfl (fun HF => ?_) (fun HF => ?_)
 ·refine Zb <| Z1 <| Wm rfl rfl ?_
  obtain ⟨r74, hr75, HF⟩ := Z8 HF
  rcases r74 with t76 | r77
  ·obtain rfl := Z01 HF
   refine Z0i rfl (Ze (vs := [pt b1 0]) rfl t_ent_138) ((IH _ (Nat.le_refl _)).2.2.2 hr75 S72.sub (rs5.mono ((s12.le).trans ((s23.le).trans s70.le))) ob71) ?_
   rintro ch83 w84 ⟨ht85, h86, s87, ob82⟩
   refine Zd <| Zr <| Zd <| Zp ?_
   have S88 := S72.trans s87 (Zn (.inl (by simp)) Z04)
   exact ⟨_, rfl, ht85, h86, S88, ob82⟩
  replace HF := Z0j HF
  refine Wc rfl (Ze (vs := [pt b1 0]) rfl t_ent_138) ((IH _ (Nat.le_refl _)).2.2.2 hr75 S72.sub (rs5.mono ((s12.le).trans ((s23.le).trans s70.le))) ob71) ?_
  rintro _ w79 ⟨h80, s81, ⟨cs89, rfl, r90⟩, ob91⟩
  have S92 := S72.trans s81 (Zn (.inl (by simp)) Z04)
  obtain ⟨v93, rfl, rs94⟩ := Z7n.1 r90
  have ob102 := (((ob13.step1 s23 (Ne.symm ne14)).step1 s70 (Ne.symm ne14)).step1 s81 (Ne.symm ne14))
  refine Z14 (us := [.agg #[vi r77.1.op, vi r77.1.kind, vi r77.1.n, .string r77.1.s, .string r77.1.f, v93]]) (cs := [vi r77.1.op, vi r77.1.kind, vi r77.1.n, .string r77.1.s, .string r77.1.f, v93]) rfl rfl rfl Z0y Zw Z1t rfl (Z4a rfl Zc3) rfl rfl rfl S92.sub (fun w95 h96 b97 hb98 s99 hk100 hc101 => ?_)
  have S103 := S92.trans0 s99
  have rs104 : RS h96 (sl b97 0 1 1) ([r77.1] : List Ex) := RS.litL _ [[vi r77.1.op, vi r77.1.kind, vi r77.1.n, .string r77.1.s, .string r77.1.f, v93]] rfl rfl hc101 ⟨(Z7n.2 ⟨_, rfl, (rs94.mono (s99.le))⟩), trivial⟩
  have ow105 := Own.lit (base := w0.heap.size) (sz := 6) (m := 1) hk100 hc101 (by rw [hb98]; exact S92.size) rfl (by decide)
  refine Wv rfl (Z38 (vs := [(0, vi 7), (5, sl b97 0 1 1)]) (cs := [vi 7, vi 0, vi 0, .string b'47, .string b'47, sl b97 0 1 1]) rfl Z9l Z1t rfl) ?_
  have ob106 := (ob102.step0 s99)
  refine Zo (vs := [vi 7, vi 0, vi 0, .string b'47, .string b'47, sl b97 0 1 1]) rfl rfl rfl rfl Zw (Z5 rfl (Z5 rfl (Z5 rfl (Z5 rfl (Z5 rfl (Z5 rfl Zx)))))) ob106 S103.sub (by simp) (ds := [vi 7, vi 0, vi 0, .string b'47, .string b'47, sl b97 0 1 1]) rfl (fun w107 s108 ob109 => ?_)
  have S110 := S103.trans1 s108 (.inr g15)
  refine Z7 <| Z6 <| Z00 <| Zy <| Zi ?_
  have ob111 := ((ob91.step0 s99).step1 s108 ne14)
  refine Z5p rfl rfl (Z11 (cs := [vi 7, vi 0, vi 0, .string b'47, .string b'47, sl b97 0 1 1]) Z2a Zw (OB.cells ob109 0 rfl)) ?_
  obtain rfl := Option.some.inj HF
  exact ⟨_, rfl, h96, S110, ⟨_, rfl, (Z7n.2 ⟨_, rfl, (rs104.mono (s108.le))⟩)⟩, ob111⟩
 refine Zb <| Z1 <| Wm rfl rfl ?_
 obtain ⟨r112, hr113, HF⟩ := Z8 HF
 refine Wc rfl (Ze (vs := [pt b1 0, .string b'25]) rfl Z4r) (Z0n _ hr113 S72.sub (rs5.mono ((s12.le).trans ((s23.le).trans s70.le))) ob71) ?_
 rintro _ w115 ⟨h116, s117, rfl, ob118⟩
 have S119 := S72.trans s117 (Zn (.inl (by simp)) Z04)
 refine Wa rfl rfl <| Z7 <| Z6 <| Z17 HF rfl (fun HF => ?_) (fun HF => ?_)
 ·refine Zb <| Z1 <| Wm rfl rfl ?_
  obtain ⟨r121, hr122, HF⟩ := Z8 HF
  rcases r121 with t123 | r124
  ·obtain rfl := Z01 HF
   refine Z0i rfl (Ze (vs := [pt b1 0]) rfl Z3e) ((IH _ (Nat.le_refl _)).1 hr122 S119.sub (rs5.mono ((s12.le).trans ((s23.le).trans ((s70.le).trans s117.le)))) ob118) ?_
   rintro ch130 w131 ⟨ht132, h133, s134, ob129⟩
   refine Zd <| Zr <| Zd <| Zp ?_
   have S135 := S119.trans s134 (Zn (.inl (by simp)) Z04)
   exact ⟨_, rfl, ht132, h133, S135, ob129⟩
  replace HF := Z0j HF
  refine Wc rfl (Ze (vs := [pt b1 0]) rfl Z3e) ((IH _ (Nat.le_refl _)).1 hr122 S119.sub (rs5.mono ((s12.le).trans ((s23.le).trans ((s70.le).trans s117.le)))) ob118) ?_
  rintro _ w126 ⟨h127, s128, ⟨cs136, rfl, r137⟩, ob138⟩
  have S139 := S119.trans s128 (Zn (.inl (by simp)) Z04)
  have ob140 := ((((ob13.step1 s23 (Ne.symm ne14)).step1 s70 (Ne.symm ne14)).step1 s117 (Ne.symm ne14)).step1 s128 (Ne.symm ne14))
  refine Z15 (zs := [vi 0, vi 0, vi 0, .string b'47, .string b'47, .slice none 0 0]) rfl rfl Z1t rfl S139.sub (fun w141 b142 hb143 s144 ob145 => ?_)
  have ne146 : b1 ≠ b142 := ob138.ne_new hb143
  have ne147 : b10 ≠ b142 := ob140.ne_new hb143
  have g148 : w0.heap.size ≤ b142 := by rw [hb143]; exact S139.size
  have S149 := S139.trans0 s144
  obtain ⟨v150, rfl, rs151⟩ := Z7n.1 (Rp.mono (s144.le) r137)
  refine Zo (vs := [vi r124.1.op, vi r124.1.kind, vi r124.1.n, .string r124.1.s, .string r124.1.f, v150]) rfl rfl rfl rfl Zw (Z5 rfl (Z5 rfl (Z5 rfl (Z5 rfl (Z5 rfl (Z5 (RS.one rs151) Zx)))))) ob145 S149.sub (by simp) (ds := [vi r124.1.op, vi r124.1.kind, vi r124.1.n, .string r124.1.s, .string r124.1.f, v150]) rfl (fun w152 s153 ob154 => ?_)
  have S155 := S149.trans1 s153 (.inr g148)
  refine Z7 <| Z6 <| Zb <| Z1 <| Wm rfl rfl ?_
  have ob156 := ((ob138.step0 s144).step1 s153 ne146)
  obtain ⟨r157, hr158, HF⟩ := Z8 HF
  rcases r157 with t159 | r160
  ·obtain rfl := Z01 HF
   refine Z0i rfl (Ze (vs := [pt b1 0, .string b'26]) rfl Z21) (Zj _ hr158 S155.sub (rs5.mono ((s12.le).trans ((s23.le).trans ((s70.le).trans ((s117.le).trans ((s128.le).trans ((s144.le).trans s153.le))))))) ob156) ?_
   rintro ch166 w167 ⟨ht168, h169, s170, ob165⟩
   refine Zd <| Zr <| Zd <| Zp ?_
   have S171 := S155.trans s170 (Zn (.inl (by simp)) Z04)
   exact ⟨_, rfl, ht168, h169, S171, ob165⟩
  replace HF := Z0j HF
  refine Wc rfl (Ze (vs := [pt b1 0, .string b'26]) rfl Z21) (Zj _ hr158 S155.sub (rs5.mono ((s12.le).trans ((s23.le).trans ((s70.le).trans ((s117.le).trans ((s128.le).trans ((s144.le).trans s153.le))))))) ob156) ?_
  rintro v161 w162 ⟨h163, s164, rfl, ob172⟩
  have S173 := S155.trans s164 (Zn (.inl (by simp)) Z04)
  refine Z7 <| Z6 <| Zb <| Z1 ?_
  have ob174 := (ob154.step1 s164 (Ne.symm ne146))
  refine Wv rfl (Z16 (cs := [vi r124.1.op, vi r124.1.kind, vi r124.1.n, .string r124.1.s, .string r124.1.f, v150]) rfl Z2a Zw (OB.cells ob174 0 rfl)) ?_
  have ob175 := (((ob140.step0 s144).step1 s153 ne147).step1 s164 (Ne.symm ne14))
  refine Zo (vs := [vi r124.1.op, vi r124.1.kind, vi r124.1.n, .string r124.1.s, .string r124.1.f, v150]) rfl rfl rfl rfl Zw (Z5 rfl (Z5 rfl (Z5 rfl (Z5 rfl (Z5 rfl (Z5 (RS.one (rs151.mono ((s153.le).trans s164.le))) Zx)))))) ob175 S173.sub (by simp) (ds := [vi r124.1.op, vi r124.1.kind, vi r124.1.n, .string r124.1.s, .string r124.1.f, v150]) rfl (fun w176 s177 ob178 => ?_)
  have S179 := S173.trans1 s177 (.inr g15)
  refine Z7 <| Z6 <| Z00 <| Zy <| Zi ?_
  have ob180 := (ob172.step1 s177 ne14)
  refine Z5p rfl rfl (Z11 (cs := [vi r124.1.op, vi r124.1.kind, vi r124.1.n, .string r124.1.s, .string r124.1.f, v150]) Z2a Zw (OB.cells ob178 0 rfl)) ?_
  obtain rfl := Option.some.inj HF
  exact ⟨_, rfl, h163, S179, ⟨_, rfl, (Z7n.2 ⟨_, rfl, (rs151.mono ((s153.le).trans ((s164.le).trans s177.le)))⟩)⟩, ob180⟩
 refine Zb <| Z1 <| Wm rfl rfl ?_
 obtain ⟨r181, hr182, HF⟩ := Z8 HF
 refine Wc rfl (Ze (vs := [pt b1 0, .string b'20]) rfl Z4r) (Z0n _ hr182 S119.sub (rs5.mono ((s12.le).trans ((s23.le).trans ((s70.le).trans s117.le)))) ob118) ?_
 rintro _ w184 ⟨h185, s186, rfl, ob187⟩
 have S188 := S119.trans s186 (Zn (.inl (by simp)) Z04)
 refine Wa rfl rfl <| Z7 <| Z6 <| Z17 HF rfl (fun HF => ?_) (fun HF => ?_)
 ·refine Zb <| Z1 <| Wv rfl (Z38 (vs := [(0, vi 1), (1, vi 1), (2, vi 1)]) (cs := [vi 1, vi 1, vi 1, .string b'47, .string b'47, .slice none 0 0]) rfl Z9l Z1t rfl) ?_
  have ob190 := ((((ob13.step1 s23 (Ne.symm ne14)).step1 s70 (Ne.symm ne14)).step1 s117 (Ne.symm ne14)).step1 s186 (Ne.symm ne14))
  refine Zo (vs := [vi 1, vi 1, vi 1, .string b'47, .string b'47, .slice none 0 0]) rfl rfl rfl rfl Zw (Z5 rfl (Z5 rfl (Z5 rfl (Z5 rfl (Z5 rfl (Z5 rfl Zx)))))) ob190 S188.sub (by simp) (ds := [vi 1, vi 1, vi 1, .string b'47, .string b'47, .slice none 0 0]) rfl (fun w191 s192 ob193 => ?_)
  have S194 := S188.trans1 s192 (.inr g15)
  refine Z7 <| Z6 <| Z00 <| Zy <| Zi ?_
  have ob195 := (ob187.step1 s192 ne14)
  refine Z5p rfl rfl (Z11 (cs := [vi 1, vi 1, vi 1, .string b'47, .string b'47, .slice none 0 0]) Z2a Zw (OB.cells ob193 0 rfl)) ?_
  obtain rfl := Option.some.inj HF
  exact ⟨_, rfl, h185, S194, ⟨_, rfl, (Z7n.2 ⟨_, rfl, (RS.nil _)⟩)⟩, ob195⟩
 refine Zb <| Z1 <| Wm rfl rfl ?_
 obtain ⟨r196, hr197, HF⟩ := Z8 HF
 refine Wc rfl (Ze (vs := [pt b1 0, .string b'10]) rfl Z4r) (Z0n _ hr197 S188.sub (rs5.mono ((s12.le).trans ((s23.le).trans ((s70.le).trans ((s117.le).trans s186.le))))) ob187) ?_
 rintro _ w199 ⟨h200, s201, rfl, ob202⟩
 have S203 := S188.trans s201 (Zn (.inl (by simp)) Z04)
 refine Wa rfl rfl <| Z7 <| Z6 <| Z17 HF rfl (fun HF => ?_) (fun HF => ?_)
 ·refine Zb <| Z1 <| Wv rfl (Z38 (vs := [(0, vi 1), (1, vi 1)]) (cs := [vi 1, vi 1, vi 0, .string b'47, .string b'47, .slice none 0 0]) rfl Z9l Z1t rfl) ?_
  have ob205 := (((((ob13.step1 s23 (Ne.symm ne14)).step1 s70 (Ne.symm ne14)).step1 s117 (Ne.symm ne14)).step1 s186 (Ne.symm ne14)).step1 s201 (Ne.symm ne14))
  refine Zo (vs := [vi 1, vi 1, vi 0, .string b'47, .string b'47, .slice none 0 0]) rfl rfl rfl rfl Zw (Z5 rfl (Z5 rfl (Z5 rfl (Z5 rfl (Z5 rfl (Z5 rfl Zx)))))) ob205 S203.sub (by simp) (ds := [vi 1, vi 1, vi 0, .string b'47, .string b'47, .slice none 0 0]) rfl (fun w206 s207 ob208 => ?_)
  have S209 := S203.trans1 s207 (.inr g15)
  refine Z7 <| Z6 <| Z00 <| Zy <| Zi ?_
  have ob210 := (ob202.step1 s207 ne14)
  refine Z5p rfl rfl (Z11 (cs := [vi 1, vi 1, vi 0, .string b'47, .string b'47, .slice none 0 0]) Z2a Zw (OB.cells ob208 0 rfl)) ?_
  obtain rfl := Option.some.inj HF
  exact ⟨_, rfl, h200, S209, ⟨_, rfl, (Z7n.2 ⟨_, rfl, (RS.nil _)⟩)⟩, ob210⟩
 refine Zb <| Z1 <| Wm rfl rfl ?_
 obtain ⟨r211, hr212, HF⟩ := Z8 HF
 refine Wc rfl (Ze (vs := [pt b1 0]) rfl Z7s) (Z1b _ hr212 S203.sub (rs5.mono ((s12.le).trans ((s23.le).trans ((s70.le).trans ((s117.le).trans ((s186.le).trans s201.le)))))) ob202) ?_
 rintro _ w214 ⟨h215, s216, ⟨cs217, rfl, r218⟩⟩
 have S219 := S203.trans0 s216
 obtain rfl := Z62.1 r218
 refine Wv rfl (Za7 rfl Zd6 Z0f rfl) <| Wv rfl (Z4n rfl rfl) <| Wa rfl rfl <| Z7 <| Z6 <| Z17 HF rfl (fun HF => ?_) (fun HF => ?_)
 ·refine Zb <| Z1 <| Wm rfl rfl ?_
  have ob221 := (ob202.step0 s216)
  obtain ⟨r222, hr223, HF⟩ := Z8 HF
  rcases r222 with t224 | r225
  ·obtain rfl := Z01 HF
   refine Z0i rfl (Ze (vs := [pt b1 0]) rfl Zez) (Z36 _ hr223 S219.sub (rs5.mono ((s12.le).trans ((s23.le).trans ((s70.le).trans ((s117.le).trans ((s186.le).trans ((s201.le).trans s216.le))))))) ob221) ?_
   rintro ch231 w232 ⟨ht233, h234, s235, ob230⟩
   refine Zd <| Zr <| Zd <| Zp ?_
   have S236 := S219.trans s235 (Zn (.inl (by simp)) Z04)
   exact ⟨_, rfl, ht233, h234, S236, ob230⟩
  replace HF := Z0j HF
  refine Wc rfl (Ze (vs := [pt b1 0]) rfl Zez) (Z36 _ hr223 S219.sub (rs5.mono ((s12.le).trans ((s23.le).trans ((s70.le).trans ((s117.le).trans ((s186.le).trans ((s201.le).trans s216.le))))))) ob221) ?_
  rintro _ w227 ⟨h228, s229, rfl, ob237⟩
  have S238 := S219.trans s229 (Zn (.inl (by simp)) Z04)
  refine Wv rfl (Z38 (vs := [(0, vi 1), (1, vi 2), (2, vi r225.1)]) (cs := [vi 1, vi 2, vi r225.1, .string b'47, .string b'47, .slice none 0 0]) rfl Z9l Z1t rfl) ?_
  have ob239 := (((((((ob13.step1 s23 (Ne.symm ne14)).step1 s70 (Ne.symm ne14)).step1 s117 (Ne.symm ne14)).step1 s186 (Ne.symm ne14)).step1 s201 (Ne.symm ne14)).step0 s216).step1 s229 (Ne.symm ne14))
  refine Zo (vs := [vi 1, vi 2, vi r225.1, .string b'47, .string b'47, .slice none 0 0]) rfl rfl rfl rfl Zw (Z5 rfl (Z5 rfl (Z5 rfl (Z5 rfl (Z5 rfl (Z5 rfl Zx)))))) ob239 S238.sub (by simp) (ds := [vi 1, vi 2, vi r225.1, .string b'47, .string b'47, .slice none 0 0]) rfl (fun w240 s241 ob242 => ?_)
  have S243 := S238.trans1 s241 (.inr g15)
  refine Z7 <| Z6 <| Z00 <| Zy <| Zi ?_
  have ob244 := (ob237.step1 s241 ne14)
  refine Z5p rfl rfl (Z11 (cs := [vi 1, vi 2, vi r225.1, .string b'47, .string b'47, .slice none 0 0]) Z2a Zw (OB.cells ob242 0 rfl)) ?_
  obtain rfl := Option.some.inj HF
  exact ⟨_, rfl, h228, S243, ⟨_, rfl, (Z7n.2 ⟨_, rfl, (RS.nil _)⟩)⟩, ob244⟩
 refine Zb <| Z1 <| Wm rfl rfl ?_
 have ob245 := (ob202.step0 s216)
 obtain ⟨r246, hr247, HF⟩ := Z8 HF
 refine Wc rfl (Ze (vs := [pt b1 0]) rfl Z7s) (Z1b _ hr247 S219.sub (rs5.mono ((s12.le).trans ((s23.le).trans ((s70.le).trans ((s117.le).trans ((s186.le).trans ((s201.le).trans s216.le))))))) ob245) ?_
 rintro _ w249 ⟨h250, s251, ⟨cs252, rfl, r253⟩⟩
 have S254 := S219.trans0 s251
 obtain rfl := Z62.1 r253
 refine Wv rfl (Za7 rfl Zd6 Z0f rfl) <| Wv rfl (Z4n rfl rfl) <| Wa rfl rfl <| Z7 <| Z6 <| Z17 HF rfl (fun HF => ?_) (fun HF => ?_)
 ·refine Zb <| Z1 <| Wm rfl rfl ?_
  have ob256 := (ob245.step0 s251)
  obtain ⟨r257, hr258, HF⟩ := Z8 HF
  rcases r257 with t259 | r260
  ·obtain rfl := Z01 HF
   refine Z0i rfl (Ze (vs := [pt b1 0]) rfl t_ent_173) (Zdo _ hr258 S254.sub (rs5.mono ((s12.le).trans ((s23.le).trans ((s70.le).trans ((s117.le).trans ((s186.le).trans ((s201.le).trans ((s216.le).trans s251.le)))))))) ob256) ?_
   rintro ch266 w267 ⟨ht268, h269, s270, ob265⟩
   refine Zd <| Zr <| Zd <| Zp ?_
   have S271 := S254.trans s270 (Zn (.inl (by simp)) Z04)
   exact ⟨_, rfl, ht268, h269, S271, ob265⟩
  replace HF := Z0j HF
  refine Wc rfl (Ze (vs := [pt b1 0]) rfl t_ent_173) (Zdo _ hr258 S254.sub (rs5.mono ((s12.le).trans ((s23.le).trans ((s70.le).trans ((s117.le).trans ((s186.le).trans ((s201.le).trans ((s216.le).trans s251.le)))))))) ob256) ?_
  rintro _ w262 ⟨h263, s264, rfl, ob272⟩
  have S273 := S254.trans s264 (Zn (.inl (by simp)) Z04)
  refine Wv rfl (Z38 (vs := [(0, vi 1), (1, vi 3), (2, vi r260.1)]) (cs := [vi 1, vi 3, vi r260.1, .string b'47, .string b'47, .slice none 0 0]) rfl Z9l Z1t rfl) ?_
  have ob274 := ((((((((ob13.step1 s23 (Ne.symm ne14)).step1 s70 (Ne.symm ne14)).step1 s117 (Ne.symm ne14)).step1 s186 (Ne.symm ne14)).step1 s201 (Ne.symm ne14)).step0 s216).step0 s251).step1 s264 (Ne.symm ne14))
  refine Zo (vs := [vi 1, vi 3, vi r260.1, .string b'47, .string b'47, .slice none 0 0]) rfl rfl rfl rfl Zw (Z5 rfl (Z5 rfl (Z5 rfl (Z5 rfl (Z5 rfl (Z5 rfl Zx)))))) ob274 S273.sub (by simp) (ds := [vi 1, vi 3, vi r260.1, .string b'47, .string b'47, .slice none 0 0]) rfl (fun w275 s276 ob277 => ?_)
  have S278 := S273.trans1 s276 (.inr g15)
  refine Z7 <| Z6 <| Z00 <| Zy <| Zi ?_
  have ob279 := (ob272.step1 s276 ne14)
  refine Z5p rfl rfl (Z11 (cs := [vi 1, vi 3, vi r260.1, .string b'47, .string b'47, .slice none 0 0]) Z2a Zw (OB.cells ob277 0 rfl)) ?_
  obtain rfl := Option.some.inj HF
  exact ⟨_, rfl, h263, S278, ⟨_, rfl, (Z7n.2 ⟨_, rfl, (RS.nil _)⟩)⟩, ob279⟩
 refine Zm <| Z0a ?_
 have ob315 := (ob245.step0 s251)
 have ob316 := (((((((ob13.step1 s23 (Ne.symm ne14)).step1 s70 (Ne.symm ne14)).step1 s117 (Ne.symm ne14)).step1 s186 (Ne.symm ne14)).step1 s201 (Ne.symm ne14)).step0 s216).step0 s251)
 refine Z0g [0, 2] _ rfl ?_
 exact J314 ⟨h250, r196.2, HF, rfl, S254, (s23.le).trans ((s70.le).trans ((s117.le).trans ((s186.le).trans ((s201.le).trans ((s216.le).trans s251.le))))), ob315, ob316⟩
theorem all_parse_Parser_Expr : ∀ k j, j ≤ k → Z3k (Zk j).parse_Parser_Expr ∧ Z44 (Zk j).parse_Parser_level ∧ Z41 (Zk j).parse_Parser_named ∧ Z3y (Zk j).parse_Parser_unary := by
  intro k
  induction k with
  | zero =>
    intro j hj
    obtain rfl : j = 0 := by omega
    exact ⟨(fun _ _ _ => by intro h; cases h), (fun _ _ _ _ => by intro h; cases h), (fun _ _ _ => by intro h; cases h), (fun _ _ _ => by intro h; cases h)⟩
  | succ k ih =>
    intro j hj
    by_cases h : j ≤ k
    · exact ih j h
    · obtain rfl : j = k + 1 := by omega
      exact ⟨s_parse_Parser_Expr k ih, s_parse_Parser_level k ih, s_parse_Parser_named k ih, s_parse_Parser_unary k ih⟩
theorem Z05 (k : Nat) : Z3k (Z1z k) := (all_parse_Parser_Expr k k (Nat.le_refl _)).1
def Zco (φ : (List Tok) → Int → Option (List (ByteArray × Int))) : Prop := ∀ ⦃xs3 : List Tok⦄ ⦃x6 : Int⦄ ⦃r : List (ByteArray × Int)⦄, φ xs3 x6 = some r → ∀ ⦃w0 : World⦄ ⦃h0 : Hp⦄ ⦃b1 : Nat⦄ ⦃T2 : Nat⦄ ⦃v4 : Value⦄, Sub h0 w0 → RS h0 v4 xs3 → OB w0 h0 b1 T2 [v4, .int .i64 x6] →
  Calls Tryz.prog 56 #[.pointer (some ⟨b1, 0, none⟩)] w0 fun e w1 => ∃ v, e = .returned v ∧ ∃ h1, Stp [] w0 h0 w1 h1 ∧ RM (fnT b1) h1 v r
theorem s_parse_Parser_starts (k : Nat) : Zco (Z8v k) := by
 intro xs3 x6 r HF w0 h0 b1 T2 v4 hs0 rs5 ob7
 have S0 : Stp [] w0 h0 w0 h0 := Stp.refl hs0 _
 have lt8 : b1 < w0.heap.size := OB.lt ob7
 refine Z4j (n := 15) Tryz.func56 rfl Tryz.ntmps56 rfl [(0, pt b1 0)] rfl <| Zb <| Z1 <| Wa rfl rfl <| Z7 <| Z6 <| Zb <| Z1 <| Zbu rfl rfl S0.sub (fun w9 b10 hb11 s12 ob13 => ?_)
 have ne14 : b1 ≠ b10 := ob7.ne_new hb11
 have g15 : w0.heap.size ≤ b10 := by rw [hb11]; exact S0.size
 have S16 := S0.trans0 s12
 refine Wm rfl rfl <| Wv rfl (Z51 (us := [pt b1 0]) (vs := []) rfl rfl) <| Z47 rfl rfl rfl rfl Zcz Z08 (.inl rfl) ob13 S16.sub rfl (fun w17 s18 ob19 => ?_)
 have S20 := S16.trans1 s18 (.inr g15)
 refine Wm rfl rfl <| Wv rfl (Z51 (us := [pt b1 0]) (vs := []) rfl rfl) <| Z47 rfl rfl rfl rfl Zcz Z08 (.inl rfl) ob19 S20.sub rfl (fun w21 s22 ob23 => ?_)
 have S24 := S20.trans1 s22 (.inr g15)
 refine Wm rfl rfl <| Wv rfl (Z51 (us := [pt b1 0]) (vs := []) rfl rfl) <| Z47 rfl rfl rfl rfl Zcz Z08 (.inl rfl) ob23 S24.sub rfl (fun w25 s26 ob27 => ?_)
 have S28 := S24.trans1 s26 (.inr g15)
 refine Wm rfl rfl <| Wv rfl (Z51 (us := [pt b1 0]) (vs := []) rfl rfl) <| Z47 rfl rfl rfl rfl Zcz Z08 (.inl rfl) ob27 S28.sub rfl (fun w29 s30 ob31 => ?_)
 have S32 := S28.trans1 s30 (.inr g15)
 refine Wm rfl rfl <| Wv rfl (Z51 (us := [pt b1 0]) (vs := []) rfl rfl) <| Z47 rfl rfl rfl rfl Zcz Z08 (.inl rfl) ob31 S32.sub rfl (fun w33 s34 ob35 => ?_)
 have S36 := S32.trans1 s34 (.inr g15)
 refine Z47 rfl rfl rfl rfl Zcz Z08 (.inl rfl) ob35 S36.sub rfl (fun w37 s38 ob39 => ?_)
 have S40 := S36.trans1 s38 (.inr g15)
 refine Z47 rfl rfl rfl rfl Zcz Z08 (.inl rfl) ob39 S40.sub rfl (fun w41 s42 ob43 => ?_)
 have S44 := S40.trans1 s42 (.inr g15)
 refine Wm rfl rfl <| Wa rfl rfl <| Z7 <| Z6 <| Z00 ?_
 obtain ⟨h45, s46, rm47⟩ := MB.freeze (evl := (fnT b1)) (T := ([(b'11, 1), (b'46, 2), (b'9, 3), (b'23, 4), (b'16, 5), (b'8, 6), (b'17, 7)] : List (ByteArray × Int))) ob43 S44.sub
 have S48 := S44.trans1 s46 (.inr g15)
 refine Zt rfl rfl ?_
 obtain rfl := Option.some.inj HF
 exact ⟨_, rfl, h45, S48, rm47⟩
theorem ok_parse_Parser_starts (k : Nat) : Zco (Z8v k) := s_parse_Parser_starts k
def Z6f (φ : (List Tok) → Int → Option (Except (Int × Int × Int) (List ByteArray × List Ex × Int))) : Prop := ∀ ⦃xs3 : List Tok⦄ ⦃x6 : Int⦄ ⦃r : Except (Int × Int × Int) (List ByteArray × List Ex × Int)⦄, φ xs3 x6 = some r → ∀ ⦃w0 : World⦄ ⦃h0 : Hp⦄ ⦃b1 : Nat⦄ ⦃T2 : Nat⦄ ⦃v4 : Value⦄, Sub h0 w0 → RS h0 v4 xs3 → OB w0 h0 b1 T2 [v4, .int .i64 x6] →
  Calls Tryz.prog 110 #[.pointer (some ⟨b1, 0, none⟩)] w0 fun e w1 => match r with | .ok r => ∃ v, e = .returned v ∧ ∃ h1, Stp [b1] w0 h0 w1 h1 ∧ (∃ u0 u1 : Value, v = .tuple #[u0, u1] ∧ (RS h1 u0 r.1) ∧ (RS h1 u1 r.2.1)) ∧ (OB w1 h1 b1 T2 [v4, .int .i64 r.2.2]) | .error t => ∃ ch, e = .panicked ch ∧ Z8l 138 t.1 t.2.1 ch ∧ ∃ h1, Stp [b1] w0 h0 w1 h1 ∧ (OB w1 h1 b1 T2 [v4, .int .i64 t.2.2])
theorem s_parse_Parser_Inputs (k : Nat) (IH : ∀ j, j ≤ k → Z6f (Z1l j).parse_Parser_Inputs) : Z6f (Zch k (Z1l k)) := by
 intro xs3 x6 r HF w0 h0 b1 T2 v4 hs0 rs5 ob7
 have S0 : Stp [b1] w0 h0 w0 h0 := Stp.refl hs0 _
 have lt8 : b1 < w0.heap.size := OB.lt ob7
 refine Z4j (n := 40) Tryz.func110 rfl Tryz.ntmps110 rfl [(0, pt b1 0)] rfl <| Zb <| Z1 <| Wa rfl rfl <| Wa rfl rfl <| Z7 <| Z6 <| Zb <| Z1 <| Wa rfl rfl <| Z7 <| Z6 <| Zb <| Z1 <| Wa rfl rfl <| Z7 <| Z6 <| Zb <| Z0p <| Z4m <| Z7y [0, 4, 5] [(0, pt b1 0), (4, .slice none 0 0), (5, .slice none 0 0)] rfl <| Z4k (K := k) (fun j E w10 => ∃ (h9 : Hp) (xs13 : List ByteArray) (v14 : Value) (xs17 : List Ex) (v18 : Value) (x21 : Int), (Z1l j).parse_Parser_Inputs_l1 xs3 xs13 xs17 x21 = some r ∧ E = [(0, pt b1 0), (4, v14), (5, v18)] ∧ Stp [b1] w0 h0 w10 h9 ∧ Hle h0 h9 ∧ RS h9 v14 xs13 ∧ Own w10 h9 w0.heap.size 9 1 v14 xs13.length ∧ RS h9 v18 xs17 ∧ Own w10 h9 w0.heap.size 47 6 v18 xs17.length ∧ OB w10 h9 b1 T2 [v4, vi x21]) ?_ ?_ (j := k) (Nat.le_refl _) ?_
 ·rintro E w10 ⟨_, _, _, _, _, _, HF, _⟩; cases HF
 ·rintro j23 hj25 IHL24 E w10 ⟨h9, xs13, v14, xs17, v18, x21, HF, rfl, S12, le11, rs15, ow16, rs19, ow20, ob22⟩
  refine Z09 (fun E w36 => ∃ (h35 : Hp) (xs39 : List ByteArray) (v40 : Value) (xs43 : List Ex) (v44 : Value) (x47 : Int), Zbr j23 (Z1l j23) xs3 xs39 xs43 x47 = some r ∧ E = [(0, pt b1 0), (4, v40), (5, v44)] ∧ Stp [b1] w0 h0 w36 h35 ∧ Hle h9 h35 ∧ RS h35 v40 xs39 ∧ Own w36 h35 w0.heap.size 9 1 v40 xs39.length ∧ RS h35 v44 xs43 ∧ Own w36 h35 w0.heap.size 47 6 v44 xs43.length ∧ OB w36 h35 b1 T2 [v4, vi x47]) ?_ ?_
  ·rintro E w36 ⟨h35, xs39, v40, xs43, v44, x47, HF, rfl, S38, le37, rs41, ow42, rs45, ow46, ob48⟩
   refine Z0p <| Z09 (fun E w71 => ∃ (h70 : Hp) (xs74 : List ByteArray) (v75 : Value) (xs78 : List Ex) (v79 : Value) (x82 : Int), Z89 j23 (Z1l j23) xs3 xs74 xs78 x82 = some r ∧ E = [(0, pt b1 0), (4, v75), (5, v79)] ∧ Stp [b1] w0 h0 w71 h70 ∧ Hle h35 h70 ∧ RS h70 v75 xs74 ∧ Own w71 h70 w0.heap.size 9 1 v75 xs74.length ∧ RS h70 v79 xs78 ∧ Own w71 h70 w0.heap.size 47 6 v79 xs78.length ∧ OB w71 h70 b1 T2 [v4, vi x82]) ?_ ?_
   ·rintro E w71 ⟨h70, xs74, v75, xs78, v79, x82, HF, rfl, S73, le72, rs76, ow77, rs80, ow81, ob83⟩
    refine Zb <| Z1 <| Wm rfl rfl ?_
    obtain ⟨r84, hr85, HF⟩ := Z8 HF
    rcases r84 with t86 | r87
    ·obtain rfl := Z01 HF
     refine Z0i rfl (Ze (vs := [pt b1 0]) rfl Zbe) (Z24 _ hr85 S73.sub (rs5.mono ((le11).trans ((le37).trans le72))) ob83) ?_
     rintro ch93 w94 ⟨ht95, h96, s97, ob92⟩
     refine Zd <| Zr <| Zd <| Zr <| Zd <| Zp ?_
     have S98 := S73.trans s97 (Zn (.inl (by simp)) Z04)
     exact ⟨_, rfl, ht95, h96, S98, ob92⟩
    replace HF := Z0j HF
    refine Wc rfl (Ze (vs := [pt b1 0]) rfl Zbe) (Z24 _ hr85 S73.sub (rs5.mono ((le11).trans ((le37).trans le72))) ob83) ?_
    rintro _ w89 ⟨h90, s91, rfl, ob99⟩
    have S100 := S73.trans s91 (Zn (.inl (by simp)) Z04)
    refine Wa rfl rfl <| Z7 <| Z6 <| Zb <| Z1 <| Wm rfl rfl ?_
    obtain ⟨r101, hr102, HF⟩ := Z8 HF
    rcases r101 with t103 | r104
    ·obtain rfl := Z01 HF
     refine Z0i rfl (Ze (vs := [pt b1 0, .string b'33]) rfl Z21) (Zj _ hr102 S100.sub (rs5.mono ((le11).trans ((le37).trans ((le72).trans s91.le)))) ob99) ?_
     rintro ch110 w111 ⟨ht112, h113, s114, ob109⟩
     refine Zd <| Zr <| Zd <| Zr <| Zd <| Zp ?_
     have S115 := S100.trans s114 (Zn (.inl (by simp)) Z04)
     exact ⟨_, rfl, ht112, h113, S115, ob109⟩
    replace HF := Z0j HF
    refine Wc rfl (Ze (vs := [pt b1 0, .string b'33]) rfl Z21) (Zj _ hr102 S100.sub (rs5.mono ((le11).trans ((le37).trans ((le72).trans s91.le)))) ob99) ?_
    rintro v105 w106 ⟨h107, s108, rfl, ob116⟩
    have S117 := S100.trans s108 (Zn (.inl (by simp)) Z04)
    refine Z7 <| Z6 <| Zb <| Z1 <| Wm rfl rfl <| Wm rfl rfl <| Z14 (us := [.string r87.1]) (cs := [.string r87.1]) rfl rfl rfl Z3u t_size_9 t_zero_9 rfl (Z4a rfl Zc3) rfl rfl rfl S117.sub (fun w118 h119 b120 hb121 s122 hk123 hc124 => ?_)
    have S125 := S117.trans0 s122
    have rs126 : RS h119 (sl b120 0 1 1) ([r87.1] : List ByteArray) := RS.litL _ [[.string r87.1]] rfl rfl hc124 ⟨rfl, trivial⟩
    have ow127 := Own.lit (base := w0.heap.size) (sz := 1) (m := 1) hk123 hc124 (by rw [hb121]; exact S117.size) rfl (by decide)
    obtain ⟨hl128, HF⟩ := Zdu HF
    have ob136 := (ob116.step0 s122)
    refine Zeb (xs := (xs74 : List ByteArray)) (ys := [r87.1]) rfl rfl rfl rfl Z3u t_size_9 t_zero_9 rfl t_bytes_9 rfl (((ow77.step s91 (Z4 (ow77.ne_old lt8) Za)).step s108 (Z4 ((ow77.step s91 (Z4 (ow77.ne_old lt8) Za)).ne_old lt8) Za)).step0 s122) (rs76.mono ((s91.le).trans ((s108.le).trans s122.le))) rs126 hl128 S125.sub S125.size (by rw [S125.eqb]; exact hs0.big) (fun v129 w130 h131 rs132 ow133 s134 at135 => ?_)
    have S137 := S125.trans s134 (fun i hi => .inr ((((ow77.step s91 (Z4 (ow77.ne_old lt8) Za)).step s108 (Z4 ((ow77.step s91 (Z4 (ow77.ne_old lt8) Za)).ne_old lt8) Za)).step0 s122).base_le i hi))
    refine Wa rfl rfl <| Z7 <| Z6 <| Zb <| Z1 <| Wm rfl rfl <| Wm rfl rfl ?_
    have ob138 := (ob136.step s134 (fun hm => absurd ((((ow77.step s91 (Z4 (ow77.ne_old lt8) Za)).step s108 (Z4 ((ow77.step s91 (Z4 (ow77.ne_old lt8) Za)).ne_old lt8) Za)).step0 s122).base_le _ hm) (Nat.not_le.2 lt8)))
    obtain ⟨r139, hr140, HF⟩ := Z8 HF
    rcases r139 with t141 | r142
    ·obtain rfl := Z01 HF
     refine Z0i rfl (Ze (vs := [pt b1 0]) rfl Z3e) (Z05 _ hr140 S137.sub (rs5.mono ((le11).trans ((le37).trans ((le72).trans ((s91.le).trans ((s108.le).trans ((s122.le).trans s134.le))))))) ob138) ?_
     rintro ch148 w149 ⟨ht150, h151, s152, ob147⟩
     refine Zd <| Zr <| Zd <| Zr <| Zd <| Zp ?_
     have S153 := S137.trans s152 (Zn (.inl (by simp)) Z04)
     exact ⟨_, rfl, ht150, h151, S153, ob147⟩
    replace HF := Z0j HF
    refine Wc rfl (Ze (vs := [pt b1 0]) rfl Z3e) (Z05 _ hr140 S137.sub (rs5.mono ((le11).trans ((le37).trans ((le72).trans ((s91.le).trans ((s108.le).trans ((s122.le).trans s134.le))))))) ob138) ?_
    rintro _ w144 ⟨h145, s146, ⟨cs154, rfl, r155⟩, ob156⟩
    have S157 := S137.trans s146 (Zn (.inl (by simp)) Z04)
    obtain ⟨v158, rfl, rs159⟩ := Z7n.1 r155
    refine Z14 (us := [.agg #[vi r142.1.op, vi r142.1.kind, vi r142.1.n, .string r142.1.s, .string r142.1.f, v158]]) (cs := [vi r142.1.op, vi r142.1.kind, vi r142.1.n, .string r142.1.s, .string r142.1.f, v158]) rfl rfl rfl Z0y Zw Z1t rfl (Z4a rfl Zc3) rfl rfl rfl S157.sub (fun w160 h161 b162 hb163 s164 hk165 hc166 => ?_)
    have S167 := S157.trans0 s164
    have rs168 : RS h161 (sl b162 0 1 1) ([r142.1] : List Ex) := RS.litL _ [[vi r142.1.op, vi r142.1.kind, vi r142.1.n, .string r142.1.s, .string r142.1.f, v158]] rfl rfl hc166 ⟨(Z7n.2 ⟨_, rfl, (rs159.mono (s164.le))⟩), trivial⟩
    have ow169 := Own.lit (base := w0.heap.size) (sz := 6) (m := 1) hk165 hc166 (by rw [hb163]; exact S157.size) rfl (by decide)
    obtain ⟨hl170, HF⟩ := Zdu HF
    have ob178 := (ob156.step0 s164)
    refine Zeb (xs := (xs78 : List Ex)) (ys := [r142.1]) rfl rfl rfl rfl Z0y Zw Z1t rfl t_bytes_47 rfl ((((((ow81.step s91 (Z4 (ow81.ne_old lt8) Za)).step s108 (Z4 ((ow81.step s91 (Z4 (ow81.ne_old lt8) Za)).ne_old lt8) Za)).step0 s122).step s134 ((((ow81.step s91 (Z4 (ow81.ne_old lt8) Za)).step s108 (Z4 ((ow81.step s91 (Z4 (ow81.ne_old lt8) Za)).ne_old lt8) Za)).step0 s122).ne_own (((ow77.step s91 (Z4 (ow77.ne_old lt8) Za)).step s108 (Z4 ((ow77.step s91 (Z4 (ow77.ne_old lt8) Za)).ne_old lt8) Za)).step0 s122) (by decide))).step s146 (Z4 (((((ow81.step s91 (Z4 (ow81.ne_old lt8) Za)).step s108 (Z4 ((ow81.step s91 (Z4 (ow81.ne_old lt8) Za)).ne_old lt8) Za)).step0 s122).step s134 ((((ow81.step s91 (Z4 (ow81.ne_old lt8) Za)).step s108 (Z4 ((ow81.step s91 (Z4 (ow81.ne_old lt8) Za)).ne_old lt8) Za)).step0 s122).ne_own (((ow77.step s91 (Z4 (ow77.ne_old lt8) Za)).step s108 (Z4 ((ow77.step s91 (Z4 (ow77.ne_old lt8) Za)).ne_old lt8) Za)).step0 s122) (by decide))).ne_old lt8) Za)).step0 s164) (rs80.mono ((s91.le).trans ((s108.le).trans ((s122.le).trans ((s134.le).trans ((s146.le).trans s164.le)))))) rs168 hl170 S167.sub S167.size (by rw [S167.eqb]; exact hs0.big) (fun v171 w172 h173 rs174 ow175 s176 at177 => ?_)
    have S179 := S167.trans s176 (fun i hi => .inr (((((((ow81.step s91 (Z4 (ow81.ne_old lt8) Za)).step s108 (Z4 ((ow81.step s91 (Z4 (ow81.ne_old lt8) Za)).ne_old lt8) Za)).step0 s122).step s134 ((((ow81.step s91 (Z4 (ow81.ne_old lt8) Za)).step s108 (Z4 ((ow81.step s91 (Z4 (ow81.ne_old lt8) Za)).ne_old lt8) Za)).step0 s122).ne_own (((ow77.step s91 (Z4 (ow77.ne_old lt8) Za)).step s108 (Z4 ((ow77.step s91 (Z4 (ow77.ne_old lt8) Za)).ne_old lt8) Za)).step0 s122) (by decide))).step s146 (Z4 (((((ow81.step s91 (Z4 (ow81.ne_old lt8) Za)).step s108 (Z4 ((ow81.step s91 (Z4 (ow81.ne_old lt8) Za)).ne_old lt8) Za)).step0 s122).step s134 ((((ow81.step s91 (Z4 (ow81.ne_old lt8) Za)).step s108 (Z4 ((ow81.step s91 (Z4 (ow81.ne_old lt8) Za)).ne_old lt8) Za)).step0 s122).ne_own (((ow77.step s91 (Z4 (ow77.ne_old lt8) Za)).step s108 (Z4 ((ow77.step s91 (Z4 (ow77.ne_old lt8) Za)).ne_old lt8) Za)).step0 s122) (by decide))).ne_old lt8) Za)).step0 s164).base_le i hi))
    refine Wa rfl rfl <| Z7 <| Z6 <| Z09 (fun E w198 => ∃ (h197 : Hp) (xs201 : List ByteArray) (v202 : Value) (xs205 : List Ex) (v206 : Value) (x209 : Bool), Z86 j23 (Z1l j23) xs3 r142 xs201 xs205 x209 = some r ∧ E = [(0, pt b1 0), (4, v202), (5, v206), (35, .bool x209)] ∧ Stp [b1] w0 h0 w198 h197 ∧ Hle h173 h197 ∧ RS h197 v202 xs201 ∧ Own w198 h197 w0.heap.size 9 1 v202 xs201.length ∧ RS h197 v206 xs205 ∧ Own w198 h197 w0.heap.size 47 6 v206 xs205.length ∧ OB w198 h197 b1 T2 [v4, vi r142.2]) ?_ ?_
    ·rintro E w198 ⟨h197, xs201, v202, xs205, v206, x209, HF, rfl, S200, le199, rs203, ow204, rs207, ow208, ob210⟩
     refine Z17 HF rfl (fun HF => ?_) (fun HF => ?_)
     ·refine Z1 <| Wm rfl rfl ?_
      obtain ⟨r212, hr213, HF⟩ := Z8 HF
      rcases r212 with t214 | r215
      ·obtain rfl := Z01 HF
       refine Z0i rfl (Ze (vs := [pt b1 0]) rfl Z98) (Z1m _ hr213 S200.sub (rs5.mono ((le11).trans ((le37).trans ((le72).trans ((s91.le).trans ((s108.le).trans ((s122.le).trans ((s134.le).trans ((s146.le).trans ((s164.le).trans ((s176.le).trans le199))))))))))) ob210) ?_
       rintro ch220 w221 ⟨ht222, h223, s224⟩
       refine Zr <| Zd <| Zr <| Zd <| Zp ?_
       have S225 := S200.trans0 s224
       have ob226 := (ob210.step0 s224)
       exact ⟨_, rfl, ht222, h223, S225, ob226⟩
      replace HF := Z0j HF
      refine Wc rfl (Ze (vs := [pt b1 0]) rfl Z98) (Z1m _ hr213 S200.sub (rs5.mono ((le11).trans ((le37).trans ((le72).trans ((s91.le).trans ((s108.le).trans ((s122.le).trans ((s134.le).trans ((s146.le).trans ((s164.le).trans ((s176.le).trans le199))))))))))) ob210) ?_
      rintro v216 w217 ⟨h218, s219, rfl⟩
      have S227 := S200.trans0 s219
      refine Z7 <| Z0a ?_
      have ob233 := (ob210.step0 s219)
      refine Z2c <| Z7y [0, 4, 5] [(0, pt b1 0), (4, v202), (5, v206)] rfl ?_
      exact IHL24 j23 (Nat.le_refl _) _ _ ⟨h218, xs201, v202, xs205, v206, r142.2, HF, rfl, S227, (le11).trans ((le37).trans ((le72).trans ((s91.le).trans ((s108.le).trans ((s122.le).trans ((s134.le).trans ((s146.le).trans ((s164.le).trans ((s176.le).trans ((le199).trans s219.le)))))))))), (rs203.mono (s219.le)), (ow204.step0 s219), (rs207.mono (s219.le)), (ow208.step0 s219), ob233⟩
     refine Zm <| Z0a <| Z2c <| Z7y [0, 4, 5] [(0, pt b1 0), (4, v202), (5, v206)] rfl ?_
     exact IHL24 j23 (Nat.le_refl _) _ _ ⟨h197, xs201, v202, xs205, v206, r142.2, HF, rfl, S200, (le11).trans ((le37).trans ((le72).trans ((s91.le).trans ((s108.le).trans ((s122.le).trans ((s134.le).trans ((s146.le).trans ((s164.le).trans ((s176.le).trans le199))))))))), rs203, ow204, rs207, ow208, ob210⟩
    intro J228
    refine Z1 <| Wm rfl rfl ?_
    have ob180 := (ob178.step s176 (fun hm => absurd (((((((ow81.step s91 (Z4 (ow81.ne_old lt8) Za)).step s108 (Z4 ((ow81.step s91 (Z4 (ow81.ne_old lt8) Za)).ne_old lt8) Za)).step0 s122).step s134 ((((ow81.step s91 (Z4 (ow81.ne_old lt8) Za)).step s108 (Z4 ((ow81.step s91 (Z4 (ow81.ne_old lt8) Za)).ne_old lt8) Za)).step0 s122).ne_own (((ow77.step s91 (Z4 (ow77.ne_old lt8) Za)).step s108 (Z4 ((ow77.step s91 (Z4 (ow77.ne_old lt8) Za)).ne_old lt8) Za)).step0 s122) (by decide))).step s146 (Z4 (((((ow81.step s91 (Z4 (ow81.ne_old lt8) Za)).step s108 (Z4 ((ow81.step s91 (Z4 (ow81.ne_old lt8) Za)).ne_old lt8) Za)).step0 s122).step s134 ((((ow81.step s91 (Z4 (ow81.ne_old lt8) Za)).step s108 (Z4 ((ow81.step s91 (Z4 (ow81.ne_old lt8) Za)).ne_old lt8) Za)).step0 s122).ne_own (((ow77.step s91 (Z4 (ow77.ne_old lt8) Za)).step s108 (Z4 ((ow77.step s91 (Z4 (ow77.ne_old lt8) Za)).ne_old lt8) Za)).step0 s122) (by decide))).ne_old lt8) Za)).step0 s164).base_le _ hm) (Nat.not_le.2 lt8)))
    obtain ⟨r181, hr182, HF⟩ := Z8 HF
    refine Wc rfl (Ze (vs := [pt b1 0, .string b'29]) rfl t_ent_157) (Z55 _ hr182 S179.sub (rs5.mono ((le11).trans ((le37).trans ((le72).trans ((s91.le).trans ((s108.le).trans ((s122.le).trans ((s134.le).trans ((s146.le).trans ((s164.le).trans s176.le)))))))))) ob180) ?_
    rintro _ w184 ⟨h185, s186, rfl⟩
    have S187 := S179.trans0 s186
    refine Wv rfl (Z3c rfl) <| Wm rfl rfl <| Z3g 31 HF rfl (fun HF => ?_) (fun HF => ?_)
    ·refine Wm rfl rfl ?_
     have ob189 := (ob180.step0 s186)
     obtain ⟨r190, hr191, HF⟩ := Z8 HF
     refine Wc rfl (Ze (vs := [pt b1 0, .string b'26]) rfl t_ent_157) (Z55 _ hr191 S187.sub (rs5.mono ((le11).trans ((le37).trans ((le72).trans ((s91.le).trans ((s108.le).trans ((s122.le).trans ((s134.le).trans ((s146.le).trans ((s164.le).trans ((s176.le).trans s186.le))))))))))) ob189) ?_
     rintro _ w193 ⟨h194, s195, rfl⟩
     have S196 := S187.trans0 s195
     refine Wv rfl (Z3c rfl) <| Wv rfl (Zh rfl rfl) <| Z7 ?_
     have ob229 := (ob189.step0 s195)
     refine Z0g [0, 4, 5, 35] _ rfl ?_
     exact J228 ⟨h194, xs74 ++ [r87.1], v129, xs78 ++ [r142.1], v171, !r190, HF, rfl, S196, (s186.le).trans s195.le, (rs132.mono ((s146.le).trans ((s164.le).trans ((s176.le).trans ((s186.le).trans s195.le))))), (((((ow133.step s146 (Z4 (ow133.ne_old lt8) Za)).step0 s164).step s176 (((ow133.step s146 (Z4 (ow133.ne_old lt8) Za)).step0 s164).ne_own ((((((ow81.step s91 (Z4 (ow81.ne_old lt8) Za)).step s108 (Z4 ((ow81.step s91 (Z4 (ow81.ne_old lt8) Za)).ne_old lt8) Za)).step0 s122).step s134 ((((ow81.step s91 (Z4 (ow81.ne_old lt8) Za)).step s108 (Z4 ((ow81.step s91 (Z4 (ow81.ne_old lt8) Za)).ne_old lt8) Za)).step0 s122).ne_own (((ow77.step s91 (Z4 (ow77.ne_old lt8) Za)).step s108 (Z4 ((ow77.step s91 (Z4 (ow77.ne_old lt8) Za)).ne_old lt8) Za)).step0 s122) (by decide))).step s146 (Z4 (((((ow81.step s91 (Z4 (ow81.ne_old lt8) Za)).step s108 (Z4 ((ow81.step s91 (Z4 (ow81.ne_old lt8) Za)).ne_old lt8) Za)).step0 s122).step s134 ((((ow81.step s91 (Z4 (ow81.ne_old lt8) Za)).step s108 (Z4 ((ow81.step s91 (Z4 (ow81.ne_old lt8) Za)).ne_old lt8) Za)).step0 s122).ne_own (((ow77.step s91 (Z4 (ow77.ne_old lt8) Za)).step s108 (Z4 ((ow77.step s91 (Z4 (ow77.ne_old lt8) Za)).ne_old lt8) Za)).step0 s122) (by decide))).ne_old lt8) Za)).step0 s164) (by decide))).step0 s186).step0 s195), (rs174.mono ((s186.le).trans s195.le)), ((ow175.step0 s186).step0 s195), ob229⟩
    refine Wp rfl <| Wp rfl <| Wp rfl <| Wv rfl (Zg rfl rfl) <| Z7 ?_
    have ob230 := (ob180.step0 s186)
    refine Z0g [0, 4, 5, 35] _ rfl ?_
    exact J228 ⟨h185, xs74 ++ [r87.1], v129, xs78 ++ [r142.1], v171, false, HF, rfl, S187, s186.le, (rs132.mono ((s146.le).trans ((s164.le).trans ((s176.le).trans s186.le)))), ((((ow133.step s146 (Z4 (ow133.ne_old lt8) Za)).step0 s164).step s176 (((ow133.step s146 (Z4 (ow133.ne_old lt8) Za)).step0 s164).ne_own ((((((ow81.step s91 (Z4 (ow81.ne_old lt8) Za)).step s108 (Z4 ((ow81.step s91 (Z4 (ow81.ne_old lt8) Za)).ne_old lt8) Za)).step0 s122).step s134 ((((ow81.step s91 (Z4 (ow81.ne_old lt8) Za)).step s108 (Z4 ((ow81.step s91 (Z4 (ow81.ne_old lt8) Za)).ne_old lt8) Za)).step0 s122).ne_own (((ow77.step s91 (Z4 (ow77.ne_old lt8) Za)).step s108 (Z4 ((ow77.step s91 (Z4 (ow77.ne_old lt8) Za)).ne_old lt8) Za)).step0 s122) (by decide))).step s146 (Z4 (((((ow81.step s91 (Z4 (ow81.ne_old lt8) Za)).step s108 (Z4 ((ow81.step s91 (Z4 (ow81.ne_old lt8) Za)).ne_old lt8) Za)).step0 s122).step s134 ((((ow81.step s91 (Z4 (ow81.ne_old lt8) Za)).step s108 (Z4 ((ow81.step s91 (Z4 (ow81.ne_old lt8) Za)).ne_old lt8) Za)).step0 s122).ne_own (((ow77.step s91 (Z4 (ow77.ne_old lt8) Za)).step s108 (Z4 ((ow77.step s91 (Z4 (ow77.ne_old lt8) Za)).ne_old lt8) Za)).step0 s122) (by decide))).ne_old lt8) Za)).step0 s164) (by decide))).step0 s186), (rs174.mono (s186.le)), (ow175.step0 s186), ob230⟩
   intro J231
   refine Zb <| Z1 <| Wm rfl rfl ?_
   obtain ⟨A49, c50, rfl, rs51⟩ := RS.form rs41
   refine Wv rfl (Z1n rfl Z3u) <| Wv rfl (Ze7 rfl rfl) <| Z7 <| Z6 <| Z17 HF rfl (fun HF => ?_) (fun HF => ?_)
   ·refine Z1 <| Wm rfl rfl ?_
    obtain ⟨r53, hr54, HF⟩ := Z8 HF
    rcases r53 with t55 | r56
    ·obtain rfl := Z01 HF
     refine Z0i rfl (Ze (vs := [pt b1 0, .string b'29]) rfl Z21) (Zj _ hr54 S38.sub (rs5.mono ((le11).trans le37)) ob48) ?_
     rintro ch62 w63 ⟨ht64, h65, s66, ob61⟩
     refine Zd <| Zr <| Zd <| Zr <| Zd <| Zp ?_
     have S67 := S38.trans s66 (Zn (.inl (by simp)) Z04)
     exact ⟨_, rfl, ht64, h65, S67, ob61⟩
    replace HF := Z0j HF
    refine Wc rfl (Ze (vs := [pt b1 0, .string b'29]) rfl Z21) (Zj _ hr54 S38.sub (rs5.mono ((le11).trans le37)) ob48) ?_
    rintro v57 w58 ⟨h59, s60, rfl, ob68⟩
    have S69 := S38.trans s60 (Zn (.inl (by simp)) Z04)
    refine Z7 <| Z0g [0, 4, 5] _ rfl ?_
    exact J231 ⟨h59, xs39, .slice A49 (xs39).length c50, xs43, v44, r56, HF, rfl, S69, s60.le, (rs51.mono (s60.le)), (ow42.step s60 (Z4 (ow42.ne_old lt8) Za)), (rs45.mono (s60.le)), (ow46.step s60 (Z4 (ow46.ne_old lt8) Za)), ob68⟩
   refine Zm <| Z0g [0, 4, 5] _ rfl ?_
   exact J231 ⟨h35, xs39, .slice A49 (xs39).length c50, xs43, v44, x47, HF, rfl, S38, Hle.refl _, rs51, ow42, rs45, ow46, ob48⟩
  intro J232
  refine Zb <| Z1 <| Wm rfl rfl ?_
  obtain ⟨r26, hr27, HF⟩ := Z8 HF
  refine Wc rfl (Ze (vs := [pt b1 0, .string b'26]) rfl Z4r) (Z0n _ hr27 S12.sub (rs5.mono (le11)) ob22) ?_
  rintro _ w29 ⟨h30, s31, rfl, ob32⟩
  have S33 := S12.trans s31 (Zn (.inl (by simp)) Z04)
  refine Wv rfl (Z3c rfl) <| Z7 <| Z6 <| Z17 HF rfl (fun HF => ?_) (fun HF => ?_)
  ·refine Zm <| Z0g [0, 4, 5] _ rfl ?_
   exact J232 ⟨h30, xs13, v14, xs17, v18, r26.2, HF, rfl, S33, s31.le, (rs15.mono (s31.le)), (ow16.step s31 (Z4 (ow16.ne_old lt8) Za)), (rs19.mono (s31.le)), (ow20.step s31 (Z4 (ow20.ne_old lt8) Za)), ob32⟩
  refine Z4x <| Zz <| Zz <| Z1a <| Z6 <| Zb <| Z1 <| Wm rfl rfl <| Wm rfl rfl <| Wa rfl rfl <| Wa rfl rfl <| Z7 <| Z6 <| Z00 <| WQ.ret2 rfl rfl rfl ?_
  obtain rfl := Option.some.inj HF
  exact ⟨_, rfl, h30, S33, ⟨_, _, rfl, (rs15.mono (s31.le)), (rs19.mono (s31.le))⟩, ob32⟩
 exact ⟨h0, ([] : List ByteArray), .slice none 0 0, ([] : List Ex), .slice none 0 0, x6, HF, rfl, S0, Hle.refl _, (RS.nil _), (Own.nil _ _ _ _ _), (RS.nil _), (Own.nil _ _ _ _ _), ob7⟩
theorem Zhp : ∀ k j, j ≤ k → Z6f (Z1l j).parse_Parser_Inputs := by
  intro k
  induction k with
  | zero =>
    intro j hj
    obtain rfl : j = 0 := by omega
    exact (fun _ _ _ => by intro h; cases h)
  | succ k ih =>
    intro j hj
    by_cases h : j ≤ k
    · exact ih j h
    · obtain rfl : j = k + 1 := by omega
      exact s_parse_Parser_Inputs k ih
theorem Zbs (k : Nat) : Z6f (Zcn k) := (Zhp k k (Nat.le_refl _))
def Zcc (φ : (List Tok) → Int → Option (Except (Int × Int × Int) (St × Int))) : Prop := ∀ ⦃xs3 : List Tok⦄ ⦃x6 : Int⦄ ⦃r : Except (Int × Int × Int) (St × Int)⦄, φ xs3 x6 = some r → ∀ ⦃w0 : World⦄ ⦃h0 : Hp⦄ ⦃b1 : Nat⦄ ⦃T2 : Nat⦄ ⦃v4 : Value⦄, Sub h0 w0 → RS h0 v4 xs3 → OB w0 h0 b1 T2 [v4, .int .i64 x6] →
  Calls Tryz.prog 59 #[.pointer (some ⟨b1, 0, none⟩)] w0 fun e w1 => match r with | .ok r => ∃ v, e = .returned v ∧ ∃ h1, Stp [b1] w0 h0 w1 h1 ∧ (∃ cs : List Value, v = .agg cs.toArray ∧ Rp.R h1 r.1 cs) ∧ (OB w1 h1 b1 T2 [v4, .int .i64 r.2]) | .error t => ∃ ch, e = .panicked ch ∧ Z8l 138 t.1 t.2.1 ch ∧ ∃ h1, Stp [b1] w0 h0 w1 h1 ∧ (OB w1 h1 b1 T2 [v4, .int .i64 t.2.2])
theorem s_parse_Parser_simple (k : Nat) : Zcc (Z8o k) := by
 intro xs3 x6 r HF w0 h0 b1 T2 v4 hs0 rs5 ob7
 have S0 : Stp [b1] w0 h0 w0 h0 := Stp.refl hs0 _
 have lt8 : b1 < w0.heap.size := OB.lt ob7
 refine Z4j (n := 33) Tryz.func59 rfl Tryz.ntmps59 rfl [(0, pt b1 0)] rfl <| Zb <| Z1 <| Z15 (zs := [vi 0, .string b'47, .slice none 0 0, .slice none 0 0, .slice none 0 0, vi 0, .slice none 0 0, .slice none 0 0, .slice none 0 0, .bool false]) rfl rfl Z2n rfl S0.sub (fun w9 b10 hb11 s12 ob13 => ?_)
 have ne14 : b1 ≠ b10 := ob7.ne_new hb11
 have g15 : w0.heap.size ≤ b10 := by rw [hb11]; exact S0.size
 have S16 := S0.trans0 s12
 refine Z7 <| Z6 <| Zb <| Z1 <| Wm rfl rfl ?_
 have ob17 := (ob7.step0 s12)
 obtain ⟨r18, hr19, HF⟩ := Z8 HF
 rcases r18 with t20 | r21
 ·obtain rfl := Z01 HF
  refine Z0i rfl (Ze (vs := [pt b1 0]) rfl Zbe) (Z24 _ hr19 S16.sub (rs5.mono (s12.le)) ob17) ?_
  rintro ch27 w28 ⟨ht29, h30, s31, ob26⟩
  refine Zd <| Zp ?_
  have S32 := S16.trans s31 (Zn (.inl (by simp)) Z04)
  exact ⟨_, rfl, ht29, h30, S32, ob26⟩
 replace HF := Z0j HF
 refine Wc rfl (Ze (vs := [pt b1 0]) rfl Zbe) (Z24 _ hr19 S16.sub (rs5.mono (s12.le)) ob17) ?_
 rintro _ w23 ⟨h24, s25, rfl, ob33⟩
 have S34 := S16.trans s25 (Zn (.inl (by simp)) Z04)
 refine Wv rfl (Z38 (vs := [(0, vi 1), (1, .string r21.1)]) (cs := [vi 1, .string r21.1, .slice none 0 0, .slice none 0 0, .slice none 0 0, vi 0, .slice none 0 0, .slice none 0 0, .slice none 0 0, .bool false]) rfl Z9q Z2n rfl) ?_
 have ob35 := (ob13.step1 s25 (Ne.symm ne14))
 refine Z15 (zs := [vi 0, .string b'47, .slice none 0 0, .slice none 0 0, .slice none 0 0, vi 0, .slice none 0 0, .slice none 0 0, .slice none 0 0, .bool false]) rfl rfl Z2n rfl S34.sub (fun w36 b37 hb38 s39 ob40 => ?_)
 have ne41 : b1 ≠ b37 := ob33.ne_new hb38
 have ne42 : b10 ≠ b37 := ob35.ne_new hb38
 have g43 : w0.heap.size ≤ b37 := by rw [hb38]; exact S34.size
 have S44 := S34.trans0 s39
 refine Zo (vs := [vi 1, .string r21.1, .slice none 0 0, .slice none 0 0, .slice none 0 0, vi 0, .slice none 0 0, .slice none 0 0, .slice none 0 0, .bool false]) rfl rfl rfl rfl Z0h (Z5 rfl (Z5 rfl (Z5 rfl (Z5 rfl (Z5 rfl (Z5 rfl (Z5 rfl (Z5 rfl (Z5 rfl (Z5 rfl Zx)))))))))) ob40 S44.sub (by simp) (ds := [vi 1, .string r21.1, .slice none 0 0, .slice none 0 0, .slice none 0 0, vi 0, .slice none 0 0, .slice none 0 0, .slice none 0 0, .bool false]) rfl (fun w45 s46 ob47 => ?_)
 have S48 := S44.trans1 s46 (.inr g43)
 refine Z7 <| Z6 <| Z09 (fun E w102 => ∃ (h101 : Hp) (x105 : Int), Zbx k xs3 r21 x105 = some r ∧ E = [(0, pt b1 0), (2, pt b10 0), (3, pt b37 0)] ∧ Stp [b1] w0 h0 w102 h101 ∧ Hle h24 h101 ∧ OB w102 h101 b1 T2 [v4, vi x105] ∧ OB w102 h101 b10 56 [vi 0, .string b'47, .slice none 0 0, .slice none 0 0, .slice none 0 0, vi 0, .slice none 0 0, .slice none 0 0, .slice none 0 0, .bool false] ∧ OB w102 h101 b37 56 [vi 1, .string r21.1, .slice none 0 0, .slice none 0 0, .slice none 0 0, vi 0, .slice none 0 0, .slice none 0 0, .slice none 0 0, .bool false]) ?_ ?_
 ·rintro E w102 ⟨h101, x105, HF, rfl, S104, le103, ob106, ob107, ob108⟩
  refine Z09 (fun E w177 => ∃ (h176 : Hp) (x180 : Int) (xs183 : List Ex) (v184 : Value), Z88 k xs3 r21 x180 xs183 = some r ∧ E = [(0, pt b1 0), (2, pt b10 0), (3, pt b37 0)] ∧ Stp [b1] w0 h0 w177 h176 ∧ Hle h101 h176 ∧ RS h176 v184 xs183 ∧ Own w177 h176 w0.heap.size 47 6 v184 xs183.length ∧ OB w177 h176 b1 T2 [v4, vi x180] ∧ OB w177 h176 b10 56 [vi 0, .string b'47, .slice none 0 0, .slice none 0 0, .slice none 0 0, vi 0, .slice none 0 0, .slice none 0 0, .slice none 0 0, .bool false] ∧ OB w177 h176 b37 56 [vi 1, .string r21.1, v184, .slice none 0 0, .slice none 0 0, vi 0, .slice none 0 0, .slice none 0 0, .slice none 0 0, .bool false]) ?_ ?_
  ·rintro E w177 ⟨h176, x180, xs183, v184, HF, rfl, S179, le178, rs185, ow186, ob181, ob182, ob187⟩
   refine Zb <| Z1 <| Wm rfl rfl ?_
   obtain ⟨r188, hr189, HF⟩ := Z8 HF
   rcases r188 with t190 | r191
   ·obtain rfl := Z01 HF
    refine Z0i rfl (Ze (vs := [pt b1 0, .string b'33]) rfl Z21) (Zj _ hr189 S179.sub (rs5.mono ((s12.le).trans ((s25.le).trans ((s39.le).trans ((s46.le).trans ((le103).trans le178)))))) ob181) ?_
    rintro ch197 w198 ⟨ht199, h200, s201, ob196⟩
    refine Zd <| Zp ?_
    have S202 := S179.trans s201 (Zn (.inl (by simp)) Z04)
    exact ⟨_, rfl, ht199, h200, S202, ob196⟩
   replace HF := Z0j HF
   refine Wc rfl (Ze (vs := [pt b1 0, .string b'33]) rfl Z21) (Zj _ hr189 S179.sub (rs5.mono ((s12.le).trans ((s25.le).trans ((s39.le).trans ((s46.le).trans ((le103).trans le178)))))) ob181) ?_
   rintro v192 w193 ⟨h194, s195, rfl, ob203⟩
   have S204 := S179.trans s195 (Zn (.inl (by simp)) Z04)
   refine Z7 <| Z6 <| Zb <| Z1 <| Wm rfl rfl ?_
   obtain ⟨r205, hr206, HF⟩ := Z8 HF
   rcases r205 with t207 | r208
   ·obtain rfl := Z01 HF
    have ob213 := (ob182.step1 s195 (Ne.symm ne14))
    have ob214 := (ob187.step1 s195 (Ne.symm ne41))
    refine Z0i rfl (Ze (vs := [pt b1 0]) rfl Z3e) (Z05 _ hr206 S204.sub (rs5.mono ((s12.le).trans ((s25.le).trans ((s39.le).trans ((s46.le).trans ((le103).trans ((le178).trans s195.le))))))) ob203) ?_
    rintro ch216 w217 ⟨ht218, h219, s220, ob215⟩
    refine Zd <| Zp ?_
    have S221 := S204.trans s220 (Zn (.inl (by simp)) Z04)
    exact ⟨_, rfl, ht218, h219, S221, ob215⟩
   replace HF := Z0j HF
   refine Wc rfl (Ze (vs := [pt b1 0]) rfl Z3e) (Z05 _ hr206 S204.sub (rs5.mono ((s12.le).trans ((s25.le).trans ((s39.le).trans ((s46.le).trans ((le103).trans ((le178).trans s195.le))))))) ob203) ?_
   have ob224 := (ob182.step1 s195 (Ne.symm ne14))
   have ob225 := (ob187.step1 s195 (Ne.symm ne41))
   rintro _ w210 ⟨h211, s212, ⟨cs222, rfl, r223⟩, ob226⟩
   have S227 := S204.trans s212 (Zn (.inl (by simp)) Z04)
   obtain ⟨v228, rfl, rs229⟩ := Z7n.1 r223
   have ob237 := (ob224.step1 s212 (Ne.symm ne14))
   have ob238 := (ob225.step1 s212 (Ne.symm ne41))
   refine Z14 (us := [.agg #[vi r208.1.op, vi r208.1.kind, vi r208.1.n, .string r208.1.s, .string r208.1.f, v228]]) (cs := [vi r208.1.op, vi r208.1.kind, vi r208.1.n, .string r208.1.s, .string r208.1.f, v228]) rfl rfl rfl Z0y Zw Z1t rfl (Z4a rfl Zc3) rfl rfl rfl S227.sub (fun w230 h231 b232 hb233 s234 hk235 hc236 => ?_)
   have S239 := S227.trans0 s234
   have rs240 : RS h231 (sl b232 0 1 1) ([r208.1] : List Ex) := RS.litL _ [[vi r208.1.op, vi r208.1.kind, vi r208.1.n, .string r208.1.s, .string r208.1.f, v228]] rfl rfl hc236 ⟨(Z7n.2 ⟨_, rfl, (rs229.mono (s234.le))⟩), trivial⟩
   have ow241 := Own.lit (base := w0.heap.size) (sz := 6) (m := 1) hk235 hc236 (by rw [hb233]; exact S227.size) rfl (by decide)
   refine Wv rfl (Z2 rfl Z3o) ?_
   have ob242 := (ob238.step0 s234)
   refine Zo (vs := [sl b232 0 1 1]) rfl rfl rfl rfl Zcs (Z5 rfl Zx) ob242 S239.sub (by simp) (ds := [vi 1, .string r21.1, v184, .slice none 0 0, sl b232 0 1 1, vi 0, .slice none 0 0, .slice none 0 0, .slice none 0 0, .bool false]) rfl (fun w243 s244 ob245 => ?_)
   have S246 := S239.trans1 s244 (.inr g43)
   refine Z7 <| Z6 <| Zb <| Z1 <| Wv rfl (Z16 (cs := [vi 1, .string r21.1, v184, .slice none 0 0, sl b232 0 1 1, vi 0, .slice none 0 0, .slice none 0 0, .slice none 0 0, .bool false]) rfl Z4g Z0h (OB.cells ob245 0 rfl)) ?_
   have ob247 := ((ob237.step0 s234).step1 s244 ne42)
   refine Zo (vs := [vi 1, .string r21.1, v184, .slice none 0 0, sl b232 0 1 1, vi 0, .slice none 0 0, .slice none 0 0, .slice none 0 0, .bool false]) rfl rfl rfl rfl Z0h (Z5 rfl (Z5 rfl (Z5 (RS.one (rs185.mono ((s195.le).trans ((s212.le).trans ((s234.le).trans s244.le))))) (Z5 rfl (Z5 rfl (Z5 rfl (Z5 rfl (Z5 rfl (Z5 rfl (Z5 rfl Zx)))))))))) ob247 S246.sub (by simp) (ds := [vi 1, .string r21.1, v184, .slice none 0 0, sl b232 0 1 1, vi 0, .slice none 0 0, .slice none 0 0, .slice none 0 0, .bool false]) rfl (fun w248 s249 ob250 => ?_)
   have S251 := S246.trans1 s249 (.inr g15)
   refine Z7 <| Z6 <| Z00 ?_
   have ob252 := (((ob226.step0 s234).step1 s244 ne41).step1 s249 ne14)
   refine Z5p rfl rfl (Z11 (cs := [vi 1, .string r21.1, v184, .slice none 0 0, sl b232 0 1 1, vi 0, .slice none 0 0, .slice none 0 0, .slice none 0 0, .bool false]) Z4g Z0h (OB.cells ob250 0 rfl)) ?_
   obtain rfl := Option.some.inj HF
   exact ⟨_, rfl, h231, S251, ⟨_, rfl, (Zgz.2 ⟨_, _, _, _, _, _, rfl, (rs185.mono ((s195.le).trans ((s212.le).trans ((s234.le).trans ((s244.le).trans s249.le))))), (RS.nil _), (rs240.mono ((s244.le).trans s249.le)), (RS.nil _), (RS.nil _), (RS.nil _)⟩)⟩, ob252⟩
  intro J253
  refine Zb <| Z1 <| Wm rfl rfl ?_
  obtain ⟨r109, hr110, HF⟩ := Z8 HF
  refine Wc rfl (Ze (vs := [pt b1 0, .string b'42]) rfl Z4r) (Z0n _ hr110 S104.sub (rs5.mono ((s12.le).trans ((s25.le).trans ((s39.le).trans ((s46.le).trans le103))))) ob106) ?_
  rintro _ w112 ⟨h113, s114, rfl, ob115⟩
  have S116 := S104.trans s114 (Zn (.inl (by simp)) Z04)
  refine Z7 <| Z6 <| Z17 HF rfl (fun HF => ?_) (fun HF => ?_)
  ·refine Zb <| Z1 <| Wm rfl rfl ?_
   obtain ⟨r118, hr119, HF⟩ := Z8 HF
   rcases r118 with t120 | r121
   ·obtain rfl := Z01 HF
    refine Z0i rfl (Ze (vs := [pt b1 0]) rfl Z3e) (Z05 _ hr119 S116.sub (rs5.mono ((s12.le).trans ((s25.le).trans ((s39.le).trans ((s46.le).trans ((le103).trans s114.le)))))) ob115) ?_
    rintro ch127 w128 ⟨ht129, h130, s131, ob126⟩
    refine Zd <| Zd <| Zp ?_
    have S132 := S116.trans s131 (Zn (.inl (by simp)) Z04)
    exact ⟨_, rfl, ht129, h130, S132, ob126⟩
   replace HF := Z0j HF
   refine Wc rfl (Ze (vs := [pt b1 0]) rfl Z3e) (Z05 _ hr119 S116.sub (rs5.mono ((s12.le).trans ((s25.le).trans ((s39.le).trans ((s46.le).trans ((le103).trans s114.le)))))) ob115) ?_
   rintro _ w123 ⟨h124, s125, ⟨cs133, rfl, r134⟩, ob135⟩
   have S136 := S116.trans s125 (Zn (.inl (by simp)) Z04)
   obtain ⟨v137, rfl, rs138⟩ := Z7n.1 r134
   have ob146 := ((ob107.step1 s114 (Ne.symm ne14)).step1 s125 (Ne.symm ne14))
   have ob147 := ((ob108.step1 s114 (Ne.symm ne41)).step1 s125 (Ne.symm ne41))
   refine Z14 (us := [.agg #[vi r121.1.op, vi r121.1.kind, vi r121.1.n, .string r121.1.s, .string r121.1.f, v137]]) (cs := [vi r121.1.op, vi r121.1.kind, vi r121.1.n, .string r121.1.s, .string r121.1.f, v137]) rfl rfl rfl Z0y Zw Z1t rfl (Z4a rfl Zc3) rfl rfl rfl S136.sub (fun w139 h140 b141 hb142 s143 hk144 hc145 => ?_)
   have S148 := S136.trans0 s143
   have rs149 : RS h140 (sl b141 0 1 1) ([r121.1] : List Ex) := RS.litL _ [[vi r121.1.op, vi r121.1.kind, vi r121.1.n, .string r121.1.s, .string r121.1.f, v137]] rfl rfl hc145 ⟨(Z7n.2 ⟨_, rfl, (rs138.mono (s143.le))⟩), trivial⟩
   have ow150 := Own.lit (base := w0.heap.size) (sz := 6) (m := 1) hk144 hc145 (by rw [hb142]; exact S136.size) rfl (by decide)
   refine Wv rfl (Z2 rfl Z6z) ?_
   have ob151 := (ob147.step0 s143)
   refine Zo (vs := [sl b141 0 1 1]) rfl rfl rfl rfl Zcs (Z5 rfl Zx) ob151 S148.sub (by simp) (ds := [vi 1, .string r21.1, sl b141 0 1 1, .slice none 0 0, .slice none 0 0, vi 0, .slice none 0 0, .slice none 0 0, .slice none 0 0, .bool false]) rfl (fun w152 s153 ob154 => ?_)
   have S155 := S148.trans1 s153 (.inr g43)
   refine Z7 <| Z6 <| Z1 <| Wm rfl rfl ?_
   have ob156 := ((ob135.step0 s143).step1 s153 ne41)
   obtain ⟨r157, hr158, HF⟩ := Z8 HF
   rcases r157 with t159 | r160
   ·obtain rfl := Z01 HF
    have ob165 := ((ob146.step0 s143).step1 s153 ne42)
    refine Z0i rfl (Ze (vs := [pt b1 0, .string b'43]) rfl Z21) (Zj _ hr158 S155.sub (rs5.mono ((s12.le).trans ((s25.le).trans ((s39.le).trans ((s46.le).trans ((le103).trans ((s114.le).trans ((s125.le).trans ((s143.le).trans s153.le))))))))) ob156) ?_
    rintro ch167 w168 ⟨ht169, h170, s171, ob166⟩
    refine Zd <| Zp ?_
    have S172 := S155.trans s171 (Zn (.inl (by simp)) Z04)
    exact ⟨_, rfl, ht169, h170, S172, ob166⟩
   replace HF := Z0j HF
   refine Wc rfl (Ze (vs := [pt b1 0, .string b'43]) rfl Z21) (Zj _ hr158 S155.sub (rs5.mono ((s12.le).trans ((s25.le).trans ((s39.le).trans ((s46.le).trans ((le103).trans ((s114.le).trans ((s125.le).trans ((s143.le).trans s153.le))))))))) ob156) ?_
   have ob173 := ((ob146.step0 s143).step1 s153 ne42)
   rintro v161 w162 ⟨h163, s164, rfl, ob174⟩
   have S175 := S155.trans s164 (Zn (.inl (by simp)) Z04)
   refine Z7 ?_
   have ob254 := (ob173.step1 s164 (Ne.symm ne14))
   have ob255 := (ob154.step1 s164 (Ne.symm ne41))
   refine Z0g [0, 2, 3] _ rfl ?_
   exact J253 ⟨h163, r160, [r121.1], sl b141 0 1 1, HF, rfl, S175, (s114.le).trans ((s125.le).trans ((s143.le).trans ((s153.le).trans s164.le))), (rs149.mono ((s153.le).trans s164.le)), ((ow150.step s153 (Z4 (ow150.ne_ob ob151 (by decide)) Za)).step s164 (Z4 ((ow150.step s153 (Z4 (ow150.ne_ob ob151 (by decide)) Za)).ne_old lt8) Za)), ob174, ob254, ob255⟩
  refine Zm ?_
  have ob256 := (ob107.step1 s114 (Ne.symm ne14))
  have ob257 := (ob108.step1 s114 (Ne.symm ne41))
  refine Z0g [0, 2, 3] _ rfl ?_
  exact J253 ⟨h113, r109.2, ([] : List Ex), .slice none 0 0, HF, rfl, S116, s114.le, (RS.nil _), (Own.nil _ _ _ _ _), ob115, ob256, ob257⟩
 intro J258
 refine Zb <| Z1 <| Wm rfl rfl ?_
 have ob49 := ((ob33.step0 s39).step1 s46 ne41)
 obtain ⟨r50, hr51, HF⟩ := Z8 HF
 refine Wc rfl (Ze (vs := [pt b1 0, .string b'25]) rfl Z4r) (Z0n _ hr51 S48.sub (rs5.mono ((s12.le).trans ((s25.le).trans ((s39.le).trans s46.le)))) ob49) ?_
 rintro _ w53 ⟨h54, s55, rfl, ob56⟩
 have S57 := S48.trans s55 (Zn (.inl (by simp)) Z04)
 refine Z7 <| Z6 <| Z17 HF rfl (fun HF => ?_) (fun HF => ?_)
 ·refine Zb <| Z1 <| Wv rfl (Z2 rfl Z45) ?_
  have ob59 := (ob47.step1 s55 (Ne.symm ne41))
  refine Zo (vs := [vi 2]) rfl rfl rfl rfl Z1p (Z5 rfl Zx) ob59 S57.sub (by simp) (ds := [vi 2, .string r21.1, .slice none 0 0, .slice none 0 0, .slice none 0 0, vi 0, .slice none 0 0, .slice none 0 0, .slice none 0 0, .bool false]) rfl (fun w60 s61 ob62 => ?_)
  have S63 := S57.trans1 s61 (.inr g43)
  refine Z7 <| Z6 <| Zb <| Z1 <| Wm rfl rfl ?_
  have ob64 := (ob56.step1 s61 ne41)
  obtain ⟨r65, hr66, HF⟩ := Z8 HF
  rcases r65 with t67 | r68
  ·obtain rfl := Z01 HF
   refine Z0i rfl (Ze (vs := [pt b1 0]) rfl t_ent_110) (Zbs _ hr66 S63.sub (rs5.mono ((s12.le).trans ((s25.le).trans ((s39.le).trans ((s46.le).trans ((s55.le).trans s61.le)))))) ob64) ?_
   rintro ch74 w75 ⟨ht76, h77, s78, ob73⟩
   refine Zd <| Zd <| Zp ?_
   have S79 := S63.trans s78 (Zn (.inl (by simp)) Z04)
   exact ⟨_, rfl, ht76, h77, S79, ob73⟩
  replace HF := Z0j HF
  refine Wc rfl (Ze (vs := [pt b1 0]) rfl t_ent_110) (Zbs _ hr66 S63.sub (rs5.mono ((s12.le).trans ((s25.le).trans ((s39.le).trans ((s46.le).trans ((s55.le).trans s61.le)))))) ob64) ?_
  rintro _ w70 ⟨h71, s72, ⟨v80, v82, rfl, rs81, rs83⟩, ob84⟩
  have S85 := S63.trans s72 (Zn (.inl (by simp)) Z04)
  refine Wm rfl rfl <| Wv rfl (Z0c rfl rfl) <| Wv rfl (Z0c rfl rfl) <| Wv rfl (Z2 rfl Z78) ?_
  have ob86 := (ob62.step1 s72 (Ne.symm ne41))
  refine Zo (vs := [v80]) rfl rfl rfl (RS.cellsL rs81) t_size_53 (Z5 (RS.one rs81) Zx) ob86 S85.sub (by simp) (ds := [vi 2, .string r21.1, .slice none 0 0, v80, .slice none 0 0, vi 0, .slice none 0 0, .slice none 0 0, .slice none 0 0, .bool false]) rfl (fun w87 s88 ob89 => ?_)
  have S90 := S85.trans1 s88 (.inr g43)
  refine Wv rfl (Z2 rfl Z3o) <| Zo (vs := [v82]) rfl rfl rfl (RS.cellsL (rs83.mono (s88.le))) Zcs (Z5 (RS.one (rs83.mono (s88.le))) Zx) ob89 S90.sub (by simp) (ds := [vi 2, .string r21.1, .slice none 0 0, v80, v82, vi 0, .slice none 0 0, .slice none 0 0, .slice none 0 0, .bool false]) rfl (fun w91 s92 ob93 => ?_)
  have S94 := S90.trans1 s92 (.inr g43)
  refine Z7 <| Z6 <| Zb <| Z1 <| Wv rfl (Z16 (cs := [vi 2, .string r21.1, .slice none 0 0, v80, v82, vi 0, .slice none 0 0, .slice none 0 0, .slice none 0 0, .bool false]) rfl Z4g Z0h (OB.cells ob93 0 rfl)) ?_
  have ob95 := (((((((ob35.step0 s39).step1 s46 ne42).step1 s55 (Ne.symm ne14)).step1 s61 ne42).step1 s72 (Ne.symm ne14)).step1 s88 ne42).step1 s92 ne42)
  refine Zo (vs := [vi 2, .string r21.1, .slice none 0 0, v80, v82, vi 0, .slice none 0 0, .slice none 0 0, .slice none 0 0, .bool false]) rfl rfl rfl rfl Z0h (Z5 rfl (Z5 rfl (Z5 rfl (Z5 (RS.one (rs81.mono ((s88.le).trans s92.le))) (Z5 (RS.one (rs83.mono ((s88.le).trans s92.le))) (Z5 rfl (Z5 rfl (Z5 rfl (Z5 rfl (Z5 rfl Zx)))))))))) ob95 S94.sub (by simp) (ds := [vi 2, .string r21.1, .slice none 0 0, v80, v82, vi 0, .slice none 0 0, .slice none 0 0, .slice none 0 0, .bool false]) rfl (fun w96 s97 ob98 => ?_)
  have S99 := S94.trans1 s97 (.inr g15)
  refine Z7 <| Z6 <| Z00 <| Zi ?_
  have ob100 := (((ob84.step1 s88 ne41).step1 s92 ne41).step1 s97 ne14)
  refine Z5p rfl rfl (Z11 (cs := [vi 2, .string r21.1, .slice none 0 0, v80, v82, vi 0, .slice none 0 0, .slice none 0 0, .slice none 0 0, .bool false]) Z4g Z0h (OB.cells ob98 0 rfl)) ?_
  obtain rfl := Option.some.inj HF
  exact ⟨_, rfl, h71, S99, ⟨_, rfl, (Zgz.2 ⟨_, _, _, _, _, _, rfl, (RS.nil _), (rs81.mono ((s88.le).trans ((s92.le).trans s97.le))), (rs83.mono ((s88.le).trans ((s92.le).trans s97.le))), (RS.nil _), (RS.nil _), (RS.nil _)⟩)⟩, ob100⟩
 refine Zm ?_
 have ob259 := (((ob35.step0 s39).step1 s46 ne42).step1 s55 (Ne.symm ne14))
 have ob260 := (ob47.step1 s55 (Ne.symm ne41))
 refine Z0g [0, 2, 3] _ rfl ?_
 exact J258 ⟨h54, r50.2, HF, rfl, S57, s55.le, ob56, ob259, ob260⟩
theorem Zbl (k : Nat) : Zcc (Z8o k) := s_parse_Parser_simple k
def Zax (φ : Option St) : Prop := ∀ ⦃r : St⦄, φ  = some r → ∀ ⦃w0 : World⦄ ⦃h0 : Hp⦄, Sub h0 w0 →
  Calls Tryz.prog 106 #[] w0 fun e w1 => ∃ v, e = .returned v ∧ ∃ h1, Stp [] w0 h0 w1 h1 ∧ (∃ cs : List Value, v = .agg cs.toArray ∧ Rp.R h1 r cs)
theorem Zha (k : Nat) : Zax (Z7j k) := by
 intro  r HF w0 h0  hs0 
 have S0 : Stp [] w0 h0 w0 h0 := Stp.refl hs0 _
 refine Z4j (n := 2) Tryz.func106 rfl Tryz.ntmps106 rfl [] rfl <| Zb <| Z1 <| Z15 (zs := [vi 0, .string b'47, .slice none 0 0, .slice none 0 0, .slice none 0 0, vi 0, .slice none 0 0, .slice none 0 0, .slice none 0 0, .bool false]) rfl rfl Z2n rfl S0.sub (fun w1 b2 hb3 s4 ob5 => ?_)
 have g6 : w0.heap.size ≤ b2 := by rw [hb3]; exact S0.size
 have S7 := S0.trans0 s4
 refine Z7 <| Z6 <| Zb <| Z1 <| Wv rfl (Z38 (vs := [(0, vi 9)]) (cs := [vi 9, .string b'47, .slice none 0 0, .slice none 0 0, .slice none 0 0, vi 0, .slice none 0 0, .slice none 0 0, .slice none 0 0, .bool false]) rfl Z9q Z2n rfl) <| Zo (vs := [vi 9, .string b'47, .slice none 0 0, .slice none 0 0, .slice none 0 0, vi 0, .slice none 0 0, .slice none 0 0, .slice none 0 0, .bool false]) rfl rfl rfl rfl Z0h (Z5 rfl (Z5 rfl (Z5 rfl (Z5 rfl (Z5 rfl (Z5 rfl (Z5 rfl (Z5 rfl (Z5 rfl (Z5 rfl Zx)))))))))) ob5 S7.sub (by simp) (ds := [vi 9, .string b'47, .slice none 0 0, .slice none 0 0, .slice none 0 0, vi 0, .slice none 0 0, .slice none 0 0, .slice none 0 0, .bool false]) rfl (fun w8 s9 ob10 => ?_)
 have S11 := S7.trans1 s9 (.inr g6)
 refine Z7 <| Z6 <| Z00 <| Z5p rfl rfl (Z11 (cs := [vi 9, .string b'47, .slice none 0 0, .slice none 0 0, .slice none 0 0, vi 0, .slice none 0 0, .slice none 0 0, .slice none 0 0, .bool false]) Z4g Z0h (OB.cells ob10 0 rfl)) ?_
 obtain rfl := Option.some.inj HF
 exact ⟨_, rfl, h0, S11, ⟨_, rfl, (Zgz.2 ⟨_, _, _, _, _, _, rfl, (RS.nil _), (RS.nil _), (RS.nil _), (RS.nil _), (RS.nil _), (RS.nil _)⟩)⟩⟩
theorem Zgn (k : Nat) : Zax (Z7j k) := Zha k
def Zcd (φ : (List Tok) → Int → Option Bool) : Prop := ∀ ⦃xs3 : List Tok⦄ ⦃x6 : Int⦄ ⦃r : Bool⦄, φ xs3 x6 = some r → ∀ ⦃w0 : World⦄ ⦃h0 : Hp⦄ ⦃b1 : Nat⦄ ⦃T2 : Nat⦄ ⦃v4 : Value⦄, Sub h0 w0 → RS h0 v4 xs3 → OB w0 h0 b1 T2 [v4, .int .i64 x6] →
  Calls Tryz.prog 57 #[.pointer (some ⟨b1, 0, none⟩)] w0 fun e w1 => ∃ v, e = .returned v ∧ ∃ h1, Stp [] w0 h0 w1 h1 ∧ v = .bool r
theorem s_parse_Parser_IsName (k : Nat) : Zcd (Z6i k) := by
 intro xs3 x6 r HF w0 h0 b1 T2 v4 hs0 rs5 ob7
 have S0 : Stp [] w0 h0 w0 h0 := Stp.refl hs0 _
 have lt8 : b1 < w0.heap.size := OB.lt ob7
 refine Z4j (n := 7) Tryz.func57 rfl Tryz.ntmps57 rfl [(0, pt b1 0)] rfl <| Zb <| Z1 <| Wa rfl rfl <| Z7 <| Z6 <| Zb <| Z1 <| Wm rfl rfl ?_
 obtain ⟨r9, hr10, HF⟩ := Z8 HF
 refine Wc rfl (Ze (vs := [pt b1 0]) rfl Z7s) (Z1b _ hr10 S0.sub rs5 ob7) ?_
 rintro _ w12 ⟨h13, s14, ⟨cs15, rfl, r16⟩⟩
 have S17 := S0.trans0 s14
 obtain rfl := Z62.1 r16
 refine Wv rfl (Za7 rfl Zd6 Z0f rfl) <| Wv rfl (Z4n rfl rfl) <| Wa rfl rfl <| Z7 <| Z6 <| Z00 <| Zt rfl rfl ?_
 obtain rfl := Option.some.inj HF
 exact ⟨_, rfl, h13, S17, rfl⟩
theorem Zbh (k : Nat) : Zcd (Z6i k) := s_parse_Parser_IsName k
def Z8z (φ : (List Tok) → Int → (List (ByteArray × Int)) → Option (Except (Int × Int × Int) (Int × Int))) : Prop := ∀ ⦃xs3 : List Tok⦄ ⦃x6 : Int⦄ ⦃x8 : List (ByteArray × Int)⦄ ⦃r : Except (Int × Int × Int) (Int × Int)⦄, φ xs3 x6 x8 = some r → ∀ ⦃w0 : World⦄ ⦃h0 : Hp⦄ ⦃b1 : Nat⦄ ⦃T2 : Nat⦄ ⦃v4 : Value⦄ ⦃v9 : Value⦄, Sub h0 w0 → RS h0 v4 xs3 → RM (fnT b1) h0 v9 x8 → OB w0 h0 b1 T2 [v4, .int .i64 x6] →
  Calls Tryz.prog 60 #[.pointer (some ⟨b1, 0, none⟩), v9] w0 fun e w1 => match r with | .ok r => ∃ v, e = .returned v ∧ ∃ h1, Stp [b1] w0 h0 w1 h1 ∧ v = fnT b1 r.1 ∧ (OB w1 h1 b1 T2 [v4, .int .i64 r.2]) | .error t => ∃ ch, e = .panicked ch ∧ Z8l 138 t.1 t.2.1 ch ∧ ∃ h1, Stp [b1] w0 h0 w1 h1 ∧ (OB w1 h1 b1 T2 [v4, .int .i64 t.2.2])
theorem Zf8 (k : Nat) : Z8z (Z68 k) := by
 intro xs3 x6 x8 r HF w0 h0 b1 T2 v4 v9 hs0 rs5 rm10 ob7
 have S0 : Stp [b1] w0 h0 w0 h0 := Stp.refl hs0 _
 have lt11 : b1 < w0.heap.size := OB.lt ob7
 refine Z4j (n := 33) Tryz.func60 rfl Tryz.ntmps60 rfl [(0, pt b1 0), (1, v9)] rfl <| Zb <| Z1 <| Wa rfl rfl <| Z7 <| Z6 <| Zb <| Z1 <| Wm rfl rfl <| Wm rfl rfl ?_
 obtain ⟨r12, hr13, HF⟩ := Z8 HF
 refine Wc rfl (Ze (vs := [pt b1 0]) rfl Z7s) (Z1b _ hr13 S0.sub rs5 ob7) ?_
 rintro _ w15 ⟨h16, s17, ⟨cs18, rfl, r19⟩⟩
 have S20 := S0.trans0 s17
 obtain rfl := Z62.1 r19
 refine Wv rfl (Za7 rfl t_fld_38_1 Z2r rfl) ?_
 obtain ⟨r21, hr22, HF⟩ := Z8 HF
 replace hr22 := Option.some.inj hr22
 refine Wv rfl (ov_lookupS2 (evl := (fnT b1)) (z := (0 : Int)) rfl rfl Zcz Z08 t_zero_103 (rm10.mono (s17.le)) S20.sub hr22) <| Wm rfl rfl <| Wv rfl (Z0c rfl rfl) <| Wv rfl (Z0c rfl rfl) <| Wa rfl rfl <| Wa rfl rfl <| Z7 <| Z6 <| Z09 (fun E w61 => ∃ (h60 : Hp), Z5n k x6 r21 = some r ∧ E = [(0, pt b1 0), (5, fnT b1 (r21.getD (0 : Int)))] ∧ Stp [b1] w0 h0 w61 h60 ∧ Hle h16 h60 ∧ OB w61 h60 b1 T2 [v4, vi x6]) ?_ ?_
 ·rintro E w61 ⟨h60, HF, rfl, S63, le62, ob64⟩
  refine Zb <| Z1 <| Wm rfl rfl <| Wv rfl (Zs rfl) <| Wv rfl (Z2 rfl Z61) <| Wv rfl (Zc rfl Z0f (OB.cell ob64 (j := 1) rfl)) <| Wv rfl (Z3n rfl rfl) <| Wv rfl (Zs rfl) <| Wv rfl (Z2 rfl Z61) <| Zo (vs := [vi (IntKind.i64.wrap (x6 + 1))]) rfl rfl rfl rfl Z1p (Z5 rfl Zx) ob64 S63.sub (by simp) (ds := [v4, vi (IntKind.i64.wrap (x6 + 1))]) rfl (fun w65 s66 ob67 => ?_)
  have S68 := S63.trans1 s66 (.inl (by simp))
  refine Z7 <| Z6 <| Zb <| Z1 <| Wm rfl rfl <| Wa rfl rfl <| Z7 <| Z6 <| Z00 <| Zt rfl rfl ?_
  obtain rfl := Option.some.inj HF
  exact ⟨_, rfl, h60, S68, rfl, ob67⟩
 intro J69
 refine Z09 (fun E w35 => ∃ (h34 : Hp) (x38 : Bool), Z5o k xs3 x6 r21 x38 = some r ∧ E = [(0, pt b1 0), (5, fnT b1 (r21.getD (0 : Int))), (22, .bool x38)] ∧ Stp [b1] w0 h0 w35 h34 ∧ Hle h16 h34 ∧ OB w35 h34 b1 T2 [v4, vi x6]) ?_ ?_
 ·rintro E w35 ⟨h34, x38, HF, rfl, S37, le36, ob39⟩
  refine Z17 HF rfl (fun HF => ?_) (fun HF => ?_)
  ·refine Z1 <| Wm rfl rfl ?_
   obtain ⟨r41, hr42, HF⟩ := Z8 HF
   rcases r41 with t43 | r44
   ·obtain rfl := Z01 HF
    refine Z0i rfl (Ze (vs := [pt b1 0]) rfl Z98) (Z1m _ hr42 S37.sub (rs5.mono ((s17.le).trans le36)) ob39) ?_
    rintro ch49 w50 ⟨ht51, h52, s53⟩
    refine Zd <| Zp ?_
    have S54 := S37.trans0 s53
    have ob55 := (ob39.step0 s53)
    exact ⟨_, rfl, ht51, h52, S54, ob55⟩
   replace HF := Z0j HF
   refine Wc rfl (Ze (vs := [pt b1 0]) rfl Z98) (Z1m _ hr42 S37.sub (rs5.mono ((s17.le).trans le36)) ob39) ?_
   rintro v45 w46 ⟨h47, s48, rfl⟩
   have S56 := S37.trans0 s48
   refine Z7 ?_
   have ob70 := (ob39.step0 s48)
   refine Z0g [0, 5] _ rfl ?_
   exact J69 ⟨h47, HF, rfl, S56, (le36).trans s48.le, ob70⟩
  refine Zm <| Z0g [0, 5] _ rfl ?_
  exact J69 ⟨h34, HF, rfl, S37, le36, ob39⟩
 intro J57
 refine Z1 <| Wm rfl rfl <| Wv rfl (Z3c rfl) <| Wm rfl rfl <| Z3g 17 HF rfl (fun HF => ?_) (fun HF => ?_)
 ·refine Wp rfl <| Wp rfl <| Wp rfl <| Wp rfl <| Wv rfl (Zh rfl rfl) <| Z7 ?_
  have ob58 := (ob7.step0 s17)
  refine Z0g [0, 5, 22] _ rfl ?_
  exact J57 ⟨h16, true, HF, rfl, S20, Hle.refl _, ob58⟩
 refine Wm rfl rfl ?_
 have ob24 := (ob7.step0 s17)
 obtain ⟨r25, hr26, HF⟩ := Z8 HF
 refine Wc rfl (Ze (vs := [pt b1 0]) rfl Z7s) (Z1b _ hr26 S20.sub (rs5.mono (s17.le)) ob24) ?_
 rintro _ w28 ⟨h29, s30, ⟨cs31, rfl, r32⟩⟩
 have S33 := S20.trans0 s30
 obtain rfl := Z62.1 r32
 refine Wv rfl (Za7 rfl Zd6 Z0f rfl) <| Wv rfl (Z7e rfl rfl) <| Wv rfl (Zg rfl rfl) <| Z7 ?_
 have ob59 := (ob24.step0 s30)
 refine Z0g [0, 5, 22] _ rfl ?_
 exact J57 ⟨h29, (r25.kind : Int) != 5, HF, rfl, S33, s30.le, ob59⟩
theorem Z8m (k : Nat) : Z8z (Z68 k) := Zf8 k
def Zao (φ : Option St) : Prop := ∀ ⦃r : St⦄, φ  = some r → ∀ ⦃w0 : World⦄ ⦃h0 : Hp⦄, Sub h0 w0 →
  Calls Tryz.prog 105 #[] w0 fun e w1 => ∃ v, e = .returned v ∧ ∃ h1, Stp [] w0 h0 w1 h1 ∧ (∃ cs : List Value, v = .agg cs.toArray ∧ Rp.R h1 r cs)
theorem Zhk (k : Nat) : Zao (Z7o k) := by
 intro  r HF w0 h0  hs0 
 have S0 : Stp [] w0 h0 w0 h0 := Stp.refl hs0 _
 refine Z4j (n := 2) Tryz.func105 rfl Tryz.ntmps105 rfl [] rfl <| Zb <| Z1 <| Z15 (zs := [vi 0, .string b'47, .slice none 0 0, .slice none 0 0, .slice none 0 0, vi 0, .slice none 0 0, .slice none 0 0, .slice none 0 0, .bool false]) rfl rfl Z2n rfl S0.sub (fun w1 b2 hb3 s4 ob5 => ?_)
 have g6 : w0.heap.size ≤ b2 := by rw [hb3]; exact S0.size
 have S7 := S0.trans0 s4
 refine Z7 <| Z6 <| Zb <| Z1 <| Wv rfl (Z38 (vs := [(0, vi 8)]) (cs := [vi 8, .string b'47, .slice none 0 0, .slice none 0 0, .slice none 0 0, vi 0, .slice none 0 0, .slice none 0 0, .slice none 0 0, .bool false]) rfl Z9q Z2n rfl) <| Zo (vs := [vi 8, .string b'47, .slice none 0 0, .slice none 0 0, .slice none 0 0, vi 0, .slice none 0 0, .slice none 0 0, .slice none 0 0, .bool false]) rfl rfl rfl rfl Z0h (Z5 rfl (Z5 rfl (Z5 rfl (Z5 rfl (Z5 rfl (Z5 rfl (Z5 rfl (Z5 rfl (Z5 rfl (Z5 rfl Zx)))))))))) ob5 S7.sub (by simp) (ds := [vi 8, .string b'47, .slice none 0 0, .slice none 0 0, .slice none 0 0, vi 0, .slice none 0 0, .slice none 0 0, .slice none 0 0, .bool false]) rfl (fun w8 s9 ob10 => ?_)
 have S11 := S7.trans1 s9 (.inr g6)
 refine Z7 <| Z6 <| Z00 <| Z5p rfl rfl (Z11 (cs := [vi 8, .string b'47, .slice none 0 0, .slice none 0 0, .slice none 0 0, vi 0, .slice none 0 0, .slice none 0 0, .slice none 0 0, .bool false]) Z4g Z0h (OB.cells ob10 0 rfl)) ?_
 obtain rfl := Option.some.inj HF
 exact ⟨_, rfl, h0, S11, ⟨_, rfl, (Zgz.2 ⟨_, _, _, _, _, _, rfl, (RS.nil _), (RS.nil _), (RS.nil _), (RS.nil _), (RS.nil _), (RS.nil _)⟩)⟩⟩
theorem Zg6 (k : Nat) : Zao (Z7o k) := Zhk k
end Go.Proofs.YtkodnhngllfemaaGreatDoor
