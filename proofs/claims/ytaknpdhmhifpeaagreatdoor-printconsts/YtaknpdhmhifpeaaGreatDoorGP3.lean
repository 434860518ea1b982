import Derived.Test.YtaknpdhmhifpeaaGreatDoorE0
import Derived.Test.YtaknpdhmhifpeaaGreatDoorGP2
set_option linter.unusedVariables false
set_option linter.unusedSimpArgs false
namespace Go.Proofs.YtaknpdhmhifpeaaGreatDoor
open Go
def C_ast_Counter_Text (φ : Int → Int → (List St) → Int → Option (Bool × Int × Int)) : Prop := ∀ ⦃x3 : Int⦄ ⦃x4 : Int⦄ ⦃xs6 : List St⦄ ⦃x9 : Int⦄ ⦃r : Bool × Int × Int⦄, φ x3 x4 xs6 x9 = some r → ∀ ⦃w0 : World⦄ ⦃h0 : Hp⦄ ⦃b1 : Nat⦄ ⦃T2 : Nat⦄ ⦃v7 : Value⦄, Sub h0 w0 → RS h0 v7 xs6 → OB w0 h0 b1 T2 [.int .i64 x3, .int .i64 x4] →
  Calls Tryz.prog 38 #[.pointer (some ⟨b1, 0, none⟩), v7, .int .i64 x9] w0 fun e w1 => ∃ v, e = .returned v ∧ ∃ h1, Stp [b1] w0 h0 w1 h1 ∧ v = .bool r.1 ∧ (OB w1 h1 b1 T2 [.int .i64 r.2.1, .int .i64 r.2.2])
def C_ast_Counter_stmt (φ : Int → Int → St → Int → Option (Bool × Int × Int)) : Prop := ∀ ⦃x3 : Int⦄ ⦃x4 : Int⦄ ⦃x6 : St⦄ ⦃x9 : Int⦄ ⦃r : Bool × Int × Int⦄, φ x3 x4 x6 x9 = some r → ∀ ⦃w0 : World⦄ ⦃h0 : Hp⦄ ⦃b1 : Nat⦄ ⦃T2 : Nat⦄ ⦃cs7 : List Value⦄, Sub h0 w0 → Rp.R h0 x6 cs7 → OB w0 h0 b1 T2 [.int .i64 x3, .int .i64 x4] →
  Calls Tryz.prog 65 #[.pointer (some ⟨b1, 0, none⟩), .agg cs7.toArray, .int .i64 x9] w0 fun e w1 => ∃ v, e = .returned v ∧ ∃ h1, Stp [b1] w0 h0 w1 h1 ∧ v = .bool r.1 ∧ (OB w1 h1 b1 T2 [.int .i64 r.2.1, .int .i64 r.2.2])
def C_ast_Counter_arm (φ : Int → Int → Ar → Int → Int → Option (Bool × Int × Int)) : Prop := ∀ ⦃x3 : Int⦄ ⦃x4 : Int⦄ ⦃x6 : Ar⦄ ⦃x9 : Int⦄ ⦃x10 : Int⦄ ⦃r : Bool × Int × Int⦄, φ x3 x4 x6 x9 x10 = some r → ∀ ⦃w0 : World⦄ ⦃h0 : Hp⦄ ⦃b1 : Nat⦄ ⦃T2 : Nat⦄ ⦃cs7 : List Value⦄, Sub h0 w0 → Rp.R h0 x6 cs7 → OB w0 h0 b1 T2 [.int .i64 x3, .int .i64 x4] →
  Calls Tryz.prog 87 #[.pointer (some ⟨b1, 0, none⟩), .agg cs7.toArray, .int .i64 x9, .int .i64 x10] w0 fun e w1 => ∃ v, e = .returned v ∧ ∃ h1, Stp [b1] w0 h0 w1 h1 ∧ v = .bool r.1 ∧ (OB w1 h1 b1 T2 [.int .i64 r.2.1, .int .i64 r.2.2])
set_option maxRecDepth 20000 in
set_option maxHeartbeats 4000000 in
theorem s_ast_Counter_Text (k : Nat) (IH : ∀ j, j ≤ k → C_ast_Counter_Text (tie_ast_Counter_Text j).ast_Counter_Text ∧ C_ast_Counter_stmt (tie_ast_Counter_Text j).ast_Counter_stmt ∧ C_ast_Counter_arm (tie_ast_Counter_Text j).ast_Counter_arm) : C_ast_Counter_Text (m_ast_Counter_Text k (tie_ast_Counter_Text k)) := by
  intro x3 x4 xs6 x9 r HF w0 h0 b1 T2 v7 hs0 rs8 ob5
  have S0 : Stp [b1] w0 h0 w0 h0 := Stp.refl hs0 _
  have lt10 : b1 < w0.heap.size := OB.lt ob5
  refine enter (n := 21) Tryz.func38 rfl Tryz.ntmps38 rfl [(0, .pointer (some ⟨b1, 0, none⟩)), (1, v7), (2, .int .i64 x9)] rfl ?_
  refine WC.seq ?_
  refine WC.region ?_
  refine WL.val rfl rfl rfl (ov_assign rfl) ?_
  refine WL.nil ?_
  refine WQ.seqN ?_
  refine WC.seq ?_
  refine WC.seq ?_
  refine WC.region ?_
  refine WL.val rfl rfl rfl (ov_move rfl) ?_
  obtain ⟨A11, c12, rfl, rs13⟩ := RS.form rs8
  refine WL.val rfl rfl rfl (ov_lenL rfl t_slice_22) ?_
  refine WL.val rfl rfl rfl (ov_move rfl) ?_
  refine WL.nil ?_
  refine WQ.seqN ?_
  refine WC.block ?_
  refine WC.loop ?_
  refine WP.to [0, 2, 9, 10, 11] [(0, .pointer (some ⟨b1, 0, none⟩)), (2, .int .i64 x9), (9, .slice A11 (xs6).length c12), (10, .int .i64 (xs6.length : Int)), (11, .int .i64 0)] rfl ?_
  refine WP_rule (K := k) (fun j E w15 => ∃ (h14 : Hp) (x18 : Int) (x19 : Int) (x20 : Int), (tie_ast_Counter_Text j).ast_Counter_Text_l1 xs6 x9 x18 x19 x20 = some r ∧ E = [(0, .pointer (some ⟨b1, 0, none⟩)), (2, .int .i64 x9), (9, .slice A11 (xs6).length c12), (10, .int .i64 (xs6.length : Int)), (11, .int .i64 x18)] ∧ Stp [b1] w0 h0 w15 h14 ∧ Hle h0 h14 ∧ OB w15 h14 b1 T2 [.int .i64 x19, .int .i64 x20]) ?_ ?_ (j := k) (Nat.le_refl _) ?_
  · rintro E w15 ⟨_, _, _, _, HF, _⟩; cases HF
  · rintro j22 hj24 IHL23 E w15 ⟨h14, x18, x19, x20, HF, rfl, S17, le16, ob21⟩
    refine WC.seq ?_
    refine WC.region ?_
    refine WL.val rfl rfl rfl (ov_lss rfl rfl) ?_
    refine WL.nil ?_
    refine WQ.seqN ?_
    refine WC.join (fun E w27 => ∃ (h26 : Hp), ast_Counter_Text_j2 j22 (tie_ast_Counter_Text j22) xs6 x9 x18 x19 x20 = some r ∧ E = [(0, .pointer (some ⟨b1, 0, none⟩)), (2, .int .i64 x9), (9, .slice A11 (xs6).length c12), (10, .int .i64 (xs6.length : Int)), (11, .int .i64 x18)] ∧ Stp [b1] w0 h0 w27 h26 ∧ Hle h14 h26 ∧ OB w27 h26 b1 T2 [.int .i64 x19, .int .i64 x20]) ?_ ?_
    · rintro E w27 ⟨h26, HF, rfl, S29, le28, ob30⟩
      refine WC.seq ?_
      refine WC.block ?_
      refine WC.seq ?_
      refine WC.region ?_
      obtain ⟨e31, he32, HF⟩ := bind_some HF
      obtain ⟨b33, o34, rfl, h36, h37, ra35⟩ := RS.atO (rs13.mono ((le16).trans le28)) he32
      obtain ⟨cs38, r39, hc40⟩ := ra35
      refine WL.val rfl rfl rfl (ov_indexAddr rfl rfl t_slice_22 t_size_44 h36 h37) ?_
      refine WL.val rfl rfl rfl (ov_loadN (cs := cs38) rfl t_agg_44 (by rw [Rp.len r39]; exact t_size_44) (fun j v hv => S29.sub.at_ _ _ _ (hc40 j v hv))) ?_
      refine WL.alloc (zs := [.int .i64 0, .string (⟨#[]⟩ : ByteArray), .slice none 0 0, .slice none 0 0, .slice none 0 0, .int .i64 0, .slice none 0 0, .slice none 0 0, .slice none 0 0, .bool false]) rfl rfl t_zero_44 rfl S29.sub (fun w41 b42 hb43 s44 ob45 => ?_)
      have ne46 : b1 ≠ b42 := ob30.ne_new hb43
      have g47 : w0.heap.size ≤ b42 := by rw [hb43]; exact S29.size
      have S48 := S29.trans0 s44
      obtain ⟨v49, v51, v53, v55, v57, v59, rfl, rs50, rs52, rs54, rs56, rs58, rs60⟩ := rp_St.1 (Rp.mono (s44.le) r39)
      refine WL.store (vs := [.int .i64 e31.op, .string e31.name, v49, v51, v53, .int .i64 e31.n, v55, v57, v59, .bool e31.els]) rfl rfl rfl rfl t_size_44 (one_cons rfl (one_cons rfl (one_cons (RS.one rs50) (one_cons (RS.one rs52) (one_cons (RS.one rs54) (one_cons rfl (one_cons (RS.one rs56) (one_cons (RS.one rs58) (one_cons (RS.one rs60) (one_cons rfl one_nil)))))))))) ob45 S48.sub (by simp) (ds := [.int .i64 e31.op, .string e31.name, v49, v51, v53, .int .i64 e31.n, v55, v57, v59, .bool e31.els]) rfl (fun w61 s62 ob63 => ?_)
      have S64 := S48.trans1 s62 (.inr g47)
      refine WL.nil ?_
      refine WQ.seqN ?_
      refine WC.seq ?_
      refine WC.region ?_
      refine WL.val rfl rfl rfl (ov_move rfl) ?_
      refine WL.val rfl rfl rfl (ov_loadN (cs := [.int .i64 e31.op, .string e31.name, v49, v51, v53, .int .i64 e31.n, v55, v57, v59, .bool e31.els]) rfl t_agg_44 t_size_44 (OB.cells ob63 0 rfl)) ?_
      refine WL.val rfl rfl rfl (ov_move rfl) ?_
      have ob65 := ((ob30.step0 s44).step1 s62 ne46)
      obtain ⟨r66, hr67, HF⟩ := bind_some HF
      refine WL.call rfl rfl rfl (oc_func (vs := [.pointer (some ⟨b1, 0, none⟩), .agg #[.int .i64 e31.op, .string e31.name, v49, v51, v53, .int .i64 e31.n, v55, v57, v59, .bool e31.els], .int .i64 x9]) rfl t_ent_65) ((IH _ (Nat.le_trans (Nat.le_of_succ_le hj24) (Nat.le_refl _))).2.1 hr67 S64.sub (rp_St.2 ⟨_, _, _, _, _, _, rfl, (rs50.mono (s62.le)), (rs52.mono (s62.le)), (rs54.mono (s62.le)), (rs56.mono (s62.le)), (rs58.mono (s62.le)), (rs60.mono (s62.le))⟩) ob65) ?_
      rintro _ w69 ⟨h70, s71, rfl, ob72⟩
      have S73 := S64.trans s71 (in_cons (.inl (by simp)) in_nil)
      refine WL.val rfl rfl rfl (ov_not rfl) ?_
      refine WL.nil ?_
      refine WQ.seqN ?_
      refine WC.cond (b := !r66.1) rfl (fun hb74 => ?_) (fun hb74 => ?_)
      · replace HF := bif_t hb74 HF
        refine WC.seq ?_
        refine WC.region ?_
        refine WL.val rfl rfl rfl (ov_assign rfl) ?_
        refine WL.nil ?_
        refine WQ.seqN ?_
        refine WC.ret ?_
        refine WQ.blockRet ?_
        refine WQ.thenRet ?_
        refine WQ.thenRet ?_
        refine WQ.blockRet ?_
        refine WQ.thenRet ?_
        refine WQ.ret1 rfl rfl ?_
        obtain rfl := Option.some.inj HF
        exact ⟨_, rfl, h70, S73, rfl, ob72⟩
      · replace HF := bif_f hb74 HF
        refine WC.skip ?_
        refine WQ.blockN ?_
        refine WQ.seqN ?_
        refine WC.region ?_
        refine WL.val rfl rfl rfl (ov_add rfl rfl) ?_
        refine WL.val rfl rfl rfl (ov_move rfl) ?_
        refine WL.nil ?_
        refine WQ.loopN ?_
        refine WP.to [0, 2, 9, 10, 11] [(0, .pointer (some ⟨b1, 0, none⟩)), (2, .int .i64 x9), (9, .slice (some ⟨b33, o34, none⟩) (xs6).length c12), (10, .int .i64 (xs6.length : Int)), (11, .int .i64 (IntKind.i64.wrap (x18 + 1)))] rfl ?_
        exact IHL23 j22 (Nat.le_refl _) _ _ ⟨h70, IntKind.i64.wrap (x18 + 1), r66.2.1, r66.2.2, HF, rfl, S73, (le16).trans ((le28).trans ((s44.le).trans ((s62.le).trans s71.le))), ob72⟩
    · intro J75
      refine WC.cond (b := decide ((x18 : Int) < (xs6.length : Int))) rfl (fun hb25 => ?_) (fun hb25 => ?_)
      · replace HF := bif_t hb25 HF
        refine WC.skip ?_
        refine WC.to [0, 2, 9, 10, 11] [(0, .pointer (some ⟨b1, 0, none⟩)), (2, .int .i64 x9), (9, .slice A11 (xs6).length c12), (10, .int .i64 (xs6.length : Int)), (11, .int .i64 x18)] rfl ?_
        exact J75 ⟨h14, HF, rfl, S17, Hle.refl _, ob21⟩
      · replace HF := bif_f hb25 HF
        refine WC.exit ?_
        refine WQ.thenExit ?_
        refine WQ.thenExit ?_
        refine WQ.blockHit ?_
        refine WQ.seqN ?_
        refine WC.seq ?_
        refine WC.region ?_
        refine WL.val rfl rfl rfl (ov_assign rfl) ?_
        refine WL.nil ?_
        refine WQ.seqN ?_
        refine WC.ret ?_
        refine WQ.ret1 rfl rfl ?_
        obtain rfl := Option.some.inj HF
        exact ⟨_, rfl, h14, S17, rfl, ob21⟩
  · exact ⟨h0, 0, x3, x4, HF, rfl, S0, Hle.refl _, ob5⟩
set_option maxRecDepth 20000 in
set_option maxHeartbeats 4000000 in
theorem s_ast_Counter_stmt (k : Nat) (IH : ∀ j, j ≤ k → C_ast_Counter_Text (tie_ast_Counter_Text j).ast_Counter_Text ∧ C_ast_Counter_stmt (tie_ast_Counter_Text j).ast_Counter_stmt ∧ C_ast_Counter_arm (tie_ast_Counter_Text j).ast_Counter_arm) : C_ast_Counter_stmt (m_ast_Counter_stmt k (tie_ast_Counter_Text k)) := by
  intro x3 x4 x6 x9 r HF w0 h0 b1 T2 cs7 hs0 r8 ob5
  have S0 : Stp [b1] w0 h0 w0 h0 := Stp.refl hs0 _
  have lt10 : b1 < w0.heap.size := OB.lt ob5
  refine enter (n := 185) Tryz.func65 rfl Tryz.ntmps65 rfl [(0, .pointer (some ⟨b1, 0, none⟩)), (1, .agg cs7.toArray), (2, .int .i64 x9)] rfl ?_
  refine WC.seq ?_
  refine WC.region ?_
  obtain ⟨v11, v13, v15, v17, v19, v21, rfl, rs12, rs14, rs16, rs18, rs20, rs22⟩ := rp_St.1 r8
  refine WL.box (cs := [.int .i64 x6.op, .string x6.name, v11, v13, v15, .int .i64 x6.n, v17, v19, v21, .bool x6.els]) rfl rfl rfl rfl S0.sub (fun w23 b24 hb25 s26 ob27 => ?_)
  have ne28 : b1 ≠ b24 := ob5.ne_new hb25
  have g29 : w0.heap.size ≤ b24 := by rw [hb25]; exact S0.size
  have S30 := S0.trans0 s26
  refine WL.val rfl rfl rfl (ov_assign rfl) ?_
  refine WL.nil ?_
  refine WQ.seqN ?_
  refine WC.seq ?_
  refine WC.region ?_
  obtain ⟨v31, hv32, rm33⟩ := S30.sub.glob.g2
  refine WL.val rfl rfl rfl (ov_load1 rfl t_agg_130 (S30.sub.at_ _ _ _ hv32)) ?_
  refine WL.val rfl rfl rfl (ov_fieldAddr rfl t_field_44_0) ?_
  refine WL.val rfl rfl rfl (ov_load1 rfl t_agg_3 (OB.cell ob27 (j := 0) rfl)) ?_
  obtain ⟨r34, hr35, HF⟩ := bind_some HF
  replace hr35 := Option.some.inj hr35
  refine WL.val rfl rfl rfl (ov_lookupI2 (evl := (fun x : Bool × Int × Int × Bool × Bool => .agg #[.bool x.1, .int .i64 x.2.1, .int .i64 x.2.2.1, .bool x.2.2.2.1, .bool x.2.2.2.2])) (z := (false, 0, 0, false, false)) rfl rfl t_map_130 t_int_3 t_zero_128 rm33 S30.sub hr35) ?_
  refine WL.val rfl rfl rfl (ov_move rfl) ?_
  refine WL.val rfl rfl rfl (ov_extract rfl rfl) ?_
  refine WL.val rfl rfl rfl (ov_extract rfl rfl) ?_
  have ob36 := (ob5.step0 s26)
  refine WL.alloc (zs := [.bool false, .int .i64 0, .int .i64 0, .bool false, .bool false]) rfl rfl t_zero_128 rfl S30.sub (fun w37 b38 hb39 s40 ob41 => ?_)
  have ne42 : b1 ≠ b38 := ob36.ne_new hb39
  have ne43 : b24 ≠ b38 := ob27.ne_new hb39
  have g44 : w0.heap.size ≤ b38 := by rw [hb39]; exact S30.size
  have S45 := S30.trans0 s40
  refine WL.store (vs := [.bool ((r34.getD (false, 0, 0, false, false)).1), .int .i64 ((r34.getD (false, 0, 0, false, false)).2.1), .int .i64 ((r34.getD (false, 0, 0, false, false)).2.2.1), .bool ((r34.getD (false, 0, 0, false, false)).2.2.2.1), .bool ((r34.getD (false, 0, 0, false, false)).2.2.2.2)]) rfl rfl rfl rfl t_size_128 (one_cons rfl (one_cons rfl (one_cons rfl (one_cons rfl (one_cons rfl one_nil))))) ob41 S45.sub (by simp) (ds := [.bool ((r34.getD (false, 0, 0, false, false)).1), .int .i64 ((r34.getD (false, 0, 0, false, false)).2.1), .int .i64 ((r34.getD (false, 0, 0, false, false)).2.2.1), .bool ((r34.getD (false, 0, 0, false, false)).2.2.2.1), .bool ((r34.getD (false, 0, 0, false, false)).2.2.2.2)]) rfl (fun w46 s47 ob48 => ?_)
  have S49 := S45.trans1 s47 (.inr g44)
  refine WL.val rfl rfl rfl (ov_assign rfl) ?_
  refine WL.nil ?_
  refine WQ.seqN ?_
  refine WC.join (fun E w106 => ∃ (h105 : Hp) (x109 : Int) (x110 : Int), ast_Counter_stmt_j2 k (tie_ast_Counter_Text k) x6 x9 r34 x109 x110 = some r ∧ E = [(0, .pointer (some ⟨b1, 0, none⟩)), (2, .int .i64 x9), (4, .pointer (some ⟨b24, 0, none⟩)), (7, .pointer (some ⟨b38, 0, none⟩))] ∧ Stp [b1] w0 h0 w106 h105 ∧ Hle h0 h105 ∧ OB w106 h105 b1 T2 [.int .i64 x109, .int .i64 x110] ∧ OB w106 h105 b24 44 [.int .i64 x6.op, .string x6.name, v11, v13, v15, .int .i64 x6.n, v17, v19, v21, .bool x6.els] ∧ OB w106 h105 b38 128 [.bool ((r34.getD (false, 0, 0, false, false)).1), .int .i64 ((r34.getD (false, 0, 0, false, false)).2.1), .int .i64 ((r34.getD (false, 0, 0, false, false)).2.2.1), .bool ((r34.getD (false, 0, 0, false, false)).2.2.2.1), .bool ((r34.getD (false, 0, 0, false, false)).2.2.2.2)]) ?_ ?_
  · rintro E w106 ⟨h105, x109, x110, HF, rfl, S108, le107, ob111, ob112, ob113⟩
    refine WC.join (fun E w153 => ∃ (h152 : Hp), ast_Counter_stmt_j4 k (tie_ast_Counter_Text k) x6 x9 r34 x109 x110 = some r ∧ E = [(0, .pointer (some ⟨b1, 0, none⟩)), (2, .int .i64 x9), (4, .pointer (some ⟨b24, 0, none⟩)), (7, .pointer (some ⟨b38, 0, none⟩))] ∧ Stp [b1] w0 h0 w153 h152 ∧ Hle h105 h152 ∧ OB w153 h152 b1 T2 [.int .i64 x109, .int .i64 x110] ∧ OB w153 h152 b24 44 [.int .i64 x6.op, .string x6.name, v11, v13, v15, .int .i64 x6.n, v17, v19, v21, .bool x6.els] ∧ OB w153 h152 b38 128 [.bool ((r34.getD (false, 0, 0, false, false)).1), .int .i64 ((r34.getD (false, 0, 0, false, false)).2.1), .int .i64 ((r34.getD (false, 0, 0, false, false)).2.2.1), .bool ((r34.getD (false, 0, 0, false, false)).2.2.2.1), .bool ((r34.getD (false, 0, 0, false, false)).2.2.2.2)]) ?_ ?_
    · rintro E w153 ⟨h152, HF, rfl, S155, le154, ob156, ob157, ob158⟩
      refine WC.join (fun E w199 => ∃ (h198 : Hp), ast_Counter_stmt_j6 k (tie_ast_Counter_Text k) x6 x9 r34 x109 x110 = some r ∧ E = [(0, .pointer (some ⟨b1, 0, none⟩)), (2, .int .i64 x9), (4, .pointer (some ⟨b24, 0, none⟩)), (7, .pointer (some ⟨b38, 0, none⟩))] ∧ Stp [b1] w0 h0 w199 h198 ∧ Hle h152 h198 ∧ OB w199 h198 b1 T2 [.int .i64 x109, .int .i64 x110] ∧ OB w199 h198 b24 44 [.int .i64 x6.op, .string x6.name, v11, v13, v15, .int .i64 x6.n, v17, v19, v21, .bool x6.els] ∧ OB w199 h198 b38 128 [.bool ((r34.getD (false, 0, 0, false, false)).1), .int .i64 ((r34.getD (false, 0, 0, false, false)).2.1), .int .i64 ((r34.getD (false, 0, 0, false, false)).2.2.1), .bool ((r34.getD (false, 0, 0, false, false)).2.2.2.1), .bool ((r34.getD (false, 0, 0, false, false)).2.2.2.2)]) ?_ ?_
      · rintro E w199 ⟨h198, HF, rfl, S201, le200, ob202, ob203, ob204⟩
        refine WC.join (fun E w248 => ∃ (h247 : Hp), ast_Counter_stmt_j8 k (tie_ast_Counter_Text k) x6 x9 x109 x110 = some r ∧ E = [(0, .pointer (some ⟨b1, 0, none⟩)), (2, .int .i64 x9), (4, .pointer (some ⟨b24, 0, none⟩))] ∧ Stp [b1] w0 h0 w248 h247 ∧ Hle h198 h247 ∧ OB w248 h247 b1 T2 [.int .i64 x109, .int .i64 x110] ∧ OB w248 h247 b24 44 [.int .i64 x6.op, .string x6.name, v11, v13, v15, .int .i64 x6.n, v17, v19, v21, .bool x6.els]) ?_ ?_
        · rintro E w248 ⟨h247, HF, rfl, S250, le249, ob251, ob252⟩
          refine WC.seq ?_
          refine WC.seq ?_
          refine WC.region ?_
          refine WL.val rfl rfl rfl (ov_fieldAddr rfl t_field_44_7) ?_
          refine WL.val rfl rfl rfl (ov_load1 rfl t_agg_42 (OB.cell ob252 (j := 7) rfl)) ?_
          obtain ⟨A253, c254, rfl, rs255⟩ := RS.form (rs20.mono ((s26.le).trans ((s40.le).trans ((s47.le).trans ((le107).trans ((le154).trans ((le200).trans le249)))))))
          refine WL.val rfl rfl rfl (ov_lenL rfl t_slice_42) ?_
          refine WL.val rfl rfl rfl (ov_move rfl) ?_
          refine WL.nil ?_
          refine WQ.seqN ?_
          refine WC.block ?_
          refine WC.loop ?_
          refine WP.to [0, 2, 4, 140, 141, 142] [(0, .pointer (some ⟨b1, 0, none⟩)), (2, .int .i64 x9), (4, .pointer (some ⟨b24, 0, none⟩)), (140, .slice A253 (x6.arms).length c254), (141, .int .i64 (x6.arms.length : Int)), (142, .int .i64 0)] rfl ?_
          refine WP_rule (K := k) (fun j E w257 => ∃ (h256 : Hp) (x260 : Int) (x261 : Int) (x262 : Int) (xs264 : List Ar) (v265 : Value), (tie_ast_Counter_Text j).ast_Counter_stmt_l9 x6 x9 x260 x261 x262 xs264 = some r ∧ E = [(0, .pointer (some ⟨b1, 0, none⟩)), (2, .int .i64 x9), (4, .pointer (some ⟨b24, 0, none⟩)), (140, .slice A253 (x6.arms).length c254), (141, .int .i64 (x6.arms.length : Int)), (142, .int .i64 x260)] ∧ Stp [b1] w0 h0 w257 h256 ∧ Hle h247 h256 ∧ RS h256 v265 xs264 ∧ OB w257 h256 b1 T2 [.int .i64 x261, .int .i64 x262] ∧ OB w257 h256 b24 44 [.int .i64 x6.op, .string x6.name, v11, v13, v15, .int .i64 x6.n, v17, v265, v21, .bool x6.els]) ?_ ?_ (j := k) (Nat.le_refl _) ?_
          · rintro E w257 ⟨_, _, _, _, _, _, HF, _⟩; cases HF
          · rintro j268 hj270 IHL269 E w257 ⟨h256, x260, x261, x262, xs264, v265, HF, rfl, S259, le258, rs266, ob263, ob267⟩
            refine WC.seq ?_
            refine WC.region ?_
            refine WL.val rfl rfl rfl (ov_lss rfl rfl) ?_
            refine WL.nil ?_
            refine WQ.seqN ?_
            refine WC.join (fun E w311 => ∃ (h310 : Hp), ast_Counter_stmt_j10 j268 (tie_ast_Counter_Text j268) x6 x9 x260 x261 x262 xs264 = some r ∧ E = [(0, .pointer (some ⟨b1, 0, none⟩)), (2, .int .i64 x9), (4, .pointer (some ⟨b24, 0, none⟩)), (140, .slice A253 (x6.arms).length c254), (141, .int .i64 (x6.arms.length : Int)), (142, .int .i64 x260)] ∧ Stp [b1] w0 h0 w311 h310 ∧ Hle h256 h310 ∧ OB w311 h310 b1 T2 [.int .i64 x261, .int .i64 x262] ∧ OB w311 h310 b24 44 [.int .i64 x6.op, .string x6.name, v11, v13, v15, .int .i64 x6.n, v17, v265, v21, .bool x6.els]) ?_ ?_
            · rintro E w311 ⟨h310, HF, rfl, S313, le312, ob314, ob315⟩
              refine WC.seq ?_
              refine WC.block ?_
              refine WC.seq ?_
              refine WC.region ?_
              obtain ⟨e316, he317, HF⟩ := bind_some HF
              obtain ⟨b318, o319, rfl, h321, h322, ra320⟩ := RS.atO (rs255.mono ((le258).trans le312)) he317
              obtain ⟨cs323, r324, hc325⟩ := ra320
              refine WL.val rfl rfl rfl (ov_indexAddr rfl rfl t_slice_42 t_size_47 h321 h322) ?_
              refine WL.val rfl rfl rfl (ov_loadN (cs := cs323) rfl t_agg_47 (by rw [Rp.len r324]; exact t_size_47) (fun j v hv => S313.sub.at_ _ _ _ (hc325 j v hv))) ?_
              refine WL.alloc (zs := [.slice none 0 0, .slice none 0 0, .slice none 0 0]) rfl rfl t_zero_47 rfl S313.sub (fun w326 b327 hb328 s329 ob330 => ?_)
              have ne331 : b1 ≠ b327 := ob314.ne_new hb328
              have ne332 : b24 ≠ b327 := ob315.ne_new hb328
              have g333 : w0.heap.size ≤ b327 := by rw [hb328]; exact S313.size
              have S334 := S313.trans0 s329
              obtain ⟨v335, v337, v339, rfl, rs336, rs338, rs340⟩ := rp_Ar.1 (Rp.mono (s329.le) r324)
              refine WL.store (vs := [v335, v337, v339]) rfl rfl rfl rfl t_size_47 (one_cons (RS.one rs336) (one_cons (RS.one rs338) (one_cons (RS.one rs340) one_nil))) ob330 S334.sub (by simp) (ds := [v335, v337, v339]) rfl (fun w341 s342 ob343 => ?_)
              have S344 := S334.trans1 s342 (.inr g333)
              refine WL.nil ?_
              refine WQ.seqN ?_
              refine WC.seq ?_
              refine WC.region ?_
              refine WL.val rfl rfl rfl (ov_move rfl) ?_
              refine WL.val rfl rfl rfl (ov_loadN (cs := [v335, v337, v339]) rfl t_agg_47 t_size_47 (OB.cells ob343 0 rfl)) ?_
              refine WL.val rfl rfl rfl (ov_fieldAddr rfl t_field_44_0) ?_
              have ob345 := ((ob315.step0 s329).step1 s342 ne332)
              refine WL.val rfl rfl rfl (ov_load1 rfl t_agg_3 (OB.cell ob345 (j := 0) rfl)) ?_
              refine WL.val rfl rfl rfl (ov_move rfl) ?_
              refine WL.val rfl rfl rfl (ov_add rfl rfl) ?_
              have ob346 := ((ob314.step0 s329).step1 s342 ne331)
              obtain ⟨r347, hr348, HF⟩ := bind_some HF
              refine WL.call rfl rfl rfl (oc_func (vs := [.pointer (some ⟨b1, 0, none⟩), .agg #[v335, v337, v339], .int .i64 x6.op, .int .i64 (IntKind.i64.wrap (x9 + 1))]) rfl t_ent_87) ((IH _ (Nat.le_trans (Nat.le_of_succ_le hj270) (Nat.le_refl _))).2.2 hr348 S344.sub (rp_Ar.2 ⟨_, _, _, rfl, (rs336.mono (s342.le)), (rs338.mono (s342.le)), (rs340.mono (s342.le))⟩) ob346) ?_
              rintro _ w350 ⟨h351, s352, rfl, ob353⟩
              have S354 := S344.trans s352 (in_cons (.inl (by simp)) in_nil)
              refine WL.val rfl rfl rfl (ov_not rfl) ?_
              refine WL.nil ?_
              refine WQ.seqN ?_
              refine WC.cond (b := !r347.1) rfl (fun hb355 => ?_) (fun hb355 => ?_)
              · replace HF := bif_t hb355 HF
                refine WC.seq ?_
                refine WC.region ?_
                refine WL.val rfl rfl rfl (ov_assign rfl) ?_
                refine WL.nil ?_
                refine WQ.seqN ?_
                refine WC.ret ?_
                refine WQ.blockRet ?_
                refine WQ.thenRet ?_
                refine WQ.thenRet ?_
                refine WQ.blockRet ?_
                refine WQ.thenRet ?_
                refine WQ.ret1 rfl rfl ?_
                obtain rfl := Option.some.inj HF
                exact ⟨_, rfl, h351, S354, rfl, ob353⟩
              · replace HF := bif_f hb355 HF
                refine WC.skip ?_
                refine WQ.blockN ?_
                refine WQ.seqN ?_
                refine WC.region ?_
                refine WL.val rfl rfl rfl (ov_add rfl rfl) ?_
                refine WL.val rfl rfl rfl (ov_move rfl) ?_
                refine WL.nil ?_
                have ob357 := (ob345.step1 s352 (Ne.symm ne28))
                refine WQ.loopN ?_
                refine WP.to [0, 2, 4, 140, 141, 142] [(0, .pointer (some ⟨b1, 0, none⟩)), (2, .int .i64 x9), (4, .pointer (some ⟨b24, 0, none⟩)), (140, .slice (some ⟨b318, o319, none⟩) (x6.arms).length c254), (141, .int .i64 (x6.arms.length : Int)), (142, .int .i64 (IntKind.i64.wrap (x260 + 1)))] rfl ?_
                exact IHL269 j268 (Nat.le_refl _) _ _ ⟨h351, IntKind.i64.wrap (x260 + 1), r347.2.1, r347.2.2, xs264, v265, HF, rfl, S354, (le258).trans ((le312).trans ((s329.le).trans ((s342.le).trans s352.le))), (rs266.mono ((le312).trans ((s329.le).trans ((s342.le).trans s352.le)))), ob353, ob357⟩
            · intro J356
              refine WC.cond (b := decide ((x260 : Int) < (x6.arms.length : Int))) rfl (fun hb271 => ?_) (fun hb271 => ?_)
              · replace HF := bif_t hb271 HF
                refine WC.skip ?_
                refine WC.to [0, 2, 4, 140, 141, 142] [(0, .pointer (some ⟨b1, 0, none⟩)), (2, .int .i64 x9), (4, .pointer (some ⟨b24, 0, none⟩)), (140, .slice A253 (x6.arms).length c254), (141, .int .i64 (x6.arms.length : Int)), (142, .int .i64 x260)] rfl ?_
                exact J356 ⟨h256, HF, rfl, S259, Hle.refl _, ob263, ob267⟩
              · replace HF := bif_f hb271 HF
                refine WC.exit ?_
                refine WQ.thenExit ?_
                refine WQ.thenExit ?_
                refine WQ.blockHit ?_
                refine WQ.seqN ?_
                refine WC.seq ?_
                refine WC.region ?_
                refine WL.val rfl rfl rfl (ov_move rfl) ?_
                refine WL.val rfl rfl rfl (ov_fieldAddr rfl t_field_44_2) ?_
                refine WL.val rfl rfl rfl (ov_load1 rfl t_agg_30 (OB.cell ob267 (j := 2) rfl)) ?_
                refine WL.val rfl rfl rfl (ov_move rfl) ?_
                refine WL.val rfl rfl rfl (ov_add rfl rfl) ?_
                obtain ⟨r272, hr273, HF⟩ := bind_some HF
                refine WL.call rfl rfl rfl (oc_func (vs := [.pointer (some ⟨b1, 0, none⟩), v11, .int .i64 (IntKind.i64.wrap (x9 + 1))]) rfl t_ent_81) (ok_ast_Counter_Exprs _ hr273 S259.sub (rs12.mono ((s26.le).trans ((s40.le).trans ((s47.le).trans ((le107).trans ((le154).trans ((le200).trans ((le249).trans le258)))))))) ob263) ?_
                rintro _ w275 ⟨h276, s277, rfl, ob278⟩
                have S279 := S259.trans s277 (in_cons (.inl (by simp)) in_nil)
                refine WL.val rfl rfl rfl (ov_move rfl) ?_
                refine WL.split 161 (b := r272.1) rfl (fun hb280 => ?_) (fun hb280 => ?_)
                · replace HF := bif_t hb280 HF
                  refine WL.val rfl rfl rfl (ov_move rfl) ?_
                  refine WL.val rfl rfl rfl (ov_fieldAddr rfl t_field_44_4) ?_
                  have ob281 := (ob267.step1 s277 (Ne.symm ne28))
                  refine WL.val rfl rfl rfl (ov_load1 rfl t_agg_30 (OB.cell ob281 (j := 4) rfl)) ?_
                  refine WL.val rfl rfl rfl (ov_move rfl) ?_
                  refine WL.val rfl rfl rfl (ov_add rfl rfl) ?_
                  obtain ⟨r282, hr283, HF⟩ := bind_some HF
                  refine WL.call rfl rfl rfl (oc_func (vs := [.pointer (some ⟨b1, 0, none⟩), v15, .int .i64 (IntKind.i64.wrap (x9 + 1))]) rfl t_ent_81) (ok_ast_Counter_Exprs _ hr283 S279.sub (rs16.mono ((s26.le).trans ((s40.le).trans ((s47.le).trans ((le107).trans ((le154).trans ((le200).trans ((le249).trans ((le258).trans s277.le))))))))) ob278) ?_
                  rintro _ w285 ⟨h286, s287, rfl, ob288⟩
                  have S289 := S279.trans s287 (in_cons (.inl (by simp)) in_nil)
                  refine WL.val rfl rfl rfl (ov_pickT rfl rfl) ?_
                  refine WL.val rfl rfl rfl (ov_move rfl) ?_
                  refine WL.split 169 (b := r282.1) rfl (fun hb290 => ?_) (fun hb290 => ?_)
                  · replace HF := bif_t hb290 HF
                    refine WL.val rfl rfl rfl (ov_move rfl) ?_
                    refine WL.val rfl rfl rfl (ov_fieldAddr rfl t_field_44_6) ?_
                    have ob291 := (ob281.step1 s287 (Ne.symm ne28))
                    refine WL.val rfl rfl rfl (ov_load1 rfl t_agg_22 (OB.cell ob291 (j := 6) rfl)) ?_
                    refine WL.val rfl rfl rfl (ov_move rfl) ?_
                    refine WL.val rfl rfl rfl (ov_add rfl rfl) ?_
                    obtain ⟨r292, hr293, HF⟩ := bind_some HF
                    refine WL.call rfl rfl rfl (oc_func (vs := [.pointer (some ⟨b1, 0, none⟩), v17, .int .i64 (IntKind.i64.wrap (x9 + 1))]) rfl t_ent_38) ((IH _ (Nat.le_trans (Nat.le_of_succ_le hj270) (Nat.le_refl _))).1 hr293 S289.sub (rs18.mono ((s26.le).trans ((s40.le).trans ((s47.le).trans ((le107).trans ((le154).trans ((le200).trans ((le249).trans ((le258).trans ((s277.le).trans s287.le)))))))))) ob288) ?_
                    rintro _ w295 ⟨h296, s297, rfl, ob298⟩
                    have S299 := S289.trans s297 (in_cons (.inl (by simp)) in_nil)
                    refine WL.val rfl rfl rfl (ov_pickT rfl rfl) ?_
                    refine WL.val rfl rfl rfl (ov_move rfl) ?_
                    refine WL.split 177 (b := r292.1) rfl (fun hb300 => ?_) (fun hb300 => ?_)
                    · replace HF := bif_t hb300 HF
                      refine WL.val rfl rfl rfl (ov_move rfl) ?_
                      refine WL.val rfl rfl rfl (ov_fieldAddr rfl t_field_44_8) ?_
                      have ob301 := (ob291.step1 s297 (Ne.symm ne28))
                      refine WL.val rfl rfl rfl (ov_load1 rfl t_agg_22 (OB.cell ob301 (j := 8) rfl)) ?_
                      refine WL.val rfl rfl rfl (ov_move rfl) ?_
                      refine WL.val rfl rfl rfl (ov_add rfl rfl) ?_
                      obtain ⟨r302, hr303, HF⟩ := bind_some HF
                      refine WL.call rfl rfl rfl (oc_func (vs := [.pointer (some ⟨b1, 0, none⟩), v21, .int .i64 (IntKind.i64.wrap (x9 + 1))]) rfl t_ent_38) ((IH _ (Nat.le_trans (Nat.le_of_succ_le hj270) (Nat.le_refl _))).1 hr303 S299.sub (rs22.mono ((s26.le).trans ((s40.le).trans ((s47.le).trans ((le107).trans ((le154).trans ((le200).trans ((le249).trans ((le258).trans ((s277.le).trans ((s287.le).trans s297.le))))))))))) ob298) ?_
                      rintro _ w305 ⟨h306, s307, rfl, ob308⟩
                      have S309 := S299.trans s307 (in_cons (.inl (by simp)) in_nil)
                      refine WL.val rfl rfl rfl (ov_pickT rfl rfl) ?_
                      refine WL.val rfl rfl rfl (ov_assign rfl) ?_
                      refine WL.nil ?_
                      refine WQ.seqN ?_
                      refine WC.ret ?_
                      refine WQ.ret1 rfl rfl ?_
                      obtain rfl := Option.some.inj HF
                      exact ⟨_, rfl, h306, S309, rfl, ob308⟩
                    · replace HF := bif_f hb300 HF
                      refine WL.pass rfl rfl rfl ?_
                      refine WL.pass rfl rfl rfl ?_
                      refine WL.pass rfl rfl rfl ?_
                      refine WL.pass rfl rfl rfl ?_
                      refine WL.pass rfl rfl rfl ?_
                      refine WL.pass rfl rfl rfl ?_
                      refine WL.val rfl rfl rfl (ov_pickF rfl rfl) ?_
                      refine WL.val rfl rfl rfl (ov_assign rfl) ?_
                      refine WL.nil ?_
                      refine WQ.seqN ?_
                      refine WC.ret ?_
                      refine WQ.ret1 rfl rfl ?_
                      obtain rfl := Option.some.inj HF
                      exact ⟨_, rfl, h296, S299, rfl, ob298⟩
                  · replace HF := bif_f hb290 HF
                    refine WL.pass rfl rfl rfl ?_
                    refine WL.pass rfl rfl rfl ?_
                    refine WL.pass rfl rfl rfl ?_
                    refine WL.pass rfl rfl rfl ?_
                    refine WL.pass rfl rfl rfl ?_
                    refine WL.pass rfl rfl rfl ?_
                    refine WL.val rfl rfl rfl (ov_pickF rfl rfl) ?_
                    refine WL.val rfl rfl rfl (ov_move rfl) ?_
                    refine WL.pass rfl rfl rfl ?_
                    refine WL.pass rfl rfl rfl ?_
                    refine WL.pass rfl rfl rfl ?_
                    refine WL.pass rfl rfl rfl ?_
                    refine WL.pass rfl rfl rfl ?_
                    refine WL.pass rfl rfl rfl ?_
                    refine WL.val rfl rfl rfl (ov_pickF rfl rfl) ?_
                    refine WL.val rfl rfl rfl (ov_assign rfl) ?_
                    refine WL.nil ?_
                    refine WQ.seqN ?_
                    refine WC.ret ?_
                    refine WQ.ret1 rfl rfl ?_
                    obtain rfl := Option.some.inj HF
                    exact ⟨_, rfl, h286, S289, rfl, ob288⟩
                · replace HF := bif_f hb280 HF
                  refine WL.pass rfl rfl rfl ?_
                  refine WL.pass rfl rfl rfl ?_
                  refine WL.pass rfl rfl rfl ?_
                  refine WL.pass rfl rfl rfl ?_
                  refine WL.pass rfl rfl rfl ?_
                  refine WL.pass rfl rfl rfl ?_
                  refine WL.val rfl rfl rfl (ov_pickF rfl rfl) ?_
                  refine WL.val rfl rfl rfl (ov_move rfl) ?_
                  refine WL.pass rfl rfl rfl ?_
                  refine WL.pass rfl rfl rfl ?_
                  refine WL.pass rfl rfl rfl ?_
                  refine WL.pass rfl rfl rfl ?_
                  refine WL.pass rfl rfl rfl ?_
                  refine WL.pass rfl rfl rfl ?_
                  refine WL.val rfl rfl rfl (ov_pickF rfl rfl) ?_
                  refine WL.val rfl rfl rfl (ov_move rfl) ?_
                  refine WL.pass rfl rfl rfl ?_
                  refine WL.pass rfl rfl rfl ?_
                  refine WL.pass rfl rfl rfl ?_
                  refine WL.pass rfl rfl rfl ?_
                  refine WL.pass rfl rfl rfl ?_
                  refine WL.pass rfl rfl rfl ?_
                  refine WL.val rfl rfl rfl (ov_pickF rfl rfl) ?_
                  refine WL.val rfl rfl rfl (ov_assign rfl) ?_
                  refine WL.nil ?_
                  refine WQ.seqN ?_
                  refine WC.ret ?_
                  refine WQ.ret1 rfl rfl ?_
                  obtain rfl := Option.some.inj HF
                  exact ⟨_, rfl, h276, S279, rfl, ob278⟩
          · exact ⟨h247, 0, x109, x110, x6.arms, .slice A253 (x6.arms).length c254, HF, rfl, S250, Hle.refl _, rs255, ob251, ob252⟩
        · intro J358
          refine WC.join (fun E w239 => ∃ (h238 : Hp) (x242 : Bool), ast_Counter_stmt_j7 k (tie_ast_Counter_Text k) x6 x9 x109 x110 x242 = some r ∧ E = [(0, .pointer (some ⟨b1, 0, none⟩)), (2, .int .i64 x9), (4, .pointer (some ⟨b24, 0, none⟩)), (138, .bool x242)] ∧ Stp [b1] w0 h0 w239 h238 ∧ Hle h198 h238 ∧ OB w239 h238 b1 T2 [.int .i64 x109, .int .i64 x110] ∧ OB w239 h238 b24 44 [.int .i64 x6.op, .string x6.name, v11, v13, v15, .int .i64 x6.n, v17, v19, v21, .bool x6.els]) ?_ ?_
          · rintro E w239 ⟨h238, x242, HF, rfl, S241, le240, ob243, ob244⟩
            refine WC.cond (b := x242) rfl (fun hb245 => ?_) (fun hb245 => ?_)
            · replace HF := bif_t hb245 HF
              refine WC.seq ?_
              refine WC.region ?_
              refine WL.val rfl rfl rfl (ov_assign rfl) ?_
              refine WL.nil ?_
              refine WQ.seqN ?_
              refine WC.ret ?_
              refine WQ.thenRet ?_
              refine WQ.ret1 rfl rfl ?_
              obtain rfl := Option.some.inj HF
              exact ⟨_, rfl, h238, S241, rfl, ob243⟩
            · replace HF := bif_f hb245 HF
              refine WC.skip ?_
              refine WC.to [0, 2, 4] [(0, .pointer (some ⟨b1, 0, none⟩)), (2, .int .i64 x9), (4, .pointer (some ⟨b24, 0, none⟩))] rfl ?_
              exact J358 ⟨h238, HF, rfl, S241, le240, ob243, ob244⟩
          · intro J246
            refine WC.region ?_
            refine WL.val rfl rfl rfl (ov_fieldAddr rfl t_field_128_3) ?_
            refine WL.val rfl rfl rfl (ov_load1 rfl t_agg_4 (OB.cell ob204 (j := 3) rfl)) ?_
            refine WL.val rfl rfl rfl (ov_not rfl) ?_
            refine WL.val rfl rfl rfl (ov_move rfl) ?_
            refine WL.split 107 (b := !((r34.getD (false, 0, 0, false, false)).2.2.2.1)) rfl (fun hb205 => ?_) (fun hb205 => ?_)
            · replace HF := bif_t hb205 HF
              refine WL.val rfl rfl rfl (ov_fieldAddr rfl t_field_44_6) ?_
              refine WL.val rfl rfl rfl (ov_load1 rfl t_agg_22 (OB.cell ob203 (j := 6) rfl)) ?_
              obtain ⟨A206, c207, rfl, rs208⟩ := RS.form (rs18.mono ((s26.le).trans ((s40.le).trans ((s47.le).trans ((le107).trans ((le154).trans le200))))))
              refine WL.val rfl rfl rfl (ov_lenL rfl t_slice_22) ?_
              refine WL.val rfl rfl rfl (ov_gtr rfl rfl) ?_
              refine WL.val rfl rfl rfl (ov_pickT rfl rfl) ?_
              refine WL.val rfl rfl rfl (ov_move rfl) ?_
              refine WL.split 113 (b := decide ((0 : Int) < (x6.body.length : Int))) rfl (fun hb209 => ?_) (fun hb209 => ?_)
              · replace HF := bif_t hb209 HF
                refine WL.pass rfl rfl rfl ?_
                refine WL.pass rfl rfl rfl ?_
                refine WL.pass rfl rfl rfl ?_
                refine WL.pass rfl rfl rfl ?_
                refine WL.pass rfl rfl rfl ?_
                refine WL.pass rfl rfl rfl ?_
                refine WL.pass rfl rfl rfl ?_
                refine WL.pass rfl rfl rfl ?_
                refine WL.pass rfl rfl rfl ?_
                refine WL.pass rfl rfl rfl ?_
                refine WL.pass rfl rfl rfl ?_
                refine WL.pass rfl rfl rfl ?_
                refine WL.pass rfl rfl rfl ?_
                refine WL.val rfl rfl rfl (ov_pickT rfl rfl) ?_
                refine WL.val rfl rfl rfl (ov_move rfl) ?_
                refine WL.pass rfl rfl rfl ?_
                refine WL.pass rfl rfl rfl ?_
                refine WL.pass rfl rfl rfl ?_
                refine WL.pass rfl rfl rfl ?_
                refine WL.pass rfl rfl rfl ?_
                refine WL.pass rfl rfl rfl ?_
                refine WL.pass rfl rfl rfl ?_
                refine WL.pass rfl rfl rfl ?_
                refine WL.pass rfl rfl rfl ?_
                refine WL.val rfl rfl rfl (ov_pickT rfl rfl) ?_
                refine WL.nil ?_
                refine WC.to [0, 2, 4, 138] [(0, .pointer (some ⟨b1, 0, none⟩)), (2, .int .i64 x9), (4, .pointer (some ⟨b24, 0, none⟩)), (138, .bool true)] rfl ?_
                exact J246 ⟨h198, true, HF, rfl, S201, Hle.refl _, ob202, ob203⟩
              · replace HF := bif_f hb209 HF
                refine WL.val rfl rfl rfl (ov_fieldAddr rfl t_field_128_4) ?_
                refine WL.val rfl rfl rfl (ov_load1 rfl t_agg_4 (OB.cell ob204 (j := 4) rfl)) ?_
                refine WL.val rfl rfl rfl (ov_not rfl) ?_
                refine WL.val rfl rfl rfl (ov_move rfl) ?_
                refine WL.split 117 (b := !((r34.getD (false, 0, 0, false, false)).2.2.2.2)) rfl (fun hb210 => ?_) (fun hb210 => ?_)
                · replace HF := bif_t hb210 HF
                  refine WL.val rfl rfl rfl (ov_fieldAddr rfl t_field_44_7) ?_
                  refine WL.val rfl rfl rfl (ov_load1 rfl t_agg_42 (OB.cell ob203 (j := 7) rfl)) ?_
                  obtain ⟨A211, c212, rfl, rs213⟩ := RS.form (rs20.mono ((s26.le).trans ((s40.le).trans ((s47.le).trans ((le107).trans ((le154).trans le200))))))
                  refine WL.val rfl rfl rfl (ov_lenL rfl t_slice_42) ?_
                  refine WL.val rfl rfl rfl (ov_gtr rfl rfl) ?_
                  refine WL.val rfl rfl rfl (ov_move rfl) ?_
                  refine WL.split 122 (b := decide ((0 : Int) < (x6.arms.length : Int))) rfl (fun hb214 => ?_) (fun hb214 => ?_)
                  · replace HF := bif_t hb214 HF
                    refine WL.pass rfl rfl rfl ?_
                    refine WL.pass rfl rfl rfl ?_
                    refine WL.val rfl rfl rfl (ov_pickT rfl rfl) ?_
                    refine WL.val rfl rfl rfl (ov_pickT rfl rfl) ?_
                    refine WL.val rfl rfl rfl (ov_pickF rfl rfl) ?_
                    refine WL.val rfl rfl rfl (ov_move rfl) ?_
                    refine WL.pass rfl rfl rfl ?_
                    refine WL.pass rfl rfl rfl ?_
                    refine WL.pass rfl rfl rfl ?_
                    refine WL.pass rfl rfl rfl ?_
                    refine WL.pass rfl rfl rfl ?_
                    refine WL.pass rfl rfl rfl ?_
                    refine WL.pass rfl rfl rfl ?_
                    refine WL.pass rfl rfl rfl ?_
                    refine WL.pass rfl rfl rfl ?_
                    refine WL.val rfl rfl rfl (ov_pickT rfl rfl) ?_
                    refine WL.nil ?_
                    refine WC.to [0, 2, 4, 138] [(0, .pointer (some ⟨b1, 0, none⟩)), (2, .int .i64 x9), (4, .pointer (some ⟨b24, 0, none⟩)), (138, .bool true)] rfl ?_
                    exact J246 ⟨h198, true, HF, rfl, S201, Hle.refl _, ob202, ob203⟩
                  · replace HF := bif_f hb214 HF
                    refine WL.val rfl rfl rfl (ov_fieldAddr rfl t_field_44_9) ?_
                    refine WL.val rfl rfl rfl (ov_load1 rfl t_agg_4 (OB.cell ob203 (j := 9) rfl)) ?_
                    refine WL.val rfl rfl rfl (ov_pickF rfl rfl) ?_
                    refine WL.val rfl rfl rfl (ov_pickT rfl rfl) ?_
                    refine WL.val rfl rfl rfl (ov_pickF rfl rfl) ?_
                    refine WL.val rfl rfl rfl (ov_move rfl) ?_
                    refine WL.split 128 (b := x6.els) rfl (fun hb215 => ?_) (fun hb215 => ?_)
                    · replace HF := bif_t hb215 HF
                      refine WL.pass rfl rfl rfl ?_
                      refine WL.pass rfl rfl rfl ?_
                      refine WL.pass rfl rfl rfl ?_
                      refine WL.pass rfl rfl rfl ?_
                      refine WL.pass rfl rfl rfl ?_
                      refine WL.pass rfl rfl rfl ?_
                      refine WL.pass rfl rfl rfl ?_
                      refine WL.pass rfl rfl rfl ?_
                      refine WL.pass rfl rfl rfl ?_
                      refine WL.val rfl rfl rfl (ov_pickT rfl rfl) ?_
                      refine WL.nil ?_
                      refine WC.to [0, 2, 4, 138] [(0, .pointer (some ⟨b1, 0, none⟩)), (2, .int .i64 x9), (4, .pointer (some ⟨b24, 0, none⟩)), (138, .bool true)] rfl ?_
                      exact J246 ⟨h198, true, HF, rfl, S201, Hle.refl _, ob202, ob203⟩
                    · replace HF := bif_f hb215 HF
                      refine WL.val rfl rfl rfl (ov_fieldAddr rfl t_field_44_9) ?_
                      refine WL.val rfl rfl rfl (ov_load1 rfl t_agg_4 (OB.cell ob203 (j := 9) rfl)) ?_
                      refine WL.val rfl rfl rfl (ov_not rfl) ?_
                      refine WL.val rfl rfl rfl (ov_move rfl) ?_
                      refine WL.split 132 (b := !x6.els) rfl (fun hb216 => ?_) (fun hb216 => ?_)
                      · replace HF := bif_t hb216 HF
                        refine WL.val rfl rfl rfl (ov_fieldAddr rfl t_field_44_8) ?_
                        refine WL.val rfl rfl rfl (ov_load1 rfl t_agg_22 (OB.cell ob203 (j := 8) rfl)) ?_
                        obtain ⟨A217, c218, rfl, rs219⟩ := RS.form (rs22.mono ((s26.le).trans ((s40.le).trans ((s47.le).trans ((le107).trans ((le154).trans le200))))))
                        refine WL.val rfl rfl rfl (ov_lenL rfl t_slice_22) ?_
                        refine WL.val rfl rfl rfl (ov_gtr rfl rfl) ?_
                        refine WL.val rfl rfl rfl (ov_pickT rfl rfl) ?_
                        refine WL.val rfl rfl rfl (ov_pickF rfl rfl) ?_
                        refine WL.nil ?_
                        refine WC.to [0, 2, 4, 138] [(0, .pointer (some ⟨b1, 0, none⟩)), (2, .int .i64 x9), (4, .pointer (some ⟨b24, 0, none⟩)), (138, .bool (decide ((0 : Int) < (x6.other.length : Int))))] rfl ?_
                        exact J246 ⟨h198, decide ((0 : Int) < (x6.other.length : Int)), HF, rfl, S201, Hle.refl _, ob202, ob203⟩
                      · replace HF := bif_f hb216 HF
                        refine WL.pass rfl rfl rfl ?_
                        refine WL.pass rfl rfl rfl ?_
                        refine WL.pass rfl rfl rfl ?_
                        refine WL.pass rfl rfl rfl ?_
                        refine WL.val rfl rfl rfl (ov_pickF rfl rfl) ?_
                        refine WL.val rfl rfl rfl (ov_pickF rfl rfl) ?_
                        refine WL.nil ?_
                        refine WC.to [0, 2, 4, 138] [(0, .pointer (some ⟨b1, 0, none⟩)), (2, .int .i64 x9), (4, .pointer (some ⟨b24, 0, none⟩)), (138, .bool false)] rfl ?_
                        exact J246 ⟨h198, false, HF, rfl, S201, Hle.refl _, ob202, ob203⟩
                · replace HF := bif_f hb210 HF
                  refine WL.pass rfl rfl rfl ?_
                  refine WL.pass rfl rfl rfl ?_
                  refine WL.pass rfl rfl rfl ?_
                  refine WL.pass rfl rfl rfl ?_
                  refine WL.pass rfl rfl rfl ?_
                  refine WL.pass rfl rfl rfl ?_
                  refine WL.pass rfl rfl rfl ?_
                  refine WL.pass rfl rfl rfl ?_
                  refine WL.val rfl rfl rfl (ov_pickF rfl rfl) ?_
                  refine WL.val rfl rfl rfl (ov_pickF rfl rfl) ?_
                  refine WL.val rfl rfl rfl (ov_move rfl) ?_
                  refine WL.val rfl rfl rfl (ov_fieldAddr rfl t_field_44_9) ?_
                  refine WL.val rfl rfl rfl (ov_load1 rfl t_agg_4 (OB.cell ob203 (j := 9) rfl)) ?_
                  refine WL.val rfl rfl rfl (ov_not rfl) ?_
                  refine WL.val rfl rfl rfl (ov_move rfl) ?_
                  refine WL.split 132 (b := !x6.els) rfl (fun hb220 => ?_) (fun hb220 => ?_)
                  · replace HF := bif_t hb220 HF
                    refine WL.val rfl rfl rfl (ov_fieldAddr rfl t_field_44_8) ?_
                    refine WL.val rfl rfl rfl (ov_load1 rfl t_agg_22 (OB.cell ob203 (j := 8) rfl)) ?_
                    obtain ⟨A221, c222, rfl, rs223⟩ := RS.form (rs22.mono ((s26.le).trans ((s40.le).trans ((s47.le).trans ((le107).trans ((le154).trans le200))))))
                    refine WL.val rfl rfl rfl (ov_lenL rfl t_slice_22) ?_
                    refine WL.val rfl rfl rfl (ov_gtr rfl rfl) ?_
                    refine WL.val rfl rfl rfl (ov_pickT rfl rfl) ?_
                    refine WL.val rfl rfl rfl (ov_pickF rfl rfl) ?_
                    refine WL.nil ?_
                    refine WC.to [0, 2, 4, 138] [(0, .pointer (some ⟨b1, 0, none⟩)), (2, .int .i64 x9), (4, .pointer (some ⟨b24, 0, none⟩)), (138, .bool (decide ((0 : Int) < (x6.other.length : Int))))] rfl ?_
                    exact J246 ⟨h198, decide ((0 : Int) < (x6.other.length : Int)), HF, rfl, S201, Hle.refl _, ob202, ob203⟩
                  · replace HF := bif_f hb220 HF
                    refine WL.pass rfl rfl rfl ?_
                    refine WL.pass rfl rfl rfl ?_
                    refine WL.pass rfl rfl rfl ?_
                    refine WL.pass rfl rfl rfl ?_
                    refine WL.val rfl rfl rfl (ov_pickF rfl rfl) ?_
                    refine WL.val rfl rfl rfl (ov_pickF rfl rfl) ?_
                    refine WL.nil ?_
                    refine WC.to [0, 2, 4, 138] [(0, .pointer (some ⟨b1, 0, none⟩)), (2, .int .i64 x9), (4, .pointer (some ⟨b24, 0, none⟩)), (138, .bool false)] rfl ?_
                    exact J246 ⟨h198, false, HF, rfl, S201, Hle.refl _, ob202, ob203⟩
            · replace HF := bif_f hb205 HF
              refine WL.pass rfl rfl rfl ?_
              refine WL.pass rfl rfl rfl ?_
              refine WL.pass rfl rfl rfl ?_
              refine WL.pass rfl rfl rfl ?_
              refine WL.val rfl rfl rfl (ov_pickF rfl rfl) ?_
              refine WL.val rfl rfl rfl (ov_move rfl) ?_
              refine WL.val rfl rfl rfl (ov_fieldAddr rfl t_field_128_4) ?_
              refine WL.val rfl rfl rfl (ov_load1 rfl t_agg_4 (OB.cell ob204 (j := 4) rfl)) ?_
              refine WL.val rfl rfl rfl (ov_not rfl) ?_
              refine WL.val rfl rfl rfl (ov_move rfl) ?_
              refine WL.split 117 (b := !((r34.getD (false, 0, 0, false, false)).2.2.2.2)) rfl (fun hb224 => ?_) (fun hb224 => ?_)
              · replace HF := bif_t hb224 HF
                refine WL.val rfl rfl rfl (ov_fieldAddr rfl t_field_44_7) ?_
                refine WL.val rfl rfl rfl (ov_load1 rfl t_agg_42 (OB.cell ob203 (j := 7) rfl)) ?_
                obtain ⟨A225, c226, rfl, rs227⟩ := RS.form (rs20.mono ((s26.le).trans ((s40.le).trans ((s47.le).trans ((le107).trans ((le154).trans le200))))))
                refine WL.val rfl rfl rfl (ov_lenL rfl t_slice_42) ?_
                refine WL.val rfl rfl rfl (ov_gtr rfl rfl) ?_
                refine WL.val rfl rfl rfl (ov_move rfl) ?_
                refine WL.split 122 (b := decide ((0 : Int) < (x6.arms.length : Int))) rfl (fun hb228 => ?_) (fun hb228 => ?_)
                · replace HF := bif_t hb228 HF
                  refine WL.pass rfl rfl rfl ?_
                  refine WL.pass rfl rfl rfl ?_
                  refine WL.val rfl rfl rfl (ov_pickT rfl rfl) ?_
                  refine WL.val rfl rfl rfl (ov_pickT rfl rfl) ?_
                  refine WL.val rfl rfl rfl (ov_pickF rfl rfl) ?_
                  refine WL.val rfl rfl rfl (ov_move rfl) ?_
                  refine WL.pass rfl rfl rfl ?_
                  refine WL.pass rfl rfl rfl ?_
                  refine WL.pass rfl rfl rfl ?_
                  refine WL.pass rfl rfl rfl ?_
                  refine WL.pass rfl rfl rfl ?_
                  refine WL.pass rfl rfl rfl ?_
                  refine WL.pass rfl rfl rfl ?_
                  refine WL.pass rfl rfl rfl ?_
                  refine WL.pass rfl rfl rfl ?_
                  refine WL.val rfl rfl rfl (ov_pickT rfl rfl) ?_
                  refine WL.nil ?_
                  refine WC.to [0, 2, 4, 138] [(0, .pointer (some ⟨b1, 0, none⟩)), (2, .int .i64 x9), (4, .pointer (some ⟨b24, 0, none⟩)), (138, .bool true)] rfl ?_
                  exact J246 ⟨h198, true, HF, rfl, S201, Hle.refl _, ob202, ob203⟩
                · replace HF := bif_f hb228 HF
                  refine WL.val rfl rfl rfl (ov_fieldAddr rfl t_field_44_9) ?_
                  refine WL.val rfl rfl rfl (ov_load1 rfl t_agg_4 (OB.cell ob203 (j := 9) rfl)) ?_
                  refine WL.val rfl rfl rfl (ov_pickF rfl rfl) ?_
                  refine WL.val rfl rfl rfl (ov_pickT rfl rfl) ?_
                  refine WL.val rfl rfl rfl (ov_pickF rfl rfl) ?_
                  refine WL.val rfl rfl rfl (ov_move rfl) ?_
                  refine WL.split 128 (b := x6.els) rfl (fun hb229 => ?_) (fun hb229 => ?_)
                  · replace HF := bif_t hb229 HF
                    refine WL.pass rfl rfl rfl ?_
                    refine WL.pass rfl rfl rfl ?_
                    refine WL.pass rfl rfl rfl ?_
                    refine WL.pass rfl rfl rfl ?_
                    refine WL.pass rfl rfl rfl ?_
                    refine WL.pass rfl rfl rfl ?_
                    refine WL.pass rfl rfl rfl ?_
                    refine WL.pass rfl rfl rfl ?_
                    refine WL.pass rfl rfl rfl ?_
                    refine WL.val rfl rfl rfl (ov_pickT rfl rfl) ?_
                    refine WL.nil ?_
                    refine WC.to [0, 2, 4, 138] [(0, .pointer (some ⟨b1, 0, none⟩)), (2, .int .i64 x9), (4, .pointer (some ⟨b24, 0, none⟩)), (138, .bool true)] rfl ?_
                    exact J246 ⟨h198, true, HF, rfl, S201, Hle.refl _, ob202, ob203⟩
                  · replace HF := bif_f hb229 HF
                    refine WL.val rfl rfl rfl (ov_fieldAddr rfl t_field_44_9) ?_
                    refine WL.val rfl rfl rfl (ov_load1 rfl t_agg_4 (OB.cell ob203 (j := 9) rfl)) ?_
                    refine WL.val rfl rfl rfl (ov_not rfl) ?_
                    refine WL.val rfl rfl rfl (ov_move rfl) ?_
                    refine WL.split 132 (b := !x6.els) rfl (fun hb230 => ?_) (fun hb230 => ?_)
                    · replace HF := bif_t hb230 HF
                      refine WL.val rfl rfl rfl (ov_fieldAddr rfl t_field_44_8) ?_
                      refine WL.val rfl rfl rfl (ov_load1 rfl t_agg_22 (OB.cell ob203 (j := 8) rfl)) ?_
                      obtain ⟨A231, c232, rfl, rs233⟩ := RS.form (rs22.mono ((s26.le).trans ((s40.le).trans ((s47.le).trans ((le107).trans ((le154).trans le200))))))
                      refine WL.val rfl rfl rfl (ov_lenL rfl t_slice_22) ?_
                      refine WL.val rfl rfl rfl (ov_gtr rfl rfl) ?_
                      refine WL.val rfl rfl rfl (ov_pickT rfl rfl) ?_
                      refine WL.val rfl rfl rfl (ov_pickF rfl rfl) ?_
                      refine WL.nil ?_
                      refine WC.to [0, 2, 4, 138] [(0, .pointer (some ⟨b1, 0, none⟩)), (2, .int .i64 x9), (4, .pointer (some ⟨b24, 0, none⟩)), (138, .bool (decide ((0 : Int) < (x6.other.length : Int))))] rfl ?_
                      exact J246 ⟨h198, decide ((0 : Int) < (x6.other.length : Int)), HF, rfl, S201, Hle.refl _, ob202, ob203⟩
                    · replace HF := bif_f hb230 HF
                      refine WL.pass rfl rfl rfl ?_
                      refine WL.pass rfl rfl rfl ?_
                      refine WL.pass rfl rfl rfl ?_
                      refine WL.pass rfl rfl rfl ?_
                      refine WL.val rfl rfl rfl (ov_pickF rfl rfl) ?_
                      refine WL.val rfl rfl rfl (ov_pickF rfl rfl) ?_
                      refine WL.nil ?_
                      refine WC.to [0, 2, 4, 138] [(0, .pointer (some ⟨b1, 0, none⟩)), (2, .int .i64 x9), (4, .pointer (some ⟨b24, 0, none⟩)), (138, .bool false)] rfl ?_
                      exact J246 ⟨h198, false, HF, rfl, S201, Hle.refl _, ob202, ob203⟩
              · replace HF := bif_f hb224 HF
                refine WL.pass rfl rfl rfl ?_
                refine WL.pass rfl rfl rfl ?_
                refine WL.pass rfl rfl rfl ?_
                refine WL.pass rfl rfl rfl ?_
                refine WL.pass rfl rfl rfl ?_
                refine WL.pass rfl rfl rfl ?_
                refine WL.pass rfl rfl rfl ?_
                refine WL.pass rfl rfl rfl ?_
                refine WL.val rfl rfl rfl (ov_pickF rfl rfl) ?_
                refine WL.val rfl rfl rfl (ov_pickF rfl rfl) ?_
                refine WL.val rfl rfl rfl (ov_move rfl) ?_
                refine WL.val rfl rfl rfl (ov_fieldAddr rfl t_field_44_9) ?_
                refine WL.val rfl rfl rfl (ov_load1 rfl t_agg_4 (OB.cell ob203 (j := 9) rfl)) ?_
                refine WL.val rfl rfl rfl (ov_not rfl) ?_
                refine WL.val rfl rfl rfl (ov_move rfl) ?_
                refine WL.split 132 (b := !x6.els) rfl (fun hb234 => ?_) (fun hb234 => ?_)
                · replace HF := bif_t hb234 HF
                  refine WL.val rfl rfl rfl (ov_fieldAddr rfl t_field_44_8) ?_
                  refine WL.val rfl rfl rfl (ov_load1 rfl t_agg_22 (OB.cell ob203 (j := 8) rfl)) ?_
                  obtain ⟨A235, c236, rfl, rs237⟩ := RS.form (rs22.mono ((s26.le).trans ((s40.le).trans ((s47.le).trans ((le107).trans ((le154).trans le200))))))
                  refine WL.val rfl rfl rfl (ov_lenL rfl t_slice_22) ?_
                  refine WL.val rfl rfl rfl (ov_gtr rfl rfl) ?_
                  refine WL.val rfl rfl rfl (ov_pickT rfl rfl) ?_
                  refine WL.val rfl rfl rfl (ov_pickF rfl rfl) ?_
                  refine WL.nil ?_
                  refine WC.to [0, 2, 4, 138] [(0, .pointer (some ⟨b1, 0, none⟩)), (2, .int .i64 x9), (4, .pointer (some ⟨b24, 0, none⟩)), (138, .bool (decide ((0 : Int) < (x6.other.length : Int))))] rfl ?_
                  exact J246 ⟨h198, decide ((0 : Int) < (x6.other.length : Int)), HF, rfl, S201, Hle.refl _, ob202, ob203⟩
                · replace HF := bif_f hb234 HF
                  refine WL.pass rfl rfl rfl ?_
                  refine WL.pass rfl rfl rfl ?_
                  refine WL.pass rfl rfl rfl ?_
                  refine WL.pass rfl rfl rfl ?_
                  refine WL.val rfl rfl rfl (ov_pickF rfl rfl) ?_
                  refine WL.val rfl rfl rfl (ov_pickF rfl rfl) ?_
                  refine WL.nil ?_
                  refine WC.to [0, 2, 4, 138] [(0, .pointer (some ⟨b1, 0, none⟩)), (2, .int .i64 x9), (4, .pointer (some ⟨b24, 0, none⟩)), (138, .bool false)] rfl ?_
                  exact J246 ⟨h198, false, HF, rfl, S201, Hle.refl _, ob202, ob203⟩
      · intro J359
        refine WC.join (fun E w182 => ∃ (h181 : Hp) (x185 : Bool), ast_Counter_stmt_j5 k (tie_ast_Counter_Text k) x6 x9 r34 x109 x110 x185 = some r ∧ E = [(0, .pointer (some ⟨b1, 0, none⟩)), (2, .int .i64 x9), (4, .pointer (some ⟨b24, 0, none⟩)), (7, .pointer (some ⟨b38, 0, none⟩)), (103, .bool x185)] ∧ Stp [b1] w0 h0 w182 h181 ∧ Hle h152 h181 ∧ OB w182 h181 b1 T2 [.int .i64 x109, .int .i64 x110] ∧ OB w182 h181 b24 44 [.int .i64 x6.op, .string x6.name, v11, v13, v15, .int .i64 x6.n, v17, v19, v21, .bool x6.els] ∧ OB w182 h181 b38 128 [.bool ((r34.getD (false, 0, 0, false, false)).1), .int .i64 ((r34.getD (false, 0, 0, false, false)).2.1), .int .i64 ((r34.getD (false, 0, 0, false, false)).2.2.1), .bool ((r34.getD (false, 0, 0, false, false)).2.2.2.1), .bool ((r34.getD (false, 0, 0, false, false)).2.2.2.2)]) ?_ ?_
        · rintro E w182 ⟨h181, x185, HF, rfl, S184, le183, ob186, ob187, ob188⟩
          refine WC.cond (b := x185) rfl (fun hb189 => ?_) (fun hb189 => ?_)
          · replace HF := bif_t hb189 HF
            refine WC.seq ?_
            refine WC.region ?_
            refine WL.val rfl rfl rfl (ov_assign rfl) ?_
            refine WL.nil ?_
            refine WQ.seqN ?_
            refine WC.ret ?_
            refine WQ.thenRet ?_
            refine WQ.ret1 rfl rfl ?_
            obtain rfl := Option.some.inj HF
            exact ⟨_, rfl, h181, S184, rfl, ob186⟩
          · replace HF := bif_f hb189 HF
            refine WC.skip ?_
            refine WC.to [0, 2, 4, 7] [(0, .pointer (some ⟨b1, 0, none⟩)), (2, .int .i64 x9), (4, .pointer (some ⟨b24, 0, none⟩)), (7, .pointer (some ⟨b38, 0, none⟩))] rfl ?_
            exact J359 ⟨h181, HF, rfl, S184, le183, ob186, ob187, ob188⟩
        · intro J190
          refine WC.region ?_
          refine WL.val rfl rfl rfl (ov_fieldAddr rfl t_field_44_0) ?_
          refine WL.val rfl rfl rfl (ov_load1 rfl t_agg_3 (OB.cell ob157 (j := 0) rfl)) ?_
          refine WL.val rfl rfl rfl (ov_eql rfl rfl) ?_
          refine WL.val rfl rfl rfl (ov_move rfl) ?_
          refine WL.split 78 (b := (x6.op : Int) == 2) rfl (fun hb159 => ?_) (fun hb159 => ?_)
          · replace HF := bif_t hb159 HF
            refine WL.val rfl rfl rfl (ov_fieldAddr rfl t_field_44_3) ?_
            refine WL.val rfl rfl rfl (ov_load1 rfl t_agg_41 (OB.cell ob157 (j := 3) rfl)) ?_
            obtain ⟨A160, c161, rfl, rs162⟩ := RS.form (rs14.mono ((s26.le).trans ((s40.le).trans ((s47.le).trans ((le107).trans le154)))))
            refine WL.val rfl rfl rfl (ov_lenL rfl t_slice_41) ?_
            refine WL.val rfl rfl rfl (ov_fieldAddr rfl t_field_44_4) ?_
            refine WL.val rfl rfl rfl (ov_load1 rfl t_agg_30 (OB.cell ob157 (j := 4) rfl)) ?_
            obtain ⟨A163, c164, rfl, rs165⟩ := RS.form (rs16.mono ((s26.le).trans ((s40.le).trans ((s47.le).trans ((le107).trans le154)))))
            refine WL.val rfl rfl rfl (ov_lenL rfl t_slice_30) ?_
            refine WL.val rfl rfl rfl (ov_neq rfl rfl) ?_
            refine WL.val rfl rfl rfl (ov_move rfl) ?_
            refine WL.split 86 (b := ((x6.fields.length : Int) : Int) != (x6.args.length : Int)) rfl (fun hb166 => ?_) (fun hb166 => ?_)
            · replace HF := bif_t hb166 HF
              refine WL.pass rfl rfl rfl ?_
              refine WL.pass rfl rfl rfl ?_
              refine WL.pass rfl rfl rfl ?_
              refine WL.pass rfl rfl rfl ?_
              refine WL.val rfl rfl rfl (ov_pickT rfl rfl) ?_
              refine WL.val rfl rfl rfl (ov_pickT rfl rfl) ?_
              refine WL.val rfl rfl rfl (ov_move rfl) ?_
              refine WL.pass rfl rfl rfl ?_
              refine WL.pass rfl rfl rfl ?_
              refine WL.pass rfl rfl rfl ?_
              refine WL.pass rfl rfl rfl ?_
              refine WL.pass rfl rfl rfl ?_
              refine WL.pass rfl rfl rfl ?_
              refine WL.pass rfl rfl rfl ?_
              refine WL.pass rfl rfl rfl ?_
              refine WL.pass rfl rfl rfl ?_
              refine WL.val rfl rfl rfl (ov_pickT rfl rfl) ?_
              refine WL.nil ?_
              refine WC.to [0, 2, 4, 7, 103] [(0, .pointer (some ⟨b1, 0, none⟩)), (2, .int .i64 x9), (4, .pointer (some ⟨b24, 0, none⟩)), (7, .pointer (some ⟨b38, 0, none⟩)), (103, .bool true)] rfl ?_
              exact J190 ⟨h152, true, HF, rfl, S155, Hle.refl _, ob156, ob157, ob158⟩
            · replace HF := bif_f hb166 HF
              refine WL.val rfl rfl rfl (ov_fieldAddr rfl t_field_44_3) ?_
              refine WL.val rfl rfl rfl (ov_load1 rfl t_agg_41 (OB.cell ob157 (j := 3) rfl)) ?_
              obtain ⟨r167, hr168, HF⟩ := bind_some HF
              refine WL.call rfl rfl rfl (oc_func (vs := [.slice A160 (x6.fields).length c161]) rfl t_ent_86) (ok_ast_AreNames _ hr168 S155.sub rs162) ?_
              rintro _ w170 ⟨h171, s172, rfl⟩
              have S173 := S155.trans0 s172
              refine WL.val rfl rfl rfl (ov_not rfl) ?_
              refine WL.val rfl rfl rfl (ov_pickF rfl rfl) ?_
              refine WL.val rfl rfl rfl (ov_pickT rfl rfl) ?_
              refine WL.val rfl rfl rfl (ov_move rfl) ?_
              refine WL.split 93 (b := !r167) rfl (fun hb174 => ?_) (fun hb174 => ?_)
              · replace HF := bif_t hb174 HF
                refine WL.pass rfl rfl rfl ?_
                refine WL.pass rfl rfl rfl ?_
                refine WL.pass rfl rfl rfl ?_
                refine WL.pass rfl rfl rfl ?_
                refine WL.pass rfl rfl rfl ?_
                refine WL.pass rfl rfl rfl ?_
                refine WL.pass rfl rfl rfl ?_
                refine WL.pass rfl rfl rfl ?_
                refine WL.pass rfl rfl rfl ?_
                refine WL.val rfl rfl rfl (ov_pickT rfl rfl) ?_
                refine WL.nil ?_
                have ob191 := (ob156.step0 s172)
                have ob192 := (ob157.step0 s172)
                have ob193 := (ob158.step0 s172)
                refine WC.to [0, 2, 4, 7, 103] [(0, .pointer (some ⟨b1, 0, none⟩)), (2, .int .i64 x9), (4, .pointer (some ⟨b24, 0, none⟩)), (7, .pointer (some ⟨b38, 0, none⟩)), (103, .bool true)] rfl ?_
                exact J190 ⟨h171, true, HF, rfl, S173, s172.le, ob191, ob192, ob193⟩
              · replace HF := bif_f hb174 HF
                refine WL.val rfl rfl rfl (ov_fieldAddr rfl t_field_44_0) ?_
                have ob175 := (ob157.step0 s172)
                refine WL.val rfl rfl rfl (ov_load1 rfl t_agg_3 (OB.cell ob175 (j := 0) rfl)) ?_
                refine WL.val rfl rfl rfl (ov_neq rfl rfl) ?_
                refine WL.val rfl rfl rfl (ov_move rfl) ?_
                refine WL.split 97 (b := (x6.op : Int) != 2) rfl (fun hb176 => ?_) (fun hb176 => ?_)
                · replace HF := bif_t hb176 HF
                  refine WL.val rfl rfl rfl (ov_fieldAddr rfl t_field_44_3) ?_
                  refine WL.val rfl rfl rfl (ov_load1 rfl t_agg_41 (OB.cell ob175 (j := 3) rfl)) ?_
                  refine WL.val rfl rfl rfl (ov_lenL rfl t_slice_41) ?_
                  refine WL.val rfl rfl rfl (ov_gtr rfl rfl) ?_
                  refine WL.val rfl rfl rfl (ov_pickT rfl rfl) ?_
                  refine WL.val rfl rfl rfl (ov_pickF rfl rfl) ?_
                  refine WL.nil ?_
                  have ob194 := (ob156.step0 s172)
                  have ob195 := (ob158.step0 s172)
                  refine WC.to [0, 2, 4, 7, 103] [(0, .pointer (some ⟨b1, 0, none⟩)), (2, .int .i64 x9), (4, .pointer (some ⟨b24, 0, none⟩)), (7, .pointer (some ⟨b38, 0, none⟩)), (103, .bool (decide ((0 : Int) < (x6.fields.length : Int))))] rfl ?_
                  exact J190 ⟨h171, decide ((0 : Int) < (x6.fields.length : Int)), HF, rfl, S173, s172.le, ob194, ob175, ob195⟩
                · replace HF := bif_f hb176 HF
                  refine WL.pass rfl rfl rfl ?_
                  refine WL.pass rfl rfl rfl ?_
                  refine WL.pass rfl rfl rfl ?_
                  refine WL.pass rfl rfl rfl ?_
                  refine WL.val rfl rfl rfl (ov_pickF rfl rfl) ?_
                  refine WL.val rfl rfl rfl (ov_pickF rfl rfl) ?_
                  refine WL.nil ?_
                  have ob196 := (ob156.step0 s172)
                  have ob197 := (ob158.step0 s172)
                  refine WC.to [0, 2, 4, 7, 103] [(0, .pointer (some ⟨b1, 0, none⟩)), (2, .int .i64 x9), (4, .pointer (some ⟨b24, 0, none⟩)), (7, .pointer (some ⟨b38, 0, none⟩)), (103, .bool false)] rfl ?_
                  exact J190 ⟨h171, false, HF, rfl, S173, s172.le, ob196, ob175, ob197⟩
          · replace HF := bif_f hb159 HF
            refine WL.pass rfl rfl rfl ?_
            refine WL.pass rfl rfl rfl ?_
            refine WL.pass rfl rfl rfl ?_
            refine WL.pass rfl rfl rfl ?_
            refine WL.pass rfl rfl rfl ?_
            refine WL.pass rfl rfl rfl ?_
            refine WL.pass rfl rfl rfl ?_
            refine WL.pass rfl rfl rfl ?_
            refine WL.pass rfl rfl rfl ?_
            refine WL.pass rfl rfl rfl ?_
            refine WL.pass rfl rfl rfl ?_
            refine WL.pass rfl rfl rfl ?_
            refine WL.pass rfl rfl rfl ?_
            refine WL.val rfl rfl rfl (ov_pickF rfl rfl) ?_
            refine WL.val rfl rfl rfl (ov_move rfl) ?_
            refine WL.val rfl rfl rfl (ov_fieldAddr rfl t_field_44_0) ?_
            refine WL.val rfl rfl rfl (ov_load1 rfl t_agg_3 (OB.cell ob157 (j := 0) rfl)) ?_
            refine WL.val rfl rfl rfl (ov_neq rfl rfl) ?_
            refine WL.val rfl rfl rfl (ov_move rfl) ?_
            refine WL.split 97 (b := (x6.op : Int) != 2) rfl (fun hb177 => ?_) (fun hb177 => ?_)
            · replace HF := bif_t hb177 HF
              refine WL.val rfl rfl rfl (ov_fieldAddr rfl t_field_44_3) ?_
              refine WL.val rfl rfl rfl (ov_load1 rfl t_agg_41 (OB.cell ob157 (j := 3) rfl)) ?_
              obtain ⟨A178, c179, rfl, rs180⟩ := RS.form (rs14.mono ((s26.le).trans ((s40.le).trans ((s47.le).trans ((le107).trans le154)))))
              refine WL.val rfl rfl rfl (ov_lenL rfl t_slice_41) ?_
              refine WL.val rfl rfl rfl (ov_gtr rfl rfl) ?_
              refine WL.val rfl rfl rfl (ov_pickT rfl rfl) ?_
              refine WL.val rfl rfl rfl (ov_pickF rfl rfl) ?_
              refine WL.nil ?_
              refine WC.to [0, 2, 4, 7, 103] [(0, .pointer (some ⟨b1, 0, none⟩)), (2, .int .i64 x9), (4, .pointer (some ⟨b24, 0, none⟩)), (7, .pointer (some ⟨b38, 0, none⟩)), (103, .bool (decide ((0 : Int) < (x6.fields.length : Int))))] rfl ?_
              exact J190 ⟨h152, decide ((0 : Int) < (x6.fields.length : Int)), HF, rfl, S155, Hle.refl _, ob156, ob157, ob158⟩
            · replace HF := bif_f hb177 HF
              refine WL.pass rfl rfl rfl ?_
              refine WL.pass rfl rfl rfl ?_
              refine WL.pass rfl rfl rfl ?_
              refine WL.pass rfl rfl rfl ?_
              refine WL.val rfl rfl rfl (ov_pickF rfl rfl) ?_
              refine WL.val rfl rfl rfl (ov_pickF rfl rfl) ?_
              refine WL.nil ?_
              refine WC.to [0, 2, 4, 7, 103] [(0, .pointer (some ⟨b1, 0, none⟩)), (2, .int .i64 x9), (4, .pointer (some ⟨b24, 0, none⟩)), (7, .pointer (some ⟨b38, 0, none⟩)), (103, .bool false)] rfl ?_
              exact J190 ⟨h152, false, HF, rfl, S155, Hle.refl _, ob156, ob157, ob158⟩
    · intro J360
      refine WC.join (fun E w137 => ∃ (h136 : Hp) (x140 : Bool), ast_Counter_stmt_j3 k (tie_ast_Counter_Text k) x6 x9 r34 x109 x110 x140 = some r ∧ E = [(0, .pointer (some ⟨b1, 0, none⟩)), (2, .int .i64 x9), (4, .pointer (some ⟨b24, 0, none⟩)), (7, .pointer (some ⟨b38, 0, none⟩)), (74, .bool x140)] ∧ Stp [b1] w0 h0 w137 h136 ∧ Hle h105 h136 ∧ OB w137 h136 b1 T2 [.int .i64 x109, .int .i64 x110] ∧ OB w137 h136 b24 44 [.int .i64 x6.op, .string x6.name, v11, v13, v15, .int .i64 x6.n, v17, v19, v21, .bool x6.els] ∧ OB w137 h136 b38 128 [.bool ((r34.getD (false, 0, 0, false, false)).1), .int .i64 ((r34.getD (false, 0, 0, false, false)).2.1), .int .i64 ((r34.getD (false, 0, 0, false, false)).2.2.1), .bool ((r34.getD (false, 0, 0, false, false)).2.2.2.1), .bool ((r34.getD (false, 0, 0, false, false)).2.2.2.2)]) ?_ ?_
      · rintro E w137 ⟨h136, x140, HF, rfl, S139, le138, ob141, ob142, ob143⟩
        refine WC.cond (b := x140) rfl (fun hb144 => ?_) (fun hb144 => ?_)
        · replace HF := bif_t hb144 HF
          refine WC.seq ?_
          refine WC.region ?_
          refine WL.val rfl rfl rfl (ov_assign rfl) ?_
          refine WL.nil ?_
          refine WQ.seqN ?_
          refine WC.ret ?_
          refine WQ.thenRet ?_
          refine WQ.ret1 rfl rfl ?_
          obtain rfl := Option.some.inj HF
          exact ⟨_, rfl, h136, S139, rfl, ob141⟩
        · replace HF := bif_f hb144 HF
          refine WC.skip ?_
          refine WC.to [0, 2, 4, 7] [(0, .pointer (some ⟨b1, 0, none⟩)), (2, .int .i64 x9), (4, .pointer (some ⟨b24, 0, none⟩)), (7, .pointer (some ⟨b38, 0, none⟩))] rfl ?_
          exact J360 ⟨h136, HF, rfl, S139, le138, ob141, ob142, ob143⟩
      · intro J145
        refine WC.region ?_
        refine WL.val rfl rfl rfl (ov_fieldAddr rfl t_field_44_2) ?_
        refine WL.val rfl rfl rfl (ov_load1 rfl t_agg_30 (OB.cell ob112 (j := 2) rfl)) ?_
        obtain ⟨A114, c115, rfl, rs116⟩ := RS.form (rs12.mono ((s26.le).trans ((s40.le).trans ((s47.le).trans le107))))
        refine WL.val rfl rfl rfl (ov_lenL rfl t_slice_30) ?_
        refine WL.val rfl rfl rfl (ov_gtr rfl rfl) ?_
        refine WL.val rfl rfl rfl (ov_move rfl) ?_
        refine WL.split 49 (b := decide ((0 : Int) < (x6.index.length : Int))) rfl (fun hb117 => ?_) (fun hb117 => ?_)
        · replace HF := bif_t hb117 HF
          refine WL.val rfl rfl rfl (ov_fieldAddr rfl t_field_44_0) ?_
          refine WL.val rfl rfl rfl (ov_load1 rfl t_agg_3 (OB.cell ob112 (j := 0) rfl)) ?_
          refine WL.val rfl rfl rfl (ov_neq rfl rfl) ?_
          refine WL.val rfl rfl rfl (ov_move rfl) ?_
          refine WL.split 53 (b := (x6.op : Int) != 1) rfl (fun hb118 => ?_) (fun hb118 => ?_)
          · replace HF := bif_t hb118 HF
            refine WL.pass rfl rfl rfl ?_
            refine WL.pass rfl rfl rfl ?_
            refine WL.pass rfl rfl rfl ?_
            refine WL.pass rfl rfl rfl ?_
            refine WL.val rfl rfl rfl (ov_pickT rfl rfl) ?_
            refine WL.val rfl rfl rfl (ov_pickT rfl rfl) ?_
            refine WL.val rfl rfl rfl (ov_move rfl) ?_
            refine WL.pass rfl rfl rfl ?_
            refine WL.pass rfl rfl rfl ?_
            refine WL.pass rfl rfl rfl ?_
            refine WL.pass rfl rfl rfl ?_
            refine WL.pass rfl rfl rfl ?_
            refine WL.pass rfl rfl rfl ?_
            refine WL.pass rfl rfl rfl ?_
            refine WL.val rfl rfl rfl (ov_pickT rfl rfl) ?_
            refine WL.val rfl rfl rfl (ov_move rfl) ?_
            refine WL.pass rfl rfl rfl ?_
            refine WL.pass rfl rfl rfl ?_
            refine WL.pass rfl rfl rfl ?_
            refine WL.pass rfl rfl rfl ?_
            refine WL.val rfl rfl rfl (ov_pickT rfl rfl) ?_
            refine WL.nil ?_
            refine WC.to [0, 2, 4, 7, 74] [(0, .pointer (some ⟨b1, 0, none⟩)), (2, .int .i64 x9), (4, .pointer (some ⟨b24, 0, none⟩)), (7, .pointer (some ⟨b38, 0, none⟩)), (74, .bool true)] rfl ?_
            exact J145 ⟨h105, true, HF, rfl, S108, Hle.refl _, ob111, ob112, ob113⟩
          · replace HF := bif_f hb118 HF
            refine WL.val rfl rfl rfl (ov_fieldAddr rfl t_field_44_2) ?_
            refine WL.val rfl rfl rfl (ov_load1 rfl t_agg_30 (OB.cell ob112 (j := 2) rfl)) ?_
            refine WL.val rfl rfl rfl (ov_lenL rfl t_slice_30) ?_
            refine WL.val rfl rfl rfl (ov_gtr rfl rfl) ?_
            refine WL.val rfl rfl rfl (ov_pickF rfl rfl) ?_
            refine WL.val rfl rfl rfl (ov_pickT rfl rfl) ?_
            refine WL.val rfl rfl rfl (ov_move rfl) ?_
            refine WL.split 60 (b := decide ((1 : Int) < (x6.index.length : Int))) rfl (fun hb119 => ?_) (fun hb119 => ?_)
            · replace HF := bif_t hb119 HF
              refine WL.pass rfl rfl rfl ?_
              refine WL.pass rfl rfl rfl ?_
              refine WL.pass rfl rfl rfl ?_
              refine WL.pass rfl rfl rfl ?_
              refine WL.pass rfl rfl rfl ?_
              refine WL.pass rfl rfl rfl ?_
              refine WL.pass rfl rfl rfl ?_
              refine WL.val rfl rfl rfl (ov_pickT rfl rfl) ?_
              refine WL.val rfl rfl rfl (ov_move rfl) ?_
              refine WL.pass rfl rfl rfl ?_
              refine WL.pass rfl rfl rfl ?_
              refine WL.pass rfl rfl rfl ?_
              refine WL.pass rfl rfl rfl ?_
              refine WL.val rfl rfl rfl (ov_pickT rfl rfl) ?_
              refine WL.nil ?_
              refine WC.to [0, 2, 4, 7, 74] [(0, .pointer (some ⟨b1, 0, none⟩)), (2, .int .i64 x9), (4, .pointer (some ⟨b24, 0, none⟩)), (7, .pointer (some ⟨b38, 0, none⟩)), (74, .bool true)] rfl ?_
              exact J145 ⟨h105, true, HF, rfl, S108, Hle.refl _, ob111, ob112, ob113⟩
            · replace HF := bif_f hb119 HF
              refine WL.val rfl rfl rfl (ov_fieldAddr rfl t_field_44_0) ?_
              refine WL.val rfl rfl rfl (ov_load1 rfl t_agg_3 (OB.cell ob112 (j := 0) rfl)) ?_
              refine WL.val rfl rfl rfl (ov_eql rfl rfl) ?_
              refine WL.val rfl rfl rfl (ov_fieldAddr rfl t_field_44_5) ?_
              refine WL.val rfl rfl rfl (ov_load1 rfl t_agg_3 (OB.cell ob112 (j := 5) rfl)) ?_
              refine WL.val rfl rfl rfl (ov_neq rfl rfl) ?_
              refine WL.val rfl rfl rfl (ov_neqB rfl rfl t_bool_4) ?_
              refine WL.val rfl rfl rfl (ov_pickF rfl rfl) ?_
              refine WL.val rfl rfl rfl (ov_move rfl) ?_
              refine WL.split 69 (b := !(((x6.op : Int) == 5) == ((x6.n : Int) != 0))) rfl (fun hb120 => ?_) (fun hb120 => ?_)
              · replace HF := bif_t hb120 HF
                refine WL.pass rfl rfl rfl ?_
                refine WL.pass rfl rfl rfl ?_
                refine WL.pass rfl rfl rfl ?_
                refine WL.pass rfl rfl rfl ?_
                refine WL.val rfl rfl rfl (ov_pickT rfl rfl) ?_
                refine WL.nil ?_
                refine WC.to [0, 2, 4, 7, 74] [(0, .pointer (some ⟨b1, 0, none⟩)), (2, .int .i64 x9), (4, .pointer (some ⟨b24, 0, none⟩)), (7, .pointer (some ⟨b38, 0, none⟩)), (74, .bool true)] rfl ?_
                exact J145 ⟨h105, true, HF, rfl, S108, Hle.refl _, ob111, ob112, ob113⟩
              · replace HF := bif_f hb120 HF
                refine WL.val rfl rfl rfl (ov_fieldAddr rfl t_field_44_5) ?_
                refine WL.val rfl rfl rfl (ov_load1 rfl t_agg_3 (OB.cell ob112 (j := 5) rfl)) ?_
                obtain ⟨r121, hr122, HF⟩ := bind_some HF
                refine WL.call rfl rfl rfl (oc_func (vs := [.int .i64 x6.n]) rfl t_ent_34) (ok_ast_IsLabel _ hr122 S108.sub) ?_
                rintro _ w124 ⟨h125, s126, rfl⟩
                have S127 := S108.trans0 s126
                refine WL.val rfl rfl rfl (ov_not rfl) ?_
                refine WL.val rfl rfl rfl (ov_pickF rfl rfl) ?_
                refine WL.nil ?_
                have ob146 := (ob111.step0 s126)
                have ob147 := (ob112.step0 s126)
                have ob148 := (ob113.step0 s126)
                refine WC.to [0, 2, 4, 7, 74] [(0, .pointer (some ⟨b1, 0, none⟩)), (2, .int .i64 x9), (4, .pointer (some ⟨b24, 0, none⟩)), (7, .pointer (some ⟨b38, 0, none⟩)), (74, .bool (!r121))] rfl ?_
                exact J145 ⟨h125, !r121, HF, rfl, S127, s126.le, ob146, ob147, ob148⟩
        · replace HF := bif_f hb117 HF
          refine WL.pass rfl rfl rfl ?_
          refine WL.pass rfl rfl rfl ?_
          refine WL.pass rfl rfl rfl ?_
          refine WL.pass rfl rfl rfl ?_
          refine WL.pass rfl rfl rfl ?_
          refine WL.pass rfl rfl rfl ?_
          refine WL.pass rfl rfl rfl ?_
          refine WL.pass rfl rfl rfl ?_
          refine WL.pass rfl rfl rfl ?_
          refine WL.val rfl rfl rfl (ov_pickF rfl rfl) ?_
          refine WL.val rfl rfl rfl (ov_move rfl) ?_
          refine WL.val rfl rfl rfl (ov_fieldAddr rfl t_field_44_0) ?_
          refine WL.val rfl rfl rfl (ov_load1 rfl t_agg_3 (OB.cell ob112 (j := 0) rfl)) ?_
          refine WL.val rfl rfl rfl (ov_eql rfl rfl) ?_
          refine WL.val rfl rfl rfl (ov_fieldAddr rfl t_field_44_5) ?_
          refine WL.val rfl rfl rfl (ov_load1 rfl t_agg_3 (OB.cell ob112 (j := 5) rfl)) ?_
          refine WL.val rfl rfl rfl (ov_neq rfl rfl) ?_
          refine WL.val rfl rfl rfl (ov_neqB rfl rfl t_bool_4) ?_
          refine WL.val rfl rfl rfl (ov_pickF rfl rfl) ?_
          refine WL.val rfl rfl rfl (ov_move rfl) ?_
          refine WL.split 69 (b := !(((x6.op : Int) == 5) == ((x6.n : Int) != 0))) rfl (fun hb128 => ?_) (fun hb128 => ?_)
          · replace HF := bif_t hb128 HF
            refine WL.pass rfl rfl rfl ?_
            refine WL.pass rfl rfl rfl ?_
            refine WL.pass rfl rfl rfl ?_
            refine WL.pass rfl rfl rfl ?_
            refine WL.val rfl rfl rfl (ov_pickT rfl rfl) ?_
            refine WL.nil ?_
            refine WC.to [0, 2, 4, 7, 74] [(0, .pointer (some ⟨b1, 0, none⟩)), (2, .int .i64 x9), (4, .pointer (some ⟨b24, 0, none⟩)), (7, .pointer (some ⟨b38, 0, none⟩)), (74, .bool true)] rfl ?_
            exact J145 ⟨h105, true, HF, rfl, S108, Hle.refl _, ob111, ob112, ob113⟩
          · replace HF := bif_f hb128 HF
            refine WL.val rfl rfl rfl (ov_fieldAddr rfl t_field_44_5) ?_
            refine WL.val rfl rfl rfl (ov_load1 rfl t_agg_3 (OB.cell ob112 (j := 5) rfl)) ?_
            obtain ⟨r129, hr130, HF⟩ := bind_some HF
            refine WL.call rfl rfl rfl (oc_func (vs := [.int .i64 x6.n]) rfl t_ent_34) (ok_ast_IsLabel _ hr130 S108.sub) ?_
            rintro _ w132 ⟨h133, s134, rfl⟩
            have S135 := S108.trans0 s134
            refine WL.val rfl rfl rfl (ov_not rfl) ?_
            refine WL.val rfl rfl rfl (ov_pickF rfl rfl) ?_
            refine WL.nil ?_
            have ob149 := (ob111.step0 s134)
            have ob150 := (ob112.step0 s134)
            have ob151 := (ob113.step0 s134)
            refine WC.to [0, 2, 4, 7, 74] [(0, .pointer (some ⟨b1, 0, none⟩)), (2, .int .i64 x9), (4, .pointer (some ⟨b24, 0, none⟩)), (7, .pointer (some ⟨b38, 0, none⟩)), (74, .bool (!r129))] rfl ?_
            exact J145 ⟨h133, !r129, HF, rfl, S135, s134.le, ob149, ob150, ob151⟩
  · intro J361
    refine WC.join (fun E w84 => ∃ (h83 : Hp) (x87 : Bool) (x88 : Int) (x89 : Int), ast_Counter_stmt_j1 k (tie_ast_Counter_Text k) x6 x9 r34 x87 x88 x89 = some r ∧ E = [(0, .pointer (some ⟨b1, 0, none⟩)), (2, .int .i64 x9), (4, .pointer (some ⟨b24, 0, none⟩)), (7, .pointer (some ⟨b38, 0, none⟩)), (44, .bool x87)] ∧ Stp [b1] w0 h0 w84 h83 ∧ Hle h0 h83 ∧ OB w84 h83 b1 T2 [.int .i64 x88, .int .i64 x89] ∧ OB w84 h83 b24 44 [.int .i64 x6.op, .string x6.name, v11, v13, v15, .int .i64 x6.n, v17, v19, v21, .bool x6.els] ∧ OB w84 h83 b38 128 [.bool ((r34.getD (false, 0, 0, false, false)).1), .int .i64 ((r34.getD (false, 0, 0, false, false)).2.1), .int .i64 ((r34.getD (false, 0, 0, false, false)).2.2.1), .bool ((r34.getD (false, 0, 0, false, false)).2.2.2.1), .bool ((r34.getD (false, 0, 0, false, false)).2.2.2.2)]) ?_ ?_
    · rintro E w84 ⟨h83, x87, x88, x89, HF, rfl, S86, le85, ob90, ob91, ob92⟩
      refine WC.cond (b := x87) rfl (fun hb93 => ?_) (fun hb93 => ?_)
      · replace HF := bif_t hb93 HF
        refine WC.seq ?_
        refine WC.region ?_
        refine WL.val rfl rfl rfl (ov_assign rfl) ?_
        refine WL.nil ?_
        refine WQ.seqN ?_
        refine WC.ret ?_
        refine WQ.thenRet ?_
        refine WQ.ret1 rfl rfl ?_
        obtain rfl := Option.some.inj HF
        exact ⟨_, rfl, h83, S86, rfl, ob90⟩
      · replace HF := bif_f hb93 HF
        refine WC.skip ?_
        refine WC.to [0, 2, 4, 7] [(0, .pointer (some ⟨b1, 0, none⟩)), (2, .int .i64 x9), (4, .pointer (some ⟨b24, 0, none⟩)), (7, .pointer (some ⟨b38, 0, none⟩))] rfl ?_
        exact J361 ⟨h83, x88, x89, HF, rfl, S86, le85, ob90, ob91, ob92⟩
    · intro J94
      refine WC.region ?_
      refine WL.val rfl rfl rfl (ov_move rfl) ?_
      refine WL.val rfl rfl rfl (ov_not rfl) ?_
      refine WL.val rfl rfl rfl (ov_move rfl) ?_
      refine WL.split 20 (b := !r34.isSome) rfl (fun hb50 => ?_) (fun hb50 => ?_)
      · replace HF := bif_t hb50 HF
        refine WL.pass rfl rfl rfl ?_
        refine WL.pass rfl rfl rfl ?_
        refine WL.pass rfl rfl rfl ?_
        refine WL.pass rfl rfl rfl ?_
        refine WL.val rfl rfl rfl (ov_pickT rfl rfl) ?_
        refine WL.val rfl rfl rfl (ov_move rfl) ?_
        refine WL.pass rfl rfl rfl ?_
        refine WL.pass rfl rfl rfl ?_
        refine WL.pass rfl rfl rfl ?_
        refine WL.pass rfl rfl rfl ?_
        refine WL.pass rfl rfl rfl ?_
        refine WL.pass rfl rfl rfl ?_
        refine WL.val rfl rfl rfl (ov_pickT rfl rfl) ?_
        refine WL.val rfl rfl rfl (ov_move rfl) ?_
        refine WL.pass rfl rfl rfl ?_
        refine WL.pass rfl rfl rfl ?_
        refine WL.pass rfl rfl rfl ?_
        refine WL.pass rfl rfl rfl ?_
        refine WL.pass rfl rfl rfl ?_
        refine WL.pass rfl rfl rfl ?_
        refine WL.pass rfl rfl rfl ?_
        refine WL.pass rfl rfl rfl ?_
        refine WL.pass rfl rfl rfl ?_
        refine WL.val rfl rfl rfl (ov_pickT rfl rfl) ?_
        refine WL.nil ?_
        have ob95 := ((ob36.step0 s40).step1 s47 ne42)
        have ob96 := ((ob27.step0 s40).step1 s47 ne43)
        refine WC.to [0, 2, 4, 7, 44] [(0, .pointer (some ⟨b1, 0, none⟩)), (2, .int .i64 x9), (4, .pointer (some ⟨b24, 0, none⟩)), (7, .pointer (some ⟨b38, 0, none⟩)), (44, .bool true)] rfl ?_
        exact J94 ⟨h0, true, x3, x4, HF, rfl, S49, Hle.refl _, ob95, ob96, ob48⟩
      · replace HF := bif_f hb50 HF
        refine WL.val rfl rfl rfl (ov_move rfl) ?_
        refine WL.val rfl rfl rfl (ov_move rfl) ?_
        have ob51 := ((ob36.step0 s40).step1 s47 ne42)
        obtain ⟨r52, hr53, HF⟩ := bind_some HF
        refine WL.call rfl rfl rfl (oc_func (vs := [.pointer (some ⟨b1, 0, none⟩), .int .i64 x9]) rfl t_ent_79) (ok_ast_Counter_Add _ hr53 S49.sub ob51) ?_
        rintro _ w55 ⟨h56, s57, rfl, ob58⟩
        have S59 := S49.trans s57 (in_cons (.inl (by simp)) in_nil)
        refine WL.val rfl rfl rfl (ov_not rfl) ?_
        refine WL.val rfl rfl rfl (ov_pickF rfl rfl) ?_
        refine WL.val rfl rfl rfl (ov_move rfl) ?_
        refine WL.split 26 (b := !r52.1) rfl (fun hb60 => ?_) (fun hb60 => ?_)
        · replace HF := bif_t hb60 HF
          refine WL.pass rfl rfl rfl ?_
          refine WL.pass rfl rfl rfl ?_
          refine WL.pass rfl rfl rfl ?_
          refine WL.pass rfl rfl rfl ?_
          refine WL.pass rfl rfl rfl ?_
          refine WL.pass rfl rfl rfl ?_
          refine WL.val rfl rfl rfl (ov_pickT rfl rfl) ?_
          refine WL.val rfl rfl rfl (ov_move rfl) ?_
          refine WL.pass rfl rfl rfl ?_
          refine WL.pass rfl rfl rfl ?_
          refine WL.pass rfl rfl rfl ?_
          refine WL.pass rfl rfl rfl ?_
          refine WL.pass rfl rfl rfl ?_
          refine WL.pass rfl rfl rfl ?_
          refine WL.pass rfl rfl rfl ?_
          refine WL.pass rfl rfl rfl ?_
          refine WL.pass rfl rfl rfl ?_
          refine WL.val rfl rfl rfl (ov_pickT rfl rfl) ?_
          refine WL.nil ?_
          have ob97 := (((ob27.step0 s40).step1 s47 ne43).step1 s57 (Ne.symm ne28))
          have ob98 := (ob48.step1 s57 (Ne.symm ne42))
          refine WC.to [0, 2, 4, 7, 44] [(0, .pointer (some ⟨b1, 0, none⟩)), (2, .int .i64 x9), (4, .pointer (some ⟨b24, 0, none⟩)), (7, .pointer (some ⟨b38, 0, none⟩)), (44, .bool true)] rfl ?_
          exact J94 ⟨h56, true, r52.2.1, r52.2.2, HF, rfl, S59, s57.le, ob58, ob97, ob98⟩
        · replace HF := bif_f hb60 HF
          refine WL.val rfl rfl rfl (ov_fieldAddr rfl t_field_44_1) ?_
          have ob61 := (((ob27.step0 s40).step1 s47 ne43).step1 s57 (Ne.symm ne28))
          refine WL.val rfl rfl rfl (ov_load1 rfl t_agg_9 (OB.cell ob61 (j := 1) rfl)) ?_
          refine WL.val rfl rfl rfl (ov_fieldAddr rfl t_field_128_0) ?_
          have ob62 := (ob48.step1 s57 (Ne.symm ne42))
          refine WL.val rfl rfl rfl (ov_load1 rfl t_agg_4 (OB.cell ob62 (j := 0) rfl)) ?_
          obtain ⟨r63, hr64, HF⟩ := bind_some HF
          refine WL.call rfl rfl rfl (oc_func (vs := [.string x6.name, .bool ((r34.getD (false, 0, 0, false, false)).1)]) rfl t_ent_80) (ok_ast_isNamed _ hr64 S59.sub) ?_
          rintro _ w66 ⟨h67, s68, rfl⟩
          have S69 := S59.trans0 s68
          refine WL.val rfl rfl rfl (ov_not rfl) ?_
          refine WL.val rfl rfl rfl (ov_pickF rfl rfl) ?_
          refine WL.val rfl rfl rfl (ov_move rfl) ?_
          refine WL.split 34 (b := !r63) rfl (fun hb70 => ?_) (fun hb70 => ?_)
          · replace HF := bif_t hb70 HF
            refine WL.pass rfl rfl rfl ?_
            refine WL.pass rfl rfl rfl ?_
            refine WL.pass rfl rfl rfl ?_
            refine WL.pass rfl rfl rfl ?_
            refine WL.pass rfl rfl rfl ?_
            refine WL.pass rfl rfl rfl ?_
            refine WL.pass rfl rfl rfl ?_
            refine WL.pass rfl rfl rfl ?_
            refine WL.pass rfl rfl rfl ?_
            refine WL.val rfl rfl rfl (ov_pickT rfl rfl) ?_
            refine WL.nil ?_
            have ob99 := (ob58.step0 s68)
            have ob100 := (ob61.step0 s68)
            have ob101 := (ob62.step0 s68)
            refine WC.to [0, 2, 4, 7, 44] [(0, .pointer (some ⟨b1, 0, none⟩)), (2, .int .i64 x9), (4, .pointer (some ⟨b24, 0, none⟩)), (7, .pointer (some ⟨b38, 0, none⟩)), (44, .bool true)] rfl ?_
            exact J94 ⟨h67, true, r52.2.1, r52.2.2, HF, rfl, S69, (s57.le).trans s68.le, ob99, ob100, ob101⟩
          · replace HF := bif_f hb70 HF
            refine WL.val rfl rfl rfl (ov_fieldAddr rfl t_field_44_4) ?_
            have ob71 := (ob61.step0 s68)
            refine WL.val rfl rfl rfl (ov_load1 rfl t_agg_30 (OB.cell ob71 (j := 4) rfl)) ?_
            obtain ⟨A72, c73, rfl, rs74⟩ := RS.form (rs16.mono ((s26.le).trans ((s40.le).trans ((s47.le).trans ((s57.le).trans s68.le)))))
            refine WL.val rfl rfl rfl (ov_lenL rfl t_slice_30) ?_
            refine WL.val rfl rfl rfl (ov_fieldAddr rfl t_field_128_1) ?_
            have ob75 := (ob62.step0 s68)
            refine WL.val rfl rfl rfl (ov_load1 rfl t_agg_3 (OB.cell ob75 (j := 1) rfl)) ?_
            refine WL.val rfl rfl rfl (ov_fieldAddr rfl t_field_128_2) ?_
            refine WL.val rfl rfl rfl (ov_load1 rfl t_agg_3 (OB.cell ob75 (j := 2) rfl)) ?_
            obtain ⟨r76, hr77, HF⟩ := bind_some HF
            refine WL.call rfl rfl rfl (oc_func (vs := [.int .i64 (x6.args.length : Int), .int .i64 ((r34.getD (false, 0, 0, false, false)).2.1), .int .i64 ((r34.getD (false, 0, 0, false, false)).2.2.1)]) rfl t_ent_62) (ok_ast_within _ hr77 S69.sub) ?_
            rintro _ w79 ⟨h80, s81, rfl⟩
            have S82 := S69.trans0 s81
            refine WL.val rfl rfl rfl (ov_not rfl) ?_
            refine WL.val rfl rfl rfl (ov_pickF rfl rfl) ?_
            refine WL.nil ?_
            have ob102 := ((ob58.step0 s68).step0 s81)
            have ob103 := (ob71.step0 s81)
            have ob104 := (ob75.step0 s81)
            refine WC.to [0, 2, 4, 7, 44] [(0, .pointer (some ⟨b1, 0, none⟩)), (2, .int .i64 x9), (4, .pointer (some ⟨b24, 0, none⟩)), (7, .pointer (some ⟨b38, 0, none⟩)), (44, .bool (!r76))] rfl ?_
            exact J94 ⟨h80, !r76, r52.2.1, r52.2.2, HF, rfl, S82, (s57.le).trans ((s68.le).trans s81.le), ob102, ob103, ob104⟩
set_option maxRecDepth 20000 in
set_option maxHeartbeats 4000000 in
theorem s_ast_Counter_arm (k : Nat) (IH : ∀ j, j ≤ k → C_ast_Counter_Text (tie_ast_Counter_Text j).ast_Counter_Text ∧ C_ast_Counter_stmt (tie_ast_Counter_Text j).ast_Counter_stmt ∧ C_ast_Counter_arm (tie_ast_Counter_Text j).ast_Counter_arm) : C_ast_Counter_arm (m_ast_Counter_arm k (tie_ast_Counter_Text k)) := by
  intro x3 x4 x6 x9 x10 r HF w0 h0 b1 T2 cs7 hs0 r8 ob5
  have S0 : Stp [b1] w0 h0 w0 h0 := Stp.refl hs0 _
  have lt11 : b1 < w0.heap.size := OB.lt ob5
  refine enter (n := 62) Tryz.func87 rfl Tryz.ntmps87 rfl [(0, .pointer (some ⟨b1, 0, none⟩)), (1, .agg cs7.toArray), (2, .int .i64 x9), (3, .int .i64 x10)] rfl ?_
  refine WC.seq ?_
  refine WC.region ?_
  obtain ⟨v12, v14, v16, rfl, rs13, rs15, rs17⟩ := rp_Ar.1 r8
  refine WL.box (cs := [v12, v14, v16]) rfl rfl rfl rfl S0.sub (fun w18 b19 hb20 s21 ob22 => ?_)
  have ne23 : b1 ≠ b19 := ob5.ne_new hb20
  have g24 : w0.heap.size ≤ b19 := by rw [hb20]; exact S0.size
  have S25 := S0.trans0 s21
  refine WL.val rfl rfl rfl (ov_assign rfl) ?_
  refine WL.nil ?_
  refine WQ.seqN ?_
  refine WC.join (fun E w59 => ∃ (h58 : Hp) (x62 : Int) (x63 : Int), ast_Counter_arm_j2 k (tie_ast_Counter_Text k) x6 x9 x10 x62 x63 = some r ∧ E = [(0, .pointer (some ⟨b1, 0, none⟩)), (2, .int .i64 x9), (3, .int .i64 x10), (5, .pointer (some ⟨b19, 0, none⟩))] ∧ Stp [b1] w0 h0 w59 h58 ∧ Hle h0 h58 ∧ OB w59 h58 b1 T2 [.int .i64 x62, .int .i64 x63] ∧ OB w59 h58 b19 47 [v12, v14, v16]) ?_ ?_
  · rintro E w59 ⟨h58, x62, x63, HF, rfl, S61, le60, ob64, ob65⟩
    refine WC.join (fun E w95 => ∃ (h94 : Hp), ast_Counter_arm_j4 k (tie_ast_Counter_Text k) x6 x10 x62 x63 = some r ∧ E = [(0, .pointer (some ⟨b1, 0, none⟩)), (3, .int .i64 x10), (5, .pointer (some ⟨b19, 0, none⟩))] ∧ Stp [b1] w0 h0 w95 h94 ∧ Hle h58 h94 ∧ OB w95 h94 b1 T2 [.int .i64 x62, .int .i64 x63] ∧ OB w95 h94 b19 47 [v12, v14, v16]) ?_ ?_
    · rintro E w95 ⟨h94, HF, rfl, S97, le96, ob98, ob99⟩
      refine WC.seq ?_
      refine WC.region ?_
      refine WL.val rfl rfl rfl (ov_move rfl) ?_
      refine WL.val rfl rfl rfl (ov_fieldAddr rfl t_field_47_0) ?_
      refine WL.val rfl rfl rfl (ov_load1 rfl t_agg_30 (OB.cell ob99 (j := 0) rfl)) ?_
      refine WL.val rfl rfl rfl (ov_move rfl) ?_
      refine WL.val rfl rfl rfl (ov_add rfl rfl) ?_
      obtain ⟨r100, hr101, HF⟩ := bind_some HF
      refine WL.call rfl rfl rfl (oc_func (vs := [.pointer (some ⟨b1, 0, none⟩), v12, .int .i64 (IntKind.i64.wrap (x10 + 1))]) rfl t_ent_81) (ok_ast_Counter_Exprs _ hr101 S97.sub (rs13.mono ((s21.le).trans ((le60).trans le96))) ob98) ?_
      rintro _ w103 ⟨h104, s105, rfl, ob106⟩
      have S107 := S97.trans s105 (in_cons (.inl (by simp)) in_nil)
      refine WL.val rfl rfl rfl (ov_move rfl) ?_
      refine WL.split 54 (b := r100.1) rfl (fun hb108 => ?_) (fun hb108 => ?_)
      · replace HF := bif_t hb108 HF
        refine WL.val rfl rfl rfl (ov_move rfl) ?_
        refine WL.val rfl rfl rfl (ov_fieldAddr rfl t_field_47_2) ?_
        have ob109 := (ob99.step1 s105 (Ne.symm ne23))
        refine WL.val rfl rfl rfl (ov_load1 rfl t_agg_22 (OB.cell ob109 (j := 2) rfl)) ?_
        refine WL.val rfl rfl rfl (ov_move rfl) ?_
        refine WL.val rfl rfl rfl (ov_add rfl rfl) ?_
        obtain ⟨r110, hr111, HF⟩ := bind_some HF
        refine WL.call rfl rfl rfl (oc_func (vs := [.pointer (some ⟨b1, 0, none⟩), v16, .int .i64 (IntKind.i64.wrap (x10 + 1))]) rfl t_ent_38) ((IH _ (Nat.le_refl _)).1 hr111 S107.sub (rs17.mono ((s21.le).trans ((le60).trans ((le96).trans s105.le)))) ob106) ?_
        rintro _ w113 ⟨h114, s115, rfl, ob116⟩
        have S117 := S107.trans s115 (in_cons (.inl (by simp)) in_nil)
        refine WL.val rfl rfl rfl (ov_pickT rfl rfl) ?_
        refine WL.val rfl rfl rfl (ov_assign rfl) ?_
        refine WL.nil ?_
        refine WQ.seqN ?_
        refine WC.ret ?_
        refine WQ.ret1 rfl rfl ?_
        obtain rfl := Option.some.inj HF
        exact ⟨_, rfl, h114, S117, rfl, ob116⟩
      · replace HF := bif_f hb108 HF
        refine WL.pass rfl rfl rfl ?_
        refine WL.pass rfl rfl rfl ?_
        refine WL.pass rfl rfl rfl ?_
        refine WL.pass rfl rfl rfl ?_
        refine WL.pass rfl rfl rfl ?_
        refine WL.pass rfl rfl rfl ?_
        refine WL.val rfl rfl rfl (ov_pickF rfl rfl) ?_
        refine WL.val rfl rfl rfl (ov_assign rfl) ?_
        refine WL.nil ?_
        refine WQ.seqN ?_
        refine WC.ret ?_
        refine WQ.ret1 rfl rfl ?_
        obtain rfl := Option.some.inj HF
        exact ⟨_, rfl, h104, S107, rfl, ob106⟩
    · intro J118
      refine WC.join (fun E w86 => ∃ (h85 : Hp) (x89 : Bool), ast_Counter_arm_j3 k (tie_ast_Counter_Text k) x6 x10 x62 x63 x89 = some r ∧ E = [(0, .pointer (some ⟨b1, 0, none⟩)), (3, .int .i64 x10), (5, .pointer (some ⟨b19, 0, none⟩)), (47, .bool x89)] ∧ Stp [b1] w0 h0 w86 h85 ∧ Hle h58 h85 ∧ OB w86 h85 b1 T2 [.int .i64 x62, .int .i64 x63] ∧ OB w86 h85 b19 47 [v12, v14, v16]) ?_ ?_
      · rintro E w86 ⟨h85, x89, HF, rfl, S88, le87, ob90, ob91⟩
        refine WC.cond (b := x89) rfl (fun hb92 => ?_) (fun hb92 => ?_)
        · replace HF := bif_t hb92 HF
          refine WC.seq ?_
          refine WC.region ?_
          refine WL.val rfl rfl rfl (ov_assign rfl) ?_
          refine WL.nil ?_
          refine WQ.seqN ?_
          refine WC.ret ?_
          refine WQ.thenRet ?_
          refine WQ.ret1 rfl rfl ?_
          obtain rfl := Option.some.inj HF
          exact ⟨_, rfl, h85, S88, rfl, ob90⟩
        · replace HF := bif_f hb92 HF
          refine WC.skip ?_
          refine WC.to [0, 3, 5] [(0, .pointer (some ⟨b1, 0, none⟩)), (3, .int .i64 x10), (5, .pointer (some ⟨b19, 0, none⟩))] rfl ?_
          exact J118 ⟨h85, HF, rfl, S88, le87, ob90, ob91⟩
      · intro J93
        refine WC.region ?_
        refine WL.val rfl rfl rfl (ov_move rfl) ?_
        refine WL.val rfl rfl rfl (ov_eql rfl rfl) ?_
        refine WL.val rfl rfl rfl (ov_move rfl) ?_
        refine WL.split 20 (b := (x9 : Int) == 3) rfl (fun hb66 => ?_) (fun hb66 => ?_)
        · replace HF := bif_t hb66 HF
          refine WL.val rfl rfl rfl (ov_fieldAddr rfl t_field_47_0) ?_
          refine WL.val rfl rfl rfl (ov_load1 rfl t_agg_30 (OB.cell ob65 (j := 0) rfl)) ?_
          obtain ⟨A67, c68, rfl, rs69⟩ := RS.form (rs13.mono ((s21.le).trans le60))
          refine WL.val rfl rfl rfl (ov_lenL rfl t_slice_30) ?_
          refine WL.val rfl rfl rfl (ov_neq rfl rfl) ?_
          refine WL.val rfl rfl rfl (ov_move rfl) ?_
          refine WL.split 25 (b := ((x6.cond.length : Int) : Int) != 1) rfl (fun hb70 => ?_) (fun hb70 => ?_)
          · replace HF := bif_t hb70 HF
            refine WL.pass rfl rfl rfl ?_
            refine WL.pass rfl rfl rfl ?_
            refine WL.pass rfl rfl rfl ?_
            refine WL.pass rfl rfl rfl ?_
            refine WL.val rfl rfl rfl (ov_pickT rfl rfl) ?_
            refine WL.val rfl rfl rfl (ov_pickT rfl rfl) ?_
            refine WL.val rfl rfl rfl (ov_move rfl) ?_
            refine WL.pass rfl rfl rfl ?_
            refine WL.pass rfl rfl rfl ?_
            refine WL.pass rfl rfl rfl ?_
            refine WL.pass rfl rfl rfl ?_
            refine WL.pass rfl rfl rfl ?_
            refine WL.pass rfl rfl rfl ?_
            refine WL.pass rfl rfl rfl ?_
            refine WL.pass rfl rfl rfl ?_
            refine WL.pass rfl rfl rfl ?_
            refine WL.pass rfl rfl rfl ?_
            refine WL.pass rfl rfl rfl ?_
            refine WL.pass rfl rfl rfl ?_
            refine WL.pass rfl rfl rfl ?_
            refine WL.pass rfl rfl rfl ?_
            refine WL.val rfl rfl rfl (ov_pickT rfl rfl) ?_
            refine WL.nil ?_
            refine WC.to [0, 3, 5, 47] [(0, .pointer (some ⟨b1, 0, none⟩)), (3, .int .i64 x10), (5, .pointer (some ⟨b19, 0, none⟩)), (47, .bool true)] rfl ?_
            exact J93 ⟨h58, true, HF, rfl, S61, Hle.refl _, ob64, ob65⟩
          · replace HF := bif_f hb70 HF
            refine WL.val rfl rfl rfl (ov_fieldAddr rfl t_field_47_1) ?_
            refine WL.val rfl rfl rfl (ov_load1 rfl t_agg_45 (OB.cell ob65 (j := 1) rfl)) ?_
            obtain ⟨A71, c72, rfl, rs73⟩ := RS.form (rs15.mono ((s21.le).trans le60))
            refine WL.val rfl rfl rfl (ov_lenL rfl t_slice_45) ?_
            refine WL.val rfl rfl rfl (ov_gtr rfl rfl) ?_
            refine WL.val rfl rfl rfl (ov_pickF rfl rfl) ?_
            refine WL.val rfl rfl rfl (ov_pickT rfl rfl) ?_
            refine WL.val rfl rfl rfl (ov_move rfl) ?_
            refine WL.split 32 (b := decide ((0 : Int) < (x6.labels.length : Int))) rfl (fun hb74 => ?_) (fun hb74 => ?_)
            · replace HF := bif_t hb74 HF
              refine WL.pass rfl rfl rfl ?_
              refine WL.pass rfl rfl rfl ?_
              refine WL.pass rfl rfl rfl ?_
              refine WL.pass rfl rfl rfl ?_
              refine WL.pass rfl rfl rfl ?_
              refine WL.pass rfl rfl rfl ?_
              refine WL.pass rfl rfl rfl ?_
              refine WL.pass rfl rfl rfl ?_
              refine WL.pass rfl rfl rfl ?_
              refine WL.pass rfl rfl rfl ?_
              refine WL.pass rfl rfl rfl ?_
              refine WL.pass rfl rfl rfl ?_
              refine WL.pass rfl rfl rfl ?_
              refine WL.pass rfl rfl rfl ?_
              refine WL.val rfl rfl rfl (ov_pickT rfl rfl) ?_
              refine WL.nil ?_
              refine WC.to [0, 3, 5, 47] [(0, .pointer (some ⟨b1, 0, none⟩)), (3, .int .i64 x10), (5, .pointer (some ⟨b19, 0, none⟩)), (47, .bool true)] rfl ?_
              exact J93 ⟨h58, true, HF, rfl, S61, Hle.refl _, ob64, ob65⟩
            · replace HF := bif_f hb74 HF
              refine WL.val rfl rfl rfl (ov_move rfl) ?_
              refine WL.val rfl rfl rfl (ov_eql rfl rfl) ?_
              refine WL.val rfl rfl rfl (ov_move rfl) ?_
              refine WL.split 35 (b := (x9 : Int) == 4) rfl (fun hb75 => ?_) (fun hb75 => ?_)
              · replace HF := bif_t hb75 HF
                refine WL.val rfl rfl rfl (ov_fieldAddr rfl t_field_47_0) ?_
                refine WL.val rfl rfl rfl (ov_load1 rfl t_agg_30 (OB.cell ob65 (j := 0) rfl)) ?_
                refine WL.val rfl rfl rfl (ov_lenL rfl t_slice_30) ?_
                refine WL.val rfl rfl rfl (ov_gtr rfl rfl) ?_
                refine WL.val rfl rfl rfl (ov_move rfl) ?_
                refine WL.split 40 (b := decide ((0 : Int) < (x6.cond.length : Int))) rfl (fun hb76 => ?_) (fun hb76 => ?_)
                · replace HF := bif_t hb76 HF
                  refine WL.pass rfl rfl rfl ?_
                  refine WL.pass rfl rfl rfl ?_
                  refine WL.pass rfl rfl rfl ?_
                  refine WL.pass rfl rfl rfl ?_
                  refine WL.val rfl rfl rfl (ov_pickT rfl rfl) ?_
                  refine WL.val rfl rfl rfl (ov_pickT rfl rfl) ?_
                  refine WL.val rfl rfl rfl (ov_pickF rfl rfl) ?_
                  refine WL.nil ?_
                  refine WC.to [0, 3, 5, 47] [(0, .pointer (some ⟨b1, 0, none⟩)), (3, .int .i64 x10), (5, .pointer (some ⟨b19, 0, none⟩)), (47, .bool true)] rfl ?_
                  exact J93 ⟨h58, true, HF, rfl, S61, Hle.refl _, ob64, ob65⟩
                · replace HF := bif_f hb76 HF
                  refine WL.val rfl rfl rfl (ov_fieldAddr rfl t_field_47_1) ?_
                  refine WL.val rfl rfl rfl (ov_load1 rfl t_agg_45 (OB.cell ob65 (j := 1) rfl)) ?_
                  refine WL.val rfl rfl rfl (ov_lenL rfl t_slice_45) ?_
                  refine WL.val rfl rfl rfl (ov_eql rfl rfl) ?_
                  refine WL.val rfl rfl rfl (ov_pickF rfl rfl) ?_
                  refine WL.val rfl rfl rfl (ov_pickT rfl rfl) ?_
                  refine WL.val rfl rfl rfl (ov_pickF rfl rfl) ?_
                  refine WL.nil ?_
                  refine WC.to [0, 3, 5, 47] [(0, .pointer (some ⟨b1, 0, none⟩)), (3, .int .i64 x10), (5, .pointer (some ⟨b19, 0, none⟩)), (47, .bool (((x6.labels.length : Int) : Int) == 0))] rfl ?_
                  exact J93 ⟨h58, ((x6.labels.length : Int) : Int) == 0, HF, rfl, S61, Hle.refl _, ob64, ob65⟩
              · replace HF := bif_f hb75 HF
                refine WL.pass rfl rfl rfl ?_
                refine WL.pass rfl rfl rfl ?_
                refine WL.pass rfl rfl rfl ?_
                refine WL.pass rfl rfl rfl ?_
                refine WL.pass rfl rfl rfl ?_
                refine WL.pass rfl rfl rfl ?_
                refine WL.pass rfl rfl rfl ?_
                refine WL.pass rfl rfl rfl ?_
                refine WL.pass rfl rfl rfl ?_
                refine WL.pass rfl rfl rfl ?_
                refine WL.val rfl rfl rfl (ov_pickF rfl rfl) ?_
                refine WL.val rfl rfl rfl (ov_pickF rfl rfl) ?_
                refine WL.nil ?_
                refine WC.to [0, 3, 5, 47] [(0, .pointer (some ⟨b1, 0, none⟩)), (3, .int .i64 x10), (5, .pointer (some ⟨b19, 0, none⟩)), (47, .bool false)] rfl ?_
                exact J93 ⟨h58, false, HF, rfl, S61, Hle.refl _, ob64, ob65⟩
        · replace HF := bif_f hb66 HF
          refine WL.pass rfl rfl rfl ?_
          refine WL.pass rfl rfl rfl ?_
          refine WL.pass rfl rfl rfl ?_
          refine WL.pass rfl rfl rfl ?_
          refine WL.pass rfl rfl rfl ?_
          refine WL.pass rfl rfl rfl ?_
          refine WL.pass rfl rfl rfl ?_
          refine WL.pass rfl rfl rfl ?_
          refine WL.pass rfl rfl rfl ?_
          refine WL.pass rfl rfl rfl ?_
          refine WL.val rfl rfl rfl (ov_pickF rfl rfl) ?_
          refine WL.val rfl rfl rfl (ov_move rfl) ?_
          refine WL.val rfl rfl rfl (ov_move rfl) ?_
          refine WL.val rfl rfl rfl (ov_eql rfl rfl) ?_
          refine WL.val rfl rfl rfl (ov_move rfl) ?_
          refine WL.split 35 (b := (x9 : Int) == 4) rfl (fun hb77 => ?_) (fun hb77 => ?_)
          · replace HF := bif_t hb77 HF
            refine WL.val rfl rfl rfl (ov_fieldAddr rfl t_field_47_0) ?_
            refine WL.val rfl rfl rfl (ov_load1 rfl t_agg_30 (OB.cell ob65 (j := 0) rfl)) ?_
            obtain ⟨A78, c79, rfl, rs80⟩ := RS.form (rs13.mono ((s21.le).trans le60))
            refine WL.val rfl rfl rfl (ov_lenL rfl t_slice_30) ?_
            refine WL.val rfl rfl rfl (ov_gtr rfl rfl) ?_
            refine WL.val rfl rfl rfl (ov_move rfl) ?_
            refine WL.split 40 (b := decide ((0 : Int) < (x6.cond.length : Int))) rfl (fun hb81 => ?_) (fun hb81 => ?_)
            · replace HF := bif_t hb81 HF
              refine WL.pass rfl rfl rfl ?_
              refine WL.pass rfl rfl rfl ?_
              refine WL.pass rfl rfl rfl ?_
              refine WL.pass rfl rfl rfl ?_
              refine WL.val rfl rfl rfl (ov_pickT rfl rfl) ?_
              refine WL.val rfl rfl rfl (ov_pickT rfl rfl) ?_
              refine WL.val rfl rfl rfl (ov_pickF rfl rfl) ?_
              refine WL.nil ?_
              refine WC.to [0, 3, 5, 47] [(0, .pointer (some ⟨b1, 0, none⟩)), (3, .int .i64 x10), (5, .pointer (some ⟨b19, 0, none⟩)), (47, .bool true)] rfl ?_
              exact J93 ⟨h58, true, HF, rfl, S61, Hle.refl _, ob64, ob65⟩
            · replace HF := bif_f hb81 HF
              refine WL.val rfl rfl rfl (ov_fieldAddr rfl t_field_47_1) ?_
              refine WL.val rfl rfl rfl (ov_load1 rfl t_agg_45 (OB.cell ob65 (j := 1) rfl)) ?_
              obtain ⟨A82, c83, rfl, rs84⟩ := RS.form (rs15.mono ((s21.le).trans le60))
              refine WL.val rfl rfl rfl (ov_lenL rfl t_slice_45) ?_
              refine WL.val rfl rfl rfl (ov_eql rfl rfl) ?_
              refine WL.val rfl rfl rfl (ov_pickF rfl rfl) ?_
              refine WL.val rfl rfl rfl (ov_pickT rfl rfl) ?_
              refine WL.val rfl rfl rfl (ov_pickF rfl rfl) ?_
              refine WL.nil ?_
              refine WC.to [0, 3, 5, 47] [(0, .pointer (some ⟨b1, 0, none⟩)), (3, .int .i64 x10), (5, .pointer (some ⟨b19, 0, none⟩)), (47, .bool (((x6.labels.length : Int) : Int) == 0))] rfl ?_
              exact J93 ⟨h58, ((x6.labels.length : Int) : Int) == 0, HF, rfl, S61, Hle.refl _, ob64, ob65⟩
          · replace HF := bif_f hb77 HF
            refine WL.pass rfl rfl rfl ?_
            refine WL.pass rfl rfl rfl ?_
            refine WL.pass rfl rfl rfl ?_
            refine WL.pass rfl rfl rfl ?_
            refine WL.pass rfl rfl rfl ?_
            refine WL.pass rfl rfl rfl ?_
            refine WL.pass rfl rfl rfl ?_
            refine WL.pass rfl rfl rfl ?_
            refine WL.pass rfl rfl rfl ?_
            refine WL.pass rfl rfl rfl ?_
            refine WL.val rfl rfl rfl (ov_pickF rfl rfl) ?_
            refine WL.val rfl rfl rfl (ov_pickF rfl rfl) ?_
            refine WL.nil ?_
            refine WC.to [0, 3, 5, 47] [(0, .pointer (some ⟨b1, 0, none⟩)), (3, .int .i64 x10), (5, .pointer (some ⟨b19, 0, none⟩)), (47, .bool false)] rfl ?_
            exact J93 ⟨h58, false, HF, rfl, S61, Hle.refl _, ob64, ob65⟩
  · intro J119
    refine WC.join (fun E w45 => ∃ (h44 : Hp) (x48 : Bool) (x49 : Int) (x50 : Int), ast_Counter_arm_j1 k (tie_ast_Counter_Text k) x6 x9 x10 x48 x49 x50 = some r ∧ E = [(0, .pointer (some ⟨b1, 0, none⟩)), (2, .int .i64 x9), (3, .int .i64 x10), (5, .pointer (some ⟨b19, 0, none⟩)), (17, .bool x48)] ∧ Stp [b1] w0 h0 w45 h44 ∧ Hle h0 h44 ∧ OB w45 h44 b1 T2 [.int .i64 x49, .int .i64 x50] ∧ OB w45 h44 b19 47 [v12, v14, v16]) ?_ ?_
    · rintro E w45 ⟨h44, x48, x49, x50, HF, rfl, S47, le46, ob51, ob52⟩
      refine WC.cond (b := x48) rfl (fun hb53 => ?_) (fun hb53 => ?_)
      · replace HF := bif_t hb53 HF
        refine WC.seq ?_
        refine WC.region ?_
        refine WL.val rfl rfl rfl (ov_assign rfl) ?_
        refine WL.nil ?_
        refine WQ.seqN ?_
        refine WC.ret ?_
        refine WQ.thenRet ?_
        refine WQ.ret1 rfl rfl ?_
        obtain rfl := Option.some.inj HF
        exact ⟨_, rfl, h44, S47, rfl, ob51⟩
      · replace HF := bif_f hb53 HF
        refine WC.skip ?_
        refine WC.to [0, 2, 3, 5] [(0, .pointer (some ⟨b1, 0, none⟩)), (2, .int .i64 x9), (3, .int .i64 x10), (5, .pointer (some ⟨b19, 0, none⟩))] rfl ?_
        exact J119 ⟨h44, x49, x50, HF, rfl, S47, le46, ob51, ob52⟩
    · intro J54
      refine WC.region ?_
      refine WL.val rfl rfl rfl (ov_move rfl) ?_
      refine WL.val rfl rfl rfl (ov_move rfl) ?_
      have ob26 := (ob5.step0 s21)
      obtain ⟨r27, hr28, HF⟩ := bind_some HF
      refine WL.call rfl rfl rfl (oc_func (vs := [.pointer (some ⟨b1, 0, none⟩), .int .i64 x10]) rfl t_ent_79) (ok_ast_Counter_Add _ hr28 S25.sub ob26) ?_
      rintro _ w30 ⟨h31, s32, rfl, ob33⟩
      have S34 := S25.trans s32 (in_cons (.inl (by simp)) in_nil)
      refine WL.val rfl rfl rfl (ov_not rfl) ?_
      refine WL.val rfl rfl rfl (ov_move rfl) ?_
      refine WL.split 13 (b := !r27.1) rfl (fun hb35 => ?_) (fun hb35 => ?_)
      · replace HF := bif_t hb35 HF
        refine WL.pass rfl rfl rfl ?_
        refine WL.pass rfl rfl rfl ?_
        refine WL.pass rfl rfl rfl ?_
        refine WL.val rfl rfl rfl (ov_pickT rfl rfl) ?_
        refine WL.nil ?_
        have ob55 := (ob22.step1 s32 (Ne.symm ne23))
        refine WC.to [0, 2, 3, 5, 17] [(0, .pointer (some ⟨b1, 0, none⟩)), (2, .int .i64 x9), (3, .int .i64 x10), (5, .pointer (some ⟨b19, 0, none⟩)), (17, .bool true)] rfl ?_
        exact J54 ⟨h31, true, r27.2.1, r27.2.2, HF, rfl, S34, s32.le, ob33, ob55⟩
      · replace HF := bif_f hb35 HF
        refine WL.val rfl rfl rfl (ov_fieldAddr rfl t_field_47_1) ?_
        have ob36 := (ob22.step1 s32 (Ne.symm ne23))
        refine WL.val rfl rfl rfl (ov_load1 rfl t_agg_45 (OB.cell ob36 (j := 1) rfl)) ?_
        obtain ⟨r37, hr38, HF⟩ := bind_some HF
        refine WL.call rfl rfl rfl (oc_func (vs := [v14, .func (.func 110) #[] #[]]) rfl t_ent_109) (ok_slices_ContainsFunc_int_int _ hr38 S34.sub (rs15.mono ((s21.le).trans s32.le))) ?_
        rintro _ w40 ⟨h41, s42, rfl⟩
        have S43 := S34.trans0 s42
        refine WL.val rfl rfl rfl (ov_pickF rfl rfl) ?_
        refine WL.nil ?_
        have ob56 := (ob33.step0 s42)
        have ob57 := (ob36.step0 s42)
        refine WC.to [0, 2, 3, 5, 17] [(0, .pointer (some ⟨b1, 0, none⟩)), (2, .int .i64 x9), (3, .int .i64 x10), (5, .pointer (some ⟨b19, 0, none⟩)), (17, .bool r37)] rfl ?_
        exact J54 ⟨h41, r37, r27.2.1, r27.2.2, HF, rfl, S43, (s32.le).trans s42.le, ob56, ob57⟩
theorem all_ast_Counter_Text : ∀ k j, j ≤ k → C_ast_Counter_Text (tie_ast_Counter_Text j).ast_Counter_Text ∧ C_ast_Counter_stmt (tie_ast_Counter_Text j).ast_Counter_stmt ∧ C_ast_Counter_arm (tie_ast_Counter_Text j).ast_Counter_arm := by
  intro k
  induction k with
  | zero =>
    intro j hj
    obtain rfl : j = 0 := by omega
    exact ⟨(fun _ _ _ _ _ => by intro h; cases h), (fun _ _ _ _ _ => by intro h; cases h), (fun _ _ _ _ _ _ => by intro h; cases h)⟩
  | succ k ih =>
    intro j hj
    by_cases h : j ≤ k
    · exact ih j h
    · obtain rfl : j = k + 1 := by omega
      exact ⟨s_ast_Counter_Text k ih, s_ast_Counter_stmt k ih, s_ast_Counter_arm k ih⟩
theorem ok_ast_Counter_Text (k : Nat) : C_ast_Counter_Text (F_ast_Counter_Text k) := (all_ast_Counter_Text k k (Nat.le_refl _)).1
theorem ok_ast_Counter_stmt (k : Nat) : C_ast_Counter_stmt (F_ast_Counter_stmt k) := (all_ast_Counter_Text k k (Nat.le_refl _)).2.1
theorem ok_ast_Counter_arm (k : Nat) : C_ast_Counter_arm (F_ast_Counter_arm k) := (all_ast_Counter_Text k k (Nat.le_refl _)).2.2

def C_ast_IsText (φ : (List St) → Option Bool) : Prop := ∀ ⦃xs1 : List St⦄ ⦃r : Bool⦄, φ xs1 = some r → ∀ ⦃w0 : World⦄ ⦃h0 : Hp⦄ ⦃v2 : Value⦄, Sub h0 w0 → RS h0 v2 xs1 →
  Calls Tryz.prog 19 #[v2] w0 fun e w1 => ∃ v, e = .returned v ∧ ∃ h1, Stp [] w0 h0 w1 h1 ∧ v = .bool r
set_option maxRecDepth 20000 in
set_option maxHeartbeats 4000000 in
theorem s_ast_IsText (k : Nat) : C_ast_IsText (F_ast_IsText k) := by
  intro xs1 r HF w0 h0 v2 hs0 rs3
  have S0 : Stp [] w0 h0 w0 h0 := Stp.refl hs0 _
  refine enter (n := 6) Tryz.func19 rfl Tryz.ntmps19 rfl [(0, v2)] rfl ?_
  refine WC.seq ?_
  refine WC.region ?_
  refine WL.val rfl rfl rfl (ov_assign rfl) ?_
  refine WL.nil ?_
  refine WQ.seqN ?_
  refine WC.seq ?_
  refine WC.region ?_
  refine WL.alloc (zs := [.int .i64 0, .int .i64 0]) rfl rfl t_zero_75 rfl S0.sub (fun w4 b5 hb6 s7 ob8 => ?_)
  have g9 : w0.heap.size ≤ b5 := by rw [hb6]; exact S0.size
  have S10 := S0.trans0 s7
  refine WL.nil ?_
  refine WQ.seqN ?_
  refine WC.seq ?_
  refine WC.region ?_
  refine WL.val rfl rfl rfl (ov_move rfl) ?_
  obtain ⟨r11, hr12, HF⟩ := bind_some HF
  refine WL.call rfl rfl rfl (oc_func (vs := [.pointer (some ⟨b5, 0, none⟩), v2, .int .i64 1]) rfl t_ent_38) (ok_ast_Counter_Text _ hr12 S10.sub (rs3.mono (s7.le)) ob8) ?_
  rintro _ w14 ⟨h15, s16, rfl, ob17⟩
  have S18 := S10.trans s16 (in_cons (.inr g9) in_nil)
  refine WL.val rfl rfl rfl (ov_assign rfl) ?_
  refine WL.nil ?_
  refine WQ.seqN ?_
  refine WC.ret ?_
  refine WQ.ret1 rfl rfl ?_
  obtain rfl := Option.some.inj HF
  exact ⟨_, rfl, h15, S18, rfl⟩
theorem ok_ast_IsText (k : Nat) : C_ast_IsText (F_ast_IsText k) := s_ast_IsText k

def C_strings_Builder_String (φ : Bool → (List UInt8) → ByteArray → Option ByteArray) : Prop := ∀ ⦃x2 : Bool⦄ ⦃xs3 : List UInt8⦄ ⦃x9 : ByteArray⦄ ⦃r : ByteArray⦄, φ x2 xs3 x9 = some r → ∀ ⦃w0 : World⦄ ⦃h0 : Hp⦄ ⦃b1 : Nat⦄ ⦃A4 : Option Addr⦄ ⦃c5 : Nat⦄, Sub h0 w0 → RS h0 (.slice A4 xs3.length c5) xs3 → Own w0 h0 h0.base 5 1 (.slice A4 xs3.length c5) xs3.length → OB w0 h0 b1 55 [.pointer (bif x2 then some ⟨b1, 0, none⟩ else none), .slice A4 xs3.length c5, .string x9] → (5 : Nat) ≠ 55 →
  Calls Tryz.prog 21 #[.pointer (some ⟨b1, 0, none⟩)] w0 fun e w1 => ∃ v, e = .returned v ∧ ∃ h1, Stp ((Value.slice A4 xs3.length c5).ownBlock.toList ++ []) w0 h0 w1 h1 ∧ v = .string r
set_option maxRecDepth 20000 in
set_option maxHeartbeats 4000000 in
theorem s_strings_Builder_String (k : Nat) : C_strings_Builder_String (F_strings_Builder_String k) := by
  intro x2 xs3 x9 r HF w0 h0 b1 A4 c5 hs0 rs6 ow7 ob10 tn11
  have S0 : Stp ((Value.slice A4 xs3.length c5).ownBlock.toList ++ []) w0 h0 w0 h0 := Stp.refl hs0 _
  have om8 : ∀ i ∈ (Value.slice A4 xs3.length c5).ownBlock.toList, i ∈ (Value.slice A4 xs3.length c5).ownBlock.toList ∨ w0.heap.size ≤ i := fun i hi => .inl hi
  have lt12 : b1 < w0.heap.size := OB.lt ob10
  refine enter (n := 14) Tryz.func21 rfl Tryz.ntmps21 rfl [(0, .pointer (some ⟨b1, 0, none⟩))] rfl ?_
  refine WC.seq ?_
  refine WC.region ?_
  refine WL.val rfl rfl rfl (ov_assign rfl) ?_
  refine WL.nil ?_
  refine WQ.seqN ?_
  refine WC.seq ?_
  refine WC.drawn (m := 10) [(0, .pointer (some ⟨b1, 0, none⟩)), (2, .string (⟨#[]⟩ : ByteArray))] [0, 2] rfl (fun i v w h => match i with | 0 => v = .pointer (some ⟨b1, 0, none⟩) | 1 => v = .pointer (some ⟨b1, 0, none⟩) | 2 => v = .pointer (some ⟨b1, 1, none⟩) | 3 => v = .slice A4 xs3.length c5 | 4 => v = .pointer A4 | 5 => v = .pointer (some ⟨b1, 0, none⟩) | 6 => v = .pointer (some ⟨b1, 0, none⟩) | 7 => v = .pointer (some ⟨b1, 1, none⟩) | 8 => v = .slice A4 xs3.length c5 | 9 => v = .int .i64 (xs3.length : Int) | _ => True) t_mixed S0.sub rfl rfl rfl rfl rfl ?_ ?_ ?_
  · intro i v w h w2 h2 hΦ hst
    match i, hΦ with
    | 0, hΦ => exact hΦ
    | 1, hΦ => exact hΦ
    | 2, hΦ => exact hΦ
    | 3, hΦ => exact hΦ
    | 4, hΦ => exact hΦ
    | 5, hΦ => exact hΦ
    | 6, hΦ => exact hΦ
    | 7, hΦ => exact hΦ
    | 8, hΦ => exact hΦ
    | 9, hΦ => exact hΦ
    | i + 10, _ => exact trivial
  · refine ⟨?_, ?_, ?_, ?_, ?_, ?_, ?_, ?_, ?_, ?_, trivial⟩
    · intro a w13 h14 s15 hat hF
      exact front_val (show At _ [(0, .pointer (some ⟨b1, 0, none⟩)), (2, .string (⟨#[]⟩ : ByteArray))] _ from hat) rfl (ov_move rfl) s15.sub (by exact rfl)
    · intro a w13 h14 s15 hat hF
      obtain hv0 := hF 0 3 rfl rfl
      exact front_val (show At _ [(3, .pointer (some ⟨b1, 0, none⟩)), (0, .pointer (some ⟨b1, 0, none⟩)), (2, .string (⟨#[]⟩ : ByteArray))] _ from (At.cons hat hv0)) rfl (ov_nilCheck rfl) s15.sub (by exact rfl)
    · intro a w13 h14 s15 hat hF
      obtain hv1 := hF 1 4 rfl rfl
      exact front_val (show At _ [(4, .pointer (some ⟨b1, 0, none⟩)), (0, .pointer (some ⟨b1, 0, none⟩)), (2, .string (⟨#[]⟩ : ByteArray))] _ from (At.cons hat hv1)) rfl (ov_fieldAddr rfl t_field_51_1) s15.sub (by exact rfl)
    · intro a w13 h14 s15 hat hF
      obtain hv2 := hF 2 5 rfl rfl
      have ob16 := (ob10.step0 s15)
      exact front_val (show At _ [(5, .pointer (some ⟨b1, 1, none⟩)), (0, .pointer (some ⟨b1, 0, none⟩)), (2, .string (⟨#[]⟩ : ByteArray))] _ from (At.cons hat hv2)) rfl (ov_load1 rfl t_agg_49 (OB.cell ob16 (j := 1) rfl)) s15.sub (by exact rfl)
    · intro a w13 h14 s15 hat hF
      obtain hv3 := hF 3 6 rfl rfl
      exact front_val (show At _ [(6, .slice A4 xs3.length c5), (0, .pointer (some ⟨b1, 0, none⟩)), (2, .string (⟨#[]⟩ : ByteArray))] _ from (At.cons hat hv3)) rfl (ov_sliceData rfl (ow7.step0 s15)) s15.sub (by exact rfl)
    · intro a w13 h14 s15 hat hF
      exact front_val (show At _ [(0, .pointer (some ⟨b1, 0, none⟩)), (2, .string (⟨#[]⟩ : ByteArray))] _ from hat) rfl (ov_move rfl) s15.sub (by exact rfl)
    · intro a w13 h14 s15 hat hF
      obtain hv5 := hF 5 8 rfl rfl
      exact front_val (show At _ [(8, .pointer (some ⟨b1, 0, none⟩)), (0, .pointer (some ⟨b1, 0, none⟩)), (2, .string (⟨#[]⟩ : ByteArray))] _ from (At.cons hat hv5)) rfl (ov_nilCheck rfl) s15.sub (by exact rfl)
    · intro a w13 h14 s15 hat hF
      obtain hv6 := hF 6 9 rfl rfl
      exact front_val (show At _ [(9, .pointer (some ⟨b1, 0, none⟩)), (0, .pointer (some ⟨b1, 0, none⟩)), (2, .string (⟨#[]⟩ : ByteArray))] _ from (At.cons hat hv6)) rfl (ov_fieldAddr rfl t_field_51_1) s15.sub (by exact rfl)
    · intro a w13 h14 s15 hat hF
      obtain hv7 := hF 7 10 rfl rfl
      have ob17 := (ob10.step0 s15)
      exact front_val (show At _ [(10, .pointer (some ⟨b1, 1, none⟩)), (0, .pointer (some ⟨b1, 0, none⟩)), (2, .string (⟨#[]⟩ : ByteArray))] _ from (At.cons hat hv7)) rfl (ov_load1 rfl t_agg_49 (OB.cell ob17 (j := 1) rfl)) s15.sub (by exact rfl)
    · intro a w13 h14 s15 hat hF
      obtain hv8 := hF 8 11 rfl rfl
      exact front_val (show At _ [(11, .slice A4 xs3.length c5), (0, .pointer (some ⟨b1, 0, none⟩)), (2, .string (⟨#[]⟩ : ByteArray))] _ from (At.cons hat hv8)) rfl (ov_lenL rfl t_slice_49) s15.sub (by exact rfl)
  · intro a w13 h14 s15 hat hF
    obtain hv0 := hF 0 3 (by decide) rfl
    obtain hv1 := hF 1 4 (by decide) rfl
    obtain hv2 := hF 2 5 (by decide) rfl
    obtain hv3 := hF 3 6 (by decide) rfl
    obtain hv4 := hF 4 7 (by decide) rfl
    obtain hv5 := hF 5 8 (by decide) rfl
    obtain hv6 := hF 6 9 (by decide) rfl
    obtain hv7 := hF 7 10 (by decide) rfl
    obtain hv8 := hF 8 11 (by decide) rfl
    obtain hv9 := hF 9 12 (by decide) rfl
    refine WL.at_ [(12, .int .i64 (xs3.length : Int)), (11, .slice A4 xs3.length c5), (10, .pointer (some ⟨b1, 1, none⟩)), (9, .pointer (some ⟨b1, 0, none⟩)), (8, .pointer (some ⟨b1, 0, none⟩)), (7, .pointer A4), (6, .slice A4 xs3.length c5), (5, .pointer (some ⟨b1, 1, none⟩)), (4, .pointer (some ⟨b1, 0, none⟩)), (3, .pointer (some ⟨b1, 0, none⟩)), (0, .pointer (some ⟨b1, 0, none⟩)), (2, .string (⟨#[]⟩ : ByteArray))] (At.cons (At.cons (At.cons (At.cons (At.cons (At.cons (At.cons (At.cons (At.cons (At.cons hat hv0) hv1) hv2) hv3) hv4) hv5) hv6) hv7) hv8) hv9) ?_
    have S18 := S0.trans0 s15
    have ob21 := (ob10.step0 s15)
    refine WL.unsafeString (xs := xs3) rfl rfl rfl rfl t_ptr_83 t_cellsof_5 (ow7.step0 s15) (rs6.mono (s15.le)) S18.sub (by rw [S18.eqb]; exact Nat.le_refl _) (fun w19 s20 => ?_)
    have S22 := S18.trans s20 (fun i hi => (om8 i hi).elim (fun q => .inl (by simp only [List.mem_cons, List.mem_append]; simp [q])) .inr)
    refine WL.val rfl rfl rfl (ov_assign rfl) ?_
    refine WL.nil ?_
    refine WQ.seqN ?_
    refine WC.ret ?_
    refine WQ.ret1 rfl rfl ?_
    obtain rfl := Option.some.inj HF
    exact ⟨_, rfl, h14, S22, rfl⟩
theorem ok_strings_Builder_String (k : Nat) : C_strings_Builder_String (F_strings_Builder_String k) := s_strings_Builder_String k

def C_print_Text (φ : (List St) → Option (ByteArray × Int)) : Prop := ∀ ⦃xs1 : List St⦄ ⦃r : ByteArray × Int⦄, φ xs1 = some r → ∀ ⦃w0 : World⦄ ⦃h0 : Hp⦄ ⦃v2 : Value⦄, Sub h0 w0 → RS h0 v2 xs1 →
  Calls Tryz.prog 8 #[v2] w0 fun e w1 => ∃ v, e = .returned v ∧ ∃ h1, Stp [] w0 h0 w1 h1 ∧ (∃ u0 u1 : Value, v = .tuple #[u0, u1] ∧ (u0 = .string r.1) ∧ (u1 = .int .i64 r.2))
set_option maxRecDepth 20000 in
set_option maxHeartbeats 4000000 in
theorem s_print_Text (k : Nat) (IH : ∀ j, j ≤ k → C_print_Text (tie_print_Text j).print_Text) : C_print_Text (m_print_Text k (tie_print_Text k)) := by
  intro xs1 r HF w0 h0 v2 hs0 rs3
  have S0 : Stp [] w0 h0 w0 h0 := Stp.refl hs0 _
  refine enter (n := 22) Tryz.func8 rfl Tryz.ntmps8 rfl [(0, v2)] rfl ?_
  refine WC.seq ?_
  refine WC.region ?_
  refine WL.val rfl rfl rfl (ov_assign rfl) ?_
  refine WL.val rfl rfl rfl (ov_assign rfl) ?_
  refine WL.nil ?_
  refine WQ.seqN ?_
  refine WC.join (fun E w13 => ∃ (h12 : Hp), print_Text_j1 k (tie_print_Text k) xs1 = some r ∧ E = [(0, v2)] ∧ Stp [] w0 h0 w13 h12 ∧ Hle h0 h12) ?_ ?_
  · rintro E w13 ⟨h12, HF, rfl, S15, le14⟩
    refine WC.seq ?_
    refine WC.region ?_
    refine WL.alloc (zs := [.pointer none, .slice none 0 0, .string (⟨#[]⟩ : ByteArray)]) rfl rfl t_zero_55 rfl S15.sub (fun w16 b17 hb18 s19 ob20 => ?_)
    have g21 : w0.heap.size ≤ b17 := by rw [hb18]; exact S15.size
    have S22 := S15.trans0 s19
    refine WL.nil ?_
    refine WQ.seqN ?_
    refine WC.seq ?_
    refine WC.seq ?_
    refine WC.region ?_
    refine WL.val rfl rfl rfl (ov_move rfl) ?_
    obtain ⟨A23, c24, rfl, rs25⟩ := RS.form (rs3.mono ((le14).trans s19.le))
    refine WL.val rfl rfl rfl (ov_lenL rfl t_slice_22) ?_
    refine WL.val rfl rfl rfl (ov_move rfl) ?_
    refine WL.nil ?_
    refine WQ.seqN ?_
    refine WC.block ?_
    refine WC.loop ?_
    refine WP.to [4, 10, 11, 12] [(4, .pointer (some ⟨b17, 0, none⟩)), (10, .slice A23 (xs1).length c24), (11, .int .i64 (xs1.length : Int)), (12, .int .i64 0)] rfl ?_
    refine WP_rule (K := k) (fun j E w27 => ∃ (h26 : Hp) (x30 : Int) (x31 : Bool) (xs32 : List UInt8) (v33 : Value) (x36 : ByteArray), (tie_print_Text j).print_Text_l2 xs1 x30 x31 xs32 x36 = some r ∧ E = [(4, .pointer (some ⟨b17, 0, none⟩)), (10, .slice A23 (xs1).length c24), (11, .int .i64 (xs1.length : Int)), (12, .int .i64 x30)] ∧ Stp [] w0 h0 w27 h26 ∧ Hle h12 h26 ∧ RS h26 v33 xs32 ∧ Own w27 h26 w0.heap.size 5 1 v33 xs32.length ∧ OB w27 h26 b17 55 [.pointer (bif x31 then some ⟨b17, 0, none⟩ else none), v33, .string x36]) ?_ ?_ (j := k) (Nat.le_refl _) ?_
    · rintro E w27 ⟨_, _, _, _, _, _, HF, _⟩; cases HF
    · rintro j38 hj40 IHL39 E w27 ⟨h26, x30, x31, xs32, v33, x36, HF, rfl, S29, le28, rs34, ow35, ob37⟩
      refine WC.seq ?_
      refine WC.region ?_
      refine WL.val rfl rfl rfl (ov_lss rfl rfl) ?_
      refine WL.nil ?_
      refine WQ.seqN ?_
      refine WC.join (fun E w53 => ∃ (h52 : Hp) (xs56 : List UInt8) (v57 : Value), print_Text_j3 j38 (tie_print_Text j38) xs1 x30 x31 x36 xs56 = some r ∧ E = [(4, .pointer (some ⟨b17, 0, none⟩)), (10, .slice A23 (xs1).length c24), (11, .int .i64 (xs1.length : Int)), (12, .int .i64 x30)] ∧ Stp [] w0 h0 w53 h52 ∧ Hle h26 h52 ∧ RS h52 v57 xs56 ∧ Own w53 h52 w0.heap.size 5 1 v57 xs56.length ∧ OB w53 h52 b17 55 [.pointer (bif x31 then some ⟨b17, 0, none⟩ else none), v57, .string x36]) ?_ ?_
      · rintro E w53 ⟨h52, xs56, v57, HF, rfl, S55, le54, rs58, ow59, ob60⟩
        refine WC.seq ?_
        refine WC.block ?_
        refine WC.seq ?_
        refine WC.region ?_
        obtain ⟨e61, he62, HF⟩ := bind_some HF
        obtain ⟨b63, o64, rfl, h66, h67, ra65⟩ := RS.atO (rs25.mono ((le28).trans le54)) he62
        obtain ⟨cs68, r69, hc70⟩ := ra65
        refine WL.val rfl rfl rfl (ov_indexAddr rfl rfl t_slice_22 t_size_44 h66 h67) ?_
        refine WL.val rfl rfl rfl (ov_loadN (cs := cs68) rfl t_agg_44 (by rw [Rp.len r69]; exact t_size_44) (fun j v hv => S55.sub.at_ _ _ _ (hc70 j v hv))) ?_
        refine WL.alloc (zs := [.int .i64 0, .string (⟨#[]⟩ : ByteArray), .slice none 0 0, .slice none 0 0, .slice none 0 0, .int .i64 0, .slice none 0 0, .slice none 0 0, .slice none 0 0, .bool false]) rfl rfl t_zero_44 rfl S55.sub (fun w71 b72 hb73 s74 ob75 => ?_)
        have ne76 : b17 ≠ b72 := ob60.ne_new hb73
        have g77 : w0.heap.size ≤ b72 := by rw [hb73]; exact S55.size
        have S78 := S55.trans0 s74
        obtain ⟨v79, v81, v83, v85, v87, v89, rfl, rs80, rs82, rs84, rs86, rs88, rs90⟩ := rp_St.1 (Rp.mono (s74.le) r69)
        refine WL.store (vs := [.int .i64 e61.op, .string e61.name, v79, v81, v83, .int .i64 e61.n, v85, v87, v89, .bool e61.els]) rfl rfl rfl rfl t_size_44 (one_cons rfl (one_cons rfl (one_cons (RS.one rs80) (one_cons (RS.one rs82) (one_cons (RS.one rs84) (one_cons rfl (one_cons (RS.one rs86) (one_cons (RS.one rs88) (one_cons (RS.one rs90) (one_cons rfl one_nil)))))))))) ob75 S78.sub (by simp) (ds := [.int .i64 e61.op, .string e61.name, v79, v81, v83, .int .i64 e61.n, v85, v87, v89, .bool e61.els]) rfl (fun w91 s92 ob93 => ?_)
        have S94 := S78.trans1 s92 (.inr g77)
        refine WL.nil ?_
        refine WQ.seqN ?_
        refine WC.region ?_
        refine WL.val rfl rfl rfl (ov_loadN (cs := [.int .i64 e61.op, .string e61.name, v79, v81, v83, .int .i64 e61.n, v85, v87, v89, .bool e61.els]) rfl t_agg_44 t_size_44 (OB.cells ob93 0 rfl)) ?_
        obtain ⟨A95, c96, rfl, rs97⟩ := RS.form (rs58.mono ((s74.le).trans s92.le))
        have ob98 := ((ob60.step0 s74).step1 s92 ne76)
        obtain ⟨r99, hr100, HF⟩ := bind_some HF
        refine WL.call rfl rfl rfl (oc_func (vs := [.pointer (some ⟨b17, 0, none⟩), .agg #[.int .i64 e61.op, .string e61.name, v79, v81, v83, .int .i64 e61.n, v85, v87, v89, .bool e61.els]]) rfl t_ent_20) (ok_print_printer_stmt _ hr100 S94.sub rs97 (((ow59.step0 s74).step s92 (on_cons ((ow59.step0 s74).ne_ob ob75 (by decide)) on_nil)).weak (by rw [S94.eqb]; exact hs0.big)) (rp_St.2 ⟨_, _, _, _, _, _, rfl, (rs80.mono (s92.le)), (rs82.mono (s92.le)), (rs84.mono (s92.le)), (rs86.mono (s92.le)), (rs88.mono (s92.le)), (rs90.mono (s92.le))⟩) ob98 (by decide)) ?_
        rintro v101 w102 ⟨h103, s104, rfl, ⟨v105, rs106, ow107, om108, ob110⟩⟩
        have ow109 := Own.rebase (B := w0.heap.size) ow107 (fun i hi => (om108 i hi).elim (fun q => ((fun i hi => (Or.inr (((ow59.step0 s74).step s92 (on_cons ((ow59.step0 s74).ne_ob ob75 (by decide)) on_nil)).base_le i hi) : i ∈ ([] : List Nat) ∨ w0.heap.size ≤ i)) i q).elim (fun q2 => absurd q2 (by simp)) id) (fun q => Nat.le_trans S94.size q))
        have S111 := S94.trans s104 (in_cons (.inr g21) (in_own (fun i hi => .inr (((ow59.step0 s74).step s92 (on_cons ((ow59.step0 s74).ne_ob ob75 (by decide)) on_nil)).base_le i hi)) in_nil))
        refine WL.nil ?_
        refine WQ.blockN ?_
        refine WQ.seqN ?_
        refine WC.region ?_
        refine WL.val rfl rfl rfl (ov_add rfl rfl) ?_
        refine WL.val rfl rfl rfl (ov_move rfl) ?_
        refine WL.nil ?_
        refine WQ.loopN ?_
        refine WP.to [4, 10, 11, 12] [(4, .pointer (some ⟨b17, 0, none⟩)), (10, .slice (some ⟨b63, o64, none⟩) (xs1).length c24), (11, .int .i64 (xs1.length : Int)), (12, .int .i64 (IntKind.i64.wrap (x30 + 1)))] rfl ?_
        exact IHL39 j38 (Nat.le_refl _) _ _ ⟨h103, IntKind.i64.wrap (x30 + 1), r99.1, r99.2.1, v105, r99.2.2, HF, rfl, S111, (le28).trans ((le54).trans ((s74.le).trans ((s92.le).trans s104.le))), rs106, ow109, ob110⟩
      · intro J112
        refine WC.cond (b := decide ((x30 : Int) < (xs1.length : Int))) rfl (fun hb41 => ?_) (fun hb41 => ?_)
        · replace HF := bif_t hb41 HF
          refine WC.skip ?_
          refine WC.to [4, 10, 11, 12] [(4, .pointer (some ⟨b17, 0, none⟩)), (10, .slice A23 (xs1).length c24), (11, .int .i64 (xs1.length : Int)), (12, .int .i64 x30)] rfl ?_
          exact J112 ⟨h26, xs32, v33, HF, rfl, S29, Hle.refl _, rs34, ow35, ob37⟩
        · replace HF := bif_f hb41 HF
          refine WC.exit ?_
          refine WQ.thenExit ?_
          refine WQ.thenExit ?_
          refine WQ.blockHit ?_
          refine WQ.seqN ?_
          refine WC.seq ?_
          refine WC.region ?_
          refine WL.val rfl rfl rfl (ov_fieldAddr rfl t_field_55_0) ?_
          refine WL.val rfl rfl rfl (ov_fieldAddr rfl t_field_53_0) ?_
          obtain ⟨A42, c43, rfl, rs44⟩ := RS.form rs34
          obtain ⟨r45, hr46, HF⟩ := bind_some HF
          refine WL.call rfl rfl rfl (oc_func (vs := [.pointer (some ⟨b17, 0, none⟩)]) rfl t_ent_21) (ok_strings_Builder_String _ hr46 S29.sub rs44 (ow35.weak (by rw [S29.eqb]; exact hs0.big)) ob37 (by decide)) ?_
          rintro _ w48 ⟨h49, s50, rfl⟩
          have S51 := S29.trans s50 (in_own (fun i hi => .inr (ow35.base_le i hi)) in_nil)
          refine WL.val rfl rfl rfl (ov_assign rfl) ?_
          refine WL.val rfl rfl rfl (ov_assign rfl) ?_
          refine WL.nil ?_
          refine WQ.seqN ?_
          refine WC.ret ?_
          refine WQ.ret2 rfl rfl rfl ?_
          obtain rfl := Option.some.inj HF
          exact ⟨_, rfl, h49, S51, _, _, rfl, rfl, rfl⟩
    · exact ⟨h12, 0, false, ([] : List UInt8), .slice none 0 0, (⟨#[]⟩ : ByteArray), HF, rfl, S22, Hle.refl _, (RS.nil _), (Own.nil _ _ _ _ _), ob20⟩
  · intro J113
    refine WC.seq ?_
    refine WC.region ?_
    refine WL.val rfl rfl rfl (ov_move rfl) ?_
    obtain ⟨r4, hr5, HF⟩ := bind_some HF
    refine WL.call rfl rfl rfl (oc_func (vs := [v2]) rfl t_ent_19) (ok_ast_IsText _ hr5 S0.sub rs3) ?_
    rintro _ w7 ⟨h8, s9, rfl⟩
    have S10 := S0.trans0 s9
    refine WL.val rfl rfl rfl (ov_not rfl) ?_
    refine WL.nil ?_
    refine WQ.seqN ?_
    refine WC.cond (b := !r4) rfl (fun hb11 => ?_) (fun hb11 => ?_)
    · replace HF := bif_t hb11 HF
      refine WC.seq ?_
      refine WC.region ?_
      refine WL.val rfl rfl rfl (ov_assign rfl) ?_
      refine WL.val rfl rfl rfl (ov_assign rfl) ?_
      refine WL.nil ?_
      refine WQ.seqN ?_
      refine WC.ret ?_
      refine WQ.thenRet ?_
      refine WQ.ret2 rfl rfl rfl ?_
      obtain rfl := Option.some.inj HF
      exact ⟨_, rfl, h8, S10, _, _, rfl, rfl, rfl⟩
    · replace HF := bif_f hb11 HF
      refine WC.skip ?_
      refine WC.to [0] [(0, v2)] rfl ?_
      exact J113 ⟨h8, HF, rfl, S10, s9.le⟩
theorem all_print_Text : ∀ k j, j ≤ k → C_print_Text (tie_print_Text j).print_Text := by
  intro k
  induction k with
  | zero =>
    intro j hj
    obtain rfl : j = 0 := by omega
    exact (fun _ _ => by intro h; cases h)
  | succ k ih =>
    intro j hj
    by_cases h : j ≤ k
    · exact ih j h
    · obtain rfl : j = k + 1 := by omega
      exact s_print_Text k ih
theorem ok_print_Text (k : Nat) : C_print_Text (F_print_Text k) := (all_print_Text k k (Nat.le_refl _))

def C_print_Short (φ : (List St) → Option (ByteArray × Int)) : Prop := ∀ ⦃xs1 : List St⦄ ⦃r : ByteArray × Int⦄, φ xs1 = some r → ∀ ⦃w0 : World⦄ ⦃h0 : Hp⦄ ⦃v2 : Value⦄, Sub h0 w0 → RS h0 v2 xs1 →
  Calls Tryz.prog 9 #[v2] w0 fun e w1 => ∃ v, e = .returned v ∧ ∃ h1, Stp [] w0 h0 w1 h1 ∧ (∃ u0 u1 : Value, v = .tuple #[u0, u1] ∧ (u0 = .string r.1) ∧ (u1 = .int .i64 r.2))
set_option maxRecDepth 20000 in
set_option maxHeartbeats 4000000 in
theorem s_print_Short (k : Nat) : C_print_Short (F_print_Short k) := by
  intro xs1 r HF w0 h0 v2 hs0 rs3
  have S0 : Stp [] w0 h0 w0 h0 := Stp.refl hs0 _
  refine enter (n := 16) Tryz.func9 rfl Tryz.ntmps9 rfl [(0, v2)] rfl ?_
  refine WC.seq ?_
  refine WC.region ?_
  refine WL.val rfl rfl rfl (ov_assign rfl) ?_
  refine WL.val rfl rfl rfl (ov_assign rfl) ?_
  refine WL.nil ?_
  refine WQ.seqN ?_
  refine WC.seq ?_
  refine WC.region ?_
  refine WL.val rfl rfl rfl (ov_move rfl) ?_
  obtain ⟨r4, hr5, HF⟩ := bind_some HF
  refine WL.call rfl rfl rfl (oc_func (vs := [v2]) rfl t_ent_8) (ok_print_Text _ hr5 S0.sub rs3) ?_
  rintro _ w7 ⟨h8, s9, _, _, rfl, rfl, rfl⟩
  have S10 := S0.trans0 s9
  refine WL.val rfl rfl rfl (ov_move rfl) ?_
  refine WL.val rfl rfl rfl (ov_extract rfl rfl) ?_
  refine WL.val rfl rfl rfl (ov_extract rfl rfl) ?_
  refine WL.val rfl rfl rfl (ov_assign rfl) ?_
  refine WL.val rfl rfl rfl (ov_assign rfl) ?_
  refine WL.nil ?_
  refine WQ.seqN ?_
  refine WC.join (fun E w13 => ∃ (h12 : Hp), print_Short_j1 k r4 = some r ∧ E = [(4, .string r4.1)] ∧ Stp [] w0 h0 w13 h12 ∧ Hle h8 h12) ?_ ?_
  · rintro E w13 ⟨h12, HF, rfl, S15, le14⟩
    refine WC.seq ?_
    refine WC.region ?_
    refine WL.val rfl rfl rfl (ov_move rfl) ?_
    obtain ⟨r16, hr17, HF⟩ := bind_some HF
    refine WL.call rfl rfl rfl (oc_func (vs := [.string r4.1]) rfl t_ent_22) (ok_print_Line _ hr17 S15.sub) ?_
    rintro _ w19 ⟨h20, s21, rfl⟩
    have S22 := S15.trans0 s21
    refine WL.val rfl rfl rfl (ov_assign rfl) ?_
    refine WL.val rfl rfl rfl (ov_assign rfl) ?_
    refine WL.nil ?_
    refine WQ.seqN ?_
    refine WC.ret ?_
    refine WQ.ret2 rfl rfl rfl ?_
    obtain rfl := Option.some.inj HF
    exact ⟨_, rfl, h20, S22, _, _, rfl, rfl, rfl⟩
  · intro J23
    refine WC.seq ?_
    refine WC.region ?_
    refine WL.val rfl rfl rfl (ov_move rfl) ?_
    refine WL.val rfl rfl rfl (ov_neq rfl rfl) ?_
    refine WL.nil ?_
    refine WQ.seqN ?_
    refine WC.cond (b := (r4.2 : Int) != 0) rfl (fun hb11 => ?_) (fun hb11 => ?_)
    · replace HF := bif_t hb11 HF
      refine WC.seq ?_
      refine WC.region ?_
      refine WL.val rfl rfl rfl (ov_move rfl) ?_
      refine WL.val rfl rfl rfl (ov_assign rfl) ?_
      refine WL.val rfl rfl rfl (ov_assign rfl) ?_
      refine WL.nil ?_
      refine WQ.seqN ?_
      refine WC.ret ?_
      refine WQ.thenRet ?_
      refine WQ.ret2 rfl rfl rfl ?_
      obtain rfl := Option.some.inj HF
      exact ⟨_, rfl, h8, S10, _, _, rfl, rfl, rfl⟩
    · replace HF := bif_f hb11 HF
      refine WC.skip ?_
      refine WC.to [4] [(4, .string r4.1)] rfl ?_
      exact J23 ⟨h8, HF, rfl, S10, Hle.refl _⟩
theorem ok_print_Short (k : Nat) : C_print_Short (F_print_Short k) := s_print_Short k

def C_ast_IsExpr (φ : Ex → Option Bool) : Prop := ∀ ⦃x1 : Ex⦄ ⦃r : Bool⦄, φ x1 = some r → ∀ ⦃w0 : World⦄ ⦃h0 : Hp⦄ ⦃cs2 : List Value⦄, Sub h0 w0 → Rp.R h0 x1 cs2 →
  Calls Tryz.prog 26 #[.agg cs2.toArray] w0 fun e w1 => ∃ v, e = .returned v ∧ ∃ h1, Stp [] w0 h0 w1 h1 ∧ v = .bool r
set_option maxRecDepth 20000 in
set_option maxHeartbeats 4000000 in
theorem s_ast_IsExpr (k : Nat) : C_ast_IsExpr (F_ast_IsExpr k) := by
  intro x1 r HF w0 h0 cs2 hs0 r3
  have S0 : Stp [] w0 h0 w0 h0 := Stp.refl hs0 _
  refine enter (n := 6) Tryz.func26 rfl Tryz.ntmps26 rfl [(0, .agg cs2.toArray)] rfl ?_
  refine WC.seq ?_
  refine WC.region ?_
  obtain ⟨v4, rfl, rs5⟩ := rp_Ex.1 r3
  refine WL.box (cs := [.int .i64 x1.op, .int .i64 x1.kind, .int .i64 x1.n, .string x1.s, .string x1.f, v4]) rfl rfl rfl rfl S0.sub (fun w6 b7 hb8 s9 ob10 => ?_)
  have g11 : w0.heap.size ≤ b7 := by rw [hb8]; exact S0.size
  have S12 := S0.trans0 s9
  refine WL.val rfl rfl rfl (ov_assign rfl) ?_
  refine WL.nil ?_
  refine WQ.seqN ?_
  refine WC.seq ?_
  refine WC.region ?_
  refine WL.alloc (zs := [.int .i64 0, .int .i64 0]) rfl rfl t_zero_75 rfl S12.sub (fun w13 b14 hb15 s16 ob17 => ?_)
  have ne18 : b7 ≠ b14 := ob10.ne_new hb15
  have g19 : w0.heap.size ≤ b14 := by rw [hb15]; exact S12.size
  have S20 := S12.trans0 s16
  refine WL.nil ?_
  refine WQ.seqN ?_
  refine WC.seq ?_
  refine WC.region ?_
  have ob21 := (ob10.step0 s16)
  refine WL.val rfl rfl rfl (ov_loadN (cs := [.int .i64 x1.op, .int .i64 x1.kind, .int .i64 x1.n, .string x1.s, .string x1.f, v4]) rfl t_agg_32 t_size_32 (OB.cells ob21 0 rfl)) ?_
  obtain ⟨r22, hr23, HF⟩ := bind_some HF
  refine WL.call rfl rfl rfl (oc_func (vs := [.pointer (some ⟨b14, 0, none⟩), .agg #[.int .i64 x1.op, .int .i64 x1.kind, .int .i64 x1.n, .string x1.s, .string x1.f, v4], .int .i64 1]) rfl t_ent_54) (ok_ast_Counter_Expr _ hr23 S20.sub (rp_Ex.2 ⟨_, rfl, (rs5.mono ((s9.le).trans s16.le))⟩) ob17) ?_
  rintro _ w25 ⟨h26, s27, rfl, ob28⟩
  have S29 := S20.trans s27 (in_cons (.inr g19) in_nil)
  refine WL.val rfl rfl rfl (ov_assign rfl) ?_
  refine WL.nil ?_
  refine WQ.seqN ?_
  refine WC.ret ?_
  refine WQ.ret1 rfl rfl ?_
  obtain rfl := Option.some.inj HF
  exact ⟨_, rfl, h26, S29, rfl⟩
theorem ok_ast_IsExpr (k : Nat) : C_ast_IsExpr (F_ast_IsExpr k) := s_ast_IsExpr k

def C_print_Expr (φ : Ex → Option (ByteArray × Int)) : Prop := ∀ ⦃x1 : Ex⦄ ⦃r : ByteArray × Int⦄, φ x1 = some r → ∀ ⦃w0 : World⦄ ⦃h0 : Hp⦄ ⦃cs2 : List Value⦄, Sub h0 w0 → Rp.R h0 x1 cs2 →
  Calls Tryz.prog 14 #[.agg cs2.toArray] w0 fun e w1 => ∃ v, e = .returned v ∧ ∃ h1, Stp [] w0 h0 w1 h1 ∧ (∃ u0 u1 : Value, v = .tuple #[u0, u1] ∧ (u0 = .string r.1) ∧ (u1 = .int .i64 r.2))
set_option maxRecDepth 20000 in
set_option maxHeartbeats 4000000 in
theorem s_print_Expr (k : Nat) : C_print_Expr (F_print_Expr k) := by
  intro x1 r HF w0 h0 cs2 hs0 r3
  have S0 : Stp [] w0 h0 w0 h0 := Stp.refl hs0 _
  refine enter (n := 9) Tryz.func14 rfl Tryz.ntmps14 rfl [(0, .agg cs2.toArray)] rfl ?_
  refine WC.seq ?_
  refine WC.region ?_
  obtain ⟨v4, rfl, rs5⟩ := rp_Ex.1 r3
  refine WL.box (cs := [.int .i64 x1.op, .int .i64 x1.kind, .int .i64 x1.n, .string x1.s, .string x1.f, v4]) rfl rfl rfl rfl S0.sub (fun w6 b7 hb8 s9 ob10 => ?_)
  have g11 : w0.heap.size ≤ b7 := by rw [hb8]; exact S0.size
  have S12 := S0.trans0 s9
  refine WL.val rfl rfl rfl (ov_assign rfl) ?_
  refine WL.val rfl rfl rfl (ov_assign rfl) ?_
  refine WL.nil ?_
  refine WQ.seqN ?_
  refine WC.join (fun E w22 => ∃ (h21 : Hp), print_Expr_j1 k x1 = some r ∧ E = [(1, .pointer (some ⟨b7, 0, none⟩))] ∧ Stp [] w0 h0 w22 h21 ∧ Hle h0 h21 ∧ OB w22 h21 b7 32 [.int .i64 x1.op, .int .i64 x1.kind, .int .i64 x1.n, .string x1.s, .string x1.f, v4]) ?_ ?_
  · rintro E w22 ⟨h21, HF, rfl, S24, le23, ob25⟩
    refine WC.seq ?_
    refine WC.region ?_
    refine WL.val rfl rfl rfl (ov_loadN (cs := [.int .i64 x1.op, .int .i64 x1.kind, .int .i64 x1.n, .string x1.s, .string x1.f, v4]) rfl t_agg_32 t_size_32 (OB.cells ob25 0 rfl)) ?_
    obtain ⟨r26, hr27, HF⟩ := bind_some HF
    refine WL.call rfl rfl rfl (oc_func (vs := [.agg #[.int .i64 x1.op, .int .i64 x1.kind, .int .i64 x1.n, .string x1.s, .string x1.f, v4]]) rfl t_ent_27) (ok_print_Of _ hr27 S24.sub (rp_Ex.2 ⟨_, rfl, (rs5.mono ((s9.le).trans le23))⟩)) ?_
    rintro _ w29 ⟨h30, s31, rfl⟩
    have S32 := S24.trans0 s31
    refine WL.val rfl rfl rfl (ov_assign rfl) ?_
    refine WL.val rfl rfl rfl (ov_assign rfl) ?_
    refine WL.nil ?_
    refine WQ.seqN ?_
    refine WC.ret ?_
    refine WQ.ret2 rfl rfl rfl ?_
    obtain rfl := Option.some.inj HF
    exact ⟨_, rfl, h30, S32, _, _, rfl, rfl, rfl⟩
  · intro J33
    refine WC.seq ?_
    refine WC.region ?_
    refine WL.val rfl rfl rfl (ov_loadN (cs := [.int .i64 x1.op, .int .i64 x1.kind, .int .i64 x1.n, .string x1.s, .string x1.f, v4]) rfl t_agg_32 t_size_32 (OB.cells ob10 0 rfl)) ?_
    obtain ⟨r13, hr14, HF⟩ := bind_some HF
    refine WL.call rfl rfl rfl (oc_func (vs := [.agg #[.int .i64 x1.op, .int .i64 x1.kind, .int .i64 x1.n, .string x1.s, .string x1.f, v4]]) rfl t_ent_26) (ok_ast_IsExpr _ hr14 S12.sub (rp_Ex.2 ⟨_, rfl, (rs5.mono (s9.le))⟩)) ?_
    rintro _ w16 ⟨h17, s18, rfl⟩
    have S19 := S12.trans0 s18
    refine WL.val rfl rfl rfl (ov_not rfl) ?_
    refine WL.nil ?_
    refine WQ.seqN ?_
    refine WC.cond (b := !r13) rfl (fun hb20 => ?_) (fun hb20 => ?_)
    · replace HF := bif_t hb20 HF
      refine WC.seq ?_
      refine WC.region ?_
      refine WL.val rfl rfl rfl (ov_assign rfl) ?_
      refine WL.val rfl rfl rfl (ov_assign rfl) ?_
      refine WL.nil ?_
      refine WQ.seqN ?_
      refine WC.ret ?_
      refine WQ.thenRet ?_
      refine WQ.ret2 rfl rfl rfl ?_
      obtain rfl := Option.some.inj HF
      exact ⟨_, rfl, h17, S19, _, _, rfl, rfl, rfl⟩
    · replace HF := bif_f hb20 HF
      refine WC.skip ?_
      have ob34 := (ob10.step0 s18)
      refine WC.to [1] [(1, .pointer (some ⟨b7, 0, none⟩))] rfl ?_
      exact J33 ⟨h17, HF, rfl, S19, s18.le, ob34⟩
theorem ok_print_Expr (k : Nat) : C_print_Expr (F_print_Expr k) := s_print_Expr k

def C_law03_awake (φ : Option Bool) : Prop := ∀ ⦃r : Bool⦄, φ  = some r → ∀ ⦃w0 : World⦄ ⦃h0 : Hp⦄, Sub h0 w0 →
  Calls Tryz.prog 7 #[] w0 fun e w1 => ∃ v, e = .returned v ∧ ∃ h1, Stp [] w0 h0 w1 h1 ∧ v = .bool r
set_option maxRecDepth 20000 in
set_option maxHeartbeats 4000000 in
theorem s_law03_awake (k : Nat) : C_law03_awake (F_law03_awake k) := by
  intro  r HF w0 h0  hs0 
  have S0 : Stp [] w0 h0 w0 h0 := Stp.refl hs0 _
  refine enter (n := 54) Tryz.func7 rfl Tryz.ntmps7 rfl [] rfl ?_
  refine WC.seq ?_
  refine WC.region ?_
  refine WL.val rfl rfl rfl (ov_assign rfl) ?_
  refine WL.nil ?_
  refine WQ.seqN ?_
  refine WC.seq ?_
  refine WC.region ?_
  refine WL.val rfl rfl rfl (ov_buildP (vs := [(0, .int .i64 1), (1, .int .i64 3), (2, .int .i64 500)]) (cs := [.int .i64 1, .int .i64 3, .int .i64 500, .string (⟨#[]⟩ : ByteArray), .string (⟨#[]⟩ : ByteArray), .slice none 0 0]) rfl t_places_32 t_zero_32 rfl) ?_
  refine WL.alloc (zs := [.int .i64 0, .int .i64 0, .int .i64 0, .string (⟨#[]⟩ : ByteArray), .string (⟨#[]⟩ : ByteArray), .slice none 0 0]) rfl rfl t_zero_32 rfl S0.sub (fun w1 b2 hb3 s4 ob5 => ?_)
  have g6 : w0.heap.size ≤ b2 := by rw [hb3]; exact S0.size
  have S7 := S0.trans0 s4
  refine WL.store (vs := [.int .i64 1, .int .i64 3, .int .i64 500, .string (⟨#[]⟩ : ByteArray), .string (⟨#[]⟩ : ByteArray), .slice none 0 0]) rfl rfl rfl rfl t_size_32 (one_cons rfl (one_cons rfl (one_cons rfl (one_cons rfl (one_cons rfl (one_cons rfl one_nil)))))) ob5 S7.sub (by simp) (ds := [.int .i64 1, .int .i64 3, .int .i64 500, .string (⟨#[]⟩ : ByteArray), .string (⟨#[]⟩ : ByteArray), .slice none 0 0]) rfl (fun w8 s9 ob10 => ?_)
  have S11 := S7.trans1 s9 (.inr g6)
  refine WL.nil ?_
  refine WQ.seqN ?_
  refine WC.seq ?_
  refine WC.region ?_
  refine WL.val rfl rfl rfl (ov_loadN (cs := [.int .i64 1, .int .i64 3, .int .i64 500, .string (⟨#[]⟩ : ByteArray), .string (⟨#[]⟩ : ByteArray), .slice none 0 0]) rfl t_agg_32 t_size_32 (OB.cells ob10 0 rfl)) ?_
  refine WL.val rfl rfl rfl (ov_buildP (vs := [(0, .int .i64 2), (3, .string (⟨#[120]⟩ : ByteArray))]) (cs := [.int .i64 2, .int .i64 0, .int .i64 0, .string (⟨#[120]⟩ : ByteArray), .string (⟨#[]⟩ : ByteArray), .slice none 0 0]) rfl t_places_32 t_zero_32 rfl) ?_
  refine WL.buildSliceD (us := [.agg #[.int .i64 1, .int .i64 3, .int .i64 500, .string (⟨#[]⟩ : ByteArray), .string (⟨#[]⟩ : ByteArray), .slice none 0 0], .agg #[.int .i64 2, .int .i64 0, .int .i64 0, .string (⟨#[120]⟩ : ByteArray), .string (⟨#[]⟩ : ByteArray), .slice none 0 0]]) (cs := [.int .i64 1, .int .i64 3, .int .i64 500, .string (⟨#[]⟩ : ByteArray), .string (⟨#[]⟩ : ByteArray), .slice none 0 0, .int .i64 2, .int .i64 0, .int .i64 0, .string (⟨#[120]⟩ : ByteArray), .string (⟨#[]⟩ : ByteArray), .slice none 0 0]) rfl rfl rfl t_slice_30 t_size_32 t_zero_32 rfl (cl_cons rfl (cl_cons rfl cl_nil)) rfl rfl rfl S11.sub (fun w12 h13 b14 hb15 s16 hk17 hc18 => ?_)
  have S19 := S11.trans0 s16
  have rs20 : RS h13 (.slice (some ⟨b14, 0, none⟩) 2 2) ([(Ex.mk 1 3 500 (⟨#[]⟩ : ByteArray) (⟨#[]⟩ : ByteArray) []), (Ex.mk 2 0 0 (⟨#[120]⟩ : ByteArray) (⟨#[]⟩ : ByteArray) [])] : List Ex) := RS.litL _ [[.int .i64 1, .int .i64 3, .int .i64 500, .string (⟨#[]⟩ : ByteArray), .string (⟨#[]⟩ : ByteArray), .slice none 0 0], [.int .i64 2, .int .i64 0, .int .i64 0, .string (⟨#[120]⟩ : ByteArray), .string (⟨#[]⟩ : ByteArray), .slice none 0 0]] rfl rfl hc18 ⟨(rp_Ex.2 ⟨_, rfl, (RS.nil _)⟩), (rp_Ex.2 ⟨_, rfl, (RS.nil _)⟩), trivial⟩
  have ow21 := Own.lit (base := w0.heap.size) (sz := 6) (m := 2) hk17 hc18 (by rw [hb15]; exact S11.size) rfl (by decide)
  refine WL.val rfl rfl rfl (ov_buildP (vs := [(0, .int .i64 17), (5, .slice (some ⟨b14, 0, none⟩) 2 2)]) (cs := [.int .i64 17, .int .i64 0, .int .i64 0, .string (⟨#[]⟩ : ByteArray), .string (⟨#[]⟩ : ByteArray), .slice (some ⟨b14, 0, none⟩) 2 2]) rfl t_places_32 t_zero_32 rfl) ?_
  have ob29 := (ob10.step0 s16)
  refine WL.buildSliceD (us := [.agg #[.int .i64 17, .int .i64 0, .int .i64 0, .string (⟨#[]⟩ : ByteArray), .string (⟨#[]⟩ : ByteArray), .slice (some ⟨b14, 0, none⟩) 2 2]]) (cs := [.int .i64 17, .int .i64 0, .int .i64 0, .string (⟨#[]⟩ : ByteArray), .string (⟨#[]⟩ : ByteArray), .slice (some ⟨b14, 0, none⟩) 2 2]) rfl rfl rfl t_slice_30 t_size_32 t_zero_32 rfl (cl_cons rfl cl_nil) rfl rfl rfl S19.sub (fun w22 h23 b24 hb25 s26 hk27 hc28 => ?_)
  have S30 := S19.trans0 s26
  have rs31 : RS h23 (.slice (some ⟨b24, 0, none⟩) 1 1) ([(Ex.mk 17 0 0 (⟨#[]⟩ : ByteArray) (⟨#[]⟩ : ByteArray) [(Ex.mk 1 3 500 (⟨#[]⟩ : ByteArray) (⟨#[]⟩ : ByteArray) []), (Ex.mk 2 0 0 (⟨#[120]⟩ : ByteArray) (⟨#[]⟩ : ByteArray) [])])] : List Ex) := RS.litL _ [[.int .i64 17, .int .i64 0, .int .i64 0, .string (⟨#[]⟩ : ByteArray), .string (⟨#[]⟩ : ByteArray), .slice (some ⟨b14, 0, none⟩) 2 2]] rfl rfl hc28 ⟨(rp_Ex.2 ⟨_, rfl, (rs20.mono (s26.le))⟩), trivial⟩
  have ow32 := Own.lit (base := w0.heap.size) (sz := 6) (m := 1) hk27 hc28 (by rw [hb25]; exact S19.size) rfl (by decide)
  refine WL.val rfl rfl rfl (ov_buildP (vs := [(0, .int .i64 6), (5, .slice (some ⟨b24, 0, none⟩) 1 1)]) (cs := [.int .i64 6, .int .i64 0, .int .i64 0, .string (⟨#[]⟩ : ByteArray), .string (⟨#[]⟩ : ByteArray), .slice (some ⟨b24, 0, none⟩) 1 1]) rfl t_places_32 t_zero_32 rfl) ?_
  obtain ⟨r33, hr34, HF⟩ := bind_some HF
  refine WL.call rfl rfl rfl (oc_func (vs := [.agg #[.int .i64 6, .int .i64 0, .int .i64 0, .string (⟨#[]⟩ : ByteArray), .string (⟨#[]⟩ : ByteArray), .slice (some ⟨b24, 0, none⟩) 1 1]]) rfl t_ent_14) (ok_print_Expr _ hr34 S30.sub (rp_Ex.2 ⟨_, rfl, rs31⟩)) ?_
  have ob39 := (ob29.step0 s26)
  rintro _ w36 ⟨h37, s38, _, _, rfl, rfl, rfl⟩
  have S40 := S30.trans0 s38
  refine WL.val rfl rfl rfl (ov_move rfl) ?_
  refine WL.val rfl rfl rfl (ov_extract rfl rfl) ?_
  refine WL.val rfl rfl rfl (ov_extract rfl rfl) ?_
  refine WL.val rfl rfl rfl (ov_assign rfl) ?_
  refine WL.val rfl rfl rfl (ov_assign rfl) ?_
  refine WL.nil ?_
  refine WQ.seqN ?_
  refine WC.seq ?_
  refine WC.region ?_
  obtain ⟨r41, hr42, HF⟩ := bind_some HF
  refine WL.call rfl rfl rfl (oc_func (vs := [.int .i64 2, .int .i64 (-5)]) rfl t_ent_17) (ok_print_Const _ hr42 S40.sub) ?_
  have ob47 := (ob39.step0 s38)
  rintro _ w44 ⟨h45, s46, _, _, rfl, rfl, rfl⟩
  have S48 := S40.trans0 s46
  refine WL.val rfl rfl rfl (ov_move rfl) ?_
  refine WL.val rfl rfl rfl (ov_extract rfl rfl) ?_
  refine WL.val rfl rfl rfl (ov_extract rfl rfl) ?_
  refine WL.val rfl rfl rfl (ov_assign rfl) ?_
  refine WL.val rfl rfl rfl (ov_assign rfl) ?_
  refine WL.nil ?_
  refine WQ.seqN ?_
  refine WC.seq ?_
  refine WC.region ?_
  refine WL.val rfl rfl rfl (ov_buildP (vs := [(0, .int .i64 8)]) (cs := [.int .i64 8, .string (⟨#[]⟩ : ByteArray), .slice none 0 0, .slice none 0 0, .slice none 0 0, .int .i64 0, .slice none 0 0, .slice none 0 0, .slice none 0 0, .bool false]) rfl t_places_44 t_zero_44 rfl) ?_
  refine WL.val rfl rfl rfl (ov_buildP (vs := [(0, .int .i64 9)]) (cs := [.int .i64 9, .string (⟨#[]⟩ : ByteArray), .slice none 0 0, .slice none 0 0, .slice none 0 0, .int .i64 0, .slice none 0 0, .slice none 0 0, .slice none 0 0, .bool false]) rfl t_places_44 t_zero_44 rfl) ?_
  have ob56 := (ob47.step0 s46)
  refine WL.buildSliceD (us := [.agg #[.int .i64 8, .string (⟨#[]⟩ : ByteArray), .slice none 0 0, .slice none 0 0, .slice none 0 0, .int .i64 0, .slice none 0 0, .slice none 0 0, .slice none 0 0, .bool false], .agg #[.int .i64 9, .string (⟨#[]⟩ : ByteArray), .slice none 0 0, .slice none 0 0, .slice none 0 0, .int .i64 0, .slice none 0 0, .slice none 0 0, .slice none 0 0, .bool false]]) (cs := [.int .i64 8, .string (⟨#[]⟩ : ByteArray), .slice none 0 0, .slice none 0 0, .slice none 0 0, .int .i64 0, .slice none 0 0, .slice none 0 0, .slice none 0 0, .bool false, .int .i64 9, .string (⟨#[]⟩ : ByteArray), .slice none 0 0, .slice none 0 0, .slice none 0 0, .int .i64 0, .slice none 0 0, .slice none 0 0, .slice none 0 0, .bool false]) rfl rfl rfl t_slice_22 t_size_44 t_zero_44 rfl (cl_cons rfl (cl_cons rfl cl_nil)) rfl rfl rfl S48.sub (fun w49 h50 b51 hb52 s53 hk54 hc55 => ?_)
  have S57 := S48.trans0 s53
  have rs58 : RS h50 (.slice (some ⟨b51, 0, none⟩) 2 2) ([(St.mk 8 (⟨#[]⟩ : ByteArray) [] [] [] 0 [] [] [] false), (St.mk 9 (⟨#[]⟩ : ByteArray) [] [] [] 0 [] [] [] false)] : List St) := RS.litL _ [[.int .i64 8, .string (⟨#[]⟩ : ByteArray), .slice none 0 0, .slice none 0 0, .slice none 0 0, .int .i64 0, .slice none 0 0, .slice none 0 0, .slice none 0 0, .bool false], [.int .i64 9, .string (⟨#[]⟩ : ByteArray), .slice none 0 0, .slice none 0 0, .slice none 0 0, .int .i64 0, .slice none 0 0, .slice none 0 0, .slice none 0 0, .bool false]] rfl rfl hc55 ⟨(rp_St.2 ⟨_, _, _, _, _, _, rfl, (RS.nil _), (RS.nil _), (RS.nil _), (RS.nil _), (RS.nil _), (RS.nil _)⟩), (rp_St.2 ⟨_, _, _, _, _, _, rfl, (RS.nil _), (RS.nil _), (RS.nil _), (RS.nil _), (RS.nil _), (RS.nil _)⟩), trivial⟩
  have ow59 := Own.lit (base := w0.heap.size) (sz := 10) (m := 2) hk54 hc55 (by rw [hb52]; exact S48.size) rfl (by decide)
  obtain ⟨r60, hr61, HF⟩ := bind_some HF
  refine WL.call rfl rfl rfl (oc_func (vs := [.slice (some ⟨b51, 0, none⟩) 2 2]) rfl t_ent_9) (ok_print_Short _ hr61 S57.sub rs58) ?_
  have ob66 := (ob56.step0 s53)
  rintro _ w63 ⟨h64, s65, _, _, rfl, rfl, rfl⟩
  have S67 := S57.trans0 s65
  refine WL.val rfl rfl rfl (ov_move rfl) ?_
  refine WL.val rfl rfl rfl (ov_extract rfl rfl) ?_
  refine WL.val rfl rfl rfl (ov_extract rfl rfl) ?_
  refine WL.val rfl rfl rfl (ov_assign rfl) ?_
  refine WL.val rfl rfl rfl (ov_assign rfl) ?_
  refine WL.nil ?_
  refine WQ.seqN ?_
  refine WC.seq ?_
  refine WC.region ?_
  refine WL.val rfl rfl rfl (ov_move rfl) ?_
  refine WL.val rfl rfl rfl (ov_eql rfl rfl) ?_
  refine WL.val rfl rfl rfl (ov_move rfl) ?_
  refine WL.split 32 (b := (r33.2 : Int) == 0) rfl (fun hb68 => ?_) (fun hb68 => ?_)
  · replace HF := bif_t hb68 HF
    refine WL.val rfl rfl rfl (ov_move rfl) ?_
    refine WL.val rfl rfl rfl (ov_eqlS rfl rfl) ?_
    refine WL.val rfl rfl rfl (ov_pickT rfl rfl) ?_
    refine WL.val rfl rfl rfl (ov_move rfl) ?_
    refine WL.split 36 (b := bEq r33.1 (⟨#[110, 111, 116, 32, 40, 116, 35, 53, 48, 48, 32, 43, 32, 120, 41]⟩ : ByteArray)) rfl (fun hb69 => ?_) (fun hb69 => ?_)
    · replace HF := bif_t hb69 HF
      refine WL.val rfl rfl rfl (ov_move rfl) ?_
      refine WL.val rfl rfl rfl (ov_eql rfl rfl) ?_
      refine WL.val rfl rfl rfl (ov_pickT rfl rfl) ?_
      refine WL.val rfl rfl rfl (ov_move rfl) ?_
      refine WL.split 40 (b := (r41.2 : Int) == 0) rfl (fun hb70 => ?_) (fun hb70 => ?_)
      · replace HF := bif_t hb70 HF
        refine WL.val rfl rfl rfl (ov_move rfl) ?_
        refine WL.val rfl rfl rfl (ov_eqlS rfl rfl) ?_
        refine WL.val rfl rfl rfl (ov_pickT rfl rfl) ?_
        refine WL.val rfl rfl rfl (ov_move rfl) ?_
        refine WL.split 44 (b := bEq r41.1 (⟨#[45, 53]⟩ : ByteArray)) rfl (fun hb71 => ?_) (fun hb71 => ?_)
        · replace HF := bif_t hb71 HF
          refine WL.val rfl rfl rfl (ov_move rfl) ?_
          refine WL.val rfl rfl rfl (ov_eql rfl rfl) ?_
          refine WL.val rfl rfl rfl (ov_pickT rfl rfl) ?_
          refine WL.val rfl rfl rfl (ov_move rfl) ?_
          refine WL.split 48 (b := (r60.2 : Int) == 0) rfl (fun hb72 => ?_) (fun hb72 => ?_)
          · replace HF := bif_t hb72 HF
            refine WL.val rfl rfl rfl (ov_move rfl) ?_
            refine WL.val rfl rfl rfl (ov_eqlS rfl rfl) ?_
            refine WL.val rfl rfl rfl (ov_pickT rfl rfl) ?_
            refine WL.val rfl rfl rfl (ov_move rfl) ?_
            refine WL.split 52 (b := bEq r60.1 (⟨#[101, 120, 105, 116, 59, 32, 114, 101, 116, 117, 114, 110, 59]⟩ : ByteArray)) rfl (fun hb73 => ?_) (fun hb73 => ?_)
            · replace HF := bif_t hb73 HF
              refine WL.val rfl rfl rfl (ov_pickT rfl rfl) ?_
              refine WL.val rfl rfl rfl (ov_assign rfl) ?_
              refine WL.nil ?_
              refine WQ.seqN ?_
              refine WC.ret ?_
              refine WQ.ret1 rfl rfl ?_
              obtain rfl := Option.some.inj HF
              exact ⟨_, rfl, h64, S67, rfl⟩
            · replace HF := bif_f hb73 HF
              refine WL.val rfl rfl rfl (ov_pickF rfl rfl) ?_
              refine WL.val rfl rfl rfl (ov_assign rfl) ?_
              refine WL.nil ?_
              refine WQ.seqN ?_
              refine WC.ret ?_
              refine WQ.ret1 rfl rfl ?_
              obtain rfl := Option.some.inj HF
              exact ⟨_, rfl, h64, S67, rfl⟩
          · replace HF := bif_f hb72 HF
            refine WL.pass rfl rfl rfl ?_
            refine WL.pass rfl rfl rfl ?_
            refine WL.val rfl rfl rfl (ov_pickF rfl rfl) ?_
            refine WL.val rfl rfl rfl (ov_move rfl) ?_
            refine WL.val rfl rfl rfl (ov_pickF rfl rfl) ?_
            refine WL.val rfl rfl rfl (ov_assign rfl) ?_
            refine WL.nil ?_
            refine WQ.seqN ?_
            refine WC.ret ?_
            refine WQ.ret1 rfl rfl ?_
            obtain rfl := Option.some.inj HF
            exact ⟨_, rfl, h64, S67, rfl⟩
        · replace HF := bif_f hb71 HF
          refine WL.pass rfl rfl rfl ?_
          refine WL.pass rfl rfl rfl ?_
          refine WL.val rfl rfl rfl (ov_pickF rfl rfl) ?_
          refine WL.val rfl rfl rfl (ov_move rfl) ?_
          refine WL.pass rfl rfl rfl ?_
          refine WL.pass rfl rfl rfl ?_
          refine WL.val rfl rfl rfl (ov_pickF rfl rfl) ?_
          refine WL.val rfl rfl rfl (ov_move rfl) ?_
          refine WL.val rfl rfl rfl (ov_pickF rfl rfl) ?_
          refine WL.val rfl rfl rfl (ov_assign rfl) ?_
          refine WL.nil ?_
          refine WQ.seqN ?_
          refine WC.ret ?_
          refine WQ.ret1 rfl rfl ?_
          obtain rfl := Option.some.inj HF
          exact ⟨_, rfl, h64, S67, rfl⟩
      · replace HF := bif_f hb70 HF
        refine WL.pass rfl rfl rfl ?_
        refine WL.pass rfl rfl rfl ?_
        refine WL.val rfl rfl rfl (ov_pickF rfl rfl) ?_
        refine WL.val rfl rfl rfl (ov_move rfl) ?_
        refine WL.pass rfl rfl rfl ?_
        refine WL.pass rfl rfl rfl ?_
        refine WL.val rfl rfl rfl (ov_pickF rfl rfl) ?_
        refine WL.val rfl rfl rfl (ov_move rfl) ?_
        refine WL.pass rfl rfl rfl ?_
        refine WL.pass rfl rfl rfl ?_
        refine WL.val rfl rfl rfl (ov_pickF rfl rfl) ?_
        refine WL.val rfl rfl rfl (ov_move rfl) ?_
        refine WL.val rfl rfl rfl (ov_pickF rfl rfl) ?_
        refine WL.val rfl rfl rfl (ov_assign rfl) ?_
        refine WL.nil ?_
        refine WQ.seqN ?_
        refine WC.ret ?_
        refine WQ.ret1 rfl rfl ?_
        obtain rfl := Option.some.inj HF
        exact ⟨_, rfl, h64, S67, rfl⟩
    · replace HF := bif_f hb69 HF
      refine WL.pass rfl rfl rfl ?_
      refine WL.pass rfl rfl rfl ?_
      refine WL.val rfl rfl rfl (ov_pickF rfl rfl) ?_
      refine WL.val rfl rfl rfl (ov_move rfl) ?_
      refine WL.pass rfl rfl rfl ?_
      refine WL.pass rfl rfl rfl ?_
      refine WL.val rfl rfl rfl (ov_pickF rfl rfl) ?_
      refine WL.val rfl rfl rfl (ov_move rfl) ?_
      refine WL.pass rfl rfl rfl ?_
      refine WL.pass rfl rfl rfl ?_
      refine WL.val rfl rfl rfl (ov_pickF rfl rfl) ?_
      refine WL.val rfl rfl rfl (ov_move rfl) ?_
      refine WL.pass rfl rfl rfl ?_
      refine WL.pass rfl rfl rfl ?_
      refine WL.val rfl rfl rfl (ov_pickF rfl rfl) ?_
      refine WL.val rfl rfl rfl (ov_move rfl) ?_
      refine WL.val rfl rfl rfl (ov_pickF rfl rfl) ?_
      refine WL.val rfl rfl rfl (ov_assign rfl) ?_
      refine WL.nil ?_
      refine WQ.seqN ?_
      refine WC.ret ?_
      refine WQ.ret1 rfl rfl ?_
      obtain rfl := Option.some.inj HF
      exact ⟨_, rfl, h64, S67, rfl⟩
  · replace HF := bif_f hb68 HF
    refine WL.pass rfl rfl rfl ?_
    refine WL.pass rfl rfl rfl ?_
    refine WL.val rfl rfl rfl (ov_pickF rfl rfl) ?_
    refine WL.val rfl rfl rfl (ov_move rfl) ?_
    refine WL.pass rfl rfl rfl ?_
    refine WL.pass rfl rfl rfl ?_
    refine WL.val rfl rfl rfl (ov_pickF rfl rfl) ?_
    refine WL.val rfl rfl rfl (ov_move rfl) ?_
    refine WL.pass rfl rfl rfl ?_
    refine WL.pass rfl rfl rfl ?_
    refine WL.val rfl rfl rfl (ov_pickF rfl rfl) ?_
    refine WL.val rfl rfl rfl (ov_move rfl) ?_
    refine WL.pass rfl rfl rfl ?_
    refine WL.pass rfl rfl rfl ?_
    refine WL.val rfl rfl rfl (ov_pickF rfl rfl) ?_
    refine WL.val rfl rfl rfl (ov_move rfl) ?_
    refine WL.pass rfl rfl rfl ?_
    refine WL.pass rfl rfl rfl ?_
    refine WL.val rfl rfl rfl (ov_pickF rfl rfl) ?_
    refine WL.val rfl rfl rfl (ov_move rfl) ?_
    refine WL.val rfl rfl rfl (ov_pickF rfl rfl) ?_
    refine WL.val rfl rfl rfl (ov_assign rfl) ?_
    refine WL.nil ?_
    refine WQ.seqN ?_
    refine WC.ret ?_
    refine WQ.ret1 rfl rfl ?_
    obtain rfl := Option.some.inj HF
    exact ⟨_, rfl, h64, S67, rfl⟩
theorem ok_law03_awake (k : Nat) : C_law03_awake (F_law03_awake k) := s_law03_awake k

def C_ref03_Digits (φ : Int → Option ByteArray) : Prop := ∀ ⦃x1 : Int⦄ ⦃r : ByteArray⦄, φ x1 = some r → ∀ ⦃w0 : World⦄ ⦃h0 : Hp⦄, Sub h0 w0 →
  Calls Tryz.prog 37 #[.int .i64 x1] w0 fun e w1 => ∃ v, e = .returned v ∧ ∃ h1, Stp [] w0 h0 w1 h1 ∧ v = .string r
set_option maxRecDepth 20000 in
set_option maxHeartbeats 4000000 in
theorem s_ref03_Digits (k : Nat) (IH : ∀ j, j ≤ k → C_ref03_Digits (tie_ref03_Digits j).ref03_Digits) : C_ref03_Digits (m_ref03_Digits k (tie_ref03_Digits k)) := by
  intro x1 r HF w0 h0  hs0 
  have S0 : Stp [] w0 h0 w0 h0 := Stp.refl hs0 _
  refine enter (n := 36) Tryz.func37 rfl Tryz.ntmps37 rfl [(0, .int .i64 x1)] rfl ?_
  refine WC.seq ?_
  refine WC.region ?_
  refine WL.val rfl rfl rfl (ov_assign rfl) ?_
  refine WL.nil ?_
  refine WQ.seqN ?_
  refine WC.seq ?_
  refine WC.region ?_
  refine WL.val rfl rfl rfl (ov_move rfl) ?_
  refine WL.val rfl rfl rfl (ov_convI rfl t_int_3 t_int_104) ?_
  refine WL.val rfl rfl rfl (ov_assign rfl) ?_
  refine WL.nil ?_
  refine WQ.seqN ?_
  refine WC.join (fun E w4 => ∃ (h3 : Hp) (x7 : Int), ref03_Digits_j1 k (tie_ref03_Digits k) x1 x7 = some r ∧ E = [(0, .int .i64 x1), (3, .int .u64 x7)] ∧ Stp [] w0 h0 w4 h3 ∧ Hle h0 h3) ?_ ?_
  · rintro E w4 ⟨h3, x7, HF, rfl, S6, le5⟩
    refine WC.seq ?_
    refine WC.region ?_
    refine WL.val rfl rfl rfl (ov_move rfl) ?_
    refine WL.val rfl rfl rfl (ov_rem rfl rfl (by decide)) ?_
    refine WL.val rfl rfl rfl (ov_add rfl rfl) ?_
    refine WL.val rfl rfl rfl (ov_convI rfl t_int_104 t_int_5) ?_
    obtain ⟨c15, hc16, HF⟩ := bind_some HF
    refine WL.buildSliceD (us := [.int .u8 (IntKind.u8.wrap (IntKind.u64.wrap (48 + (Int.tmod x7 10))))]) (cs := [.int .u8 (IntKind.u8.wrap (IntKind.u64.wrap (48 + (Int.tmod x7 10))))]) rfl rfl rfl t_slice_49 t_size_5 t_zero_5 rfl (cl_cons rfl cl_nil) rfl rfl rfl S6.sub (fun w8 h9 b10 hb11 s12 hk13 hc14 => ?_)
    have S17 := S6.trans0 s12
    have rs18 : RS h9 (.slice (some ⟨b10, 0, none⟩) 1 1) ([c15] : List UInt8) := RS.litL _ [[.int .u8 (IntKind.u8.wrap (IntKind.u64.wrap (48 + (Int.tmod x7 10))))]] rfl rfl hc14 ⟨(byte_R hc16), trivial⟩
    have ow19 := Own.lit (base := w0.heap.size) (sz := 1) (m := 1) hk13 hc14 (by rw [hb11]; exact S6.size) rfl (by decide)
    refine WL.val rfl rfl rfl (ov_bytesStr rfl t_slice_49 t_int_5 t_string_9 rs18 S17.sub) ?_
    refine WL.val rfl rfl rfl (ov_assign rfl) ?_
    refine WL.nil ?_
    refine WQ.seqN ?_
    refine WC.seq ?_
    refine WC.seq ?_
    refine WC.region ?_
    refine WL.val rfl rfl rfl (ov_move rfl) ?_
    refine WL.val rfl rfl rfl (ov_quo rfl rfl (by decide)) ?_
    refine WL.val rfl rfl rfl (ov_assign rfl) ?_
    refine WL.nil ?_
    refine WQ.seqN ?_
    refine WC.block ?_
    refine WC.loop ?_
    refine WP.to [0, 3, 4] [(0, .int .i64 x1), (3, .int .u64 (IntKind.u64.wrap (Int.tdiv x7 10))), (4, .string (⟨[c15].toArray⟩ : ByteArray))] rfl ?_
    refine WP_rule (K := k) (fun j E w21 => ∃ (h20 : Hp) (x24 : Int) (x25 : ByteArray), (tie_ref03_Digits j).ref03_Digits_l2 x1 x24 x25 = some r ∧ E = [(0, .int .i64 x1), (3, .int .u64 x24), (4, .string x25)] ∧ Stp [] w0 h0 w21 h20 ∧ Hle h9 h20) ?_ ?_ (j := k) (Nat.le_refl _) ?_
    · rintro E w21 ⟨_, _, _, HF, _⟩; cases HF
    · rintro j26 hj28 IHL27 E w21 ⟨h20, x24, x25, HF, rfl, S23, le22⟩
      refine WC.join (fun E w38 => ∃ (h37 : Hp) (x41 : Int), ref03_Digits_j4 j26 (tie_ref03_Digits j26) x1 x25 x41 = some r ∧ E = [(0, .int .i64 x1), (3, .int .u64 x41), (4, .string x25)] ∧ Stp [] w0 h0 w38 h37 ∧ Hle h20 h37) ?_ ?_
      · rintro E w38 ⟨h37, x41, HF, rfl, S40, le39⟩
        refine WC.seq ?_
        refine WC.block ?_
        refine WC.region ?_
        refine WL.val rfl rfl rfl (ov_move rfl) ?_
        refine WL.val rfl rfl rfl (ov_rem rfl rfl (by decide)) ?_
        refine WL.val rfl rfl rfl (ov_add rfl rfl) ?_
        refine WL.val rfl rfl rfl (ov_convI rfl t_int_104 t_int_5) ?_
        obtain ⟨c49, hc50, HF⟩ := bind_some HF
        refine WL.buildSliceD (us := [.int .u8 (IntKind.u8.wrap (IntKind.u64.wrap (48 + (Int.tmod x41 10))))]) (cs := [.int .u8 (IntKind.u8.wrap (IntKind.u64.wrap (48 + (Int.tmod x41 10))))]) rfl rfl rfl t_slice_49 t_size_5 t_zero_5 rfl (cl_cons rfl cl_nil) rfl rfl rfl S40.sub (fun w42 h43 b44 hb45 s46 hk47 hc48 => ?_)
        have S51 := S40.trans0 s46
        have rs52 : RS h43 (.slice (some ⟨b44, 0, none⟩) 1 1) ([c49] : List UInt8) := RS.litL _ [[.int .u8 (IntKind.u8.wrap (IntKind.u64.wrap (48 + (Int.tmod x41 10))))]] rfl rfl hc48 ⟨(byte_R hc50), trivial⟩
        have ow53 := Own.lit (base := w0.heap.size) (sz := 1) (m := 1) hk47 hc48 (by rw [hb45]; exact S40.size) rfl (by decide)
        refine WL.val rfl rfl rfl (ov_bytesStr rfl t_slice_49 t_int_5 t_string_9 rs52 S51.sub) ?_
        refine WL.val rfl rfl rfl (ov_move rfl) ?_
        obtain ⟨hl54, HF⟩ := ite_none HF
        refine WL.val rfl rfl rfl (ov_addS rfl rfl hl54) ?_
        refine WL.val rfl rfl rfl (ov_assign rfl) ?_
        refine WL.nil ?_
        refine WQ.blockN ?_
        refine WQ.seqN ?_
        refine WC.region ?_
        refine WL.val rfl rfl rfl (ov_move rfl) ?_
        refine WL.val rfl rfl rfl (ov_quo rfl rfl (by decide)) ?_
        refine WL.val rfl rfl rfl (ov_assign rfl) ?_
        refine WL.nil ?_
        refine WQ.loopN ?_
        refine WP.to [0, 3, 4] [(0, .int .i64 x1), (3, .int .u64 (IntKind.u64.wrap (Int.tdiv x41 10))), (4, .string ((⟨[c49].toArray⟩ : ByteArray) ++ x25))] rfl ?_
        exact IHL27 j26 (Nat.le_refl _) _ _ ⟨h43, IntKind.u64.wrap (Int.tdiv x41 10), (⟨[c49].toArray⟩ : ByteArray) ++ x25, HF, rfl, S51, (le22).trans ((le39).trans s46.le)⟩
      · intro J55
        refine WC.seq ?_
        refine WC.region ?_
        refine WL.val rfl rfl rfl (ov_move rfl) ?_
        refine WL.val rfl rfl rfl (ov_gtr rfl rfl) ?_
        refine WL.nil ?_
        refine WQ.seqN ?_
        refine WC.cond (b := decide ((0 : Int) < x24)) rfl (fun hb29 => ?_) (fun hb29 => ?_)
        · replace HF := bif_t hb29 HF
          refine WC.skip ?_
          refine WC.to [0, 3, 4] [(0, .int .i64 x1), (3, .int .u64 x24), (4, .string x25)] rfl ?_
          exact J55 ⟨h20, x24, HF, rfl, S23, Hle.refl _⟩
        · replace HF := bif_f hb29 HF
          refine WC.exit ?_
          refine WQ.thenExit ?_
          refine WQ.thenExit ?_
          refine WQ.blockHit ?_
          refine WQ.seqN ?_
          refine WC.join (fun E w33 => ∃ (h32 : Hp), ref03_Digits_j3 j26 (tie_ref03_Digits j26) x25 = some r ∧ E = [(4, .string x25)] ∧ Stp [] w0 h0 w33 h32 ∧ Hle h20 h32) ?_ ?_
          · rintro E w33 ⟨h32, HF, rfl, S35, le34⟩
            refine WC.seq ?_
            refine WC.region ?_
            refine WL.val rfl rfl rfl (ov_move rfl) ?_
            refine WL.val rfl rfl rfl (ov_assign rfl) ?_
            refine WL.nil ?_
            refine WQ.seqN ?_
            refine WC.ret ?_
            refine WQ.ret1 rfl rfl ?_
            obtain rfl := Option.some.inj HF
            exact ⟨_, rfl, h32, S35, rfl⟩
          · intro J36
            refine WC.seq ?_
            refine WC.region ?_
            refine WL.val rfl rfl rfl (ov_move rfl) ?_
            refine WL.val rfl rfl rfl (ov_lss rfl rfl) ?_
            refine WL.nil ?_
            refine WQ.seqN ?_
            refine WC.cond (b := decide ((x1 : Int) < 0)) rfl (fun hb30 => ?_) (fun hb30 => ?_)
            · replace HF := bif_t hb30 HF
              refine WC.seq ?_
              refine WC.region ?_
              refine WL.val rfl rfl rfl (ov_move rfl) ?_
              obtain ⟨hl31, HF⟩ := ite_none HF
              refine WL.val rfl rfl rfl (ov_addS rfl rfl hl31) ?_
              refine WL.val rfl rfl rfl (ov_assign rfl) ?_
              refine WL.nil ?_
              refine WQ.seqN ?_
              refine WC.ret ?_
              refine WQ.thenRet ?_
              refine WQ.ret1 rfl rfl ?_
              obtain rfl := Option.some.inj HF
              exact ⟨_, rfl, h20, S23, rfl⟩
            · replace HF := bif_f hb30 HF
              refine WC.skip ?_
              refine WC.to [4] [(4, .string x25)] rfl ?_
              exact J36 ⟨h20, HF, rfl, S23, Hle.refl _⟩
    · exact ⟨h9, IntKind.u64.wrap (Int.tdiv x7 10), (⟨[c15].toArray⟩ : ByteArray), HF, rfl, S17, Hle.refl _⟩
  · intro J56
    refine WC.seq ?_
    refine WC.region ?_
    refine WL.val rfl rfl rfl (ov_move rfl) ?_
    refine WL.val rfl rfl rfl (ov_lss rfl rfl) ?_
    refine WL.nil ?_
    refine WQ.seqN ?_
    refine WC.cond (b := decide ((x1 : Int) < 0)) rfl (fun hb2 => ?_) (fun hb2 => ?_)
    · replace HF := bif_t hb2 HF
      refine WC.region ?_
      refine WL.val rfl rfl rfl (ov_move rfl) ?_
      refine WL.val rfl rfl rfl (ov_sub rfl rfl) ?_
      refine WL.val rfl rfl rfl (ov_assign rfl) ?_
      refine WL.nil ?_
      refine WC.to [0, 3] [(0, .int .i64 x1), (3, .int .u64 (IntKind.u64.wrap (0 - (IntKind.u64.wrap x1))))] rfl ?_
      exact J56 ⟨h0, IntKind.u64.wrap (0 - (IntKind.u64.wrap x1)), HF, rfl, S0, Hle.refl _⟩
    · replace HF := bif_f hb2 HF
      refine WC.skip ?_
      refine WC.to [0, 3] [(0, .int .i64 x1), (3, .int .u64 (IntKind.u64.wrap x1))] rfl ?_
      exact J56 ⟨h0, IntKind.u64.wrap x1, HF, rfl, S0, Hle.refl _⟩
theorem all_ref03_Digits : ∀ k j, j ≤ k → C_ref03_Digits (tie_ref03_Digits j).ref03_Digits := by
  intro k
  induction k with
  | zero =>
    intro j hj
    obtain rfl : j = 0 := by omega
    exact (fun _ _ => by intro h; cases h)
  | succ k ih =>
    intro j hj
    by_cases h : j ≤ k
    · exact ih j h
    · obtain rfl : j = k + 1 := by omega
      exact s_ref03_Digits k ih
theorem ok_ref03_Digits (k : Nat) : C_ref03_Digits (F_ref03_Digits k) := (all_ref03_Digits k k (Nat.le_refl _))

def C_ref03_Const (φ : Int → Int → Option (ByteArray × Bool)) : Prop := ∀ ⦃x1 : Int⦄ ⦃x2 : Int⦄ ⦃r : ByteArray × Bool⦄, φ x1 x2 = some r → ∀ ⦃w0 : World⦄ ⦃h0 : Hp⦄, Sub h0 w0 →
  Calls Tryz.prog 18 #[.int .i64 x1, .int .i64 x2] w0 fun e w1 => ∃ v, e = .returned v ∧ ∃ h1, Stp [] w0 h0 w1 h1 ∧ (∃ u0 u1 : Value, v = .tuple #[u0, u1] ∧ (u0 = .string r.1) ∧ (u1 = .bool r.2))
set_option maxRecDepth 20000 in
set_option maxHeartbeats 4000000 in
theorem s_ref03_Const (k : Nat) : C_ref03_Const (F_ref03_Const k) := by
  intro x1 x2 r HF w0 h0  hs0 
  have S0 : Stp [] w0 h0 w0 h0 := Stp.refl hs0 _
  refine enter (n := 36) Tryz.func18 rfl Tryz.ntmps18 rfl [(0, .int .i64 x1), (1, .int .i64 x2)] rfl ?_
  refine WC.seq ?_
  refine WC.region ?_
  refine WL.val rfl rfl rfl (ov_assign rfl) ?_
  refine WL.val rfl rfl rfl (ov_assign rfl) ?_
  refine WL.nil ?_
  refine WQ.seqN ?_
  refine WC.join (fun E w21 => ∃ (h20 : Hp), ref03_Const_j2 k x1 x2 = some r ∧ E = [(0, .int .i64 x1), (1, .int .i64 x2)] ∧ Stp [] w0 h0 w21 h20 ∧ Hle h0 h20) ?_ ?_
  · rintro E w21 ⟨h20, HF, rfl, S23, le22⟩
    refine WC.seq ?_
    refine WC.region ?_
    refine WL.val rfl rfl rfl (ov_move rfl) ?_
    obtain ⟨r24, hr25, HF⟩ := bind_some HF
    refine WL.call rfl rfl rfl (oc_func (vs := [.int .i64 x2]) rfl t_ent_37) (ok_ref03_Digits _ hr25 S23.sub) ?_
    rintro _ w27 ⟨h28, s29, rfl⟩
    have S30 := S23.trans0 s29
    refine WL.val rfl rfl rfl (ov_move rfl) ?_
    refine WL.val rfl rfl rfl (ov_eql rfl rfl) ?_
    refine WL.val rfl rfl rfl (ov_move rfl) ?_
    refine WL.split 28 (b := (x1 : Int) == 2) rfl (fun hb31 => ?_) (fun hb31 => ?_)
    · replace HF := bif_t hb31 HF
      refine WL.val rfl rfl rfl (ov_move rfl) ?_
      refine WL.val rfl rfl rfl (ov_geq rfl rfl) ?_
      refine WL.val rfl rfl rfl (ov_pickT rfl rfl) ?_
      refine WL.val rfl rfl rfl (ov_move rfl) ?_
      refine WL.split 32 (b := decide (((-2147483647) : Int) ≤ x2)) rfl (fun hb32 => ?_) (fun hb32 => ?_)
      · replace HF := bif_t hb32 HF
        refine WL.val rfl rfl rfl (ov_move rfl) ?_
        refine WL.val rfl rfl rfl (ov_leq rfl rfl) ?_
        refine WL.val rfl rfl rfl (ov_pickT rfl rfl) ?_
        refine WL.val rfl rfl rfl (ov_assign rfl) ?_
        refine WL.val rfl rfl rfl (ov_assign rfl) ?_
        refine WL.nil ?_
        refine WQ.seqN ?_
        refine WC.ret ?_
        refine WQ.ret2 rfl rfl rfl ?_
        obtain rfl := Option.some.inj HF
        exact ⟨_, rfl, h28, S30, _, _, rfl, rfl, rfl⟩
      · replace HF := bif_f hb32 HF
        refine WL.pass rfl rfl rfl ?_
        refine WL.pass rfl rfl rfl ?_
        refine WL.val rfl rfl rfl (ov_pickF rfl rfl) ?_
        refine WL.val rfl rfl rfl (ov_assign rfl) ?_
        refine WL.val rfl rfl rfl (ov_assign rfl) ?_
        refine WL.nil ?_
        refine WQ.seqN ?_
        refine WC.ret ?_
        refine WQ.ret2 rfl rfl rfl ?_
        obtain rfl := Option.some.inj HF
        exact ⟨_, rfl, h28, S30, _, _, rfl, rfl, rfl⟩
    · replace HF := bif_f hb31 HF
      refine WL.pass rfl rfl rfl ?_
      refine WL.pass rfl rfl rfl ?_
      refine WL.val rfl rfl rfl (ov_pickF rfl rfl) ?_
      refine WL.val rfl rfl rfl (ov_move rfl) ?_
      refine WL.pass rfl rfl rfl ?_
      refine WL.pass rfl rfl rfl ?_
      refine WL.val rfl rfl rfl (ov_pickF rfl rfl) ?_
      refine WL.val rfl rfl rfl (ov_assign rfl) ?_
      refine WL.val rfl rfl rfl (ov_assign rfl) ?_
      refine WL.nil ?_
      refine WQ.seqN ?_
      refine WC.ret ?_
      refine WQ.ret2 rfl rfl rfl ?_
      obtain rfl := Option.some.inj HF
      exact ⟨_, rfl, h28, S30, _, _, rfl, rfl, rfl⟩
  · intro J33
    refine WC.seq ?_
    refine WC.region ?_
    refine WL.val rfl rfl rfl (ov_move rfl) ?_
    refine WL.nil ?_
    refine WQ.seqN ?_
    refine WC.block ?_
    refine WC.seq ?_
    refine WC.region ?_
    refine WL.val rfl rfl rfl (ov_eql rfl rfl) ?_
    refine WL.val rfl rfl rfl (ov_assign rfl) ?_
    refine WL.nil ?_
    refine WQ.seqN ?_
    refine WC.cond (b := (x1 : Int) == 1) rfl (fun hb3 => ?_) (fun hb3 => ?_)
    · replace HF := bif_t hb3 HF
      refine WC.join (fun E w6 => ∃ (h5 : Hp), ref03_Const_j1 k x2 = some r ∧ E = [(1, .int .i64 x2)] ∧ Stp [] w0 h0 w6 h5 ∧ Hle h0 h5) ?_ ?_
      · rintro E w6 ⟨h5, HF, rfl, S8, le7⟩
        refine WC.seq ?_
        refine WC.region ?_
        refine WL.val rfl rfl rfl (ov_move rfl) ?_
        refine WL.val rfl rfl rfl (ov_eql rfl rfl) ?_
        refine WL.val rfl rfl rfl (ov_assign rfl) ?_
        refine WL.val rfl rfl rfl (ov_assign rfl) ?_
        refine WL.nil ?_
        refine WQ.seqN ?_
        refine WC.ret ?_
        refine WQ.blockRet ?_
        refine WQ.thenRet ?_
        refine WQ.ret2 rfl rfl rfl ?_
        obtain rfl := Option.some.inj HF
        exact ⟨_, rfl, h5, S8, _, _, rfl, rfl, rfl⟩
      · intro J9
        refine WC.seq ?_
        refine WC.region ?_
        refine WL.val rfl rfl rfl (ov_move rfl) ?_
        refine WL.val rfl rfl rfl (ov_eql rfl rfl) ?_
        refine WL.nil ?_
        refine WQ.seqN ?_
        refine WC.cond (b := (x2 : Int) == 1) rfl (fun hb4 => ?_) (fun hb4 => ?_)
        · replace HF := bif_t hb4 HF
          refine WC.seq ?_
          refine WC.region ?_
          refine WL.val rfl rfl rfl (ov_assign rfl) ?_
          refine WL.val rfl rfl rfl (ov_assign rfl) ?_
          refine WL.nil ?_
          refine WQ.seqN ?_
          refine WC.ret ?_
          refine WQ.thenRet ?_
          refine WQ.blockRet ?_
          refine WQ.thenRet ?_
          refine WQ.ret2 rfl rfl rfl ?_
          obtain rfl := Option.some.inj HF
          exact ⟨_, rfl, h0, S0, _, _, rfl, rfl, rfl⟩
        · replace HF := bif_f hb4 HF
          refine WC.skip ?_
          refine WC.to [1] [(1, .int .i64 x2)] rfl ?_
          exact J9 ⟨h0, HF, rfl, S0, Hle.refl _⟩
    · replace HF := bif_f hb3 HF
      refine WC.seq ?_
      refine WC.region ?_
      refine WL.val rfl rfl rfl (ov_eql rfl rfl) ?_
      refine WL.val rfl rfl rfl (ov_assign rfl) ?_
      refine WL.nil ?_
      refine WQ.seqN ?_
      refine WC.cond (b := (x1 : Int) == 3) rfl (fun hb10 => ?_) (fun hb10 => ?_)
      · replace HF := bif_t hb10 HF
        refine WC.seq ?_
        refine WC.region ?_
        refine WL.val rfl rfl rfl (ov_move rfl) ?_
        obtain ⟨r11, hr12, HF⟩ := bind_some HF
        refine WL.call rfl rfl rfl (oc_func (vs := [.int .i64 x2]) rfl t_ent_37) (ok_ref03_Digits _ hr12 S0.sub) ?_
        rintro _ w14 ⟨h15, s16, rfl⟩
        have S17 := S0.trans0 s16
        obtain ⟨hl18, HF⟩ := ite_none HF
        refine WL.val rfl rfl rfl (ov_addS rfl rfl hl18) ?_
        refine WL.val rfl rfl rfl (ov_move rfl) ?_
        refine WL.val rfl rfl rfl (ov_geq rfl rfl) ?_
        refine WL.val rfl rfl rfl (ov_move rfl) ?_
        refine WL.split 20 (b := decide ((0 : Int) ≤ x2)) rfl (fun hb19 => ?_) (fun hb19 => ?_)
        · replace HF := bif_t hb19 HF
          refine WL.val rfl rfl rfl (ov_move rfl) ?_
          refine WL.val rfl rfl rfl (ov_leq rfl rfl) ?_
          refine WL.val rfl rfl rfl (ov_pickT rfl rfl) ?_
          refine WL.val rfl rfl rfl (ov_assign rfl) ?_
          refine WL.val rfl rfl rfl (ov_assign rfl) ?_
          refine WL.nil ?_
          refine WQ.seqN ?_
          refine WC.ret ?_
          refine WQ.blockRet ?_
          refine WQ.thenRet ?_
          refine WQ.ret2 rfl rfl rfl ?_
          obtain rfl := Option.some.inj HF
          exact ⟨_, rfl, h15, S17, _, _, rfl, rfl, rfl⟩
        · replace HF := bif_f hb19 HF
          refine WL.pass rfl rfl rfl ?_
          refine WL.pass rfl rfl rfl ?_
          refine WL.val rfl rfl rfl (ov_pickF rfl rfl) ?_
          refine WL.val rfl rfl rfl (ov_assign rfl) ?_
          refine WL.val rfl rfl rfl (ov_assign rfl) ?_
          refine WL.nil ?_
          refine WQ.seqN ?_
          refine WC.ret ?_
          refine WQ.blockRet ?_
          refine WQ.thenRet ?_
          refine WQ.ret2 rfl rfl rfl ?_
          obtain rfl := Option.some.inj HF
          exact ⟨_, rfl, h15, S17, _, _, rfl, rfl, rfl⟩
      · replace HF := bif_f hb10 HF
        refine WC.skip ?_
        refine WQ.blockN ?_
        refine WC.to [0, 1] [(0, .int .i64 x1), (1, .int .i64 x2)] rfl ?_
        exact J33 ⟨h0, HF, rfl, S0, Hle.refl _⟩
theorem ok_ref03_Const (k : Nat) : C_ref03_Const (F_ref03_Const k) := s_ref03_Const k

def C_law03_PrintConsts (φ : Int → Int → Option Bool) : Prop := ∀ ⦃x1 : Int⦄ ⦃x2 : Int⦄ ⦃r : Bool⦄, φ x1 x2 = some r → ∀ ⦃w0 : World⦄ ⦃h0 : Hp⦄, Sub h0 w0 →
  Calls Tryz.prog 5 #[.int .i64 x1, .int .i64 x2] w0 fun e w1 => ∃ v, e = .returned v ∧ ∃ h1, Stp [] w0 h0 w1 h1 ∧ v = .bool r
set_option maxRecDepth 20000 in
set_option maxHeartbeats 4000000 in
theorem s_law03_PrintConsts (k : Nat) : C_law03_PrintConsts (F_law03_PrintConsts k) := by
  intro x1 x2 r HF w0 h0  hs0 
  have S0 : Stp [] w0 h0 w0 h0 := Stp.refl hs0 _
  refine enter (n := 42) Tryz.func5 rfl Tryz.ntmps5 rfl [(0, .int .i64 x1), (1, .int .i64 x2)] rfl ?_
  refine WC.seq ?_
  refine WC.region ?_
  refine WL.val rfl rfl rfl (ov_assign rfl) ?_
  refine WL.nil ?_
  refine WQ.seqN ?_
  refine WC.seq ?_
  refine WC.region ?_
  refine WL.val rfl rfl rfl (ov_move rfl) ?_
  refine WL.val rfl rfl rfl (ov_move rfl) ?_
  obtain ⟨r3, hr4, HF⟩ := bind_some HF
  refine WL.call rfl rfl rfl (oc_func (vs := [.int .i64 x1, .int .i64 x2]) rfl t_ent_17) (ok_print_Const _ hr4 S0.sub) ?_
  rintro _ w6 ⟨h7, s8, _, _, rfl, rfl, rfl⟩
  have S9 := S0.trans0 s8
  refine WL.val rfl rfl rfl (ov_move rfl) ?_
  refine WL.val rfl rfl rfl (ov_extract rfl rfl) ?_
  refine WL.val rfl rfl rfl (ov_extract rfl rfl) ?_
  refine WL.val rfl rfl rfl (ov_assign rfl) ?_
  refine WL.val rfl rfl rfl (ov_assign rfl) ?_
  refine WL.nil ?_
  refine WQ.seqN ?_
  refine WC.seq ?_
  refine WC.region ?_
  refine WL.val rfl rfl rfl (ov_move rfl) ?_
  refine WL.val rfl rfl rfl (ov_move rfl) ?_
  obtain ⟨r10, hr11, HF⟩ := bind_some HF
  refine WL.call rfl rfl rfl (oc_func (vs := [.int .i64 x1, .int .i64 x2]) rfl t_ent_18) (ok_ref03_Const _ hr11 S9.sub) ?_
  rintro _ w13 ⟨h14, s15, _, _, rfl, rfl, rfl⟩
  have S16 := S9.trans0 s15
  refine WL.val rfl rfl rfl (ov_move rfl) ?_
  refine WL.val rfl rfl rfl (ov_extract rfl rfl) ?_
  refine WL.val rfl rfl rfl (ov_extract rfl rfl) ?_
  refine WL.val rfl rfl rfl (ov_assign rfl) ?_
  refine WL.val rfl rfl rfl (ov_assign rfl) ?_
  refine WL.nil ?_
  refine WQ.seqN ?_
  refine WC.join (fun E w28 => ∃ (h27 : Hp), law03_PrintConsts_j1 k r3 r10 = some r ∧ E = [(5, .string r3.1), (6, .int .i64 r3.2), (7, .string r10.1)] ∧ Stp [] w0 h0 w28 h27 ∧ Hle h14 h27) ?_ ?_
  · rintro E w28 ⟨h27, HF, rfl, S30, le29⟩
    refine WC.seq ?_
    refine WC.region ?_
    refine WL.val rfl rfl rfl (ov_move rfl) ?_
    refine WL.val rfl rfl rfl (ov_move rfl) ?_
    refine WL.val rfl rfl rfl (ov_eqlS rfl rfl) ?_
    refine WL.val rfl rfl rfl (ov_move rfl) ?_
    refine WL.split 35 (b := bEq r3.1 r10.1) rfl (fun hb31 => ?_) (fun hb31 => ?_)
    · replace HF := bif_t hb31 HF
      refine WL.val rfl rfl rfl (ov_move rfl) ?_
      refine WL.val rfl rfl rfl (ov_eql rfl rfl) ?_
      refine WL.val rfl rfl rfl (ov_pickT rfl rfl) ?_
      refine WL.val rfl rfl rfl (ov_move rfl) ?_
      refine WL.split 39 (b := (r3.2 : Int) == 0) rfl (fun hb32 => ?_) (fun hb32 => ?_)
      · replace HF := bif_t hb32 HF
        obtain ⟨r33, hr34, HF⟩ := bind_some HF
        refine WL.call rfl rfl rfl (oc_func (vs := []) rfl t_ent_7) (ok_law03_awake _ hr34 S30.sub) ?_
        rintro _ w36 ⟨h37, s38, rfl⟩
        have S39 := S30.trans0 s38
        refine WL.val rfl rfl rfl (ov_pickT rfl rfl) ?_
        refine WL.val rfl rfl rfl (ov_assign rfl) ?_
        refine WL.nil ?_
        refine WQ.seqN ?_
        refine WC.ret ?_
        refine WQ.ret1 rfl rfl ?_
        obtain rfl := Option.some.inj HF
        exact ⟨_, rfl, h37, S39, rfl⟩
      · replace HF := bif_f hb32 HF
        refine WL.pass rfl rfl rfl ?_
        refine WL.val rfl rfl rfl (ov_pickF rfl rfl) ?_
        refine WL.val rfl rfl rfl (ov_assign rfl) ?_
        refine WL.nil ?_
        refine WQ.seqN ?_
        refine WC.ret ?_
        refine WQ.ret1 rfl rfl ?_
        obtain rfl := Option.some.inj HF
        exact ⟨_, rfl, h27, S30, rfl⟩
    · replace HF := bif_f hb31 HF
      refine WL.pass rfl rfl rfl ?_
      refine WL.pass rfl rfl rfl ?_
      refine WL.val rfl rfl rfl (ov_pickF rfl rfl) ?_
      refine WL.val rfl rfl rfl (ov_move rfl) ?_
      refine WL.pass rfl rfl rfl ?_
      refine WL.val rfl rfl rfl (ov_pickF rfl rfl) ?_
      refine WL.val rfl rfl rfl (ov_assign rfl) ?_
      refine WL.nil ?_
      refine WQ.seqN ?_
      refine WC.ret ?_
      refine WQ.ret1 rfl rfl ?_
      obtain rfl := Option.some.inj HF
      exact ⟨_, rfl, h27, S30, rfl⟩
  · intro J40
    refine WC.seq ?_
    refine WC.region ?_
    refine WL.val rfl rfl rfl (ov_move rfl) ?_
    refine WL.val rfl rfl rfl (ov_not rfl) ?_
    refine WL.nil ?_
    refine WQ.seqN ?_
    refine WC.cond (b := !r10.2) rfl (fun hb17 => ?_) (fun hb17 => ?_)
    · replace HF := bif_t hb17 HF
      refine WC.seq ?_
      refine WC.region ?_
      refine WL.val rfl rfl rfl (ov_move rfl) ?_
      refine WL.val rfl rfl rfl (ov_eqlS rfl rfl) ?_
      refine WL.val rfl rfl rfl (ov_move rfl) ?_
      refine WL.split 25 (b := bEq r3.1 (⟨#[]⟩ : ByteArray)) rfl (fun hb18 => ?_) (fun hb18 => ?_)
      · replace HF := bif_t hb18 HF
        refine WL.val rfl rfl rfl (ov_move rfl) ?_
        refine WL.val rfl rfl rfl (ov_eql rfl rfl) ?_
        refine WL.val rfl rfl rfl (ov_pickT rfl rfl) ?_
        refine WL.val rfl rfl rfl (ov_move rfl) ?_
        refine WL.split 29 (b := (r3.2 : Int) == 2) rfl (fun hb19 => ?_) (fun hb19 => ?_)
        · replace HF := bif_t hb19 HF
          obtain ⟨r20, hr21, HF⟩ := bind_some HF
          refine WL.call rfl rfl rfl (oc_func (vs := []) rfl t_ent_7) (ok_law03_awake _ hr21 S16.sub) ?_
          rintro _ w23 ⟨h24, s25, rfl⟩
          have S26 := S16.trans0 s25
          refine WL.val rfl rfl rfl (ov_pickT rfl rfl) ?_
          refine WL.val rfl rfl rfl (ov_assign rfl) ?_
          refine WL.nil ?_
          refine WQ.seqN ?_
          refine WC.ret ?_
          refine WQ.thenRet ?_
          refine WQ.ret1 rfl rfl ?_
          obtain rfl := Option.some.inj HF
          exact ⟨_, rfl, h24, S26, rfl⟩
        · replace HF := bif_f hb19 HF
          refine WL.pass rfl rfl rfl ?_
          refine WL.val rfl rfl rfl (ov_pickF rfl rfl) ?_
          refine WL.val rfl rfl rfl (ov_assign rfl) ?_
          refine WL.nil ?_
          refine WQ.seqN ?_
          refine WC.ret ?_
          refine WQ.thenRet ?_
          refine WQ.ret1 rfl rfl ?_
          obtain rfl := Option.some.inj HF
          exact ⟨_, rfl, h14, S16, rfl⟩
      · replace HF := bif_f hb18 HF
        refine WL.pass rfl rfl rfl ?_
        refine WL.pass rfl rfl rfl ?_
        refine WL.val rfl rfl rfl (ov_pickF rfl rfl) ?_
        refine WL.val rfl rfl rfl (ov_move rfl) ?_
        refine WL.pass rfl rfl rfl ?_
        refine WL.val rfl rfl rfl (ov_pickF rfl rfl) ?_
        refine WL.val rfl rfl rfl (ov_assign rfl) ?_
        refine WL.nil ?_
        refine WQ.seqN ?_
        refine WC.ret ?_
        refine WQ.thenRet ?_
        refine WQ.ret1 rfl rfl ?_
        obtain rfl := Option.some.inj HF
        exact ⟨_, rfl, h14, S16, rfl⟩
    · replace HF := bif_f hb17 HF
      refine WC.skip ?_
      refine WC.to [5, 6, 7] [(5, .string r3.1), (6, .int .i64 r3.2), (7, .string r10.1)] rfl ?_
      exact J40 ⟨h14, HF, rfl, S16, Hle.refl _⟩
theorem ok_law03_PrintConsts (k : Nat) : C_law03_PrintConsts (F_law03_PrintConsts k) := s_law03_PrintConsts k
end Go.Proofs.YtaknpdhmhifpeaaGreatDoor
