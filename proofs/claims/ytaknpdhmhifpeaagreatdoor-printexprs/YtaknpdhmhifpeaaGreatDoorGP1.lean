import Derived.Test.YtaknpdhmhifpeaaGreatDoorE0
import Derived.Test.YtaknpdhmhifpeaaGreatDoorGP0
set_option linter.unusedVariables false
set_option linter.unusedSimpArgs false
namespace Go.Proofs.YtaknpdhmhifpeaaGreatDoor
open Go
def C_ast_Counter_Text (φ : Int → Int → (List St) → Int → Option (Bool × Int × Int)) : Prop := ∀ ⦃x3 : Int⦄ ⦃x4 : Int⦄ ⦃xs6 : List St⦄ ⦃x9 : Int⦄ ⦃r : Bool × Int × Int⦄, φ x3 x4 xs6 x9 = some r → ∀ ⦃w0 : World⦄ ⦃h0 : Hp⦄ ⦃b1 : Nat⦄ ⦃T2 : Nat⦄ ⦃v7 : Value⦄, Sub h0 w0 → RS h0 v7 xs6 → OB w0 h0 b1 T2 [.int .i64 x3, .int .i64 x4] →
  Calls Tryz.prog 38 #[.pointer (some ⟨b1, 0, none⟩), v7, .int .i64 x9] w0 fun e w1 => ∃ v, e = .returned v ∧ ∃ h1, Stp [b1] w0 h0 w1 h1 ∧ v = .bool r.1 ∧ (OB w1 h1 b1 T2 [.int .i64 r.2.1, .int .i64 r.2.2])
def C_ast_Counter_stmt (φ : Int → Int → St → Int → Option (Bool × Int × Int)) : Prop := ∀ ⦃x3 : Int⦄ ⦃x4 : Int⦄ ⦃x6 : St⦄ ⦃x9 : Int⦄ ⦃r : Bool × Int × Int⦄, φ x3 x4 x6 x9 = some r → ∀ ⦃w0 : World⦄ ⦃h0 : Hp⦄ ⦃b1 : Nat⦄ ⦃T2 : Nat⦄ ⦃cs7 : List Value⦄, Sub h0 w0 → Rp.R h0 x6 cs7 → OB w0 h0 b1 T2 [.int .i64 x3, .int .i64 x4] →
  Calls Tryz.prog 65 #[.pointer (some ⟨b1, 0, none⟩), .agg cs7.toArray, .int .i64 x9] w0 fun e w1 => ∃ v, e = .returned v ∧ ∃ h1, Stp [b1] w0 h0 w1 h1 ∧ v = .bool r.1 ∧ (OB w1 h1 b1 T2 [.int .i64 r.2.1, .int .i64 r.2.2])
def C_ast_Counter_arm (φ : Int → Int → Ar → Int → Int → Option (Bool × Int × Int)) : Prop := ∀ ⦃x3 : Int⦄ ⦃x4 : Int⦄ ⦃x6 : Ar⦄ ⦃x9 : Int⦄ ⦃x10 : Int⦄ ⦃r : Bool × Int × Int⦄, φ x3 x4 x6 x9 x10 = some r → ∀ ⦃w0 : World⦄ ⦃h0 : Hp⦄ ⦃b1 : Nat⦄ ⦃T2 : Nat⦄ ⦃cs7 : List Value⦄, Sub h0 w0 → Rp.R h0 x6 cs7 → OB w0 h0 b1 T2 [.int .i64 x3, .int .i64 x4] →
  Calls Tryz.prog 87 #[.pointer (some ⟨b1, 0, none⟩), .agg cs7.toArray, .int .i64 x9, .int .i64 x10] w0 fun e w1 => ∃ v, e = .returned v ∧ ∃ h1, Stp [b1] w0 h0 w1 h1 ∧ v = .bool r.1 ∧ (OB w1 h1 b1 T2 [.int .i64 r.2.1, .int .i64 r.2.2])
set_option maxRecDepth 20000 in
set_option maxHeartbeats 4000000 in
theorem s_ast_Counter_Text (k : Nat) (IH : ∀ j, j ≤ k → C_ast_Counter_Text (tie_ast_Counter_Text j).ast_Counter_Text ∧ C_ast_Counter_stmt (tie_ast_Counter_Text j).ast_Counter_stmt ∧ C_ast_Counter_arm (tie_ast_Counter_Text j).ast_Counter_arm) : C_ast_Counter_Text (m_ast_Counter_Text k (tie_ast_Counter_Text k)) := by
 intro x3 x4 xs6 x9 r HF w0 h0 b1 T2 v7 hs0 rs8 ob5
 have S0 : Stp [b1] w0 h0 w0 h0 := Stp.refl hs0 _
 have lt10 : b1 < w0.heap.size := OB.lt ob5
 refine enter (n := 21) Tryz.func38 rfl Tryz.ntmps38 rfl [(0, .pointer (some ⟨b1, 0, none⟩)), (1, v7), (2, .int .i64 x9)] rfl <| WC.seq <| WC.region <| WL.val rfl rfl rfl (ov_assign rfl) <| WL.nil <| WQ.seqN <| WC.seq <| WC.seq <| WC.region <| WL.val rfl rfl rfl (ov_move rfl) ?_
 obtain ⟨A11, c12, rfl, rs13⟩ := RS.form rs8
 refine WL.val rfl rfl rfl (ov_lenL rfl t_slice_22) <| WL.val rfl rfl rfl (ov_move rfl) <| WL.nil <| WQ.seqN <| WC.block <| WC.loop <| WP.to [0, 2, 9, 10, 11] [(0, .pointer (some ⟨b1, 0, none⟩)), (2, .int .i64 x9), (9, .slice A11 (xs6).length c12), (10, .int .i64 (xs6.length : Int)), (11, .int .i64 0)] rfl <| WP_rule (K := k) (fun j E w15 => ∃ (h14 : Hp) (x18 : Int) (x19 : Int) (x20 : Int), (tie_ast_Counter_Text j).ast_Counter_Text_l1 xs6 x9 x18 x19 x20 = some r ∧ E = [(0, .pointer (some ⟨b1, 0, none⟩)), (2, .int .i64 x9), (9, .slice A11 (xs6).length c12), (10, .int .i64 (xs6.length : Int)), (11, .int .i64 x18)] ∧ Stp [b1] w0 h0 w15 h14 ∧ Hle h0 h14 ∧ OB w15 h14 b1 T2 [.int .i64 x19, .int .i64 x20]) ?_ ?_ (j := k) (Nat.le_refl _) ?_
 ·rintro E w15 ⟨_, _, _, _, HF, _⟩; cases HF
 ·rintro j22 hj24 IHL23 E w15 ⟨h14, x18, x19, x20, HF, rfl, S17, le16, ob21⟩
  refine WC.seq <| WC.region <| WL.val rfl rfl rfl (ov_lss rfl rfl) <| WL.nil <| WQ.seqN <| WC.join (fun E w27 => ∃ (h26 : Hp), ast_Counter_Text_j2 j22 (tie_ast_Counter_Text j22) xs6 x9 x18 x19 x20 = some r ∧ E = [(0, .pointer (some ⟨b1, 0, none⟩)), (2, .int .i64 x9), (9, .slice A11 (xs6).length c12), (10, .int .i64 (xs6.length : Int)), (11, .int .i64 x18)] ∧ Stp [b1] w0 h0 w27 h26 ∧ Hle h14 h26 ∧ OB w27 h26 b1 T2 [.int .i64 x19, .int .i64 x20]) ?_ ?_
  ·rintro E w27 ⟨h26, HF, rfl, S29, le28, ob30⟩
   refine WC.seq <| WC.block <| WC.seq <| WC.region ?_
   obtain ⟨e31, he32, HF⟩ := bind_some HF
   obtain ⟨b33, o34, rfl, h36, h37, ra35⟩ := RS.atO (rs13.mono ((le16).trans le28)) he32
   obtain ⟨cs38, r39, hc40⟩ := ra35
   refine WL.val rfl rfl rfl (ov_indexAddr rfl rfl t_slice_22 t_size_44 h36 h37) <| WL.val rfl rfl rfl (ov_loadN (cs := cs38) rfl t_agg_44 (by rw [Rp.len r39]; exact t_size_44) (fun j v hv => S29.sub.at_ _ _ _ (hc40 j v hv))) <| WL.alloc (zs := [.int .i64 0, .string (⟨#[]⟩ : ByteArray), .slice none 0 0, .slice none 0 0, .slice none 0 0, .int .i64 0, .slice none 0 0, .slice none 0 0, .slice none 0 0, .bool false]) rfl rfl t_zero_44 rfl S29.sub (fun w41 b42 hb43 s44 ob45 => ?_)
   have ne46 : b1 ≠ b42 := ob30.ne_new hb43
   have g47 : w0.heap.size ≤ b42 := by rw [hb43]; exact S29.size
   have S48 := S29.trans0 s44
   obtain ⟨v49, v51, v53, v55, v57, v59, rfl, rs50, rs52, rs54, rs56, rs58, rs60⟩ := rp_St.1 (Rp.mono (s44.le) r39)
   refine WL.store (vs := [.int .i64 e31.op, .string e31.name, v49, v51, v53, .int .i64 e31.n, v55, v57, v59, .bool e31.els]) rfl rfl rfl rfl t_size_44 (one_cons rfl (one_cons rfl (one_cons (RS.one rs50) (one_cons (RS.one rs52) (one_cons (RS.one rs54) (one_cons rfl (one_cons (RS.one rs56) (one_cons (RS.one rs58) (one_cons (RS.one rs60) (one_cons rfl one_nil)))))))))) ob45 S48.sub (by simp) (ds := [.int .i64 e31.op, .string e31.name, v49, v51, v53, .int .i64 e31.n, v55, v57, v59, .bool e31.els]) rfl (fun w61 s62 ob63 => ?_)
   have S64 := S48.trans1 s62 (.inr g47)
   refine WL.nil <| WQ.seqN <| WC.seq <| WC.region <| WL.val rfl rfl rfl (ov_move rfl) <| WL.val rfl rfl rfl (ov_loadN (cs := [.int .i64 e31.op, .string e31.name, v49, v51, v53, .int .i64 e31.n, v55, v57, v59, .bool e31.els]) rfl t_agg_44 t_size_44 (OB.cells ob63 0 rfl)) <| WL.val rfl rfl rfl (ov_move rfl) ?_
   have ob65 := ((ob30.step0 s44).step1 s62 ne46)
   obtain ⟨r66, hr67, HF⟩ := bind_some HF
   refine WL.call rfl rfl rfl (oc_func (vs := [.pointer (some ⟨b1, 0, none⟩), .agg #[.int .i64 e31.op, .string e31.name, v49, v51, v53, .int .i64 e31.n, v55, v57, v59, .bool e31.els], .int .i64 x9]) rfl t_ent_65) ((IH _ (Nat.le_trans (Nat.le_of_succ_le hj24) (Nat.le_refl _))).2.1 hr67 S64.sub (rp_St.2 ⟨_, _, _, _, _, _, rfl, (rs50.mono (s62.le)), (rs52.mono (s62.le)), (rs54.mono (s62.le)), (rs56.mono (s62.le)), (rs58.mono (s62.le)), (rs60.mono (s62.le))⟩) ob65) ?_
   rintro _ w69 ⟨h70, s71, rfl, ob72⟩
   have S73 := S64.trans s71 (in_cons (.inl (by simp)) in_nil)
   refine WL.val rfl rfl rfl (ov_not rfl) <| WL.nil <| WQ.seqN <| WC.cond (b := !r66.1) rfl (fun hb74 => ?_) (fun hb74 => ?_)
   ·replace HF := bif_t hb74 HF
    refine WC.seq <| WC.region <| WL.val rfl rfl rfl (ov_assign rfl) <| WL.nil <| WQ.seqN <| WC.ret <| WQ.blockRet <| WQ.thenRet <| WQ.thenRet <| WQ.blockRet <| WQ.thenRet <| WQ.ret1 rfl rfl ?_
    obtain rfl := Option.some.inj HF
    exact ⟨_, rfl, h70, S73, rfl, ob72⟩
   ·replace HF := bif_f hb74 HF
    refine WC.skip <| WQ.blockN <| WQ.seqN <| WC.region <| WL.val rfl rfl rfl (ov_add rfl rfl) <| WL.val rfl rfl rfl (ov_move rfl) <| WL.nil <| WQ.loopN <| WP.to [0, 2, 9, 10, 11] [(0, .pointer (some ⟨b1, 0, none⟩)), (2, .int .i64 x9), (9, .slice (some ⟨b33, o34, none⟩) (xs6).length c12), (10, .int .i64 (xs6.length : Int)), (11, .int .i64 (IntKind.i64.wrap (x18 + 1)))] rfl ?_
    exact IHL23 j22 (Nat.le_refl _) _ _ ⟨h70, IntKind.i64.wrap (x18 + 1), r66.2.1, r66.2.2, HF, rfl, S73, (le16).trans ((le28).trans ((s44.le).trans ((s62.le).trans s71.le))), ob72⟩
  ·intro J75
   refine WC.cond (b := decide ((x18 : Int) < (xs6.length : Int))) rfl (fun hb25 => ?_) (fun hb25 => ?_)
   ·replace HF := bif_t hb25 HF
    refine WC.skip <| WC.to [0, 2, 9, 10, 11] [(0, .pointer (some ⟨b1, 0, none⟩)), (2, .int .i64 x9), (9, .slice A11 (xs6).length c12), (10, .int .i64 (xs6.length : Int)), (11, .int .i64 x18)] rfl ?_
    exact J75 ⟨h14, HF, rfl, S17, Hle.refl _, ob21⟩
   ·replace HF := bif_f hb25 HF
    refine WC.exit <| WQ.thenExit <| WQ.thenExit <| WQ.blockHit <| WQ.seqN <| WC.seq <| WC.region <| WL.val rfl rfl rfl (ov_assign rfl) <| WL.nil <| WQ.seqN <| WC.ret <| WQ.ret1 rfl rfl ?_
    obtain rfl := Option.some.inj HF
    exact ⟨_, rfl, h14, S17, rfl, ob21⟩
 ·exact ⟨h0, 0, x3, x4, HF, rfl, S0, Hle.refl _, ob5⟩
set_option maxRecDepth 20000 in
set_option maxHeartbeats 4000000 in
theorem s_ast_Counter_stmt (k : Nat) (IH : ∀ j, j ≤ k → C_ast_Counter_Text (tie_ast_Counter_Text j).ast_Counter_Text ∧ C_ast_Counter_stmt (tie_ast_Counter_Text j).ast_Counter_stmt ∧ C_ast_Counter_arm (tie_ast_Counter_Text j).ast_Counter_arm) : C_ast_Counter_stmt (m_ast_Counter_stmt k (tie_ast_Counter_Text k)) := by
 intro x3 x4 x6 x9 r HF w0 h0 b1 T2 cs7 hs0 r8 ob5
 have S0 : Stp [b1] w0 h0 w0 h0 := Stp.refl hs0 _
 have lt10 : b1 < w0.heap.size := OB.lt ob5
 refine enter (n := 185) Tryz.func65 rfl Tryz.ntmps65 rfl [(0, .pointer (some ⟨b1, 0, none⟩)), (1, .agg cs7.toArray), (2, .int .i64 x9)] rfl <| WC.seq <| WC.region ?_
 obtain ⟨v11, v13, v15, v17, v19, v21, rfl, rs12, rs14, rs16, rs18, rs20, rs22⟩ := rp_St.1 r8
 refine WL.box (cs := [.int .i64 x6.op, .string x6.name, v11, v13, v15, .int .i64 x6.n, v17, v19, v21, .bool x6.els]) rfl rfl rfl rfl S0.sub (fun w23 b24 hb25 s26 ob27 => ?_)
 have ne28 : b1 ≠ b24 := ob5.ne_new hb25
 have g29 : w0.heap.size ≤ b24 := by rw [hb25]; exact S0.size
 have S30 := S0.trans0 s26
 refine WL.val rfl rfl rfl (ov_assign rfl) <| WL.nil <| WQ.seqN <| WC.seq <| WC.region ?_
 obtain ⟨v31, hv32, rm33⟩ := S30.sub.glob.g2
 refine WL.val rfl rfl rfl (ov_load1 rfl t_agg_130 (S30.sub.at_ _ _ _ hv32)) <| WL.val rfl rfl rfl (ov_fieldAddr rfl t_field_44_0) <| WL.val rfl rfl rfl (ov_load1 rfl t_agg_3 (OB.cell ob27 (j := 0) rfl)) ?_
 obtain ⟨r34, hr35, HF⟩ := bind_some HF
 replace hr35 := Option.some.inj hr35
 refine WL.val rfl rfl rfl (ov_lookupI2 (evl := (fun x : Bool × Int × Int × Bool × Bool => .agg #[.bool x.1, .int .i64 x.2.1, .int .i64 x.2.2.1, .bool x.2.2.2.1, .bool x.2.2.2.2])) (z := (false, 0, 0, false, false)) rfl rfl t_map_130 t_int_3 t_zero_128 rm33 S30.sub hr35) <| WL.val rfl rfl rfl (ov_move rfl) <| WL.val rfl rfl rfl (ov_extract rfl rfl) <| WL.val rfl rfl rfl (ov_extract rfl rfl) ?_
 have ob36 := (ob5.step0 s26)
 refine WL.alloc (zs := [.bool false, .int .i64 0, .int .i64 0, .bool false, .bool false]) rfl rfl t_zero_128 rfl S30.sub (fun w37 b38 hb39 s40 ob41 => ?_)
 have ne42 : b1 ≠ b38 := ob36.ne_new hb39
 have ne43 : b24 ≠ b38 := ob27.ne_new hb39
 have g44 : w0.heap.size ≤ b38 := by rw [hb39]; exact S30.size
 have S45 := S30.trans0 s40
 refine WL.store (vs := [.bool ((r34.getD (false, 0, 0, false, false)).1), .int .i64 ((r34.getD (false, 0, 0, false, false)).2.1), .int .i64 ((r34.getD (false, 0, 0, false, false)).2.2.1), .bool ((r34.getD (false, 0, 0, false, false)).2.2.2.1), .bool ((r34.getD (false, 0, 0, false, false)).2.2.2.2)]) rfl rfl rfl rfl t_size_128 (one_cons rfl (one_cons rfl (one_cons rfl (one_cons rfl (one_cons rfl one_nil))))) ob41 S45.sub (by simp) (ds := [.bool ((r34.getD (false, 0, 0, false, false)).1), .int .i64 ((r34.getD (false, 0, 0, false, false)).2.1), .int .i64 ((r34.getD (false, 0, 0, false, false)).2.2.1), .bool ((r34.getD (false, 0, 0, false, false)).2.2.2.1), .bool ((r34.getD (false, 0, 0, false, false)).2.2.2.2)]) rfl (fun w46 s47 ob48 => ?_)
 have S49 := S45.trans1 s47 (.inr g44)
 refine WL.val rfl rfl rfl (ov_assign rfl) <| WL.nil <| WQ.seqN <| WC.join (fun E w106 => ∃ (h105 : Hp) (x109 : Int) (x110 : Int), ast_Counter_stmt_j2 k (tie_ast_Counter_Text k) x6 x9 r34 x109 x110 = some r ∧ E = [(0, .pointer (some ⟨b1, 0, none⟩)), (2, .int .i64 x9), (4, .pointer (some ⟨b24, 0, none⟩)), (7, .pointer (some ⟨b38, 0, none⟩))] ∧ Stp [b1] w0 h0 w106 h105 ∧ Hle h0 h105 ∧ OB w106 h105 b1 T2 [.int .i64 x109, .int .i64 x110] ∧ OB w106 h105 b24 44 [.int .i64 x6.op, .string x6.name, v11, v13, v15, .int .i64 x6.n, v17, v19, v21, .bool x6.els] ∧ OB w106 h105 b38 128 [.bool ((r34.getD (false, 0, 0, false, false)).1), .int .i64 ((r34.getD (false, 0, 0, false, false)).2.1), .int .i64 ((r34.getD (false, 0, 0, false, false)).2.2.1), .bool ((r34.getD (false, 0, 0, false, false)).2.2.2.1), .bool ((r34.getD (false, 0, 0, false, false)).2.2.2.2)]) ?_ ?_
 ·rintro E w106 ⟨h105, x109, x110, HF, rfl, S108, le107, ob111, ob112, ob113⟩
  refine WC.join (fun E w153 => ∃ (h152 : Hp), ast_Counter_stmt_j4 k (tie_ast_Counter_Text k) x6 x9 r34 x109 x110 = some r ∧ E = [(0, .pointer (some ⟨b1, 0, none⟩)), (2, .int .i64 x9), (4, .pointer (some ⟨b24, 0, none⟩)), (7, .pointer (some ⟨b38, 0, none⟩))] ∧ Stp [b1] w0 h0 w153 h152 ∧ Hle h105 h152 ∧ OB w153 h152 b1 T2 [.int .i64 x109, .int .i64 x110] ∧ OB w153 h152 b24 44 [.int .i64 x6.op, .string x6.name, v11, v13, v15, .int .i64 x6.n, v17, v19, v21, .bool x6.els] ∧ OB w153 h152 b38 128 [.bool ((r34.getD (false, 0, 0, false, false)).1), .int .i64 ((r34.getD (false, 0, 0, false, false)).2.1), .int .i64 ((r34.getD (false, 0, 0, false, false)).2.2.1), .bool ((r34.getD (false, 0, 0, false, false)).2.2.2.1), .bool ((r34.getD (false, 0, 0, false, false)).2.2.2.2)]) ?_ ?_
  ·rintro E w153 ⟨h152, HF, rfl, S155, le154, ob156, ob157, ob158⟩
   refine WC.join (fun E w199 => ∃ (h198 : Hp), ast_Counter_stmt_j6 k (tie_ast_Counter_Text k) x6 x9 r34 x109 x110 = some r ∧ E = [(0, .pointer (some ⟨b1, 0, none⟩)), (2, .int .i64 x9), (4, .pointer (some ⟨b24, 0, none⟩)), (7, .pointer (some ⟨b38, 0, none⟩))] ∧ Stp [b1] w0 h0 w199 h198 ∧ Hle h152 h198 ∧ OB w199 h198 b1 T2 [.int .i64 x109, .int .i64 x110] ∧ OB w199 h198 b24 44 [.int .i64 x6.op, .string x6.name, v11, v13, v15, .int .i64 x6.n, v17, v19, v21, .bool x6.els] ∧ OB w199 h198 b38 128 [.bool ((r34.getD (false, 0, 0, false, false)).1), .int .i64 ((r34.getD (false, 0, 0, false, false)).2.1), .int .i64 ((r34.getD (false, 0, 0, false, false)).2.2.1), .bool ((r34.getD (false, 0, 0, false, false)).2.2.2.1), .bool ((r34.getD (false, 0, 0, false, false)).2.2.2.2)]) ?_ ?_
   ·rintro E w199 ⟨h198, HF, rfl, S201, le200, ob202, ob203, ob204⟩
    refine WC.join (fun E w248 => ∃ (h247 : Hp), ast_Counter_stmt_j8 k (tie_ast_Counter_Text k) x6 x9 x109 x110 = some r ∧ E = [(0, .pointer (some ⟨b1, 0, none⟩)), (2, .int .i64 x9), (4, .pointer (some ⟨b24, 0, none⟩))] ∧ Stp [b1] w0 h0 w248 h247 ∧ Hle h198 h247 ∧ OB w248 h247 b1 T2 [.int .i64 x109, .int .i64 x110] ∧ OB w248 h247 b24 44 [.int .i64 x6.op, .string x6.name, v11, v13, v15, .int .i64 x6.n, v17, v19, v21, .bool x6.els]) ?_ ?_
    ·rintro E w248 ⟨h247, HF, rfl, S250, le249, ob251, ob252⟩
     refine WC.seq <| WC.seq <| WC.region <| WL.val rfl rfl rfl (ov_fieldAddr rfl t_field_44_7) <| WL.val rfl rfl rfl (ov_load1 rfl t_agg_42 (OB.cell ob252 (j := 7) rfl)) ?_
     obtain ⟨A253, c254, rfl, rs255⟩ := RS.form (rs20.mono ((s26.le).trans ((s40.le).trans ((s47.le).trans ((le107).trans ((le154).trans ((le200).trans le249)))))))
     refine WL.val rfl rfl rfl (ov_lenL rfl t_slice_42) <| WL.val rfl rfl rfl (ov_move rfl) <| WL.nil <| WQ.seqN <| WC.block <| WC.loop <| WP.to [0, 2, 4, 140, 141, 142] [(0, .pointer (some ⟨b1, 0, none⟩)), (2, .int .i64 x9), (4, .pointer (some ⟨b24, 0, none⟩)), (140, .slice A253 (x6.arms).length c254), (141, .int .i64 (x6.arms.length : Int)), (142, .int .i64 0)] rfl <| WP_rule (K := k) (fun j E w257 => ∃ (h256 : Hp) (x260 : Int) (x261 : Int) (x262 : Int) (xs264 : List Ar) (v265 : Value), (tie_ast_Counter_Text j).ast_Counter_stmt_l9 x6 x9 x260 x261 x262 xs264 = some r ∧ E = [(0, .pointer (some ⟨b1, 0, none⟩)), (2, .int .i64 x9), (4, .pointer (some ⟨b24, 0, none⟩)), (140, .slice A253 (x6.arms).length c254), (141, .int .i64 (x6.arms.length : Int)), (142, .int .i64 x260)] ∧ Stp [b1] w0 h0 w257 h256 ∧ Hle h247 h256 ∧ RS h256 v265 xs264 ∧ OB w257 h256 b1 T2 [.int .i64 x261, .int .i64 x262] ∧ OB w257 h256 b24 44 [.int .i64 x6.op, .string x6.name, v11, v13, v15, .int .i64 x6.n, v17, v265, v21, .bool x6.els]) ?_ ?_ (j := k) (Nat.le_refl _) ?_
     ·rintro E w257 ⟨_, _, _, _, _, _, HF, _⟩; cases HF
     ·rintro j268 hj270 IHL269 E w257 ⟨h256, x260, x261, x262, xs264, v265, HF, rfl, S259, le258, rs266, ob263, ob267⟩
      refine WC.seq <| WC.region <| WL.val rfl rfl rfl (ov_lss rfl rfl) <| WL.nil <| WQ.seqN <| WC.join (fun E w311 => ∃ (h310 : Hp), ast_Counter_stmt_j10 j268 (tie_ast_Counter_Text j268) x6 x9 x260 x261 x262 xs264 = some r ∧ E = [(0, .pointer (some ⟨b1, 0, none⟩)), (2, .int .i64 x9), (4, .pointer (some ⟨b24, 0, none⟩)), (140, .slice A253 (x6.arms).length c254), (141, .int .i64 (x6.arms.length : Int)), (142, .int .i64 x260)] ∧ Stp [b1] w0 h0 w311 h310 ∧ Hle h256 h310 ∧ OB w311 h310 b1 T2 [.int .i64 x261, .int .i64 x262] ∧ OB w311 h310 b24 44 [.int .i64 x6.op, .string x6.name, v11, v13, v15, .int .i64 x6.n, v17, v265, v21, .bool x6.els]) ?_ ?_
      ·rintro E w311 ⟨h310, HF, rfl, S313, le312, ob314, ob315⟩
       refine WC.seq <| WC.block <| WC.seq <| WC.region ?_
       obtain ⟨e316, he317, HF⟩ := bind_some HF
       obtain ⟨b318, o319, rfl, h321, h322, ra320⟩ := RS.atO (rs255.mono ((le258).trans le312)) he317
       obtain ⟨cs323, r324, hc325⟩ := ra320
       refine WL.val rfl rfl rfl (ov_indexAddr rfl rfl t_slice_42 t_size_47 h321 h322) <| WL.val rfl rfl rfl (ov_loadN (cs := cs323) rfl t_agg_47 (by rw [Rp.len r324]; exact t_size_47) (fun j v hv => S313.sub.at_ _ _ _ (hc325 j v hv))) <| WL.alloc (zs := [.slice none 0 0, .slice none 0 0, .slice none 0 0]) rfl rfl t_zero_47 rfl S313.sub (fun w326 b327 hb328 s329 ob330 => ?_)
       have ne331 : b1 ≠ b327 := ob314.ne_new hb328
       have ne332 : b24 ≠ b327 := ob315.ne_new hb328
       have g333 : w0.heap.size ≤ b327 := by rw [hb328]; exact S313.size
       have S334 := S313.trans0 s329
       obtain ⟨v335, v337, v339, rfl, rs336, rs338, rs340⟩ := rp_Ar.1 (Rp.mono (s329.le) r324)
       refine WL.store (vs := [v335, v337, v339]) rfl rfl rfl rfl t_size_47 (one_cons (RS.one rs336) (one_cons (RS.one rs338) (one_cons (RS.one rs340) one_nil))) ob330 S334.sub (by simp) (ds := [v335, v337, v339]) rfl (fun w341 s342 ob343 => ?_)
       have S344 := S334.trans1 s342 (.inr g333)
       refine WL.nil <| WQ.seqN <| WC.seq <| WC.region <| WL.val rfl rfl rfl (ov_move rfl) <| WL.val rfl rfl rfl (ov_loadN (cs := [v335, v337, v339]) rfl t_agg_47 t_size_47 (OB.cells ob343 0 rfl)) <| WL.val rfl rfl rfl (ov_fieldAddr rfl t_field_44_0) ?_
       have ob345 := ((ob315.step0 s329).step1 s342 ne332)
       refine WL.val rfl rfl rfl (ov_load1 rfl t_agg_3 (OB.cell ob345 (j := 0) rfl)) <| WL.val rfl rfl rfl (ov_move rfl) <| WL.val rfl rfl rfl (ov_add rfl rfl) ?_
       have ob346 := ((ob314.step0 s329).step1 s342 ne331)
       obtain ⟨r347, hr348, HF⟩ := bind_some HF
       refine WL.call rfl rfl rfl (oc_func (vs := [.pointer (some ⟨b1, 0, none⟩), .agg #[v335, v337, v339], .int .i64 x6.op, .int .i64 (IntKind.i64.wrap (x9 + 1))]) rfl t_ent_87) ((IH _ (Nat.le_trans (Nat.le_of_succ_le hj270) (Nat.le_refl _))).2.2 hr348 S344.sub (rp_Ar.2 ⟨_, _, _, rfl, (rs336.mono (s342.le)), (rs338.mono (s342.le)), (rs340.mono (s342.le))⟩) ob346) ?_
       rintro _ w350 ⟨h351, s352, rfl, ob353⟩
       have S354 := S344.trans s352 (in_cons (.inl (by simp)) in_nil)
       refine WL.val rfl rfl rfl (ov_not rfl) <| WL.nil <| WQ.seqN <| WC.cond (b := !r347.1) rfl (fun hb355 => ?_) (fun hb355 => ?_)
       ·replace HF := bif_t hb355 HF
        refine WC.seq <| WC.region <| WL.val rfl rfl rfl (ov_assign rfl) <| WL.nil <| WQ.seqN <| WC.ret <| WQ.blockRet <| WQ.thenRet <| WQ.thenRet <| WQ.blockRet <| WQ.thenRet <| WQ.ret1 rfl rfl ?_
        obtain rfl := Option.some.inj HF
        exact ⟨_, rfl, h351, S354, rfl, ob353⟩
       ·replace HF := bif_f hb355 HF
        refine WC.skip <| WQ.blockN <| WQ.seqN <| WC.region <| WL.val rfl rfl rfl (ov_add rfl rfl) <| WL.val rfl rfl rfl (ov_move rfl) <| WL.nil ?_
        have ob357 := (ob345.step1 s352 (Ne.symm ne28))
        refine WQ.loopN <| WP.to [0, 2, 4, 140, 141, 142] [(0, .pointer (some ⟨b1, 0, none⟩)), (2, .int .i64 x9), (4, .pointer (some ⟨b24, 0, none⟩)), (140, .slice (some ⟨b318, o319, none⟩) (x6.arms).length c254), (141, .int .i64 (x6.arms.length : Int)), (142, .int .i64 (IntKind.i64.wrap (x260 + 1)))] rfl ?_
        exact IHL269 j268 (Nat.le_refl _) _ _ ⟨h351, IntKind.i64.wrap (x260 + 1), r347.2.1, r347.2.2, xs264, v265, HF, rfl, S354, (le258).trans ((le312).trans ((s329.le).trans ((s342.le).trans s352.le))), (rs266.mono ((le312).trans ((s329.le).trans ((s342.le).trans s352.le)))), ob353, ob357⟩
      ·intro J356
       refine WC.cond (b := decide ((x260 : Int) < (x6.arms.length : Int))) rfl (fun hb271 => ?_) (fun hb271 => ?_)
       ·replace HF := bif_t hb271 HF
        refine WC.skip <| WC.to [0, 2, 4, 140, 141, 142] [(0, .pointer (some ⟨b1, 0, none⟩)), (2, .int .i64 x9), (4, .pointer (some ⟨b24, 0, none⟩)), (140, .slice A253 (x6.arms).length c254), (141, .int .i64 (x6.arms.length : Int)), (142, .int .i64 x260)] rfl ?_
        exact J356 ⟨h256, HF, rfl, S259, Hle.refl _, ob263, ob267⟩
       ·replace HF := bif_f hb271 HF
        refine WC.exit <| WQ.thenExit <| WQ.thenExit <| WQ.blockHit <| WQ.seqN <| WC.seq <| WC.region <| WL.val rfl rfl rfl (ov_move rfl) <| WL.val rfl rfl rfl (ov_fieldAddr rfl t_field_44_2) <| WL.val rfl rfl rfl (ov_load1 rfl t_agg_30 (OB.cell ob267 (j := 2) rfl)) <| WL.val rfl rfl rfl (ov_move rfl) <| WL.val rfl rfl rfl (ov_add rfl rfl) ?_
        obtain ⟨r272, hr273, HF⟩ := bind_some HF
        refine WL.call rfl rfl rfl (oc_func (vs := [.pointer (some ⟨b1, 0, none⟩), v11, .int .i64 (IntKind.i64.wrap (x9 + 1))]) rfl t_ent_81) (ok_ast_Counter_Exprs _ hr273 S259.sub (rs12.mono ((s26.le).trans ((s40.le).trans ((s47.le).trans ((le107).trans ((le154).trans ((le200).trans ((le249).trans le258)))))))) ob263) ?_
        rintro _ w275 ⟨h276, s277, rfl, ob278⟩
        have S279 := S259.trans s277 (in_cons (.inl (by simp)) in_nil)
        refine WL.val rfl rfl rfl (ov_move rfl) <| WL.split 161 (b := r272.1) rfl (fun hb280 => ?_) (fun hb280 => ?_)
        ·replace HF := bif_t hb280 HF
         refine WL.val rfl rfl rfl (ov_move rfl) <| WL.val rfl rfl rfl (ov_fieldAddr rfl t_field_44_4) ?_
         have ob281 := (ob267.step1 s277 (Ne.symm ne28))
         refine WL.val rfl rfl rfl (ov_load1 rfl t_agg_30 (OB.cell ob281 (j := 4) rfl)) <| WL.val rfl rfl rfl (ov_move rfl) <| WL.val rfl rfl rfl (ov_add rfl rfl) ?_
         obtain ⟨r282, hr283, HF⟩ := bind_some HF
         refine WL.call rfl rfl rfl (oc_func (vs := [.pointer (some ⟨b1, 0, none⟩), v15, .int .i64 (IntKind.i64.wrap (x9 + 1))]) rfl t_ent_81) (ok_ast_Counter_Exprs _ hr283 S279.sub (rs16.mono ((s26.le).trans ((s40.le).trans ((s47.le).trans ((le107).trans ((le154).trans ((le200).trans ((le249).trans ((le258).trans s277.le))))))))) ob278) ?_
         rintro _ w285 ⟨h286, s287, rfl, ob288⟩
         have S289 := S279.trans s287 (in_cons (.inl (by simp)) in_nil)
         refine WL.val rfl rfl rfl (ov_pickT rfl rfl) <| WL.val rfl rfl rfl (ov_move rfl) <| WL.split 169 (b := r282.1) rfl (fun hb290 => ?_) (fun hb290 => ?_)
         ·replace HF := bif_t hb290 HF
          refine WL.val rfl rfl rfl (ov_move rfl) <| WL.val rfl rfl rfl (ov_fieldAddr rfl t_field_44_6) ?_
          have ob291 := (ob281.step1 s287 (Ne.symm ne28))
          refine WL.val rfl rfl rfl (ov_load1 rfl t_agg_22 (OB.cell ob291 (j := 6) rfl)) <| WL.val rfl rfl rfl (ov_move rfl) <| WL.val rfl rfl rfl (ov_add rfl rfl) ?_
          obtain ⟨r292, hr293, HF⟩ := bind_some HF
          refine WL.call rfl rfl rfl (oc_func (vs := [.pointer (some ⟨b1, 0, none⟩), v17, .int .i64 (IntKind.i64.wrap (x9 + 1))]) rfl t_ent_38) ((IH _ (Nat.le_trans (Nat.le_of_succ_le hj270) (Nat.le_refl _))).1 hr293 S289.sub (rs18.mono ((s26.le).trans ((s40.le).trans ((s47.le).trans ((le107).trans ((le154).trans ((le200).trans ((le249).trans ((le258).trans ((s277.le).trans s287.le)))))))))) ob288) ?_
          rintro _ w295 ⟨h296, s297, rfl, ob298⟩
          have S299 := S289.trans s297 (in_cons (.inl (by simp)) in_nil)
          refine WL.val rfl rfl rfl (ov_pickT rfl rfl) <| WL.val rfl rfl rfl (ov_move rfl) <| WL.split 177 (b := r292.1) rfl (fun hb300 => ?_) (fun hb300 => ?_)
          ·replace HF := bif_t hb300 HF
           refine WL.val rfl rfl rfl (ov_move rfl) <| WL.val rfl rfl rfl (ov_fieldAddr rfl t_field_44_8) ?_
           have ob301 := (ob291.step1 s297 (Ne.symm ne28))
           refine WL.val rfl rfl rfl (ov_load1 rfl t_agg_22 (OB.cell ob301 (j := 8) rfl)) <| WL.val rfl rfl rfl (ov_move rfl) <| WL.val rfl rfl rfl (ov_add rfl rfl) ?_
           obtain ⟨r302, hr303, HF⟩ := bind_some HF
           refine WL.call rfl rfl rfl (oc_func (vs := [.pointer (some ⟨b1, 0, none⟩), v21, .int .i64 (IntKind.i64.wrap (x9 + 1))]) rfl t_ent_38) ((IH _ (Nat.le_trans (Nat.le_of_succ_le hj270) (Nat.le_refl _))).1 hr303 S299.sub (rs22.mono ((s26.le).trans ((s40.le).trans ((s47.le).trans ((le107).trans ((le154).trans ((le200).trans ((le249).trans ((le258).trans ((s277.le).trans ((s287.le).trans s297.le))))))))))) ob298) ?_
           rintro _ w305 ⟨h306, s307, rfl, ob308⟩
           have S309 := S299.trans s307 (in_cons (.inl (by simp)) in_nil)
           refine WL.val rfl rfl rfl (ov_pickT rfl rfl) <| WL.val rfl rfl rfl (ov_assign rfl) <| WL.nil <| WQ.seqN <| WC.ret <| WQ.ret1 rfl rfl ?_
           obtain rfl := Option.some.inj HF
           exact ⟨_, rfl, h306, S309, rfl, ob308⟩
          ·replace HF := bif_f hb300 HF
           refine WL.pass rfl rfl rfl <| WL.pass rfl rfl rfl <| WL.pass rfl rfl rfl <| WL.pass rfl rfl rfl <| WL.pass rfl rfl rfl <| WL.pass rfl rfl rfl <| WL.val rfl rfl rfl (ov_pickF rfl rfl) <| WL.val rfl rfl rfl (ov_assign rfl) <| WL.nil <| WQ.seqN <| WC.ret <| WQ.ret1 rfl rfl ?_
           obtain rfl := Option.some.inj HF
           exact ⟨_, rfl, h296, S299, rfl, ob298⟩
         ·replace HF := bif_f hb290 HF
          refine WL.pass rfl rfl rfl <| WL.pass rfl rfl rfl <| WL.pass rfl rfl rfl <| WL.pass rfl rfl rfl <| WL.pass rfl rfl rfl <| WL.pass rfl rfl rfl <| WL.val rfl rfl rfl (ov_pickF rfl rfl) <| WL.val rfl rfl rfl (ov_move rfl) <| WL.pass rfl rfl rfl <| WL.pass rfl rfl rfl <| WL.pass rfl rfl rfl <| WL.pass rfl rfl rfl <| WL.pass rfl rfl rfl <| WL.pass rfl rfl rfl <| WL.val rfl rfl rfl (ov_pickF rfl rfl) <| WL.val rfl rfl rfl (ov_assign rfl) <| WL.nil <| WQ.seqN <| WC.ret <| WQ.ret1 rfl rfl ?_
          obtain rfl := Option.some.inj HF
          exact ⟨_, rfl, h286, S289, rfl, ob288⟩
        ·replace HF := bif_f hb280 HF
         refine WL.pass rfl rfl rfl <| WL.pass rfl rfl rfl <| WL.pass rfl rfl rfl <| WL.pass rfl rfl rfl <| WL.pass rfl rfl rfl <| WL.pass rfl rfl rfl <| WL.val rfl rfl rfl (ov_pickF rfl rfl) <| WL.val rfl rfl rfl (ov_move rfl) <| WL.pass rfl rfl rfl <| WL.pass rfl rfl rfl <| WL.pass rfl rfl rfl <| WL.pass rfl rfl rfl <| WL.pass rfl rfl rfl <| WL.pass rfl rfl rfl <| WL.val rfl rfl rfl (ov_pickF rfl rfl) <| WL.val rfl rfl rfl (ov_move rfl) <| WL.pass rfl rfl rfl <| WL.pass rfl rfl rfl <| WL.pass rfl rfl rfl <| WL.pass rfl rfl rfl <| WL.pass rfl rfl rfl <| WL.pass rfl rfl rfl <| WL.val rfl rfl rfl (ov_pickF rfl rfl) <| WL.val rfl rfl rfl (ov_assign rfl) <| WL.nil <| WQ.seqN <| WC.ret <| WQ.ret1 rfl rfl ?_
         obtain rfl := Option.some.inj HF
         exact ⟨_, rfl, h276, S279, rfl, ob278⟩
     ·exact ⟨h247, 0, x109, x110, x6.arms, .slice A253 (x6.arms).length c254, HF, rfl, S250, Hle.refl _, rs255, ob251, ob252⟩
    ·intro J358
     refine WC.join (fun E w239 => ∃ (h238 : Hp) (x242 : Bool), ast_Counter_stmt_j7 k (tie_ast_Counter_Text k) x6 x9 x109 x110 x242 = some r ∧ E = [(0, .pointer (some ⟨b1, 0, none⟩)), (2, .int .i64 x9), (4, .pointer (some ⟨b24, 0, none⟩)), (138, .bool x242)] ∧ Stp [b1] w0 h0 w239 h238 ∧ Hle h198 h238 ∧ OB w239 h238 b1 T2 [.int .i64 x109, .int .i64 x110] ∧ OB w239 h238 b24 44 [.int .i64 x6.op, .string x6.name, v11, v13, v15, .int .i64 x6.n, v17, v19, v21, .bool x6.els]) ?_ ?_
     ·rintro E w239 ⟨h238, x242, HF, rfl, S241, le240, ob243, ob244⟩
      refine WC.cond (b := x242) rfl (fun hb245 => ?_) (fun hb245 => ?_)
      ·replace HF := bif_t hb245 HF
       refine WC.seq <| WC.region <| WL.val rfl rfl rfl (ov_assign rfl) <| WL.nil <| WQ.seqN <| WC.ret <| WQ.thenRet <| WQ.ret1 rfl rfl ?_
       obtain rfl := Option.some.inj HF
       exact ⟨_, rfl, h238, S241, rfl, ob243⟩
      ·replace HF := bif_f hb245 HF
       refine WC.skip <| WC.to [0, 2, 4] [(0, .pointer (some ⟨b1, 0, none⟩)), (2, .int .i64 x9), (4, .pointer (some ⟨b24, 0, none⟩))] rfl ?_
       exact J358 ⟨h238, HF, rfl, S241, le240, ob243, ob244⟩
     ·intro J246
      refine WC.region <| WL.val rfl rfl rfl (ov_fieldAddr rfl t_field_128_3) <| WL.val rfl rfl rfl (ov_load1 rfl t_agg_4 (OB.cell ob204 (j := 3) rfl)) <| WL.val rfl rfl rfl (ov_not rfl) <| WL.val rfl rfl rfl (ov_move rfl) <| WL.split 107 (b := !((r34.getD (false, 0, 0, false, false)).2.2.2.1)) rfl (fun hb205 => ?_) (fun hb205 => ?_)
      ·replace HF := bif_t hb205 HF
       refine WL.val rfl rfl rfl (ov_fieldAddr rfl t_field_44_6) <| WL.val rfl rfl rfl (ov_load1 rfl t_agg_22 (OB.cell ob203 (j := 6) rfl)) ?_
       obtain ⟨A206, c207, rfl, rs208⟩ := RS.form (rs18.mono ((s26.le).trans ((s40.le).trans ((s47.le).trans ((le107).trans ((le154).trans le200))))))
       refine WL.val rfl rfl rfl (ov_lenL rfl t_slice_22) <| WL.val rfl rfl rfl (ov_gtr rfl rfl) <| WL.val rfl rfl rfl (ov_pickT rfl rfl) <| WL.val rfl rfl rfl (ov_move rfl) <| WL.split 113 (b := decide ((0 : Int) < (x6.body.length : Int))) rfl (fun hb209 => ?_) (fun hb209 => ?_)
       ·replace HF := bif_t hb209 HF
        refine WL.pass rfl rfl rfl <| WL.pass rfl rfl rfl <| WL.pass rfl rfl rfl <| WL.pass rfl rfl rfl <| WL.pass rfl rfl rfl <| WL.pass rfl rfl rfl <| WL.pass rfl rfl rfl <| WL.pass rfl rfl rfl <| WL.pass rfl rfl rfl <| WL.pass rfl rfl rfl <| WL.pass rfl rfl rfl <| WL.pass rfl rfl rfl <| WL.pass rfl rfl rfl <| WL.val rfl rfl rfl (ov_pickT rfl rfl) <| WL.val rfl rfl rfl (ov_move rfl) <| WL.pass rfl rfl rfl <| WL.pass rfl rfl rfl <| WL.pass rfl rfl rfl <| WL.pass rfl rfl rfl <| WL.pass rfl rfl rfl <| WL.pass rfl rfl rfl <| WL.pass rfl rfl rfl <| WL.pass rfl rfl rfl <| WL.pass rfl rfl rfl <| WL.val rfl rfl rfl (ov_pickT rfl rfl) <| WL.nil <| WC.to [0, 2, 4, 138] [(0, .pointer (some ⟨b1, 0, none⟩)), (2, .int .i64 x9), (4, .pointer (some ⟨b24, 0, none⟩)), (138, .bool true)] rfl ?_
        exact J246 ⟨h198, true, HF, rfl, S201, Hle.refl _, ob202, ob203⟩
       ·replace HF := bif_f hb209 HF
        refine WL.val rfl rfl rfl (ov_fieldAddr rfl t_field_128_4) <| WL.val rfl rfl rfl (ov_load1 rfl t_agg_4 (OB.cell ob204 (j := 4) rfl)) <| WL.val rfl rfl rfl (ov_not rfl) <| WL.val rfl rfl rfl (ov_move rfl) <| WL.split 117 (b := !((r34.getD (false, 0, 0, false, false)).2.2.2.2)) rfl (fun hb210 => ?_) (fun hb210 => ?_)
        ·replace HF := bif_t hb210 HF
         refine WL.val rfl rfl rfl (ov_fieldAddr rfl t_field_44_7) <| WL.val rfl rfl rfl (ov_load1 rfl t_agg_42 (OB.cell ob203 (j := 7) rfl)) ?_
         obtain ⟨A211, c212, rfl, rs213⟩ := RS.form (rs20.mono ((s26.le).trans ((s40.le).trans ((s47.le).trans ((le107).trans ((le154).trans le200))))))
         refine WL.val rfl rfl rfl (ov_lenL rfl t_slice_42) <| WL.val rfl rfl rfl (ov_gtr rfl rfl) <| WL.val rfl rfl rfl (ov_move rfl) <| WL.split 122 (b := decide ((0 : Int) < (x6.arms.length : Int))) rfl (fun hb214 => ?_) (fun hb214 => ?_)
         ·replace HF := bif_t hb214 HF
          refine WL.pass rfl rfl rfl <| WL.pass rfl rfl rfl <| WL.val rfl rfl rfl (ov_pickT rfl rfl) <| WL.val rfl rfl rfl (ov_pickT rfl rfl) <| WL.val rfl rfl rfl (ov_pickF rfl rfl) <| WL.val rfl rfl rfl (ov_move rfl) <| WL.pass rfl rfl rfl <| WL.pass rfl rfl rfl <| WL.pass rfl rfl rfl <| WL.pass rfl rfl rfl <| WL.pass rfl rfl rfl <| WL.pass rfl rfl rfl <| WL.pass rfl rfl rfl <| WL.pass rfl rfl rfl <| WL.pass rfl rfl rfl <| WL.val rfl rfl rfl (ov_pickT rfl rfl) <| WL.nil <| WC.to [0, 2, 4, 138] [(0, .pointer (some ⟨b1, 0, none⟩)), (2, .int .i64 x9), (4, .pointer (some ⟨b24, 0, none⟩)), (138, .bool true)] rfl ?_
          exact J246 ⟨h198, true, HF, rfl, S201, Hle.refl _, ob202, ob203⟩
         ·replace HF := bif_f hb214 HF
          refine WL.val rfl rfl rfl (ov_fieldAddr rfl t_field_44_9) <| WL.val rfl rfl rfl (ov_load1 rfl t_agg_4 (OB.cell ob203 (j := 9) rfl)) <| WL.val rfl rfl rfl (ov_pickF rfl rfl) <| WL.val rfl rfl rfl (ov_pickT rfl rfl) <| WL.val rfl rfl rfl (ov_pickF rfl rfl) <| WL.val rfl rfl rfl (ov_move rfl) <| WL.split 128 (b := x6.els) rfl (fun hb215 => ?_) (fun hb215 => ?_)
          ·replace HF := bif_t hb215 HF
           refine WL.pass rfl rfl rfl <| WL.pass rfl rfl rfl <| WL.pass rfl rfl rfl <| WL.pass rfl rfl rfl <| WL.pass rfl rfl rfl <| WL.pass rfl rfl rfl <| WL.pass rfl rfl rfl <| WL.pass rfl rfl rfl <| WL.pass rfl rfl rfl <| WL.val rfl rfl rfl (ov_pickT rfl rfl) <| WL.nil <| WC.to [0, 2, 4, 138] [(0, .pointer (some ⟨b1, 0, none⟩)), (2, .int .i64 x9), (4, .pointer (some ⟨b24, 0, none⟩)), (138, .bool true)] rfl ?_
           exact J246 ⟨h198, true, HF, rfl, S201, Hle.refl _, ob202, ob203⟩
          ·replace HF := bif_f hb215 HF
           refine WL.val rfl rfl rfl (ov_fieldAddr rfl t_field_44_9) <| WL.val rfl rfl rfl (ov_load1 rfl t_agg_4 (OB.cell ob203 (j := 9) rfl)) <| WL.val rfl rfl rfl (ov_not rfl) <| WL.val rfl rfl rfl (ov_move rfl) <| WL.split 132 (b := !x6.els) rfl (fun hb216 => ?_) (fun hb216 => ?_)
           ·replace HF := bif_t hb216 HF
            refine WL.val rfl rfl rfl (ov_fieldAddr rfl t_field_44_8) <| WL.val rfl rfl rfl (ov_load1 rfl t_agg_22 (OB.cell ob203 (j := 8) rfl)) ?_
            obtain ⟨A217, c218, rfl, rs219⟩ := RS.form (rs22.mono ((s26.le).trans ((s40.le).trans ((s47.le).trans ((le107).trans ((le154).trans le200))))))
            refine WL.val rfl rfl rfl (ov_lenL rfl t_slice_22) <| WL.val rfl rfl rfl (ov_gtr rfl rfl) <| WL.val rfl rfl rfl (ov_pickT rfl rfl) <| WL.val rfl rfl rfl (ov_pickF rfl rfl) <| WL.nil <| WC.to [0, 2, 4, 138] [(0, .pointer (some ⟨b1, 0, none⟩)), (2, .int .i64 x9), (4, .pointer (some ⟨b24, 0, none⟩)), (138, .bool (decide ((0 : Int) < (x6.other.length : Int))))] rfl ?_
            exact J246 ⟨h198, decide ((0 : Int) < (x6.other.length : Int)), HF, rfl, S201, Hle.refl _, ob202, ob203⟩
           ·replace HF := bif_f hb216 HF
            refine WL.pass rfl rfl rfl <| WL.pass rfl rfl rfl <| WL.pass rfl rfl rfl <| WL.pass rfl rfl rfl <| WL.val rfl rfl rfl (ov_pickF rfl rfl) <| WL.val rfl rfl rfl (ov_pickF rfl rfl) <| WL.nil <| WC.to [0, 2, 4, 138] [(0, .pointer (some ⟨b1, 0, none⟩)), (2, .int .i64 x9), (4, .pointer (some ⟨b24, 0, none⟩)), (138, .bool false)] rfl ?_
            exact J246 ⟨h198, false, HF, rfl, S201, Hle.refl _, ob202, ob203⟩
        ·replace HF := bif_f hb210 HF
         refine WL.pass rfl rfl rfl <| WL.pass rfl rfl rfl <| WL.pass rfl rfl rfl <| WL.pass rfl rfl rfl <| WL.pass rfl rfl rfl <| WL.pass rfl rfl rfl <| WL.pass rfl rfl rfl <| WL.pass rfl rfl rfl <| WL.val rfl rfl rfl (ov_pickF rfl rfl) <| WL.val rfl rfl rfl (ov_pickF rfl rfl) <| WL.val rfl rfl rfl (ov_move rfl) <| WL.val rfl rfl rfl (ov_fieldAddr rfl t_field_44_9) <| WL.val rfl rfl rfl (ov_load1 rfl t_agg_4 (OB.cell ob203 (j := 9) rfl)) <| WL.val rfl rfl rfl (ov_not rfl) <| WL.val rfl rfl rfl (ov_move rfl) <| WL.split 132 (b := !x6.els) rfl (fun hb220 => ?_) (fun hb220 => ?_)
         ·replace HF := bif_t hb220 HF
          refine WL.val rfl rfl rfl (ov_fieldAddr rfl t_field_44_8) <| WL.val rfl rfl rfl (ov_load1 rfl t_agg_22 (OB.cell ob203 (j := 8) rfl)) ?_
          obtain ⟨A221, c222, rfl, rs223⟩ := RS.form (rs22.mono ((s26.le).trans ((s40.le).trans ((s47.le).trans ((le107).trans ((le154).trans le200))))))
          refine WL.val rfl rfl rfl (ov_lenL rfl t_slice_22) <| WL.val rfl rfl rfl (ov_gtr rfl rfl) <| WL.val rfl rfl rfl (ov_pickT rfl rfl) <| WL.val rfl rfl rfl (ov_pickF rfl rfl) <| WL.nil <| WC.to [0, 2, 4, 138] [(0, .pointer (some ⟨b1, 0, none⟩)), (2, .int .i64 x9), (4, .pointer (some ⟨b24, 0, none⟩)), (138, .bool (decide ((0 : Int) < (x6.other.length : Int))))] rfl ?_
          exact J246 ⟨h198, decide ((0 : Int) < (x6.other.length : Int)), HF, rfl, S201, Hle.refl _, ob202, ob203⟩
         ·replace HF := bif_f hb220 HF
          refine WL.pass rfl rfl rfl <| WL.pass rfl rfl rfl <| WL.pass rfl rfl rfl <| WL.pass rfl rfl rfl <| WL.val rfl rfl rfl (ov_pickF rfl rfl) <| WL.val rfl rfl rfl (ov_pickF rfl rfl) <| WL.nil <| WC.to [0, 2, 4, 138] [(0, .pointer (some ⟨b1, 0, none⟩)), (2, .int .i64 x9), (4, .pointer (some ⟨b24, 0, none⟩)), (138, .bool false)] rfl ?_
          exact J246 ⟨h198, false, HF, rfl, S201, Hle.refl _, ob202, ob203⟩
      ·replace HF := bif_f hb205 HF
       refine WL.pass rfl rfl rfl <| WL.pass rfl rfl rfl <| WL.pass rfl rfl rfl <| WL.pass rfl rfl rfl <| WL.val rfl rfl rfl (ov_pickF rfl rfl) <| WL.val rfl rfl rfl (ov_move rfl) <| WL.val rfl rfl rfl (ov_fieldAddr rfl t_field_128_4) <| WL.val rfl rfl rfl (ov_load1 rfl t_agg_4 (OB.cell ob204 (j := 4) rfl)) <| WL.val rfl rfl rfl (ov_not rfl) <| WL.val rfl rfl rfl (ov_move rfl) <| WL.split 117 (b := !((r34.getD (false, 0, 0, false, false)).2.2.2.2)) rfl (fun hb224 => ?_) (fun hb224 => ?_)
       ·replace HF := bif_t hb224 HF
        refine WL.val rfl rfl rfl (ov_fieldAddr rfl t_field_44_7) <| WL.val rfl rfl rfl (ov_load1 rfl t_agg_42 (OB.cell ob203 (j := 7) rfl)) ?_
        obtain ⟨A225, c226, rfl, rs227⟩ := RS.form (rs20.mono ((s26.le).trans ((s40.le).trans ((s47.le).trans ((le107).trans ((le154).trans le200))))))
        refine WL.val rfl rfl rfl (ov_lenL rfl t_slice_42) <| WL.val rfl rfl rfl (ov_gtr rfl rfl) <| WL.val rfl rfl rfl (ov_move rfl) <| WL.split 122 (b := decide ((0 : Int) < (x6.arms.length : Int))) rfl (fun hb228 => ?_) (fun hb228 => ?_)
        ·replace HF := bif_t hb228 HF
         refine WL.pass rfl rfl rfl <| WL.pass rfl rfl rfl <| WL.val rfl rfl rfl (ov_pickT rfl rfl) <| WL.val rfl rfl rfl (ov_pickT rfl rfl) <| WL.val rfl rfl rfl (ov_pickF rfl rfl) <| WL.val rfl rfl rfl (ov_move rfl) <| WL.pass rfl rfl rfl <| WL.pass rfl rfl rfl <| WL.pass rfl rfl rfl <| WL.pass rfl rfl rfl <| WL.pass rfl rfl rfl <| WL.pass rfl rfl rfl <| WL.pass rfl rfl rfl <| WL.pass rfl rfl rfl <| WL.pass rfl rfl rfl <| WL.val rfl rfl rfl (ov_pickT rfl rfl) <| WL.nil <| WC.to [0, 2, 4, 138] [(0, .pointer (some ⟨b1, 0, none⟩)), (2, .int .i64 x9), (4, .pointer (some ⟨b24, 0, none⟩)), (138, .bool true)] rfl ?_
         exact J246 ⟨h198, true, HF, rfl, S201, Hle.refl _, ob202, ob203⟩
        ·replace HF := bif_f hb228 HF
         refine WL.val rfl rfl rfl (ov_fieldAddr rfl t_field_44_9) <| WL.val rfl rfl rfl (ov_load1 rfl t_agg_4 (OB.cell ob203 (j := 9) rfl)) <| WL.val rfl rfl rfl (ov_pickF rfl rfl) <| WL.val rfl rfl rfl (ov_pickT rfl rfl) <| WL.val rfl rfl rfl (ov_pickF rfl rfl) <| WL.val rfl rfl rfl (ov_move rfl) <| WL.split 128 (b := x6.els) rfl (fun hb229 => ?_) (fun hb229 => ?_)
         ·replace HF := bif_t hb229 HF
          refine WL.pass rfl rfl rfl <| WL.pass rfl rfl rfl <| WL.pass rfl rfl rfl <| WL.pass rfl rfl rfl <| WL.pass rfl rfl rfl <| WL.pass rfl rfl rfl <| WL.pass rfl rfl rfl <| WL.pass rfl rfl rfl <| WL.pass rfl rfl rfl <| WL.val rfl rfl rfl (ov_pickT rfl rfl) <| WL.nil <| WC.to [0, 2, 4, 138] [(0, .pointer (some ⟨b1, 0, none⟩)), (2, .int .i64 x9), (4, .pointer (some ⟨b24, 0, none⟩)), (138, .bool true)] rfl ?_
          exact J246 ⟨h198, true, HF, rfl, S201, Hle.refl _, ob202, ob203⟩
         ·replace HF := bif_f hb229 HF
          refine WL.val rfl rfl rfl (ov_fieldAddr rfl t_field_44_9) <| WL.val rfl rfl rfl (ov_load1 rfl t_agg_4 (OB.cell ob203 (j := 9) rfl)) <| WL.val rfl rfl rfl (ov_not rfl) <| WL.val rfl rfl rfl (ov_move rfl) <| WL.split 132 (b := !x6.els) rfl (fun hb230 => ?_) (fun hb230 => ?_)
          ·replace HF := bif_t hb230 HF
           refine WL.val rfl rfl rfl (ov_fieldAddr rfl t_field_44_8) <| WL.val rfl rfl rfl (ov_load1 rfl t_agg_22 (OB.cell ob203 (j := 8) rfl)) ?_
           obtain ⟨A231, c232, rfl, rs233⟩ := RS.form (rs22.mono ((s26.le).trans ((s40.le).trans ((s47.le).trans ((le107).trans ((le154).trans le200))))))
           refine WL.val rfl rfl rfl (ov_lenL rfl t_slice_22) <| WL.val rfl rfl rfl (ov_gtr rfl rfl) <| WL.val rfl rfl rfl (ov_pickT rfl rfl) <| WL.val rfl rfl rfl (ov_pickF rfl rfl) <| WL.nil <| WC.to [0, 2, 4, 138] [(0, .pointer (some ⟨b1, 0, none⟩)), (2, .int .i64 x9), (4, .pointer (some ⟨b24, 0, none⟩)), (138, .bool (decide ((0 : Int) < (x6.other.length : Int))))] rfl ?_
           exact J246 ⟨h198, decide ((0 : Int) < (x6.other.length : Int)), HF, rfl, S201, Hle.refl _, ob202, ob203⟩
          ·replace HF := bif_f hb230 HF
           refine WL.pass rfl rfl rfl <| WL.pass rfl rfl rfl <| WL.pass rfl rfl rfl <| WL.pass rfl rfl rfl <| WL.val rfl rfl rfl (ov_pickF rfl rfl) <| WL.val rfl rfl rfl (ov_pickF rfl rfl) <| WL.nil <| WC.to [0, 2, 4, 138] [(0, .pointer (some ⟨b1, 0, none⟩)), (2, .int .i64 x9), (4, .pointer (some ⟨b24, 0, none⟩)), (138, .bool false)] rfl ?_
           exact J246 ⟨h198, false, HF, rfl, S201, Hle.refl _, ob202, ob203⟩
       ·replace HF := bif_f hb224 HF
        refine WL.pass rfl rfl rfl <| WL.pass rfl rfl rfl <| WL.pass rfl rfl rfl <| WL.pass rfl rfl rfl <| WL.pass rfl rfl rfl <| WL.pass rfl rfl rfl <| WL.pass rfl rfl rfl <| WL.pass rfl rfl rfl <| WL.val rfl rfl rfl (ov_pickF rfl rfl) <| WL.val rfl rfl rfl (ov_pickF rfl rfl) <| WL.val rfl rfl rfl (ov_move rfl) <| WL.val rfl rfl rfl (ov_fieldAddr rfl t_field_44_9) <| WL.val rfl rfl rfl (ov_load1 rfl t_agg_4 (OB.cell ob203 (j := 9) rfl)) <| WL.val rfl rfl rfl (ov_not rfl) <| WL.val rfl rfl rfl (ov_move rfl) <| WL.split 132 (b := !x6.els) rfl (fun hb234 => ?_) (fun hb234 => ?_)
        ·replace HF := bif_t hb234 HF
         refine WL.val rfl rfl rfl (ov_fieldAddr rfl t_field_44_8) <| WL.val rfl rfl rfl (ov_load1 rfl t_agg_22 (OB.cell ob203 (j := 8) rfl)) ?_
         obtain ⟨A235, c236, rfl, rs237⟩ := RS.form (rs22.mono ((s26.le).trans ((s40.le).trans ((s47.le).trans ((le107).trans ((le154).trans le200))))))
         refine WL.val rfl rfl rfl (ov_lenL rfl t_slice_22) <| WL.val rfl rfl rfl (ov_gtr rfl rfl) <| WL.val rfl rfl rfl (ov_pickT rfl rfl) <| WL.val rfl rfl rfl (ov_pickF rfl rfl) <| WL.nil <| WC.to [0, 2, 4, 138] [(0, .pointer (some ⟨b1, 0, none⟩)), (2, .int .i64 x9), (4, .pointer (some ⟨b24, 0, none⟩)), (138, .bool (decide ((0 : Int) < (x6.other.length : Int))))] rfl ?_
         exact J246 ⟨h198, decide ((0 : Int) < (x6.other.length : Int)), HF, rfl, S201, Hle.refl _, ob202, ob203⟩
        ·replace HF := bif_f hb234 HF
         refine WL.pass rfl rfl rfl <| WL.pass rfl rfl rfl <| WL.pass rfl rfl rfl <| WL.pass rfl rfl rfl <| WL.val rfl rfl rfl (ov_pickF rfl rfl) <| WL.val rfl rfl rfl (ov_pickF rfl rfl) <| WL.nil <| WC.to [0, 2, 4, 138] [(0, .pointer (some ⟨b1, 0, none⟩)), (2, .int .i64 x9), (4, .pointer (some ⟨b24, 0, none⟩)), (138, .bool false)] rfl ?_
         exact J246 ⟨h198, false, HF, rfl, S201, Hle.refl _, ob202, ob203⟩
   ·intro J359
    refine WC.join (fun E w182 => ∃ (h181 : Hp) (x185 : Bool), ast_Counter_stmt_j5 k (tie_ast_Counter_Text k) x6 x9 r34 x109 x110 x185 = some r ∧ E = [(0, .pointer (some ⟨b1, 0, none⟩)), (2, .int .i64 x9), (4, .pointer (some ⟨b24, 0, none⟩)), (7, .pointer (some ⟨b38, 0, none⟩)), (103, .bool x185)] ∧ Stp [b1] w0 h0 w182 h181 ∧ Hle h152 h181 ∧ OB w182 h181 b1 T2 [.int .i64 x109, .int .i64 x110] ∧ OB w182 h181 b24 44 [.int .i64 x6.op, .string x6.name, v11, v13, v15, .int .i64 x6.n, v17, v19, v21, .bool x6.els] ∧ OB w182 h181 b38 128 [.bool ((r34.getD (false, 0, 0, false, false)).1), .int .i64 ((r34.getD (false, 0, 0, false, false)).2.1), .int .i64 ((r34.getD (false, 0, 0, false, false)).2.2.1), .bool ((r34.getD (false, 0, 0, false, false)).2.2.2.1), .bool ((r34.getD (false, 0, 0, false, false)).2.2.2.2)]) ?_ ?_
    ·rintro E w182 ⟨h181, x185, HF, rfl, S184, le183, ob186, ob187, ob188⟩
     refine WC.cond (b := x185) rfl (fun hb189 => ?_) (fun hb189 => ?_)
     ·replace HF := bif_t hb189 HF
      refine WC.seq <| WC.region <| WL.val rfl rfl rfl (ov_assign rfl) <| WL.nil <| WQ.seqN <| WC.ret <| WQ.thenRet <| WQ.ret1 rfl rfl ?_
      obtain rfl := Option.some.inj HF
      exact ⟨_, rfl, h181, S184, rfl, ob186⟩
     ·replace HF := bif_f hb189 HF
      refine WC.skip <| WC.to [0, 2, 4, 7] [(0, .pointer (some ⟨b1, 0, none⟩)), (2, .int .i64 x9), (4, .pointer (some ⟨b24, 0, none⟩)), (7, .pointer (some ⟨b38, 0, none⟩))] rfl ?_
      exact J359 ⟨h181, HF, rfl, S184, le183, ob186, ob187, ob188⟩
    ·intro J190
     refine WC.region <| WL.val rfl rfl rfl (ov_fieldAddr rfl t_field_44_0) <| WL.val rfl rfl rfl (ov_load1 rfl t_agg_3 (OB.cell ob157 (j := 0) rfl)) <| WL.val rfl rfl rfl (ov_eql rfl rfl) <| WL.val rfl rfl rfl (ov_move rfl) <| WL.split 78 (b := (x6.op : Int) == 2) rfl (fun hb159 => ?_) (fun hb159 => ?_)
     ·replace HF := bif_t hb159 HF
      refine WL.val rfl rfl rfl (ov_fieldAddr rfl t_field_44_3) <| WL.val rfl rfl rfl (ov_load1 rfl t_agg_41 (OB.cell ob157 (j := 3) rfl)) ?_
      obtain ⟨A160, c161, rfl, rs162⟩ := RS.form (rs14.mono ((s26.le).trans ((s40.le).trans ((s47.le).trans ((le107).trans le154)))))
      refine WL.val rfl rfl rfl (ov_lenL rfl t_slice_41) <| WL.val rfl rfl rfl (ov_fieldAddr rfl t_field_44_4) <| WL.val rfl rfl rfl (ov_load1 rfl t_agg_30 (OB.cell ob157 (j := 4) rfl)) ?_
      obtain ⟨A163, c164, rfl, rs165⟩ := RS.form (rs16.mono ((s26.le).trans ((s40.le).trans ((s47.le).trans ((le107).trans le154)))))
      refine WL.val rfl rfl rfl (ov_lenL rfl t_slice_30) <| WL.val rfl rfl rfl (ov_neq rfl rfl) <| WL.val rfl rfl rfl (ov_move rfl) <| WL.split 86 (b := ((x6.fields.length : Int) : Int) != (x6.args.length : Int)) rfl (fun hb166 => ?_) (fun hb166 => ?_)
      ·replace HF := bif_t hb166 HF
       refine WL.pass rfl rfl rfl <| WL.pass rfl rfl rfl <| WL.pass rfl rfl rfl <| WL.pass rfl rfl rfl <| WL.val rfl rfl rfl (ov_pickT rfl rfl) <| WL.val rfl rfl rfl (ov_pickT rfl rfl) <| WL.val rfl rfl rfl (ov_move rfl) <| WL.pass rfl rfl rfl <| WL.pass rfl rfl rfl <| WL.pass rfl rfl rfl <| WL.pass rfl rfl rfl <| WL.pass rfl rfl rfl <| WL.pass rfl rfl rfl <| WL.pass rfl rfl rfl <| WL.pass rfl rfl rfl <| WL.pass rfl rfl rfl <| WL.val rfl rfl rfl (ov_pickT rfl rfl) <| WL.nil <| WC.to [0, 2, 4, 7, 103] [(0, .pointer (some ⟨b1, 0, none⟩)), (2, .int .i64 x9), (4, .pointer (some ⟨b24, 0, none⟩)), (7, .pointer (some ⟨b38, 0, none⟩)), (103, .bool true)] rfl ?_
       exact J190 ⟨h152, true, HF, rfl, S155, Hle.refl _, ob156, ob157, ob158⟩
      ·replace HF := bif_f hb166 HF
       refine WL.val rfl rfl rfl (ov_fieldAddr rfl t_field_44_3) <| WL.val rfl rfl rfl (ov_load1 rfl t_agg_41 (OB.cell ob157 (j := 3) rfl)) ?_
       obtain ⟨r167, hr168, HF⟩ := bind_some HF
       refine WL.call rfl rfl rfl (oc_func (vs := [.slice A160 (x6.fields).length c161]) rfl t_ent_86) (ok_ast_AreNames _ hr168 S155.sub rs162) ?_
       rintro _ w170 ⟨h171, s172, rfl⟩
       have S173 := S155.trans0 s172
       refine WL.val rfl rfl rfl (ov_not rfl) <| WL.val rfl rfl rfl (ov_pickF rfl rfl) <| WL.val rfl rfl rfl (ov_pickT rfl rfl) <| WL.val rfl rfl rfl (ov_move rfl) <| WL.split 93 (b := !r167) rfl (fun hb174 => ?_) (fun hb174 => ?_)
       ·replace HF := bif_t hb174 HF
        refine WL.pass rfl rfl rfl <| WL.pass rfl rfl rfl <| WL.pass rfl rfl rfl <| WL.pass rfl rfl rfl <| WL.pass rfl rfl rfl <| WL.pass rfl rfl rfl <| WL.pass rfl rfl rfl <| WL.pass rfl rfl rfl <| WL.pass rfl rfl rfl <| WL.val rfl rfl rfl (ov_pickT rfl rfl) <| WL.nil ?_
        have ob191 := (ob156.step0 s172)
        have ob192 := (ob157.step0 s172)
        have ob193 := (ob158.step0 s172)
        refine WC.to [0, 2, 4, 7, 103] [(0, .pointer (some ⟨b1, 0, none⟩)), (2, .int .i64 x9), (4, .pointer (some ⟨b24, 0, none⟩)), (7, .pointer (some ⟨b38, 0, none⟩)), (103, .bool true)] rfl ?_
        exact J190 ⟨h171, true, HF, rfl, S173, s172.le, ob191, ob192, ob193⟩
       ·replace HF := bif_f hb174 HF
        refine WL.val rfl rfl rfl (ov_fieldAddr rfl t_field_44_0) ?_
        have ob175 := (ob157.step0 s172)
        refine WL.val rfl rfl rfl (ov_load1 rfl t_agg_3 (OB.cell ob175 (j := 0) rfl)) <| WL.val rfl rfl rfl (ov_neq rfl rfl) <| WL.val rfl rfl rfl (ov_move rfl) <| WL.split 97 (b := (x6.op : Int) != 2) rfl (fun hb176 => ?_) (fun hb176 => ?_)
        ·replace HF := bif_t hb176 HF
         refine WL.val rfl rfl rfl (ov_fieldAddr rfl t_field_44_3) <| WL.val rfl rfl rfl (ov_load1 rfl t_agg_41 (OB.cell ob175 (j := 3) rfl)) <| WL.val rfl rfl rfl (ov_lenL rfl t_slice_41) <| WL.val rfl rfl rfl (ov_gtr rfl rfl) <| WL.val rfl rfl rfl (ov_pickT rfl rfl) <| WL.val rfl rfl rfl (ov_pickF rfl rfl) <| WL.nil ?_
         have ob194 := (ob156.step0 s172)
         have ob195 := (ob158.step0 s172)
         refine WC.to [0, 2, 4, 7, 103] [(0, .pointer (some ⟨b1, 0, none⟩)), (2, .int .i64 x9), (4, .pointer (some ⟨b24, 0, none⟩)), (7, .pointer (some ⟨b38, 0, none⟩)), (103, .bool (decide ((0 : Int) < (x6.fields.length : Int))))] rfl ?_
         exact J190 ⟨h171, decide ((0 : Int) < (x6.fields.length : Int)), HF, rfl, S173, s172.le, ob194, ob175, ob195⟩
        ·replace HF := bif_f hb176 HF
         refine WL.pass rfl rfl rfl <| WL.pass rfl rfl rfl <| WL.pass rfl rfl rfl <| WL.pass rfl rfl rfl <| WL.val rfl rfl rfl (ov_pickF rfl rfl) <| WL.val rfl rfl rfl (ov_pickF rfl rfl) <| WL.nil ?_
         have ob196 := (ob156.step0 s172)
         have ob197 := (ob158.step0 s172)
         refine WC.to [0, 2, 4, 7, 103] [(0, .pointer (some ⟨b1, 0, none⟩)), (2, .int .i64 x9), (4, .pointer (some ⟨b24, 0, none⟩)), (7, .pointer (some ⟨b38, 0, none⟩)), (103, .bool false)] rfl ?_
         exact J190 ⟨h171, false, HF, rfl, S173, s172.le, ob196, ob175, ob197⟩
     ·replace HF := bif_f hb159 HF
      refine WL.pass rfl rfl rfl <| WL.pass rfl rfl rfl <| WL.pass rfl rfl rfl <| WL.pass rfl rfl rfl <| WL.pass rfl rfl rfl <| WL.pass rfl rfl rfl <| WL.pass rfl rfl rfl <| WL.pass rfl rfl rfl <| WL.pass rfl rfl rfl <| WL.pass rfl rfl rfl <| WL.pass rfl rfl rfl <| WL.pass rfl rfl rfl <| WL.pass rfl rfl rfl <| WL.val rfl rfl rfl (ov_pickF rfl rfl) <| WL.val rfl rfl rfl (ov_move rfl) <| WL.val rfl rfl rfl (ov_fieldAddr rfl t_field_44_0) <| WL.val rfl rfl rfl (ov_load1 rfl t_agg_3 (OB.cell ob157 (j := 0) rfl)) <| WL.val rfl rfl rfl (ov_neq rfl rfl) <| WL.val rfl rfl rfl (ov_move rfl) <| WL.split 97 (b := (x6.op : Int) != 2) rfl (fun hb177 => ?_) (fun hb177 => ?_)
      ·replace HF := bif_t hb177 HF
       refine WL.val rfl rfl rfl (ov_fieldAddr rfl t_field_44_3) <| WL.val rfl rfl rfl (ov_load1 rfl t_agg_41 (OB.cell ob157 (j := 3) rfl)) ?_
       obtain ⟨A178, c179, rfl, rs180⟩ := RS.form (rs14.mono ((s26.le).trans ((s40.le).trans ((s47.le).trans ((le107).trans le154)))))
       refine WL.val rfl rfl rfl (ov_lenL rfl t_slice_41) <| WL.val rfl rfl rfl (ov_gtr rfl rfl) <| WL.val rfl rfl rfl (ov_pickT rfl rfl) <| WL.val rfl rfl rfl (ov_pickF rfl rfl) <| WL.nil <| WC.to [0, 2, 4, 7, 103] [(0, .pointer (some ⟨b1, 0, none⟩)), (2, .int .i64 x9), (4, .pointer (some ⟨b24, 0, none⟩)), (7, .pointer (some ⟨b38, 0, none⟩)), (103, .bool (decide ((0 : Int) < (x6.fields.length : Int))))] rfl ?_
       exact J190 ⟨h152, decide ((0 : Int) < (x6.fields.length : Int)), HF, rfl, S155, Hle.refl _, ob156, ob157, ob158⟩
      ·replace HF := bif_f hb177 HF
       refine WL.pass rfl rfl rfl <| WL.pass rfl rfl rfl <| WL.pass rfl rfl rfl <| WL.pass rfl rfl rfl <| WL.val rfl rfl rfl (ov_pickF rfl rfl) <| WL.val rfl rfl rfl (ov_pickF rfl rfl) <| WL.nil <| WC.to [0, 2, 4, 7, 103] [(0, .pointer (some ⟨b1, 0, none⟩)), (2, .int .i64 x9), (4, .pointer (some ⟨b24, 0, none⟩)), (7, .pointer (some ⟨b38, 0, none⟩)), (103, .bool false)] rfl ?_
       exact J190 ⟨h152, false, HF, rfl, S155, Hle.refl _, ob156, ob157, ob158⟩
  ·intro J360
   refine WC.join (fun E w137 => ∃ (h136 : Hp) (x140 : Bool), ast_Counter_stmt_j3 k (tie_ast_Counter_Text k) x6 x9 r34 x109 x110 x140 = some r ∧ E = [(0, .pointer (some ⟨b1, 0, none⟩)), (2, .int .i64 x9), (4, .pointer (some ⟨b24, 0, none⟩)), (7, .pointer (some ⟨b38, 0, none⟩)), (74, .bool x140)] ∧ Stp [b1] w0 h0 w137 h136 ∧ Hle h105 h136 ∧ OB w137 h136 b1 T2 [.int .i64 x109, .int .i64 x110] ∧ OB w137 h136 b24 44 [.int .i64 x6.op, .string x6.name, v11, v13, v15, .int .i64 x6.n, v17, v19, v21, .bool x6.els] ∧ OB w137 h136 b38 128 [.bool ((r34.getD (false, 0, 0, false, false)).1), .int .i64 ((r34.getD (false, 0, 0, false, false)).2.1), .int .i64 ((r34.getD (false, 0, 0, false, false)).2.2.1), .bool ((r34.getD (false, 0, 0, false, false)).2.2.2.1), .bool ((r34.getD (false, 0, 0, false, false)).2.2.2.2)]) ?_ ?_
   ·rintro E w137 ⟨h136, x140, HF, rfl, S139, le138, ob141, ob142, ob143⟩
    refine WC.cond (b := x140) rfl (fun hb144 => ?_) (fun hb144 => ?_)
    ·replace HF := bif_t hb144 HF
     refine WC.seq <| WC.region <| WL.val rfl rfl rfl (ov_assign rfl) <| WL.nil <| WQ.seqN <| WC.ret <| WQ.thenRet <| WQ.ret1 rfl rfl ?_
     obtain rfl := Option.some.inj HF
     exact ⟨_, rfl, h136, S139, rfl, ob141⟩
    ·replace HF := bif_f hb144 HF
     refine WC.skip <| WC.to [0, 2, 4, 7] [(0, .pointer (some ⟨b1, 0, none⟩)), (2, .int .i64 x9), (4, .pointer (some ⟨b24, 0, none⟩)), (7, .pointer (some ⟨b38, 0, none⟩))] rfl ?_
     exact J360 ⟨h136, HF, rfl, S139, le138, ob141, ob142, ob143⟩
   ·intro J145
    refine WC.region <| WL.val rfl rfl rfl (ov_fieldAddr rfl t_field_44_2) <| WL.val rfl rfl rfl (ov_load1 rfl t_agg_30 (OB.cell ob112 (j := 2) rfl)) ?_
    obtain ⟨A114, c115, rfl, rs116⟩ := RS.form (rs12.mono ((s26.le).trans ((s40.le).trans ((s47.le).trans le107))))
    refine WL.val rfl rfl rfl (ov_lenL rfl t_slice_30) <| WL.val rfl rfl rfl (ov_gtr rfl rfl) <| WL.val rfl rfl rfl (ov_move rfl) <| WL.split 49 (b := decide ((0 : Int) < (x6.index.length : Int))) rfl (fun hb117 => ?_) (fun hb117 => ?_)
    ·replace HF := bif_t hb117 HF
     refine WL.val rfl rfl rfl (ov_fieldAddr rfl t_field_44_0) <| WL.val rfl rfl rfl (ov_load1 rfl t_agg_3 (OB.cell ob112 (j := 0) rfl)) <| WL.val rfl rfl rfl (ov_neq rfl rfl) <| WL.val rfl rfl rfl (ov_move rfl) <| WL.split 53 (b := (x6.op : Int) != 1) rfl (fun hb118 => ?_) (fun hb118 => ?_)
     ·replace HF := bif_t hb118 HF
      refine WL.pass rfl rfl rfl <| WL.pass rfl rfl rfl <| WL.pass rfl rfl rfl <| WL.pass rfl rfl rfl <| WL.val rfl rfl rfl (ov_pickT rfl rfl) <| WL.val rfl rfl rfl (ov_pickT rfl rfl) <| WL.val rfl rfl rfl (ov_move rfl) <| WL.pass rfl rfl rfl <| WL.pass rfl rfl rfl <| WL.pass rfl rfl rfl <| WL.pass rfl rfl rfl <| WL.pass rfl rfl rfl <| WL.pass rfl rfl rfl <| WL.pass rfl rfl rfl <| WL.val rfl rfl rfl (ov_pickT rfl rfl) <| WL.val rfl rfl rfl (ov_move rfl) <| WL.pass rfl rfl rfl <| WL.pass rfl rfl rfl <| WL.pass rfl rfl rfl <| WL.pass rfl rfl rfl <| WL.val rfl rfl rfl (ov_pickT rfl rfl) <| WL.nil <| WC.to [0, 2, 4, 7, 74] [(0, .pointer (some ⟨b1, 0, none⟩)), (2, .int .i64 x9), (4, .pointer (some ⟨b24, 0, none⟩)), (7, .pointer (some ⟨b38, 0, none⟩)), (74, .bool true)] rfl ?_
      exact J145 ⟨h105, true, HF, rfl, S108, Hle.refl _, ob111, ob112, ob113⟩
     ·replace HF := bif_f hb118 HF
      refine WL.val rfl rfl rfl (ov_fieldAddr rfl t_field_44_2) <| WL.val rfl rfl rfl (ov_load1 rfl t_agg_30 (OB.cell ob112 (j := 2) rfl)) <| WL.val rfl rfl rfl (ov_lenL rfl t_slice_30) <| WL.val rfl rfl rfl (ov_gtr rfl rfl) <| WL.val rfl rfl rfl (ov_pickF rfl rfl) <| WL.val rfl rfl rfl (ov_pickT rfl rfl) <| WL.val rfl rfl rfl (ov_move rfl) <| WL.split 60 (b := decide ((1 : Int) < (x6.index.length : Int))) rfl (fun hb119 => ?_) (fun hb119 => ?_)
      ·replace HF := bif_t hb119 HF
       refine WL.pass rfl rfl rfl <| WL.pass rfl rfl rfl <| WL.pass rfl rfl rfl <| WL.pass rfl rfl rfl <| WL.pass rfl rfl rfl <| WL.pass rfl rfl rfl <| WL.pass rfl rfl rfl <| WL.val rfl rfl rfl (ov_pickT rfl rfl) <| WL.val rfl rfl rfl (ov_move rfl) <| WL.pass rfl rfl rfl <| WL.pass rfl rfl rfl <| WL.pass rfl rfl rfl <| WL.pass rfl rfl rfl <| WL.val rfl rfl rfl (ov_pickT rfl rfl) <| WL.nil <| WC.to [0, 2, 4, 7, 74] [(0, .pointer (some ⟨b1, 0, none⟩)), (2, .int .i64 x9), (4, .pointer (some ⟨b24, 0, none⟩)), (7, .pointer (some ⟨b38, 0, none⟩)), (74, .bool true)] rfl ?_
       exact J145 ⟨h105, true, HF, rfl, S108, Hle.refl _, ob111, ob112, ob113⟩
      ·replace HF := bif_f hb119 HF
       refine WL.val rfl rfl rfl (ov_fieldAddr rfl t_field_44_0) <| WL.val rfl rfl rfl (ov_load1 rfl t_agg_3 (OB.cell ob112 (j := 0) rfl)) <| WL.val rfl rfl rfl (ov_eql rfl rfl) <| WL.val rfl rfl rfl (ov_fieldAddr rfl t_field_44_5) <| WL.val rfl rfl rfl (ov_load1 rfl t_agg_3 (OB.cell ob112 (j := 5) rfl)) <| WL.val rfl rfl rfl (ov_neq rfl rfl) <| WL.val rfl rfl rfl (ov_neqB rfl rfl t_bool_4) <| WL.val rfl rfl rfl (ov_pickF rfl rfl) <| WL.val rfl rfl rfl (ov_move rfl) <| WL.split 69 (b := !(((x6.op : Int) == 5) == ((x6.n : Int) != 0))) rfl (fun hb120 => ?_) (fun hb120 => ?_)
       ·replace HF := bif_t hb120 HF
        refine WL.pass rfl rfl rfl <| WL.pass rfl rfl rfl <| WL.pass rfl rfl rfl <| WL.pass rfl rfl rfl <| WL.val rfl rfl rfl (ov_pickT rfl rfl) <| WL.nil <| WC.to [0, 2, 4, 7, 74] [(0, .pointer (some ⟨b1, 0, none⟩)), (2, .int .i64 x9), (4, .pointer (some ⟨b24, 0, none⟩)), (7, .pointer (some ⟨b38, 0, none⟩)), (74, .bool true)] rfl ?_
        exact J145 ⟨h105, true, HF, rfl, S108, Hle.refl _, ob111, ob112, ob113⟩
       ·replace HF := bif_f hb120 HF
        refine WL.val rfl rfl rfl (ov_fieldAddr rfl t_field_44_5) <| WL.val rfl rfl rfl (ov_load1 rfl t_agg_3 (OB.cell ob112 (j := 5) rfl)) ?_
        obtain ⟨r121, hr122, HF⟩ := bind_some HF
        refine WL.call rfl rfl rfl (oc_func (vs := [.int .i64 x6.n]) rfl t_ent_34) (ok_ast_IsLabel _ hr122 S108.sub) ?_
        rintro _ w124 ⟨h125, s126, rfl⟩
        have S127 := S108.trans0 s126
        refine WL.val rfl rfl rfl (ov_not rfl) <| WL.val rfl rfl rfl (ov_pickF rfl rfl) <| WL.nil ?_
        have ob146 := (ob111.step0 s126)
        have ob147 := (ob112.step0 s126)
        have ob148 := (ob113.step0 s126)
        refine WC.to [0, 2, 4, 7, 74] [(0, .pointer (some ⟨b1, 0, none⟩)), (2, .int .i64 x9), (4, .pointer (some ⟨b24, 0, none⟩)), (7, .pointer (some ⟨b38, 0, none⟩)), (74, .bool (!r121))] rfl ?_
        exact J145 ⟨h125, !r121, HF, rfl, S127, s126.le, ob146, ob147, ob148⟩
    ·replace HF := bif_f hb117 HF
     refine WL.pass rfl rfl rfl <| WL.pass rfl rfl rfl <| WL.pass rfl rfl rfl <| WL.pass rfl rfl rfl <| WL.pass rfl rfl rfl <| WL.pass rfl rfl rfl <| WL.pass rfl rfl rfl <| WL.pass rfl rfl rfl <| WL.pass rfl rfl rfl <| WL.val rfl rfl rfl (ov_pickF rfl rfl) <| WL.val rfl rfl rfl (ov_move rfl) <| WL.val rfl rfl rfl (ov_fieldAddr rfl t_field_44_0) <| WL.val rfl rfl rfl (ov_load1 rfl t_agg_3 (OB.cell ob112 (j := 0) rfl)) <| WL.val rfl rfl rfl (ov_eql rfl rfl) <| WL.val rfl rfl rfl (ov_fieldAddr rfl t_field_44_5) <| WL.val rfl rfl rfl (ov_load1 rfl t_agg_3 (OB.cell ob112 (j := 5) rfl)) <| WL.val rfl rfl rfl (ov_neq rfl rfl) <| WL.val rfl rfl rfl (ov_neqB rfl rfl t_bool_4) <| WL.val rfl rfl rfl (ov_pickF rfl rfl) <| WL.val rfl rfl rfl (ov_move rfl) <| WL.split 69 (b := !(((x6.op : Int) == 5) == ((x6.n : Int) != 0))) rfl (fun hb128 => ?_) (fun hb128 => ?_)
     ·replace HF := bif_t hb128 HF
      refine WL.pass rfl rfl rfl <| WL.pass rfl rfl rfl <| WL.pass rfl rfl rfl <| WL.pass rfl rfl rfl <| WL.val rfl rfl rfl (ov_pickT rfl rfl) <| WL.nil <| WC.to [0, 2, 4, 7, 74] [(0, .pointer (some ⟨b1, 0, none⟩)), (2, .int .i64 x9), (4, .pointer (some ⟨b24, 0, none⟩)), (7, .pointer (some ⟨b38, 0, none⟩)), (74, .bool true)] rfl ?_
      exact J145 ⟨h105, true, HF, rfl, S108, Hle.refl _, ob111, ob112, ob113⟩
     ·replace HF := bif_f hb128 HF
      refine WL.val rfl rfl rfl (ov_fieldAddr rfl t_field_44_5) <| WL.val rfl rfl rfl (ov_load1 rfl t_agg_3 (OB.cell ob112 (j := 5) rfl)) ?_
      obtain ⟨r129, hr130, HF⟩ := bind_some HF
      refine WL.call rfl rfl rfl (oc_func (vs := [.int .i64 x6.n]) rfl t_ent_34) (ok_ast_IsLabel _ hr130 S108.sub) ?_
      rintro _ w132 ⟨h133, s134, rfl⟩
      have S135 := S108.trans0 s134
      refine WL.val rfl rfl rfl (ov_not rfl) <| WL.val rfl rfl rfl (ov_pickF rfl rfl) <| WL.nil ?_
      have ob149 := (ob111.step0 s134)
      have ob150 := (ob112.step0 s134)
      have ob151 := (ob113.step0 s134)
      refine WC.to [0, 2, 4, 7, 74] [(0, .pointer (some ⟨b1, 0, none⟩)), (2, .int .i64 x9), (4, .pointer (some ⟨b24, 0, none⟩)), (7, .pointer (some ⟨b38, 0, none⟩)), (74, .bool (!r129))] rfl ?_
      exact J145 ⟨h133, !r129, HF, rfl, S135, s134.le, ob149, ob150, ob151⟩
 ·intro J361
  refine WC.join (fun E w84 => ∃ (h83 : Hp) (x87 : Bool) (x88 : Int) (x89 : Int), ast_Counter_stmt_j1 k (tie_ast_Counter_Text k) x6 x9 r34 x87 x88 x89 = some r ∧ E = [(0, .pointer (some ⟨b1, 0, none⟩)), (2, .int .i64 x9), (4, .pointer (some ⟨b24, 0, none⟩)), (7, .pointer (some ⟨b38, 0, none⟩)), (44, .bool x87)] ∧ Stp [b1] w0 h0 w84 h83 ∧ Hle h0 h83 ∧ OB w84 h83 b1 T2 [.int .i64 x88, .int .i64 x89] ∧ OB w84 h83 b24 44 [.int .i64 x6.op, .string x6.name, v11, v13, v15, .int .i64 x6.n, v17, v19, v21, .bool x6.els] ∧ OB w84 h83 b38 128 [.bool ((r34.getD (false, 0, 0, false, false)).1), .int .i64 ((r34.getD (false, 0, 0, false, false)).2.1), .int .i64 ((r34.getD (false, 0, 0, false, false)).2.2.1), .bool ((r34.getD (false, 0, 0, false, false)).2.2.2.1), .bool ((r34.getD (false, 0, 0, false, false)).2.2.2.2)]) ?_ ?_
  ·rintro E w84 ⟨h83, x87, x88, x89, HF, rfl, S86, le85, ob90, ob91, ob92⟩
   refine WC.cond (b := x87) rfl (fun hb93 => ?_) (fun hb93 => ?_)
   ·replace HF := bif_t hb93 HF
    refine WC.seq <| WC.region <| WL.val rfl rfl rfl (ov_assign rfl) <| WL.nil <| WQ.seqN <| WC.ret <| WQ.thenRet <| WQ.ret1 rfl rfl ?_
    obtain rfl := Option.some.inj HF
    exact ⟨_, rfl, h83, S86, rfl, ob90⟩
   ·replace HF := bif_f hb93 HF
    refine WC.skip <| WC.to [0, 2, 4, 7] [(0, .pointer (some ⟨b1, 0, none⟩)), (2, .int .i64 x9), (4, .pointer (some ⟨b24, 0, none⟩)), (7, .pointer (some ⟨b38, 0, none⟩))] rfl ?_
    exact J361 ⟨h83, x88, x89, HF, rfl, S86, le85, ob90, ob91, ob92⟩
  ·intro J94
   refine WC.region <| WL.val rfl rfl rfl (ov_move rfl) <| WL.val rfl rfl rfl (ov_not rfl) <| WL.val rfl rfl rfl (ov_move rfl) <| WL.split 20 (b := !r34.isSome) rfl (fun hb50 => ?_) (fun hb50 => ?_)
   ·replace HF := bif_t hb50 HF
    refine WL.pass rfl rfl rfl <| WL.pass rfl rfl rfl <| WL.pass rfl rfl rfl <| WL.pass rfl rfl rfl <| WL.val rfl rfl rfl (ov_pickT rfl rfl) <| WL.val rfl rfl rfl (ov_move rfl) <| WL.pass rfl rfl rfl <| WL.pass rfl rfl rfl <| WL.pass rfl rfl rfl <| WL.pass rfl rfl rfl <| WL.pass rfl rfl rfl <| WL.pass rfl rfl rfl <| WL.val rfl rfl rfl (ov_pickT rfl rfl) <| WL.val rfl rfl rfl (ov_move rfl) <| WL.pass rfl rfl rfl <| WL.pass rfl rfl rfl <| WL.pass rfl rfl rfl <| WL.pass rfl rfl rfl <| WL.pass rfl rfl rfl <| WL.pass rfl rfl rfl <| WL.pass rfl rfl rfl <| WL.pass rfl rfl rfl <| WL.pass rfl rfl rfl <| WL.val rfl rfl rfl (ov_pickT rfl rfl) <| WL.nil ?_
    have ob95 := ((ob36.step0 s40).step1 s47 ne42)
    have ob96 := ((ob27.step0 s40).step1 s47 ne43)
    refine WC.to [0, 2, 4, 7, 44] [(0, .pointer (some ⟨b1, 0, none⟩)), (2, .int .i64 x9), (4, .pointer (some ⟨b24, 0, none⟩)), (7, .pointer (some ⟨b38, 0, none⟩)), (44, .bool true)] rfl ?_
    exact J94 ⟨h0, true, x3, x4, HF, rfl, S49, Hle.refl _, ob95, ob96, ob48⟩
   ·replace HF := bif_f hb50 HF
    refine WL.val rfl rfl rfl (ov_move rfl) <| WL.val rfl rfl rfl (ov_move rfl) ?_
    have ob51 := ((ob36.step0 s40).step1 s47 ne42)
    obtain ⟨r52, hr53, HF⟩ := bind_some HF
    refine WL.call rfl rfl rfl (oc_func (vs := [.pointer (some ⟨b1, 0, none⟩), .int .i64 x9]) rfl t_ent_79) (ok_ast_Counter_Add _ hr53 S49.sub ob51) ?_
    rintro _ w55 ⟨h56, s57, rfl, ob58⟩
    have S59 := S49.trans s57 (in_cons (.inl (by simp)) in_nil)
    refine WL.val rfl rfl rfl (ov_not rfl) <| WL.val rfl rfl rfl (ov_pickF rfl rfl) <| WL.val rfl rfl rfl (ov_move rfl) <| WL.split 26 (b := !r52.1) rfl (fun hb60 => ?_) (fun hb60 => ?_)
    ·replace HF := bif_t hb60 HF
     refine WL.pass rfl rfl rfl <| WL.pass rfl rfl rfl <| WL.pass rfl rfl rfl <| WL.pass rfl rfl rfl <| WL.pass rfl rfl rfl <| WL.pass rfl rfl rfl <| WL.val rfl rfl rfl (ov_pickT rfl rfl) <| WL.val rfl rfl rfl (ov_move rfl) <| WL.pass rfl rfl rfl <| WL.pass rfl rfl rfl <| WL.pass rfl rfl rfl <| WL.pass rfl rfl rfl <| WL.pass rfl rfl rfl <| WL.pass rfl rfl rfl <| WL.pass rfl rfl rfl <| WL.pass rfl rfl rfl <| WL.pass rfl rfl rfl <| WL.val rfl rfl rfl (ov_pickT rfl rfl) <| WL.nil ?_
     have ob97 := (((ob27.step0 s40).step1 s47 ne43).step1 s57 (Ne.symm ne28))
     have ob98 := (ob48.step1 s57 (Ne.symm ne42))
     refine WC.to [0, 2, 4, 7, 44] [(0, .pointer (some ⟨b1, 0, none⟩)), (2, .int .i64 x9), (4, .pointer (some ⟨b24, 0, none⟩)), (7, .pointer (some ⟨b38, 0, none⟩)), (44, .bool true)] rfl ?_
     exact J94 ⟨h56, true, r52.2.1, r52.2.2, HF, rfl, S59, s57.le, ob58, ob97, ob98⟩
    ·replace HF := bif_f hb60 HF
     refine WL.val rfl rfl rfl (ov_fieldAddr rfl t_field_44_1) ?_
     have ob61 := (((ob27.step0 s40).step1 s47 ne43).step1 s57 (Ne.symm ne28))
     refine WL.val rfl rfl rfl (ov_load1 rfl t_agg_9 (OB.cell ob61 (j := 1) rfl)) <| WL.val rfl rfl rfl (ov_fieldAddr rfl t_field_128_0) ?_
     have ob62 := (ob48.step1 s57 (Ne.symm ne42))
     refine WL.val rfl rfl rfl (ov_load1 rfl t_agg_4 (OB.cell ob62 (j := 0) rfl)) ?_
     obtain ⟨r63, hr64, HF⟩ := bind_some HF
     refine WL.call rfl rfl rfl (oc_func (vs := [.string x6.name, .bool ((r34.getD (false, 0, 0, false, false)).1)]) rfl t_ent_80) (ok_ast_isNamed _ hr64 S59.sub) ?_
     rintro _ w66 ⟨h67, s68, rfl⟩
     have S69 := S59.trans0 s68
     refine WL.val rfl rfl rfl (ov_not rfl) <| WL.val rfl rfl rfl (ov_pickF rfl rfl) <| WL.val rfl rfl rfl (ov_move rfl) <| WL.split 34 (b := !r63) rfl (fun hb70 => ?_) (fun hb70 => ?_)
     ·replace HF := bif_t hb70 HF
      refine WL.pass rfl rfl rfl <| WL.pass rfl rfl rfl <| WL.pass rfl rfl rfl <| WL.pass rfl rfl rfl <| WL.pass rfl rfl rfl <| WL.pass rfl rfl rfl <| WL.pass rfl rfl rfl <| WL.pass rfl rfl rfl <| WL.pass rfl rfl rfl <| WL.val rfl rfl rfl (ov_pickT rfl rfl) <| WL.nil ?_
      have ob99 := (ob58.step0 s68)
      have ob100 := (ob61.step0 s68)
      have ob101 := (ob62.step0 s68)
      refine WC.to [0, 2, 4, 7, 44] [(0, .pointer (some ⟨b1, 0, none⟩)), (2, .int .i64 x9), (4, .pointer (some ⟨b24, 0, none⟩)), (7, .pointer (some ⟨b38, 0, none⟩)), (44, .bool true)] rfl ?_
      exact J94 ⟨h67, true, r52.2.1, r52.2.2, HF, rfl, S69, (s57.le).trans s68.le, ob99, ob100, ob101⟩
     ·replace HF := bif_f hb70 HF
      refine WL.val rfl rfl rfl (ov_fieldAddr rfl t_field_44_4) ?_
      have ob71 := (ob61.step0 s68)
      refine WL.val rfl rfl rfl (ov_load1 rfl t_agg_30 (OB.cell ob71 (j := 4) rfl)) ?_
      obtain ⟨A72, c73, rfl, rs74⟩ := RS.form (rs16.mono ((s26.le).trans ((s40.le).trans ((s47.le).trans ((s57.le).trans s68.le)))))
      refine WL.val rfl rfl rfl (ov_lenL rfl t_slice_30) <| WL.val rfl rfl rfl (ov_fieldAddr rfl t_field_128_1) ?_
      have ob75 := (ob62.step0 s68)
      refine WL.val rfl rfl rfl (ov_load1 rfl t_agg_3 (OB.cell ob75 (j := 1) rfl)) <| WL.val rfl rfl rfl (ov_fieldAddr rfl t_field_128_2) <| WL.val rfl rfl rfl (ov_load1 rfl t_agg_3 (OB.cell ob75 (j := 2) rfl)) ?_
      obtain ⟨r76, hr77, HF⟩ := bind_some HF
      refine WL.call rfl rfl rfl (oc_func (vs := [.int .i64 (x6.args.length : Int), .int .i64 ((r34.getD (false, 0, 0, false, false)).2.1), .int .i64 ((r34.getD (false, 0, 0, false, false)).2.2.1)]) rfl t_ent_62) (ok_ast_within _ hr77 S69.sub) ?_
      rintro _ w79 ⟨h80, s81, rfl⟩
      have S82 := S69.trans0 s81
      refine WL.val rfl rfl rfl (ov_not rfl) <| WL.val rfl rfl rfl (ov_pickF rfl rfl) <| WL.nil ?_
      have ob102 := ((ob58.step0 s68).step0 s81)
      have ob103 := (ob71.step0 s81)
      have ob104 := (ob75.step0 s81)
      refine WC.to [0, 2, 4, 7, 44] [(0, .pointer (some ⟨b1, 0, none⟩)), (2, .int .i64 x9), (4, .pointer (some ⟨b24, 0, none⟩)), (7, .pointer (some ⟨b38, 0, none⟩)), (44, .bool (!r76))] rfl ?_
      exact J94 ⟨h80, !r76, r52.2.1, r52.2.2, HF, rfl, S82, (s57.le).trans ((s68.le).trans s81.le), ob102, ob103, ob104⟩
set_option maxRecDepth 20000 in
set_option maxHeartbeats 4000000 in
theorem s_ast_Counter_arm (k : Nat) (IH : ∀ j, j ≤ k → C_ast_Counter_Text (tie_ast_Counter_Text j).ast_Counter_Text ∧ C_ast_Counter_stmt (tie_ast_Counter_Text j).ast_Counter_stmt ∧ C_ast_Counter_arm (tie_ast_Counter_Text j).ast_Counter_arm) : C_ast_Counter_arm (m_ast_Counter_arm k (tie_ast_Counter_Text k)) := by
 intro x3 x4 x6 x9 x10 r HF w0 h0 b1 T2 cs7 hs0 r8 ob5
 have S0 : Stp [b1] w0 h0 w0 h0 := Stp.refl hs0 _
 have lt11 : b1 < w0.heap.size := OB.lt ob5
 refine enter (n := 62) Tryz.func87 rfl Tryz.ntmps87 rfl [(0, .pointer (some ⟨b1, 0, none⟩)), (1, .agg cs7.toArray), (2, .int .i64 x9), (3, .int .i64 x10)] rfl <| WC.seq <| WC.region ?_
 obtain ⟨v12, v14, v16, rfl, rs13, rs15, rs17⟩ := rp_Ar.1 r8
 refine WL.box (cs := [v12, v14, v16]) rfl rfl rfl rfl S0.sub (fun w18 b19 hb20 s21 ob22 => ?_)
 have ne23 : b1 ≠ b19 := ob5.ne_new hb20
 have g24 : w0.heap.size ≤ b19 := by rw [hb20]; exact S0.size
 have S25 := S0.trans0 s21
 refine WL.val rfl rfl rfl (ov_assign rfl) <| WL.nil <| WQ.seqN <| WC.join (fun E w59 => ∃ (h58 : Hp) (x62 : Int) (x63 : Int), ast_Counter_arm_j2 k (tie_ast_Counter_Text k) x6 x9 x10 x62 x63 = some r ∧ E = [(0, .pointer (some ⟨b1, 0, none⟩)), (2, .int .i64 x9), (3, .int .i64 x10), (5, .pointer (some ⟨b19, 0, none⟩))] ∧ Stp [b1] w0 h0 w59 h58 ∧ Hle h0 h58 ∧ OB w59 h58 b1 T2 [.int .i64 x62, .int .i64 x63] ∧ OB w59 h58 b19 47 [v12, v14, v16]) ?_ ?_
 ·rintro E w59 ⟨h58, x62, x63, HF, rfl, S61, le60, ob64, ob65⟩
  refine WC.join (fun E w95 => ∃ (h94 : Hp), ast_Counter_arm_j4 k (tie_ast_Counter_Text k) x6 x10 x62 x63 = some r ∧ E = [(0, .pointer (some ⟨b1, 0, none⟩)), (3, .int .i64 x10), (5, .pointer (some ⟨b19, 0, none⟩))] ∧ Stp [b1] w0 h0 w95 h94 ∧ Hle h58 h94 ∧ OB w95 h94 b1 T2 [.int .i64 x62, .int .i64 x63] ∧ OB w95 h94 b19 47 [v12, v14, v16]) ?_ ?_
  ·rintro E w95 ⟨h94, HF, rfl, S97, le96, ob98, ob99⟩
   refine WC.seq <| WC.region <| WL.val rfl rfl rfl (ov_move rfl) <| WL.val rfl rfl rfl (ov_fieldAddr rfl t_field_47_0) <| WL.val rfl rfl rfl (ov_load1 rfl t_agg_30 (OB.cell ob99 (j := 0) rfl)) <| WL.val rfl rfl rfl (ov_move rfl) <| WL.val rfl rfl rfl (ov_add rfl rfl) ?_
   obtain ⟨r100, hr101, HF⟩ := bind_some HF
   refine WL.call rfl rfl rfl (oc_func (vs := [.pointer (some ⟨b1, 0, none⟩), v12, .int .i64 (IntKind.i64.wrap (x10 + 1))]) rfl t_ent_81) (ok_ast_Counter_Exprs _ hr101 S97.sub (rs13.mono ((s21.le).trans ((le60).trans le96))) ob98) ?_
   rintro _ w103 ⟨h104, s105, rfl, ob106⟩
   have S107 := S97.trans s105 (in_cons (.inl (by simp)) in_nil)
   refine WL.val rfl rfl rfl (ov_move rfl) <| WL.split 54 (b := r100.1) rfl (fun hb108 => ?_) (fun hb108 => ?_)
   ·replace HF := bif_t hb108 HF
    refine WL.val rfl rfl rfl (ov_move rfl) <| WL.val rfl rfl rfl (ov_fieldAddr rfl t_field_47_2) ?_
    have ob109 := (ob99.step1 s105 (Ne.symm ne23))
    refine WL.val rfl rfl rfl (ov_load1 rfl t_agg_22 (OB.cell ob109 (j := 2) rfl)) <| WL.val rfl rfl rfl (ov_move rfl) <| WL.val rfl rfl rfl (ov_add rfl rfl) ?_
    obtain ⟨r110, hr111, HF⟩ := bind_some HF
    refine WL.call rfl rfl rfl (oc_func (vs := [.pointer (some ⟨b1, 0, none⟩), v16, .int .i64 (IntKind.i64.wrap (x10 + 1))]) rfl t_ent_38) ((IH _ (Nat.le_refl _)).1 hr111 S107.sub (rs17.mono ((s21.le).trans ((le60).trans ((le96).trans s105.le)))) ob106) ?_
    rintro _ w113 ⟨h114, s115, rfl, ob116⟩
    have S117 := S107.trans s115 (in_cons (.inl (by simp)) in_nil)
    refine WL.val rfl rfl rfl (ov_pickT rfl rfl) <| WL.val rfl rfl rfl (ov_assign rfl) <| WL.nil <| WQ.seqN <| WC.ret <| WQ.ret1 rfl rfl ?_
    obtain rfl := Option.some.inj HF
    exact ⟨_, rfl, h114, S117, rfl, ob116⟩
   ·replace HF := bif_f hb108 HF
    refine WL.pass rfl rfl rfl <| WL.pass rfl rfl rfl <| WL.pass rfl rfl rfl <| WL.pass rfl rfl rfl <| WL.pass rfl rfl rfl <| WL.pass rfl rfl rfl <| WL.val rfl rfl rfl (ov_pickF rfl rfl) <| WL.val rfl rfl rfl (ov_assign rfl) <| WL.nil <| WQ.seqN <| WC.ret <| WQ.ret1 rfl rfl ?_
    obtain rfl := Option.some.inj HF
    exact ⟨_, rfl, h104, S107, rfl, ob106⟩
  ·intro J118
   refine WC.join (fun E w86 => ∃ (h85 : Hp) (x89 : Bool), ast_Counter_arm_j3 k (tie_ast_Counter_Text k) x6 x10 x62 x63 x89 = some r ∧ E = [(0, .pointer (some ⟨b1, 0, none⟩)), (3, .int .i64 x10), (5, .pointer (some ⟨b19, 0, none⟩)), (47, .bool x89)] ∧ Stp [b1] w0 h0 w86 h85 ∧ Hle h58 h85 ∧ OB w86 h85 b1 T2 [.int .i64 x62, .int .i64 x63] ∧ OB w86 h85 b19 47 [v12, v14, v16]) ?_ ?_
   ·rintro E w86 ⟨h85, x89, HF, rfl, S88, le87, ob90, ob91⟩
    refine WC.cond (b := x89) rfl (fun hb92 => ?_) (fun hb92 => ?_)
    ·replace HF := bif_t hb92 HF
     refine WC.seq <| WC.region <| WL.val rfl rfl rfl (ov_assign rfl) <| WL.nil <| WQ.seqN <| WC.ret <| WQ.thenRet <| WQ.ret1 rfl rfl ?_
     obtain rfl := Option.some.inj HF
     exact ⟨_, rfl, h85, S88, rfl, ob90⟩
    ·replace HF := bif_f hb92 HF
     refine WC.skip <| WC.to [0, 3, 5] [(0, .pointer (some ⟨b1, 0, none⟩)), (3, .int .i64 x10), (5, .pointer (some ⟨b19, 0, none⟩))] rfl ?_
     exact J118 ⟨h85, HF, rfl, S88, le87, ob90, ob91⟩
   ·intro J93
    refine WC.region <| WL.val rfl rfl rfl (ov_move rfl) <| WL.val rfl rfl rfl (ov_eql rfl rfl) <| WL.val rfl rfl rfl (ov_move rfl) <| WL.split 20 (b := (x9 : Int) == 3) rfl (fun hb66 => ?_) (fun hb66 => ?_)
    ·replace HF := bif_t hb66 HF
     refine WL.val rfl rfl rfl (ov_fieldAddr rfl t_field_47_0) <| WL.val rfl rfl rfl (ov_load1 rfl t_agg_30 (OB.cell ob65 (j := 0) rfl)) ?_
     obtain ⟨A67, c68, rfl, rs69⟩ := RS.form (rs13.mono ((s21.le).trans le60))
     refine WL.val rfl rfl rfl (ov_lenL rfl t_slice_30) <| WL.val rfl rfl rfl (ov_neq rfl rfl) <| WL.val rfl rfl rfl (ov_move rfl) <| WL.split 25 (b := ((x6.cond.length : Int) : Int) != 1) rfl (fun hb70 => ?_) (fun hb70 => ?_)
     ·replace HF := bif_t hb70 HF
      refine WL.pass rfl rfl rfl <| WL.pass rfl rfl rfl <| WL.pass rfl rfl rfl <| WL.pass rfl rfl rfl <| WL.val rfl rfl rfl (ov_pickT rfl rfl) <| WL.val rfl rfl rfl (ov_pickT rfl rfl) <| WL.val rfl rfl rfl (ov_move rfl) <| WL.pass rfl rfl rfl <| WL.pass rfl rfl rfl <| WL.pass rfl rfl rfl <| WL.pass rfl rfl rfl <| WL.pass rfl rfl rfl <| WL.pass rfl rfl rfl <| WL.pass rfl rfl rfl <| WL.pass rfl rfl rfl <| WL.pass rfl rfl rfl <| WL.pass rfl rfl rfl <| WL.pass rfl rfl rfl <| WL.pass rfl rfl rfl <| WL.pass rfl rfl rfl <| WL.pass rfl rfl rfl <| WL.val rfl rfl rfl (ov_pickT rfl rfl) <| WL.nil <| WC.to [0, 3, 5, 47] [(0, .pointer (some ⟨b1, 0, none⟩)), (3, .int .i64 x10), (5, .pointer (some ⟨b19, 0, none⟩)), (47, .bool true)] rfl ?_
      exact J93 ⟨h58, true, HF, rfl, S61, Hle.refl _, ob64, ob65⟩
     ·replace HF := bif_f hb70 HF
      refine WL.val rfl rfl rfl (ov_fieldAddr rfl t_field_47_1) <| WL.val rfl rfl rfl (ov_load1 rfl t_agg_45 (OB.cell ob65 (j := 1) rfl)) ?_
      obtain ⟨A71, c72, rfl, rs73⟩ := RS.form (rs15.mono ((s21.le).trans le60))
      refine WL.val rfl rfl rfl (ov_lenL rfl t_slice_45) <| WL.val rfl rfl rfl (ov_gtr rfl rfl) <| WL.val rfl rfl rfl (ov_pickF rfl rfl) <| WL.val rfl rfl rfl (ov_pickT rfl rfl) <| WL.val rfl rfl rfl (ov_move rfl) <| WL.split 32 (b := decide ((0 : Int) < (x6.labels.length : Int))) rfl (fun hb74 => ?_) (fun hb74 => ?_)
      ·replace HF := bif_t hb74 HF
       refine WL.pass rfl rfl rfl <| WL.pass rfl rfl rfl <| WL.pass rfl rfl rfl <| WL.pass rfl rfl rfl <| WL.pass rfl rfl rfl <| WL.pass rfl rfl rfl <| WL.pass rfl rfl rfl <| WL.pass rfl rfl rfl <| WL.pass rfl rfl rfl <| WL.pass rfl rfl rfl <| WL.pass rfl rfl rfl <| WL.pass rfl rfl rfl <| WL.pass rfl rfl rfl <| WL.pass rfl rfl rfl <| WL.val rfl rfl rfl (ov_pickT rfl rfl) <| WL.nil <| WC.to [0, 3, 5, 47] [(0, .pointer (some ⟨b1, 0, none⟩)), (3, .int .i64 x10), (5, .pointer (some ⟨b19, 0, none⟩)), (47, .bool true)] rfl ?_
       exact J93 ⟨h58, true, HF, rfl, S61, Hle.refl _, ob64, ob65⟩
      ·replace HF := bif_f hb74 HF
       refine WL.val rfl rfl rfl (ov_move rfl) <| WL.val rfl rfl rfl (ov_eql rfl rfl) <| WL.val rfl rfl rfl (ov_move rfl) <| WL.split 35 (b := (x9 : Int) == 4) rfl (fun hb75 => ?_) (fun hb75 => ?_)
       ·replace HF := bif_t hb75 HF
        refine WL.val rfl rfl rfl (ov_fieldAddr rfl t_field_47_0) <| WL.val rfl rfl rfl (ov_load1 rfl t_agg_30 (OB.cell ob65 (j := 0) rfl)) <| WL.val rfl rfl rfl (ov_lenL rfl t_slice_30) <| WL.val rfl rfl rfl (ov_gtr rfl rfl) <| WL.val rfl rfl rfl (ov_move rfl) <| WL.split 40 (b := decide ((0 : Int) < (x6.cond.length : Int))) rfl (fun hb76 => ?_) (fun hb76 => ?_)
        ·replace HF := bif_t hb76 HF
         refine WL.pass rfl rfl rfl <| WL.pass rfl rfl rfl <| WL.pass rfl rfl rfl <| WL.pass rfl rfl rfl <| WL.val rfl rfl rfl (ov_pickT rfl rfl) <| WL.val rfl rfl rfl (ov_pickT rfl rfl) <| WL.val rfl rfl rfl (ov_pickF rfl rfl) <| WL.nil <| WC.to [0, 3, 5, 47] [(0, .pointer (some ⟨b1, 0, none⟩)), (3, .int .i64 x10), (5, .pointer (some ⟨b19, 0, none⟩)), (47, .bool true)] rfl ?_
         exact J93 ⟨h58, true, HF, rfl, S61, Hle.refl _, ob64, ob65⟩
        ·replace HF := bif_f hb76 HF
         refine WL.val rfl rfl rfl (ov_fieldAddr rfl t_field_47_1) <| WL.val rfl rfl rfl (ov_load1 rfl t_agg_45 (OB.cell ob65 (j := 1) rfl)) <| WL.val rfl rfl rfl (ov_lenL rfl t_slice_45) <| WL.val rfl rfl rfl (ov_eql rfl rfl) <| WL.val rfl rfl rfl (ov_pickF rfl rfl) <| WL.val rfl rfl rfl (ov_pickT rfl rfl) <| WL.val rfl rfl rfl (ov_pickF rfl rfl) <| WL.nil <| WC.to [0, 3, 5, 47] [(0, .pointer (some ⟨b1, 0, none⟩)), (3, .int .i64 x10), (5, .pointer (some ⟨b19, 0, none⟩)), (47, .bool (((x6.labels.length : Int) : Int) == 0))] rfl ?_
         exact J93 ⟨h58, ((x6.labels.length : Int) : Int) == 0, HF, rfl, S61, Hle.refl _, ob64, ob65⟩
       ·replace HF := bif_f hb75 HF
        refine WL.pass rfl rfl rfl <| WL.pass rfl rfl rfl <| WL.pass rfl rfl rfl <| WL.pass rfl rfl rfl <| WL.pass rfl rfl rfl <| WL.pass rfl rfl rfl <| WL.pass rfl rfl rfl <| WL.pass rfl rfl rfl <| WL.pass rfl rfl rfl <| WL.pass rfl rfl rfl <| WL.val rfl rfl rfl (ov_pickF rfl rfl) <| WL.val rfl rfl rfl (ov_pickF rfl rfl) <| WL.nil <| WC.to [0, 3, 5, 47] [(0, .pointer (some ⟨b1, 0, none⟩)), (3, .int .i64 x10), (5, .pointer (some ⟨b19, 0, none⟩)), (47, .bool false)] rfl ?_
        exact J93 ⟨h58, false, HF, rfl, S61, Hle.refl _, ob64, ob65⟩
    ·replace HF := bif_f hb66 HF
     refine WL.pass rfl rfl rfl <| WL.pass rfl rfl rfl <| WL.pass rfl rfl rfl <| WL.pass rfl rfl rfl <| WL.pass rfl rfl rfl <| WL.pass rfl rfl rfl <| WL.pass rfl rfl rfl <| WL.pass rfl rfl rfl <| WL.pass rfl rfl rfl <| WL.pass rfl rfl rfl <| WL.val rfl rfl rfl (ov_pickF rfl rfl) <| WL.val rfl rfl rfl (ov_move rfl) <| WL.val rfl rfl rfl (ov_move rfl) <| WL.val rfl rfl rfl (ov_eql rfl rfl) <| WL.val rfl rfl rfl (ov_move rfl) <| WL.split 35 (b := (x9 : Int) == 4) rfl (fun hb77 => ?_) (fun hb77 => ?_)
     ·replace HF := bif_t hb77 HF
      refine WL.val rfl rfl rfl (ov_fieldAddr rfl t_field_47_0) <| WL.val rfl rfl rfl (ov_load1 rfl t_agg_30 (OB.cell ob65 (j := 0) rfl)) ?_
      obtain ⟨A78, c79, rfl, rs80⟩ := RS.form (rs13.mono ((s21.le).trans le60))
      refine WL.val rfl rfl rfl (ov_lenL rfl t_slice_30) <| WL.val rfl rfl rfl (ov_gtr rfl rfl) <| WL.val rfl rfl rfl (ov_move rfl) <| WL.split 40 (b := decide ((0 : Int) < (x6.cond.length : Int))) rfl (fun hb81 => ?_) (fun hb81 => ?_)
      ·replace HF := bif_t hb81 HF
       refine WL.pass rfl rfl rfl <| WL.pass rfl rfl rfl <| WL.pass rfl rfl rfl <| WL.pass rfl rfl rfl <| WL.val rfl rfl rfl (ov_pickT rfl rfl) <| WL.val rfl rfl rfl (ov_pickT rfl rfl) <| WL.val rfl rfl rfl (ov_pickF rfl rfl) <| WL.nil <| WC.to [0, 3, 5, 47] [(0, .pointer (some ⟨b1, 0, none⟩)), (3, .int .i64 x10), (5, .pointer (some ⟨b19, 0, none⟩)), (47, .bool true)] rfl ?_
       exact J93 ⟨h58, true, HF, rfl, S61, Hle.refl _, ob64, ob65⟩
      ·replace HF := bif_f hb81 HF
       refine WL.val rfl rfl rfl (ov_fieldAddr rfl t_field_47_1) <| WL.val rfl rfl rfl (ov_load1 rfl t_agg_45 (OB.cell ob65 (j := 1) rfl)) ?_
       obtain ⟨A82, c83, rfl, rs84⟩ := RS.form (rs15.mono ((s21.le).trans le60))
       refine WL.val rfl rfl rfl (ov_lenL rfl t_slice_45) <| WL.val rfl rfl rfl (ov_eql rfl rfl) <| WL.val rfl rfl rfl (ov_pickF rfl rfl) <| WL.val rfl rfl rfl (ov_pickT rfl rfl) <| WL.val rfl rfl rfl (ov_pickF rfl rfl) <| WL.nil <| WC.to [0, 3, 5, 47] [(0, .pointer (some ⟨b1, 0, none⟩)), (3, .int .i64 x10), (5, .pointer (some ⟨b19, 0, none⟩)), (47, .bool (((x6.labels.length : Int) : Int) == 0))] rfl ?_
       exact J93 ⟨h58, ((x6.labels.length : Int) : Int) == 0, HF, rfl, S61, Hle.refl _, ob64, ob65⟩
     ·replace HF := bif_f hb77 HF
      refine WL.pass rfl rfl rfl <| WL.pass rfl rfl rfl <| WL.pass rfl rfl rfl <| WL.pass rfl rfl rfl <| WL.pass rfl rfl rfl <| WL.pass rfl rfl rfl <| WL.pass rfl rfl rfl <| WL.pass rfl rfl rfl <| WL.pass rfl rfl rfl <| WL.pass rfl rfl rfl <| WL.val rfl rfl rfl (ov_pickF rfl rfl) <| WL.val rfl rfl rfl (ov_pickF rfl rfl) <| WL.nil <| WC.to [0, 3, 5, 47] [(0, .pointer (some ⟨b1, 0, none⟩)), (3, .int .i64 x10), (5, .pointer (some ⟨b19, 0, none⟩)), (47, .bool false)] rfl ?_
      exact J93 ⟨h58, false, HF, rfl, S61, Hle.refl _, ob64, ob65⟩
 ·intro J119
  refine WC.join (fun E w45 => ∃ (h44 : Hp) (x48 : Bool) (x49 : Int) (x50 : Int), ast_Counter_arm_j1 k (tie_ast_Counter_Text k) x6 x9 x10 x48 x49 x50 = some r ∧ E = [(0, .pointer (some ⟨b1, 0, none⟩)), (2, .int .i64 x9), (3, .int .i64 x10), (5, .pointer (some ⟨b19, 0, none⟩)), (17, .bool x48)] ∧ Stp [b1] w0 h0 w45 h44 ∧ Hle h0 h44 ∧ OB w45 h44 b1 T2 [.int .i64 x49, .int .i64 x50] ∧ OB w45 h44 b19 47 [v12, v14, v16]) ?_ ?_
  ·rintro E w45 ⟨h44, x48, x49, x50, HF, rfl, S47, le46, ob51, ob52⟩
   refine WC.cond (b := x48) rfl (fun hb53 => ?_) (fun hb53 => ?_)
   ·replace HF := bif_t hb53 HF
    refine WC.seq <| WC.region <| WL.val rfl rfl rfl (ov_assign rfl) <| WL.nil <| WQ.seqN <| WC.ret <| WQ.thenRet <| WQ.ret1 rfl rfl ?_
    obtain rfl := Option.some.inj HF
    exact ⟨_, rfl, h44, S47, rfl, ob51⟩
   ·replace HF := bif_f hb53 HF
    refine WC.skip <| WC.to [0, 2, 3, 5] [(0, .pointer (some ⟨b1, 0, none⟩)), (2, .int .i64 x9), (3, .int .i64 x10), (5, .pointer (some ⟨b19, 0, none⟩))] rfl ?_
    exact J119 ⟨h44, x49, x50, HF, rfl, S47, le46, ob51, ob52⟩
  ·intro J54
   refine WC.region <| WL.val rfl rfl rfl (ov_move rfl) <| WL.val rfl rfl rfl (ov_move rfl) ?_
   have ob26 := (ob5.step0 s21)
   obtain ⟨r27, hr28, HF⟩ := bind_some HF
   refine WL.call rfl rfl rfl (oc_func (vs := [.pointer (some ⟨b1, 0, none⟩), .int .i64 x10]) rfl t_ent_79) (ok_ast_Counter_Add _ hr28 S25.sub ob26) ?_
   rintro _ w30 ⟨h31, s32, rfl, ob33⟩
   have S34 := S25.trans s32 (in_cons (.inl (by simp)) in_nil)
   refine WL.val rfl rfl rfl (ov_not rfl) <| WL.val rfl rfl rfl (ov_move rfl) <| WL.split 13 (b := !r27.1) rfl (fun hb35 => ?_) (fun hb35 => ?_)
   ·replace HF := bif_t hb35 HF
    refine WL.pass rfl rfl rfl <| WL.pass rfl rfl rfl <| WL.pass rfl rfl rfl <| WL.val rfl rfl rfl (ov_pickT rfl rfl) <| WL.nil ?_
    have ob55 := (ob22.step1 s32 (Ne.symm ne23))
    refine WC.to [0, 2, 3, 5, 17] [(0, .pointer (some ⟨b1, 0, none⟩)), (2, .int .i64 x9), (3, .int .i64 x10), (5, .pointer (some ⟨b19, 0, none⟩)), (17, .bool true)] rfl ?_
    exact J54 ⟨h31, true, r27.2.1, r27.2.2, HF, rfl, S34, s32.le, ob33, ob55⟩
   ·replace HF := bif_f hb35 HF
    refine WL.val rfl rfl rfl (ov_fieldAddr rfl t_field_47_1) ?_
    have ob36 := (ob22.step1 s32 (Ne.symm ne23))
    refine WL.val rfl rfl rfl (ov_load1 rfl t_agg_45 (OB.cell ob36 (j := 1) rfl)) ?_
    obtain ⟨r37, hr38, HF⟩ := bind_some HF
    refine WL.call rfl rfl rfl (oc_func (vs := [v14, .func (.func 110) #[] #[]]) rfl t_ent_109) (ok_slices_ContainsFunc_int_int _ hr38 S34.sub (rs15.mono ((s21.le).trans s32.le))) ?_
    rintro _ w40 ⟨h41, s42, rfl⟩
    have S43 := S34.trans0 s42
    refine WL.val rfl rfl rfl (ov_pickF rfl rfl) <| WL.nil ?_
    have ob56 := (ob33.step0 s42)
    have ob57 := (ob36.step0 s42)
    refine WC.to [0, 2, 3, 5, 17] [(0, .pointer (some ⟨b1, 0, none⟩)), (2, .int .i64 x9), (3, .int .i64 x10), (5, .pointer (some ⟨b19, 0, none⟩)), (17, .bool r37)] rfl ?_
    exact J54 ⟨h41, r37, r27.2.1, r27.2.2, HF, rfl, S43, (s32.le).trans s42.le, ob56, ob57⟩
theorem all_ast_Counter_Text : ∀ k j, j ≤ k → C_ast_Counter_Text (tie_ast_Counter_Text j).ast_Counter_Text ∧ C_ast_Counter_stmt (tie_ast_Counter_Text j).ast_Counter_stmt ∧ C_ast_Counter_arm (tie_ast_Counter_Text j).ast_Counter_arm := by
  intro k
  induction k with
  | zero =>
    intro j hj
    obtain rfl : j = 0 := by omega
    exact ⟨(fun _ _ _ _ _ => by intro h; cases h), (fun _ _ _ _ _ => by intro h; cases h), (fun _ _ _ _ _ _ => by intro h; cases h)⟩
  | succ k ih =>
    intro j hj
    by_cases h : j ≤ k
    · exact ih j h
    · obtain rfl : j = k + 1 := by omega
      exact ⟨s_ast_Counter_Text k ih, s_ast_Counter_stmt k ih, s_ast_Counter_arm k ih⟩
theorem ok_ast_Counter_Text (k : Nat) : C_ast_Counter_Text (F_ast_Counter_Text k) := (all_ast_Counter_Text k k (Nat.le_refl _)).1
theorem ok_ast_Counter_stmt (k : Nat) : C_ast_Counter_stmt (F_ast_Counter_stmt k) := (all_ast_Counter_Text k k (Nat.le_refl _)).2.1
theorem ok_ast_Counter_arm (k : Nat) : C_ast_Counter_arm (F_ast_Counter_arm k) := (all_ast_Counter_Text k k (Nat.le_refl _)).2.2

def C_ast_IsText (φ : (List St) → Option Bool) : Prop := ∀ ⦃xs1 : List St⦄ ⦃r : Bool⦄, φ xs1 = some r → ∀ ⦃w0 : World⦄ ⦃h0 : Hp⦄ ⦃v2 : Value⦄, Sub h0 w0 → RS h0 v2 xs1 →
  Calls Tryz.prog 19 #[v2] w0 fun e w1 => ∃ v, e = .returned v ∧ ∃ h1, Stp [] w0 h0 w1 h1 ∧ v = .bool r
set_option maxRecDepth 20000 in
set_option maxHeartbeats 4000000 in
theorem s_ast_IsText (k : Nat) : C_ast_IsText (F_ast_IsText k) := by
 intro xs1 r HF w0 h0 v2 hs0 rs3
 have S0 : Stp [] w0 h0 w0 h0 := Stp.refl hs0 _
 refine enter (n := 6) Tryz.func19 rfl Tryz.ntmps19 rfl [(0, v2)] rfl <| WC.seq <| WC.region <| WL.val rfl rfl rfl (ov_assign rfl) <| WL.nil <| WQ.seqN <| WC.seq <| WC.region <| WL.alloc (zs := [.int .i64 0, .int .i64 0]) rfl rfl t_zero_75 rfl S0.sub (fun w4 b5 hb6 s7 ob8 => ?_)
 have g9 : w0.heap.size ≤ b5 := by rw [hb6]; exact S0.size
 have S10 := S0.trans0 s7
 refine WL.nil <| WQ.seqN <| WC.seq <| WC.region <| WL.val rfl rfl rfl (ov_move rfl) ?_
 obtain ⟨r11, hr12, HF⟩ := bind_some HF
 refine WL.call rfl rfl rfl (oc_func (vs := [.pointer (some ⟨b5, 0, none⟩), v2, .int .i64 1]) rfl t_ent_38) (ok_ast_Counter_Text _ hr12 S10.sub (rs3.mono (s7.le)) ob8) ?_
 rintro _ w14 ⟨h15, s16, rfl, ob17⟩
 have S18 := S10.trans s16 (in_cons (.inr g9) in_nil)
 refine WL.val rfl rfl rfl (ov_assign rfl) <| WL.nil <| WQ.seqN <| WC.ret <| WQ.ret1 rfl rfl ?_
 obtain rfl := Option.some.inj HF
 exact ⟨_, rfl, h15, S18, rfl⟩
theorem ok_ast_IsText (k : Nat) : C_ast_IsText (F_ast_IsText k) := s_ast_IsText k

def C_strings_Builder_copyCheck (φ : Bool → (List UInt8) → ByteArray → Option Bool) : Prop := ∀ ⦃x2 : Bool⦄ ⦃xs3 : List UInt8⦄ ⦃x9 : ByteArray⦄ ⦃r : Bool⦄, φ x2 xs3 x9 = some r → ∀ ⦃w0 : World⦄ ⦃h0 : Hp⦄ ⦃b1 : Nat⦄ ⦃A4 : Option Addr⦄ ⦃c5 : Nat⦄, Sub h0 w0 → RS h0 (.slice A4 xs3.length c5) xs3 → Own w0 h0 h0.base 5 1 (.slice A4 xs3.length c5) xs3.length → OB w0 h0 b1 55 [.pointer (bif x2 then some ⟨b1, 0, none⟩ else none), .slice A4 xs3.length c5, .string x9] → (5 : Nat) ≠ 55 →
  Calls Tryz.prog 88 #[.pointer (some ⟨b1, 0, none⟩)] w0 fun e w1 => ∃ v, e = .returned v ∧ ∃ h1, Stp [b1] w0 h0 w1 h1 ∧ v = .tuple #[] ∧ (OB w1 h1 b1 55 [.pointer (bif r then some ⟨b1, 0, none⟩ else none), .slice A4 xs3.length c5, .string x9])
set_option maxRecDepth 20000 in
theorem ok_strings_Builder_copyCheck (k : Nat) : C_strings_Builder_copyCheck (F_strings_Builder_copyCheck k) := by
  intro x2 xs3 x9 r HF w0 h0 b1 A4 c5 hs0 rs6 ow7 ob10 tn11
  simp only [F_strings_Builder_copyCheck] at HF
  cases HF
  cases x2 with
  | true =>
    refine (Any.Builder_copyCheck_used tryz240 Tryz.Builder_Extra_156.toX72 b1 w0 (OB.cell ob10 (j := 0) rfl)).mono ?_
    rintro e w1 ⟨rfl, rfl⟩
    exact ⟨_, rfl, h0, Stp.refl hs0 _, rfl, ob10⟩
  | false =>
    refine (YtaknpdhmhifpeaaGreatDoor.copyCheck_freshIn tryz240 Tryz.Builder_Extra_156.toX72 b1 55 3 w0 (OB.cell ob10 (j := 0) rfl) (OB.shape ob10) (by decide) (by kernel_rfl) (OB.unfrozen ob10)).mono ?_
    rintro e w1 ⟨rfl, rfl⟩
    have e1 := setCell_ob ob10 (.pointer (some ⟨b1, 0, none⟩)) (by simp)
    refine ⟨_, rfl, h0, ?_, rfl, ?_⟩
    · rw [e1]; exact setRow_stp hs0 ob10 _
    · rw [e1]; exact setRow_ob ob10 _

def C_strings_Builder_WriteString (φ : Bool → (List UInt8) → ByteArray → ByteArray → Option (Int × Unit × Bool × List UInt8)) : Prop := ∀ ⦃x2 : Bool⦄ ⦃xs3 : List UInt8⦄ ⦃x9 : ByteArray⦄ ⦃x11 : ByteArray⦄ ⦃r : Int × Unit × Bool × List UInt8⦄, φ x2 xs3 x9 x11 = some r → ∀ ⦃w0 : World⦄ ⦃h0 : Hp⦄ ⦃b1 : Nat⦄ ⦃A4 : Option Addr⦄ ⦃c5 : Nat⦄, Sub h0 w0 → RS h0 (.slice A4 xs3.length c5) xs3 → Own w0 h0 h0.base 5 1 (.slice A4 xs3.length c5) xs3.length → OB w0 h0 b1 55 [.pointer (bif x2 then some ⟨b1, 0, none⟩ else none), .slice A4 xs3.length c5, .string x9] → (5 : Nat) ≠ 55 →
  Calls Tryz.prog 66 #[.pointer (some ⟨b1, 0, none⟩), .string x11] w0 fun e w1 => ∃ v, e = .returned v ∧ ∃ h1, Stp (b1 :: ((Value.slice A4 xs3.length c5).ownBlock.toList ++ [])) w0 h0 w1 h1 ∧ (∃ u0 u1 : Value, v = .tuple #[u0, u1] ∧ (u0 = .int .i64 r.1) ∧ (u1 = .nilIface)) ∧ (∃ y0 : Value, RS h1 y0 r.2.2.2 ∧ Own w1 h1 h0.base 5 1 y0 r.2.2.2.length ∧ (∀ i ∈ y0.ownBlock.toList, i ∈ (Value.slice A4 xs3.length c5).ownBlock.toList ∨ w0.heap.size ≤ i) ∧ OB w1 h1 b1 55 [.pointer (bif r.2.2.1 then some ⟨b1, 0, none⟩ else none), y0, .string x9])
set_option maxRecDepth 20000 in
set_option maxHeartbeats 4000000 in
theorem s_strings_Builder_WriteString (k : Nat) : C_strings_Builder_WriteString (F_strings_Builder_WriteString k) := by
 intro x2 xs3 x9 x11 r HF w0 h0 b1 A4 c5 hs0 rs6 ow7 ob10 tn12
 have S0 : Stp (b1 :: ((Value.slice A4 xs3.length c5).ownBlock.toList ++ [])) w0 h0 w0 h0 := Stp.refl hs0 _
 have om8 : ∀ i ∈ (Value.slice A4 xs3.length c5).ownBlock.toList, i ∈ (Value.slice A4 xs3.length c5).ownBlock.toList ∨ w0.heap.size ≤ i := fun i hi => .inl hi
 have lt13 : b1 < w0.heap.size := OB.lt ob10
 refine enter (n := 19) Tryz.func66 rfl Tryz.ntmps66 rfl [(0, .pointer (some ⟨b1, 0, none⟩)), (1, .string x11)] rfl <| WC.seq <| WC.region <| WL.val rfl rfl rfl (ov_assign rfl) <| WL.val rfl rfl rfl (ov_assign rfl) <| WL.nil <| WQ.seqN <| WC.seq <| WC.region <| WL.val rfl rfl rfl (ov_move rfl) ?_
 obtain ⟨r14, hr15, HF⟩ := bind_some HF
 refine WL.call rfl rfl rfl (oc_func (vs := [.pointer (some ⟨b1, 0, none⟩)]) rfl t_ent_88) (ok_strings_Builder_copyCheck _ hr15 S0.sub rs6 (by rw [S0.eqb]; exact ow7) ob10 tn12) ?_
 rintro v16 w17 ⟨h18, s19, rfl, ob20⟩
 have S21 := S0.trans s19 (in_cons (.inl (by simp)) in_nil)
 refine WL.nil <| WQ.seqN <| WC.seq <| WC.region <| WL.val rfl rfl rfl (ov_move rfl) <| WL.val rfl rfl rfl (ov_move rfl) <| WL.val rfl rfl rfl (ov_nilCheck rfl) <| WL.val rfl rfl rfl (ov_fieldAddr rfl t_field_51_1) <| WL.val rfl rfl rfl (ov_load1 rfl t_agg_49 (OB.cell ob20 (j := 1) rfl)) <| WL.val rfl rfl rfl (ov_move rfl) ?_
 obtain ⟨hl22, HF⟩ := ite_none HF
 refine WL.appendS (xs := (xs3 : List UInt8)) (s := x11) rfl rfl rfl rfl t_slice_49 t_string_9 t_size_5 t_zero_5 t_bytes_5 rfl (ow7.step s19 (on_cons (ow7.ne_ob ob10 tn12) on_nil)) (rs6.mono (s19.le)) hl22 S21.sub (by have := S21.sub.big; rw [S21.eqb] at this; exact this) (by rw [S21.eqb]; exact Nat.le_refl _) (fun v23 w24 h25 rs26 ow27 s28 at29 => ?_)
 have om30 := om_next at29 om8 S21.size
 have S31 := S21.trans s28 (fun i hi => (om8 i hi).elim (fun q => .inl (by simp only [List.mem_cons, List.mem_append]; simp [q])) .inr)
 refine WL.val rfl rfl rfl (ov_nilCheck rfl) <| WL.val rfl rfl rfl (ov_fieldAddr rfl t_field_51_1) ?_
 have ob32 := (ob20.step s28 (fun hm => (ow7.step s19 (on_cons (ow7.ne_ob ob10 tn12) on_nil)).ne ob20 tn12 _ hm rfl))
 refine WL.store (vs := [v23]) rfl rfl rfl (RS.cellsL rs26) t_size_49 (one_cons (RS.one rs26) one_nil) ob32 S31.sub (by simp) (ds := [.pointer (bif r14 then some ⟨b1, 0, none⟩ else none), v23, .string x9]) rfl (fun w33 s34 ob35 => ?_)
 have S36 := S31.trans1 s34 (.inl (by simp))
 refine WL.nil <| WQ.seqN <| WC.seq <| WC.region <| WL.val rfl rfl rfl (ov_move rfl) <| WL.val rfl rfl rfl (ov_lenS rfl t_string_9) <| WL.val rfl rfl rfl (ov_assign rfl) <| WL.val rfl rfl rfl (ov_assign rfl) <| WL.nil <| WQ.seqN <| WC.ret <| WQ.ret2 rfl rfl rfl ?_
 obtain rfl := Option.some.inj HF
 exact ⟨_, rfl, h25, S36, ⟨_, _, rfl, rfl, rfl⟩, ⟨_, (rs26.mono (s34.le)), (ow27.step s34 (on_cons (ow27.ne_ob ob32 tn12) on_nil)), om30, ob35⟩⟩
theorem ok_strings_Builder_WriteString (k : Nat) : C_strings_Builder_WriteString (F_strings_Builder_WriteString k) := s_strings_Builder_WriteString k

def C_print_lines_line (φ : Bool → (List UInt8) → ByteArray → ByteArray → Option (Bool × List UInt8)) : Prop := ∀ ⦃x2 : Bool⦄ ⦃xs3 : List UInt8⦄ ⦃x9 : ByteArray⦄ ⦃x11 : ByteArray⦄ ⦃r : Bool × List UInt8⦄, φ x2 xs3 x9 x11 = some r → ∀ ⦃w0 : World⦄ ⦃h0 : Hp⦄ ⦃b1 : Nat⦄ ⦃A4 : Option Addr⦄ ⦃c5 : Nat⦄, Sub h0 w0 → RS h0 (.slice A4 xs3.length c5) xs3 → Own w0 h0 h0.base 5 1 (.slice A4 xs3.length c5) xs3.length → OB w0 h0 b1 55 [.pointer (bif x2 then some ⟨b1, 0, none⟩ else none), .slice A4 xs3.length c5, .string x9] → (5 : Nat) ≠ 55 →
  Calls Tryz.prog 39 #[.pointer (some ⟨b1, 0, none⟩), .string x11] w0 fun e w1 => ∃ v, e = .returned v ∧ ∃ h1, Stp (b1 :: ((Value.slice A4 xs3.length c5).ownBlock.toList ++ [])) w0 h0 w1 h1 ∧ v = .tuple #[] ∧ (∃ y0 : Value, RS h1 y0 r.2 ∧ Own w1 h1 h0.base 5 1 y0 r.2.length ∧ (∀ i ∈ y0.ownBlock.toList, i ∈ (Value.slice A4 xs3.length c5).ownBlock.toList ∨ w0.heap.size ≤ i) ∧ OB w1 h1 b1 55 [.pointer (bif r.1 then some ⟨b1, 0, none⟩ else none), y0, .string x9])
set_option maxRecDepth 20000 in
set_option maxHeartbeats 4000000 in
theorem s_print_lines_line (k : Nat) : C_print_lines_line (F_print_lines_line k) := by
 intro x2 xs3 x9 x11 r HF w0 h0 b1 A4 c5 hs0 rs6 ow7 ob10 tn12
 have S0 : Stp (b1 :: ((Value.slice A4 xs3.length c5).ownBlock.toList ++ [])) w0 h0 w0 h0 := Stp.refl hs0 _
 have om8 : ∀ i ∈ (Value.slice A4 xs3.length c5).ownBlock.toList, i ∈ (Value.slice A4 xs3.length c5).ownBlock.toList ∨ w0.heap.size ≤ i := fun i hi => .inl hi
 have lt13 : b1 < w0.heap.size := OB.lt ob10
 refine enter (n := 15) Tryz.func39 rfl Tryz.ntmps39 rfl [(0, .pointer (some ⟨b1, 0, none⟩)), (1, .string x11)] rfl ?_
 obtain ⟨hl14, HF⟩ := ite_none HF
 obtain ⟨hl15, HF⟩ := ite_none HF
 refine WC.drawn (m := 10) [(0, .pointer (some ⟨b1, 0, none⟩)), (1, .string x11)] [0, 1] rfl (fun i v w h => match i with | 0 => v = .pointer (some ⟨b1, 0, none⟩) | 1 => v = .pointer (some ⟨b1, 0, none⟩) | 2 => v = .pointer (some ⟨b1, 0, none⟩) | 3 => v = .pointer (some ⟨b1, 0, none⟩) | 4 => v = .pointer (some ⟨b1, 0, none⟩) | 5 => v = .pointer (some ⟨b1, 2, none⟩) | 6 => v = .string x9 | 7 => v = .string x11 | 8 => v = .string (x9 ++ x11) | 9 => v = .string ((x9 ++ x11) ++ (⟨#[10]⟩ : ByteArray)) | _ => True) t_mixed S0.sub rfl rfl rfl rfl rfl ?_ ?_ ?_
 ·intro i v w h w2 h2 hΦ hst
  match i, hΦ with
  | 0, hΦ => exact hΦ
  | 1, hΦ => exact hΦ
  | 2, hΦ => exact hΦ
  | 3, hΦ => exact hΦ
  | 4, hΦ => exact hΦ
  | 5, hΦ => exact hΦ
  | 6, hΦ => exact hΦ
  | 7, hΦ => exact hΦ
  | 8, hΦ => exact hΦ
  | 9, hΦ => exact hΦ
  | i + 10, _ => exact trivial
 ·refine ⟨?_, ?_, ?_, ?_, ?_, ?_, ?_, ?_, ?_, ?_, trivial⟩
  ·intro a w16 h17 s18 hat hF
   exact front_val (show At _ [(0, .pointer (some ⟨b1, 0, none⟩)), (1, .string x11)] _ from hat) rfl (ov_move rfl) s18.sub (by exact rfl)
  ·intro a w16 h17 s18 hat hF
   obtain hv0 := hF 0 4 rfl rfl
   exact front_val (show At _ [(4, .pointer (some ⟨b1, 0, none⟩)), (0, .pointer (some ⟨b1, 0, none⟩)), (1, .string x11)] _ from (At.cons hat hv0)) rfl (ov_nilCheck rfl) s18.sub (by exact rfl)
  ·intro a w16 h17 s18 hat hF
   obtain hv1 := hF 1 5 rfl rfl
   exact front_val (show At _ [(5, .pointer (some ⟨b1, 0, none⟩)), (0, .pointer (some ⟨b1, 0, none⟩)), (1, .string x11)] _ from (At.cons hat hv1)) rfl (ov_fieldAddr rfl t_field_53_0) s18.sub (by exact rfl)
  ·intro a w16 h17 s18 hat hF
   exact front_val (show At _ [(0, .pointer (some ⟨b1, 0, none⟩)), (1, .string x11)] _ from hat) rfl (ov_move rfl) s18.sub (by exact rfl)
  ·intro a w16 h17 s18 hat hF
   obtain hv3 := hF 3 7 rfl rfl
   exact front_val (show At _ [(7, .pointer (some ⟨b1, 0, none⟩)), (0, .pointer (some ⟨b1, 0, none⟩)), (1, .string x11)] _ from (At.cons hat hv3)) rfl (ov_nilCheck rfl) s18.sub (by exact rfl)
  ·intro a w16 h17 s18 hat hF
   obtain hv4 := hF 4 8 rfl rfl
   exact front_val (show At _ [(8, .pointer (some ⟨b1, 0, none⟩)), (0, .pointer (some ⟨b1, 0, none⟩)), (1, .string x11)] _ from (At.cons hat hv4)) rfl (ov_fieldAddr rfl t_field_53_1) s18.sub (by exact rfl)
  ·intro a w16 h17 s18 hat hF
   obtain hv5 := hF 5 9 rfl rfl
   have ob19 := (ob10.step0 s18)
   exact front_val (show At _ [(9, .pointer (some ⟨b1, 2, none⟩)), (0, .pointer (some ⟨b1, 0, none⟩)), (1, .string x11)] _ from (At.cons hat hv5)) rfl (ov_load1 rfl t_agg_9 (OB.cell ob19 (j := 2) rfl)) s18.sub (by exact rfl)
  ·intro a w16 h17 s18 hat hF
   exact front_val (show At _ [(0, .pointer (some ⟨b1, 0, none⟩)), (1, .string x11)] _ from hat) rfl (ov_move rfl) s18.sub (by exact rfl)
  ·intro a w16 h17 s18 hat hF
   obtain hv6 := hF 6 10 rfl rfl
   obtain hv7 := hF 7 11 rfl rfl
   exact front_val (show At _ [(11, .string x11), (10, .string x9), (0, .pointer (some ⟨b1, 0, none⟩)), (1, .string x11)] _ from (At.cons (At.cons hat hv6) hv7)) rfl (ov_addS rfl rfl hl14) s18.sub (by exact rfl)
  ·intro a w16 h17 s18 hat hF
   obtain hv8 := hF 8 12 rfl rfl
   exact front_val (show At _ [(12, .string (x9 ++ x11)), (0, .pointer (some ⟨b1, 0, none⟩)), (1, .string x11)] _ from (At.cons hat hv8)) rfl (ov_addS rfl rfl hl15) s18.sub (by exact rfl)
 ·intro a w16 h17 s18 hat hF
  obtain hv0 := hF 0 4 (by decide) rfl
  obtain hv1 := hF 1 5 (by decide) rfl
  obtain hv2 := hF 2 6 (by decide) rfl
  obtain hv3 := hF 3 7 (by decide) rfl
  obtain hv4 := hF 4 8 (by decide) rfl
  obtain hv5 := hF 5 9 (by decide) rfl
  obtain hv6 := hF 6 10 (by decide) rfl
  obtain hv7 := hF 7 11 (by decide) rfl
  obtain hv8 := hF 8 12 (by decide) rfl
  obtain hv9 := hF 9 13 (by decide) rfl
  refine WL.at_ [(13, .string ((x9 ++ x11) ++ (⟨#[10]⟩ : ByteArray))), (12, .string (x9 ++ x11)), (11, .string x11), (10, .string x9), (9, .pointer (some ⟨b1, 2, none⟩)), (8, .pointer (some ⟨b1, 0, none⟩)), (7, .pointer (some ⟨b1, 0, none⟩)), (6, .pointer (some ⟨b1, 0, none⟩)), (5, .pointer (some ⟨b1, 0, none⟩)), (4, .pointer (some ⟨b1, 0, none⟩)), (0, .pointer (some ⟨b1, 0, none⟩)), (1, .string x11)] (At.cons (At.cons (At.cons (At.cons (At.cons (At.cons (At.cons (At.cons (At.cons (At.cons hat hv0) hv1) hv2) hv3) hv4) hv5) hv6) hv7) hv8) hv9) ?_
  have S20 := S0.trans0 s18
  have ob21 := (ob10.step0 s18)
  obtain ⟨r22, hr23, HF⟩ := bind_some HF
  refine WL.call rfl rfl rfl (oc_func (vs := [.pointer (some ⟨b1, 0, none⟩), .string ((x9 ++ x11) ++ (⟨#[10]⟩ : ByteArray))]) rfl t_ent_66) (ok_strings_Builder_WriteString _ hr23 S20.sub (rs6.mono (s18.le)) (by rw [S20.eqb]; exact (ow7.step0 s18)) ob21 tn12) ?_
  rintro _ w25 ⟨h26, s27, ⟨_, _, rfl, rfl, rfl⟩, ⟨v28, rs29, ow30, om31, ob34⟩⟩
  have ow32 := Own.rb ow30 S20.eqb
  have om33 : ∀ i ∈ v28.ownBlock.toList, i ∈ (Value.slice A4 xs3.length c5).ownBlock.toList ∨ w0.heap.size ≤ i := fun i hi => (om31 i hi).elim (fun q => om8 i q) (fun q => .inr (Nat.le_trans S20.size q))
  have S35 := S20.trans s27 (in_cons (.inl (by simp)) (in_own (fun i hi => (om8 i hi).elim (fun q => .inl (by simp only [List.mem_cons, List.mem_append]; simp [q])) .inr) in_nil))
  refine WL.nil <| WQ.end0 rfl ?_
  obtain rfl := Option.some.inj HF
  exact ⟨_, rfl, h26, S35, rfl, ⟨_, rs29, ow32, om33, ob34⟩⟩
theorem ok_print_lines_line (k : Nat) : C_print_lines_line (F_print_lines_line k) := s_print_lines_line k

def C_print_Joined_int (φ : (List Int) → ByteArray → Option ByteArray) : Prop := ∀ ⦃xs1 : List Int⦄ ⦃x4 : ByteArray⦄ ⦃r : ByteArray⦄, φ xs1 x4 = some r → ∀ ⦃w0 : World⦄ ⦃h0 : Hp⦄ ⦃v2 : Value⦄, Sub h0 w0 → RS h0 v2 xs1 →
  Calls Tryz.prog 45 #[v2, .string x4, .func (.func 36) #[] #[]] w0 fun e w1 => ∃ v, e = .returned v ∧ ∃ h1, Stp [] w0 h0 w1 h1 ∧ v = .string r
set_option maxRecDepth 20000 in
set_option maxHeartbeats 4000000 in
theorem s_print_Joined_int (k : Nat) (IH : ∀ j, j ≤ k → C_print_Joined_int (tie_print_Joined_int j).print_Joined_int) : C_print_Joined_int (m_print_Joined_int k (tie_print_Joined_int k)) := by
 intro xs1 x4 r HF w0 h0 v2 hs0 rs3
 have S0 : Stp [] w0 h0 w0 h0 := Stp.refl hs0 _
 refine enter (n := 26) Tryz.func45 rfl Tryz.ntmps45 rfl [(0, v2), (1, .string x4), (2, .func (.func 36) #[] #[])] rfl <| WC.seq <| WC.region <| WL.val rfl rfl rfl (ov_assign rfl) <| WL.nil <| WQ.seqN <| WC.seq <| WC.region <| WL.val rfl rfl rfl (ov_assign rfl) <| WL.nil <| WQ.seqN <| WC.seq <| WC.seq <| WC.region <| WL.val rfl rfl rfl (ov_move rfl) ?_
 obtain ⟨A5, c6, rfl, rs7⟩ := RS.form rs3
 refine WL.val rfl rfl rfl (ov_lenL rfl t_slice_45) <| WL.val rfl rfl rfl (ov_move rfl) <| WL.nil <| WQ.seqN <| WC.block <| WC.loop <| WP.to [1, 2, 7, 10, 11, 12] [(1, .string x4), (2, .func (.func 36) #[] #[]), (7, .slice none 0 0), (10, .slice A5 (xs1).length c6), (11, .int .i64 (xs1.length : Int)), (12, .int .i64 0)] rfl <| WP_rule (K := k) (fun j E w9 => ∃ (h8 : Hp) (xs12 : List ByteArray) (v13 : Value) (x16 : Int), (tie_print_Joined_int j).print_Joined_int_l1 xs1 x4 xs12 x16 = some r ∧ E = [(1, .string x4), (2, .func (.func 36) #[] #[]), (7, v13), (10, .slice A5 (xs1).length c6), (11, .int .i64 (xs1.length : Int)), (12, .int .i64 x16)] ∧ Stp [] w0 h0 w9 h8 ∧ Hle h0 h8 ∧ RS h8 v13 xs12 ∧ Own w9 h8 w0.heap.size 9 1 v13 xs12.length) ?_ ?_ (j := k) (Nat.le_refl _) ?_
 ·rintro E w9 ⟨_, _, _, _, HF, _⟩; cases HF
 ·rintro j17 hj19 IHL18 E w9 ⟨h8, xs12, v13, x16, HF, rfl, S11, le10, rs14, ow15⟩
  refine WC.seq <| WC.region <| WL.val rfl rfl rfl (ov_lss rfl rfl) <| WL.nil <| WQ.seqN <| WC.join (fun E w29 => ∃ (h28 : Hp) (xs32 : List ByteArray) (v33 : Value), print_Joined_int_j2 j17 (tie_print_Joined_int j17) xs1 x4 x16 xs32 = some r ∧ E = [(1, .string x4), (2, .func (.func 36) #[] #[]), (7, v33), (10, .slice A5 (xs1).length c6), (11, .int .i64 (xs1.length : Int)), (12, .int .i64 x16)] ∧ Stp [] w0 h0 w29 h28 ∧ Hle h8 h28 ∧ RS h28 v33 xs32 ∧ Own w29 h28 w0.heap.size 9 1 v33 xs32.length) ?_ ?_
  ·rintro E w29 ⟨h28, xs32, v33, HF, rfl, S31, le30, rs34, ow35⟩
   refine WC.seq <| WC.block <| WC.seq <| WC.region ?_
   obtain ⟨e36, he37, HF⟩ := bind_some HF
   obtain ⟨b38, o39, rfl, h41, h42, ra40⟩ := RS.atO (rs7.mono ((le10).trans le30)) he37
   obtain ⟨cs43, r44, hc45⟩ := ra40
   obtain rfl := (show cs43 = _ from r44)
   refine WL.val rfl rfl rfl (ov_indexAddr rfl rfl t_slice_45 t_size_3 h41 h42) <| WL.val rfl rfl rfl (ov_load1 rfl t_agg_3 (S31.sub.at_ _ _ _ (hc45 0 _ rfl))) <| WL.val rfl rfl rfl (ov_assign rfl) <| WL.nil <| WQ.seqN <| WC.region <| WL.val rfl rfl rfl (ov_move rfl) <| WL.val rfl rfl rfl (ov_move rfl) <| WL.val rfl rfl rfl (ov_move rfl) ?_
   obtain ⟨r46, hr47, HF⟩ := bind_some HF
   refine WL.call rfl rfl rfl (oc_val (vs := [.int .i64 e36]) (caps := []) rfl rfl t_ent_36) (ok_strconv_Itoa _ hr47 S31.sub) ?_
   rintro _ w49 ⟨h50, s51, rfl⟩
   have S52 := S31.trans0 s51
   refine WL.buildSliceD (us := [.string r46]) (cs := [.string r46]) rfl rfl rfl t_slice_41 t_size_9 t_zero_9 rfl (cl_cons rfl cl_nil) rfl rfl rfl S52.sub (fun w53 h54 b55 hb56 s57 hk58 hc59 => ?_)
   have S60 := S52.trans0 s57
   have rs61 : RS h54 (.slice (some ⟨b55, 0, none⟩) 1 1) ([r46] : List ByteArray) := RS.litL _ [[.string r46]] rfl rfl hc59 ⟨rfl, trivial⟩
   have ow62 := Own.lit (base := w0.heap.size) (sz := 1) (m := 1) hk58 hc59 (by rw [hb56]; exact S52.size) rfl (by decide)
   obtain ⟨hl63, HF⟩ := ite_none HF
   refine WL.append (xs := (xs32 : List ByteArray)) (ys := [r46]) rfl rfl rfl rfl t_slice_41 t_size_9 t_zero_9 rfl t_bytes_9 rfl ((ow35.step0 s51).step0 s57) (rs34.mono ((s51.le).trans s57.le)) rs61 hl63 S60.sub S60.size (by rw [S60.eqb]; exact hs0.big) (fun v64 w65 h66 rs67 ow68 s69 at70 => ?_)
   have S71 := S60.trans s69 (fun i hi => .inr (((ow35.step0 s51).step0 s57).base_le i hi))
   refine WL.val rfl rfl rfl (ov_assign rfl) <| WL.nil <| WQ.blockN <| WQ.seqN <| WC.region <| WL.val rfl rfl rfl (ov_add rfl rfl) <| WL.val rfl rfl rfl (ov_move rfl) <| WL.nil <| WQ.loopN <| WP.to [1, 2, 7, 10, 11, 12] [(1, .string x4), (2, .func (.func 36) #[] #[]), (7, v64), (10, .slice (some ⟨b38, o39, none⟩) (xs1).length c6), (11, .int .i64 (xs1.length : Int)), (12, .int .i64 (IntKind.i64.wrap (x16 + 1)))] rfl ?_
   exact IHL18 j17 (Nat.le_refl _) _ _ ⟨h66, xs32 ++ [r46], v64, IntKind.i64.wrap (x16 + 1), HF, rfl, S71, (le10).trans ((le30).trans ((s51.le).trans ((s57.le).trans s69.le))), rs67, ow68⟩
  ·intro J72
   refine WC.cond (b := decide ((x16 : Int) < (xs1.length : Int))) rfl (fun hb20 => ?_) (fun hb20 => ?_)
   ·replace HF := bif_t hb20 HF
    refine WC.skip <| WC.to [1, 2, 7, 10, 11, 12] [(1, .string x4), (2, .func (.func 36) #[] #[]), (7, v13), (10, .slice A5 (xs1).length c6), (11, .int .i64 (xs1.length : Int)), (12, .int .i64 x16)] rfl ?_
    exact J72 ⟨h8, xs12, v13, HF, rfl, S11, Hle.refl _, rs14, ow15⟩
   ·replace HF := bif_f hb20 HF
    refine WC.exit <| WQ.thenExit <| WQ.thenExit <| WQ.blockHit <| WQ.seqN <| WC.seq <| WC.region <| WL.val rfl rfl rfl (ov_move rfl) <| WL.val rfl rfl rfl (ov_move rfl) ?_
    obtain ⟨r21, hr22, HF⟩ := bind_some HF
    refine WL.call rfl rfl rfl (oc_func (vs := [v13, .string x4]) rfl t_ent_67) (ok_strings_Join _ hr22 S11.sub rs14) ?_
    rintro _ w24 ⟨h25, s26, rfl⟩
    have S27 := S11.trans0 s26
    refine WL.val rfl rfl rfl (ov_assign rfl) <| WL.nil <| WQ.seqN <| WC.ret <| WQ.ret1 rfl rfl ?_
    obtain rfl := Option.some.inj HF
    exact ⟨_, rfl, h25, S27, rfl⟩
 ·exact ⟨h0, ([] : List ByteArray), .slice none 0 0, 0, HF, rfl, S0, Hle.refl _, (RS.nil _), (Own.nil _ _ _ _ _)⟩
theorem all_print_Joined_int : ∀ k j, j ≤ k → C_print_Joined_int (tie_print_Joined_int j).print_Joined_int := by
  intro k
  induction k with
  | zero =>
    intro j hj
    obtain rfl : j = 0 := by omega
    exact (fun _ _ _ => by intro h; cases h)
  | succ k ih =>
    intro j hj
    by_cases h : j ≤ k
    · exact ih j h
    · obtain rfl : j = k + 1 := by omega
      exact s_print_Joined_int k ih
theorem ok_print_Joined_int (k : Nat) : C_print_Joined_int (F_print_Joined_int k) := (all_print_Joined_int k k (Nat.le_refl _))

def C_print_Inputs (φ : (List ByteArray) → (List Ex) → Option ByteArray) : Prop := ∀ ⦃xs1 : List ByteArray⦄ ⦃xs4 : List Ex⦄ ⦃r : ByteArray⦄, φ xs1 xs4 = some r → ∀ ⦃w0 : World⦄ ⦃h0 : Hp⦄ ⦃v2 : Value⦄ ⦃v5 : Value⦄, Sub h0 w0 → RS h0 v2 xs1 → RS h0 v5 xs4 →
  Calls Tryz.prog 40 #[v2, v5] w0 fun e w1 => ∃ v, e = .returned v ∧ ∃ h1, Stp [] w0 h0 w1 h1 ∧ v = .string r
set_option maxRecDepth 20000 in
set_option maxHeartbeats 4000000 in
theorem s_print_Inputs (k : Nat) (IH : ∀ j, j ≤ k → C_print_Inputs (tie_print_Inputs j).print_Inputs) : C_print_Inputs (m_print_Inputs k (tie_print_Inputs k)) := by
 intro xs1 xs4 r HF w0 h0 v2 v5 hs0 rs3 rs6
 have S0 : Stp [] w0 h0 w0 h0 := Stp.refl hs0 _
 refine enter (n := 29) Tryz.func40 rfl Tryz.ntmps40 rfl [(0, v2), (1, v5)] rfl <| WC.seq <| WC.region <| WL.val rfl rfl rfl (ov_assign rfl) <| WL.nil <| WQ.seqN <| WC.seq <| WC.region <| WL.val rfl rfl rfl (ov_assign rfl) <| WL.nil <| WQ.seqN <| WC.seq <| WC.seq <| WC.region <| WL.val rfl rfl rfl (ov_move rfl) ?_
 obtain ⟨A7, c8, rfl, rs9⟩ := RS.form rs3
 refine WL.val rfl rfl rfl (ov_lenL rfl t_slice_41) <| WL.val rfl rfl rfl (ov_move rfl) <| WL.nil <| WQ.seqN <| WC.block <| WC.loop <| WP.to [1, 5, 8, 9, 10] [(1, v5), (5, .slice none 0 0), (8, .slice A7 (xs1).length c8), (9, .int .i64 (xs1.length : Int)), (10, .int .i64 0)] rfl <| WP_rule (K := k) (fun j E w11 => ∃ (h10 : Hp) (xs14 : List ByteArray) (v15 : Value) (x18 : Int), (tie_print_Inputs j).print_Inputs_l1 xs1 xs4 xs14 x18 = some r ∧ E = [(1, v5), (5, v15), (8, .slice A7 (xs1).length c8), (9, .int .i64 (xs1.length : Int)), (10, .int .i64 x18)] ∧ Stp [] w0 h0 w11 h10 ∧ Hle h0 h10 ∧ RS h10 v15 xs14 ∧ Own w11 h10 w0.heap.size 9 1 v15 xs14.length) ?_ ?_ (j := k) (Nat.le_refl _) ?_
 ·rintro E w11 ⟨_, _, _, _, HF, _⟩; cases HF
 ·rintro j19 hj21 IHL20 E w11 ⟨h10, xs14, v15, x18, HF, rfl, S13, le12, rs16, ow17⟩
  refine WC.seq <| WC.region <| WL.val rfl rfl rfl (ov_lss rfl rfl) <| WL.nil <| WQ.seqN <| WC.join (fun E w31 => ∃ (h30 : Hp) (xs34 : List ByteArray) (v35 : Value), print_Inputs_j2 j19 (tie_print_Inputs j19) xs1 xs4 x18 xs34 = some r ∧ E = [(1, v5), (5, v35), (8, .slice A7 (xs1).length c8), (9, .int .i64 (xs1.length : Int)), (10, .int .i64 x18)] ∧ Stp [] w0 h0 w31 h30 ∧ Hle h10 h30 ∧ RS h30 v35 xs34 ∧ Own w31 h30 w0.heap.size 9 1 v35 xs34.length) ?_ ?_
  ·rintro E w31 ⟨h30, xs34, v35, HF, rfl, S33, le32, rs36, ow37⟩
   refine WC.seq <| WC.block <| WC.seq <| WC.region <| WL.val rfl rfl rfl (ov_move rfl) ?_
   obtain ⟨e38, he39, HF⟩ := bind_some HF
   obtain ⟨b40, o41, rfl, h43, h44, ra42⟩ := RS.atO (rs9.mono ((le12).trans le32)) he39
   obtain ⟨cs45, r46, hc47⟩ := ra42
   obtain rfl := (show cs45 = _ from r46)
   refine WL.val rfl rfl rfl (ov_indexAddr rfl rfl t_slice_41 t_size_9 h43 h44) <| WL.val rfl rfl rfl (ov_load1 rfl t_agg_9 (S33.sub.at_ _ _ _ (hc47 0 _ rfl))) <| WL.val rfl rfl rfl (ov_assign rfl) <| WL.val rfl rfl rfl (ov_assign rfl) <| WL.nil <| WQ.seqN <| WC.region <| WL.val rfl rfl rfl (ov_move rfl) <| WL.val rfl rfl rfl (ov_move rfl) ?_
   obtain ⟨hl48, HF⟩ := ite_none HF
   refine WL.val rfl rfl rfl (ov_addS rfl rfl hl48) <| WL.val rfl rfl rfl (ov_move rfl) <| WL.val rfl rfl rfl (ov_move rfl) ?_
   obtain ⟨A49, c50, rfl, rs51⟩ := RS.form (rs6.mono ((le12).trans le32))
   obtain ⟨e52, he53, HF⟩ := bind_some HF
   obtain ⟨b54, o55, rfl, h57, h58, ra56⟩ := RS.atO rs51 he53
   obtain ⟨cs59, r60, hc61⟩ := ra56
   refine WL.val rfl rfl rfl (ov_indexAddr rfl rfl t_slice_30 t_size_32 h57 h58) <| WL.val rfl rfl rfl (ov_loadN (cs := cs59) rfl t_agg_32 (by rw [Rp.len r60]; exact t_size_32) (fun j v hv => S33.sub.at_ _ _ _ (hc61 j v hv))) ?_
   obtain ⟨r62, hr63, HF⟩ := bind_some HF
   refine WL.call rfl rfl rfl (oc_func (vs := [.agg cs59.toArray]) rfl t_ent_27) (ok_print_Of _ hr63 S33.sub r60) ?_
   rintro _ w65 ⟨h66, s67, rfl⟩
   have S68 := S33.trans0 s67
   obtain ⟨hl69, HF⟩ := ite_none HF
   refine WL.val rfl rfl rfl (ov_addS rfl rfl hl69) <| WL.buildSliceD (us := [.string ((e38 ++ (⟨#[32, 58, 61, 32]⟩ : ByteArray)) ++ r62)]) (cs := [.string ((e38 ++ (⟨#[32, 58, 61, 32]⟩ : ByteArray)) ++ r62)]) rfl rfl rfl t_slice_41 t_size_9 t_zero_9 rfl (cl_cons rfl cl_nil) rfl rfl rfl S68.sub (fun w70 h71 b72 hb73 s74 hk75 hc76 => ?_)
   have S77 := S68.trans0 s74
   have rs78 : RS h71 (.slice (some ⟨b72, 0, none⟩) 1 1) ([(e38 ++ (⟨#[32, 58, 61, 32]⟩ : ByteArray)) ++ r62] : List ByteArray) := RS.litL _ [[.string ((e38 ++ (⟨#[32, 58, 61, 32]⟩ : ByteArray)) ++ r62)]] rfl rfl hc76 ⟨rfl, trivial⟩
   have ow79 := Own.lit (base := w0.heap.size) (sz := 1) (m := 1) hk75 hc76 (by rw [hb73]; exact S68.size) rfl (by decide)
   obtain ⟨hl80, HF⟩ := ite_none HF
   refine WL.append (xs := (xs34 : List ByteArray)) (ys := [(e38 ++ (⟨#[32, 58, 61, 32]⟩ : ByteArray)) ++ r62]) rfl rfl rfl rfl t_slice_41 t_size_9 t_zero_9 rfl t_bytes_9 rfl ((ow37.step0 s67).step0 s74) (rs36.mono ((s67.le).trans s74.le)) rs78 hl80 S77.sub S77.size (by rw [S77.eqb]; exact hs0.big) (fun v81 w82 h83 rs84 ow85 s86 at87 => ?_)
   have S88 := S77.trans s86 (fun i hi => .inr (((ow37.step0 s67).step0 s74).base_le i hi))
   refine WL.val rfl rfl rfl (ov_assign rfl) <| WL.nil <| WQ.blockN <| WQ.seqN <| WC.region <| WL.val rfl rfl rfl (ov_add rfl rfl) <| WL.val rfl rfl rfl (ov_move rfl) <| WL.nil <| WQ.loopN <| WP.to [1, 5, 8, 9, 10] [(1, .slice (some ⟨b54, o55, none⟩) (xs4).length c50), (5, v81), (8, .slice (some ⟨b40, o41, none⟩) (xs1).length c8), (9, .int .i64 (xs1.length : Int)), (10, .int .i64 (IntKind.i64.wrap (x18 + 1)))] rfl ?_
   exact IHL20 j19 (Nat.le_refl _) _ _ ⟨h83, xs34 ++ [(e38 ++ (⟨#[32, 58, 61, 32]⟩ : ByteArray)) ++ r62], v81, IntKind.i64.wrap (x18 + 1), HF, rfl, S88, (le12).trans ((le32).trans ((s67.le).trans ((s74.le).trans s86.le))), rs84, ow85⟩
  ·intro J89
   refine WC.cond (b := decide ((x18 : Int) < (xs1.length : Int))) rfl (fun hb22 => ?_) (fun hb22 => ?_)
   ·replace HF := bif_t hb22 HF
    refine WC.skip <| WC.to [1, 5, 8, 9, 10] [(1, v5), (5, v15), (8, .slice A7 (xs1).length c8), (9, .int .i64 (xs1.length : Int)), (10, .int .i64 x18)] rfl ?_
    exact J89 ⟨h10, xs14, v15, HF, rfl, S13, Hle.refl _, rs16, ow17⟩
   ·replace HF := bif_f hb22 HF
    refine WC.exit <| WQ.thenExit <| WQ.thenExit <| WQ.blockHit <| WQ.seqN <| WC.seq <| WC.region <| WL.val rfl rfl rfl (ov_move rfl) ?_
    obtain ⟨r23, hr24, HF⟩ := bind_some HF
    refine WL.call rfl rfl rfl (oc_func (vs := [v15, .string (⟨#[44, 32]⟩ : ByteArray)]) rfl t_ent_67) (ok_strings_Join _ hr24 S13.sub rs16) ?_
    rintro _ w26 ⟨h27, s28, rfl⟩
    have S29 := S13.trans0 s28
    refine WL.val rfl rfl rfl (ov_assign rfl) <| WL.nil <| WQ.seqN <| WC.ret <| WQ.ret1 rfl rfl ?_
    obtain rfl := Option.some.inj HF
    exact ⟨_, rfl, h27, S29, rfl⟩
 ·exact ⟨h0, ([] : List ByteArray), .slice none 0 0, 0, HF, rfl, S0, Hle.refl _, (RS.nil _), (Own.nil _ _ _ _ _)⟩
theorem all_print_Inputs : ∀ k j, j ≤ k → C_print_Inputs (tie_print_Inputs j).print_Inputs := by
  intro k
  induction k with
  | zero =>
    intro j hj
    obtain rfl : j = 0 := by omega
    exact (fun _ _ _ => by intro h; cases h)
  | succ k ih =>
    intro j hj
    by_cases h : j ≤ k
    · exact ih j h
    · obtain rfl : j = k + 1 := by omega
      exact s_print_Inputs k ih
theorem ok_print_Inputs (k : Nat) : C_print_Inputs (F_print_Inputs k) := (all_print_Inputs k k (Nat.le_refl _))
end Go.Proofs.YtaknpdhmhifpeaaGreatDoor
