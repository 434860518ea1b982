import Derived.Test.YtaknpdhmhifpeaaGreatDoorE0
import Derived.Test.YtaknpdhmhifpeaaGreatDoorProg
import Derived.Test.YtaknpdhmhifpeaaGreatDoorGF
import Derived.Test.YtaknpdhmhifpeaaGreatDoorGM
set_option linter.unusedVariables false
set_option linter.unusedSimpArgs false
namespace Go.Proofs.YtaknpdhmhifpeaaGreatDoor
open Go
def C_law03_exprs (φ : (List Ex) → Int → Option Int) : Prop := ∀ ⦃xs1 : List Ex⦄ ⦃x4 : Int⦄ ⦃r : Int⦄, φ xs1 x4 = some r → ∀ ⦃w0 : World⦄ ⦃h0 : Hp⦄ ⦃v2 : Value⦄, Sub h0 w0 → RS h0 v2 xs1 →
  Calls Tryz.prog 13 #[v2, .int .i64 x4] w0 fun e w1 => ∃ v, e = .returned v ∧ ∃ h1, Stp [] w0 h0 w1 h1 ∧ v = .int .i64 r
set_option maxRecDepth 20000 in
set_option maxHeartbeats 4000000 in
theorem s_law03_exprs (k : Nat) (IH : ∀ j, j ≤ k → C_law03_exprs (tie_law03_exprs j).law03_exprs) : C_law03_exprs (m_law03_exprs k (tie_law03_exprs k)) := by
 intro xs1 x4 r HF w0 h0 v2 hs0 rs3
 have S0 : Stp [] w0 h0 w0 h0 := Stp.refl hs0 _
 refine enter (n := 32) Tryz.func13 rfl Tryz.ntmps13 rfl [(0, v2), (1, .int .i64 x4)] rfl <| WC.seq <| WC.region <| WL.val rfl rfl rfl (ov_assign rfl) <| WL.nil <| WQ.seqN <| WC.join (fun E w7 => ∃ (h6 : Hp), law03_exprs_j1 k (tie_law03_exprs k) xs1 x4 = some r ∧ E = [(0, v2), (1, .int .i64 x4)] ∧ Stp [] w0 h0 w7 h6 ∧ Hle h0 h6) ?_ ?_
 ·rintro E w7 ⟨h6, HF, rfl, S9, le8⟩
  refine WC.seq <| WC.region <| WL.val rfl rfl rfl (ov_move rfl) ?_
  obtain ⟨A10, c11, rfl, rs12⟩ := RS.form (rs3.mono (le8))
  refine WL.val rfl rfl rfl (ov_lenL rfl t_slice_30) <| WL.val rfl rfl rfl (ov_assign rfl) <| WL.nil <| WQ.seqN <| WC.seq <| WC.seq <| WC.region <| WL.val rfl rfl rfl (ov_assign rfl) <| WL.nil <| WQ.seqN <| WC.block <| WC.loop <| WP.to [0, 1, 5, 6] [(0, .slice A10 (xs1).length c11), (1, .int .i64 x4), (5, .int .i64 (xs1.length : Int)), (6, .int .i64 0)] rfl <| WP_rule (K := k) (fun j E w14 => ∃ (h13 : Hp) (x17 : Int) (x18 : Int), (tie_law03_exprs j).law03_exprs_l2 xs1 x4 x17 x18 = some r ∧ E = [(0, .slice A10 (xs1).length c11), (1, .int .i64 x4), (5, .int .i64 x17), (6, .int .i64 x18)] ∧ Stp [] w0 h0 w14 h13 ∧ Hle h6 h13) ?_ ?_ (j := k) (Nat.le_refl _) ?_
  ·rintro E w14 ⟨_, _, _, HF, _⟩; cases HF
  ·rintro j19 hj21 IHL20 E w14 ⟨h13, x17, x18, HF, rfl, S16, le15⟩
   refine WC.join (fun E w31 => ∃ (h30 : Hp), law03_exprs_j4 j19 (tie_law03_exprs j19) xs1 x4 x17 x18 = some r ∧ E = [(0, .slice A10 (xs1).length c11), (1, .int .i64 x4), (5, .int .i64 x17), (6, .int .i64 x18)] ∧ Stp [] w0 h0 w31 h30 ∧ Hle h13 h30) ?_ ?_
   ·rintro E w31 ⟨h30, HF, rfl, S33, le32⟩
    refine WC.seq <| WC.block <| WC.region <| WL.val rfl rfl rfl (ov_move rfl) <| WL.val rfl rfl rfl (ov_move rfl) <| WL.val rfl rfl rfl (ov_move rfl) ?_
    obtain ⟨e34, he35, HF⟩ := bind_some HF
    obtain ⟨b36, o37, rfl, h39, h40, ra38⟩ := RS.atO (rs12.mono ((le15).trans le32)) he35
    obtain ⟨cs41, r42, hc43⟩ := ra38
    refine WL.val rfl rfl rfl (ov_indexAddr rfl rfl t_slice_30 t_size_32 h39 h40) <| WL.val rfl rfl rfl (ov_fieldAddr rfl t_field_32_5) ?_
    obtain ⟨v44, rfl, rs45⟩ := rp_Ex.1 r42
    refine WL.val rfl rfl rfl (ov_load1 rfl t_agg_30 (S33.sub.at_ _ _ _ (hc43 5 _ rfl))) <| WL.val rfl rfl rfl (ov_move rfl) <| WL.val rfl rfl rfl (ov_add rfl rfl) ?_
    obtain ⟨r46, hr47, HF⟩ := bind_some HF
    refine WL.call rfl rfl rfl (oc_func (vs := [v44, .int .i64 (IntKind.i64.wrap (x4 + 1))]) rfl t_ent_13) ((IH _ (Nat.le_trans (Nat.le_of_succ_le hj21) (Nat.le_refl _))) hr47 S33.sub rs45) ?_
    rintro _ w49 ⟨h50, s51, rfl⟩
    have S52 := S33.trans0 s51
    refine WL.val rfl rfl rfl (ov_add rfl rfl) <| WL.val rfl rfl rfl (ov_assign rfl) <| WL.nil <| WQ.blockN <| WQ.seqN <| WC.region <| WL.val rfl rfl rfl (ov_move rfl) <| WL.val rfl rfl rfl (ov_add rfl rfl) <| WL.val rfl rfl rfl (ov_assign rfl) <| WL.nil <| WQ.loopN <| WP.to [0, 1, 5, 6] [(0, .slice (some ⟨b36, o37, none⟩) (xs1).length c11), (1, .int .i64 x4), (5, .int .i64 (IntKind.i64.wrap (x17 + r46))), (6, .int .i64 (IntKind.i64.wrap (x18 + 1)))] rfl ?_
    exact IHL20 j19 (Nat.le_refl _) _ _ ⟨h50, IntKind.i64.wrap (x17 + r46), IntKind.i64.wrap (x18 + 1), HF, rfl, S52, (le15).trans ((le32).trans s51.le)⟩
   ·intro J53
    refine WC.join (fun E w24 => ∃ (h23 : Hp) (x27 : Bool), law03_exprs_j3 j19 (tie_law03_exprs j19) xs1 x4 x17 x18 x27 = some r ∧ E = [(0, .slice A10 (xs1).length c11), (1, .int .i64 x4), (5, .int .i64 x17), (6, .int .i64 x18), (18, .bool x27)] ∧ Stp [] w0 h0 w24 h23 ∧ Hle h13 h23) ?_ ?_
    ·rintro E w24 ⟨h23, x27, HF, rfl, S26, le25⟩
     refine WC.cond (b := x27) rfl (fun hb28 => ?_) (fun hb28 => ?_)
     ·replace HF := bif_t hb28 HF
      refine WC.skip <| WC.to [0, 1, 5, 6] [(0, .slice A10 (xs1).length c11), (1, .int .i64 x4), (5, .int .i64 x17), (6, .int .i64 x18)] rfl ?_
      exact J53 ⟨h23, HF, rfl, S26, le25⟩
     ·replace HF := bif_f hb28 HF
      refine WC.exit <| WQ.thenExit <| WQ.thenExit <| WQ.blockHit <| WQ.seqN <| WC.seq <| WC.region <| WL.val rfl rfl rfl (ov_move rfl) <| WL.val rfl rfl rfl (ov_assign rfl) <| WL.nil <| WQ.seqN <| WC.ret <| WQ.ret1 rfl rfl ?_
      obtain rfl := Option.some.inj HF
      exact ⟨_, rfl, h23, S26, rfl⟩
    ·intro J29
     refine WC.region <| WL.val rfl rfl rfl (ov_move rfl) <| WL.val rfl rfl rfl (ov_move rfl) <| WL.val rfl rfl rfl (ov_lenL rfl t_slice_30) <| WL.val rfl rfl rfl (ov_lss rfl rfl) <| WL.val rfl rfl rfl (ov_move rfl) <| WL.split 15 (b := decide ((x18 : Int) < (xs1.length : Int))) rfl (fun hb22 => ?_) (fun hb22 => ?_)
     ·replace HF := bif_t hb22 HF
      refine WL.val rfl rfl rfl (ov_move rfl) <| WL.val rfl rfl rfl (ov_leq rfl rfl) <| WL.val rfl rfl rfl (ov_pickT rfl rfl) <| WL.nil <| WC.to [0, 1, 5, 6, 18] [(0, .slice A10 (xs1).length c11), (1, .int .i64 x4), (5, .int .i64 x17), (6, .int .i64 x18), (18, .bool (decide ((x17 : Int) ≤ 2000)))] rfl ?_
      exact J29 ⟨h13, decide ((x17 : Int) ≤ 2000), HF, rfl, S16, Hle.refl _⟩
     ·replace HF := bif_f hb22 HF
      refine WL.pass rfl rfl rfl <| WL.pass rfl rfl rfl <| WL.val rfl rfl rfl (ov_pickF rfl rfl) <| WL.nil <| WC.to [0, 1, 5, 6, 18] [(0, .slice A10 (xs1).length c11), (1, .int .i64 x4), (5, .int .i64 x17), (6, .int .i64 x18), (18, .bool false)] rfl ?_
      exact J29 ⟨h13, false, HF, rfl, S16, Hle.refl _⟩
  ·exact ⟨h6, (xs1.length : Int), 0, HF, rfl, S9, Hle.refl _⟩
 ·intro J54
  refine WC.seq <| WC.region <| WL.val rfl rfl rfl (ov_move rfl) <| WL.val rfl rfl rfl (ov_gtr rfl rfl) <| WL.nil <| WQ.seqN <| WC.cond (b := decide ((60 : Int) < x4)) rfl (fun hb5 => ?_) (fun hb5 => ?_)
  ·replace HF := bif_t hb5 HF
   refine WC.seq <| WC.region <| WL.val rfl rfl rfl (ov_assign rfl) <| WL.nil <| WQ.seqN <| WC.ret <| WQ.thenRet <| WQ.ret1 rfl rfl ?_
   obtain rfl := Option.some.inj HF
   exact ⟨_, rfl, h0, S0, rfl⟩
  ·replace HF := bif_f hb5 HF
   refine WC.skip <| WC.to [0, 1] [(0, v2), (1, .int .i64 x4)] rfl ?_
   exact J54 ⟨h0, HF, rfl, S0, Hle.refl _⟩
theorem all_law03_exprs : ∀ k j, j ≤ k → C_law03_exprs (tie_law03_exprs j).law03_exprs := by
  intro k
  induction k with
  | zero =>
    intro j hj
    obtain rfl : j = 0 := by omega
    exact (fun _ _ _ => by intro h; cases h)
  | succ k ih =>
    intro j hj
    by_cases h : j ≤ k
    · exact ih j h
    · obtain rfl : j = k + 1 := by omega
      exact s_law03_exprs k ih
theorem ok_law03_exprs (k : Nat) : C_law03_exprs (F_law03_exprs k) := (all_law03_exprs k k (Nat.le_refl _))

def C_ast_within (φ : Int → Int → Int → Option Bool) : Prop := ∀ ⦃x1 : Int⦄ ⦃x2 : Int⦄ ⦃x3 : Int⦄ ⦃r : Bool⦄, φ x1 x2 x3 = some r → ∀ ⦃w0 : World⦄ ⦃h0 : Hp⦄, Sub h0 w0 →
  Calls Tryz.prog 62 #[.int .i64 x1, .int .i64 x2, .int .i64 x3] w0 fun e w1 => ∃ v, e = .returned v ∧ ∃ h1, Stp [] w0 h0 w1 h1 ∧ v = .bool r
set_option maxRecDepth 20000 in
set_option maxHeartbeats 4000000 in
theorem s_ast_within (k : Nat) : C_ast_within (F_ast_within k) := by
 intro x1 x2 x3 r HF w0 h0  hs0 
 have S0 : Stp [] w0 h0 w0 h0 := Stp.refl hs0 _
 refine enter (n := 15) Tryz.func62 rfl Tryz.ntmps62 rfl [(0, .int .i64 x1), (1, .int .i64 x2), (2, .int .i64 x3)] rfl <| WC.seq <| WC.region <| WL.val rfl rfl rfl (ov_assign rfl) <| WL.nil <| WQ.seqN <| WC.seq <| WC.region <| WL.val rfl rfl rfl (ov_move rfl) <| WL.val rfl rfl rfl (ov_move rfl) <| WL.val rfl rfl rfl (ov_geq rfl rfl) <| WL.val rfl rfl rfl (ov_move rfl) <| WL.split 10 (b := decide ((x2 : Int) ≤ x1)) rfl (fun hb4 => ?_) (fun hb4 => ?_)
 ·replace HF := bif_t hb4 HF
  refine WL.val rfl rfl rfl (ov_move rfl) <| WL.val rfl rfl rfl (ov_move rfl) <| WL.val rfl rfl rfl (ov_leq rfl rfl) <| WL.val rfl rfl rfl (ov_pickT rfl rfl) <| WL.val rfl rfl rfl (ov_assign rfl) <| WL.nil <| WQ.seqN <| WC.ret <| WQ.ret1 rfl rfl ?_
  obtain rfl := Option.some.inj HF
  exact ⟨_, rfl, h0, S0, rfl⟩
 ·replace HF := bif_f hb4 HF
  refine WL.pass rfl rfl rfl <| WL.pass rfl rfl rfl <| WL.pass rfl rfl rfl <| WL.val rfl rfl rfl (ov_pickF rfl rfl) <| WL.val rfl rfl rfl (ov_assign rfl) <| WL.nil <| WQ.seqN <| WC.ret <| WQ.ret1 rfl rfl ?_
  obtain rfl := Option.some.inj HF
  exact ⟨_, rfl, h0, S0, rfl⟩
theorem ok_ast_within (k : Nat) : C_ast_within (F_ast_within k) := s_ast_within k

def C_ast_IsConst (φ : Int → Int → Option Bool) : Prop := ∀ ⦃x1 : Int⦄ ⦃x2 : Int⦄ ⦃r : Bool⦄, φ x1 x2 = some r → ∀ ⦃w0 : World⦄ ⦃h0 : Hp⦄, Sub h0 w0 →
  Calls Tryz.prog 33 #[.int .i64 x1, .int .i64 x2] w0 fun e w1 => ∃ v, e = .returned v ∧ ∃ h1, Stp [] w0 h0 w1 h1 ∧ v = .bool r
set_option maxRecDepth 20000 in
set_option maxHeartbeats 4000000 in
theorem s_ast_IsConst (k : Nat) : C_ast_IsConst (F_ast_IsConst k) := by
 intro x1 x2 r HF w0 h0  hs0 
 have S0 : Stp [] w0 h0 w0 h0 := Stp.refl hs0 _
 refine enter (n := 15) Tryz.func33 rfl Tryz.ntmps33 rfl [(0, .int .i64 x1), (1, .int .i64 x2)] rfl <| WC.seq <| WC.region <| WL.val rfl rfl rfl (ov_assign rfl) <| WL.nil <| WQ.seqN <| WC.join (fun E w27 => ∃ (h26 : Hp), ast_IsConst_j2 k  = some r ∧ E = [] ∧ Stp [] w0 h0 w27 h26 ∧ Hle h0 h26) ?_ ?_
 ·rintro E w27 ⟨h26, HF, rfl, S29, le28⟩
  refine WC.seq <| WC.region <| WL.val rfl rfl rfl (ov_assign rfl) <| WL.nil <| WQ.seqN <| WC.ret <| WQ.ret1 rfl rfl ?_
  obtain rfl := Option.some.inj HF
  exact ⟨_, rfl, h26, S29, rfl⟩
 ·intro J30
  refine WC.seq <| WC.region <| WL.val rfl rfl rfl (ov_move rfl) <| WL.nil <| WQ.seqN <| WC.block <| WC.seq <| WC.region <| WL.val rfl rfl rfl (ov_eql rfl rfl) <| WL.val rfl rfl rfl (ov_assign rfl) <| WL.nil <| WQ.seqN <| WC.cond (b := (x1 : Int) == 1) rfl (fun hb3 => ?_) (fun hb3 => ?_)
  ·replace HF := bif_t hb3 HF
   refine WC.seq <| WC.region <| WL.val rfl rfl rfl (ov_move rfl) ?_
   obtain ⟨r4, hr5, HF⟩ := bind_some HF
   refine WL.call rfl rfl rfl (oc_func (vs := [.int .i64 x2, .int .i64 0, .int .i64 1]) rfl t_ent_62) (ok_ast_within _ hr5 S0.sub) ?_
   rintro _ w7 ⟨h8, s9, rfl⟩
   have S10 := S0.trans0 s9
   refine WL.val rfl rfl rfl (ov_assign rfl) <| WL.nil <| WQ.seqN <| WC.ret <| WQ.blockRet <| WQ.thenRet <| WQ.ret1 rfl rfl ?_
   obtain rfl := Option.some.inj HF
   exact ⟨_, rfl, h8, S10, rfl⟩
  ·replace HF := bif_f hb3 HF
   refine WC.join (fun E w13 => ∃ (h12 : Hp) (x16 : Bool), ast_IsConst_j1 k x2 x16 = some r ∧ E = [(1, .int .i64 x2), (10, .bool x16)] ∧ Stp [] w0 h0 w13 h12 ∧ Hle h0 h12) ?_ ?_
   ·rintro E w13 ⟨h12, x16, HF, rfl, S15, le14⟩
    refine WC.cond (b := x16) rfl (fun hb17 => ?_) (fun hb17 => ?_)
    ·replace HF := bif_t hb17 HF
     refine WC.seq <| WC.region <| WL.val rfl rfl rfl (ov_move rfl) ?_
     obtain ⟨r18, hr19, HF⟩ := bind_some HF
     refine WL.call rfl rfl rfl (oc_func (vs := [.int .i64 x2, .int .i64 0, .int .i64 2147483647]) rfl t_ent_62) (ok_ast_within _ hr19 S15.sub) ?_
     rintro _ w21 ⟨h22, s23, rfl⟩
     have S24 := S15.trans0 s23
     refine WL.val rfl rfl rfl (ov_assign rfl) <| WL.nil <| WQ.seqN <| WC.ret <| WQ.blockRet <| WQ.thenRet <| WQ.ret1 rfl rfl ?_
     obtain rfl := Option.some.inj HF
     exact ⟨_, rfl, h22, S24, rfl⟩
    ·replace HF := bif_f hb17 HF
     refine WC.skip <| WQ.blockN <| WC.to [] [] rfl ?_
     exact J30 ⟨h12, HF, rfl, S15, le14⟩
   ·intro J25
    refine WC.seq <| WC.region <| WL.val rfl rfl rfl (ov_eql rfl rfl) <| WL.val rfl rfl rfl (ov_assign rfl) <| WL.nil <| WQ.seqN <| WC.cond (b := (x1 : Int) == 2) rfl (fun hb11 => ?_) (fun hb11 => ?_)
    ·replace HF := bif_t hb11 HF
     refine WC.skip <| WC.to [1, 10] [(1, .int .i64 x2), (10, .bool ((x1 : Int) == 2))] rfl ?_
     exact J25 ⟨h0, (x1 : Int) == 2, HF, rfl, S0, Hle.refl _⟩
    ·replace HF := bif_f hb11 HF
     refine WC.region <| WL.val rfl rfl rfl (ov_eql rfl rfl) <| WL.val rfl rfl rfl (ov_assign rfl) <| WL.nil <| WC.to [1, 10] [(1, .int .i64 x2), (10, .bool ((x1 : Int) == 3))] rfl ?_
     exact J25 ⟨h0, (x1 : Int) == 3, HF, rfl, S0, Hle.refl _⟩
theorem ok_ast_IsConst (k : Nat) : C_ast_IsConst (F_ast_IsConst k) := s_ast_IsConst k

def C_lexis_IsWord (φ : ByteArray → Option Bool) : Prop := ∀ ⦃x1 : ByteArray⦄ ⦃r : Bool⦄, φ x1 = some r → ∀ ⦃w0 : World⦄ ⦃h0 : Hp⦄, Sub h0 w0 →
  Calls Tryz.prog 119 #[.string x1] w0 fun e w1 => ∃ v, e = .returned v ∧ ∃ h1, Stp [] w0 h0 w1 h1 ∧ v = .bool r
set_option maxRecDepth 20000 in
set_option maxHeartbeats 4000000 in
theorem s_lexis_IsWord (k : Nat) : C_lexis_IsWord (F_lexis_IsWord k) := by
 intro x1 r HF w0 h0  hs0 
 have S0 : Stp [] w0 h0 w0 h0 := Stp.refl hs0 _
 refine enter (n := 95) Tryz.func119 rfl Tryz.ntmps119 rfl [(0, .string x1)] rfl <| WC.seq <| WC.region <| WL.val rfl rfl rfl (ov_assign rfl) <| WL.nil <| WQ.seqN <| WC.join (fun E w99 => ∃ (h98 : Hp), lexis_IsWord_j2 k  = some r ∧ E = [] ∧ Stp [] w0 h0 w99 h98 ∧ Hle h0 h98) ?_ ?_
 ·rintro E w99 ⟨h98, HF, rfl, S101, le100⟩
  refine WC.seq <| WC.region <| WL.val rfl rfl rfl (ov_assign rfl) <| WL.nil <| WQ.seqN <| WC.ret <| WQ.ret1 rfl rfl ?_
  obtain rfl := Option.some.inj HF
  exact ⟨_, rfl, h98, S101, rfl⟩
 ·intro J102
  refine WC.seq <| WC.region <| WL.val rfl rfl rfl (ov_move rfl) <| WL.nil <| WQ.seqN <| WC.block <| WC.join (fun E w92 => ∃ (h91 : Hp) (x95 : Bool), lexis_IsWord_j1 k x95 = some r ∧ E = [(4, .bool x95)] ∧ Stp [] w0 h0 w92 h91 ∧ Hle h0 h91) ?_ ?_
  ·rintro E w92 ⟨h91, x95, HF, rfl, S94, le93⟩
   refine WC.cond (b := x95) rfl (fun hb96 => ?_) (fun hb96 => ?_)
   ·replace HF := bif_t hb96 HF
    refine WC.seq <| WC.region <| WL.val rfl rfl rfl (ov_assign rfl) <| WL.nil <| WQ.seqN <| WC.ret <| WQ.blockRet <| WQ.thenRet <| WQ.ret1 rfl rfl ?_
    obtain rfl := Option.some.inj HF
    exact ⟨_, rfl, h91, S94, rfl⟩
   ·replace HF := bif_f hb96 HF
    refine WC.skip <| WQ.blockN <| WC.to [] [] rfl ?_
    exact J102 ⟨h91, HF, rfl, S94, le93⟩
  ·intro J97
   refine WC.seq <| WC.region <| WL.val rfl rfl rfl (ov_eqlS rfl rfl) <| WL.val rfl rfl rfl (ov_assign rfl) <| WL.nil <| WQ.seqN <| WC.cond (b := bEq x1 (⟨#[97, 100, 100]⟩ : ByteArray)) rfl (fun hb2 => ?_) (fun hb2 => ?_)
   ·replace HF := bif_t hb2 HF
    refine WC.skip <| WC.to [4] [(4, .bool (bEq x1 (⟨#[97, 100, 100]⟩ : ByteArray)))] rfl ?_
    exact J97 ⟨h0, bEq x1 (⟨#[97, 100, 100]⟩ : ByteArray), HF, rfl, S0, Hle.refl _⟩
   ·replace HF := bif_f hb2 HF
    refine WC.seq <| WC.region <| WL.val rfl rfl rfl (ov_eqlS rfl rfl) <| WL.val rfl rfl rfl (ov_assign rfl) <| WL.nil <| WQ.seqN <| WC.cond (b := bEq x1 (⟨#[97, 110, 100]⟩ : ByteArray)) rfl (fun hb3 => ?_) (fun hb3 => ?_)
    ·replace HF := bif_t hb3 HF
     refine WC.skip <| WC.to [4] [(4, .bool (bEq x1 (⟨#[97, 110, 100]⟩ : ByteArray)))] rfl ?_
     exact J97 ⟨h0, bEq x1 (⟨#[97, 110, 100]⟩ : ByteArray), HF, rfl, S0, Hle.refl _⟩
    ·replace HF := bif_f hb3 HF
     refine WC.seq <| WC.region <| WL.val rfl rfl rfl (ov_eqlS rfl rfl) <| WL.val rfl rfl rfl (ov_assign rfl) <| WL.nil <| WQ.seqN <| WC.cond (b := bEq x1 (⟨#[97, 110, 100, 110]⟩ : ByteArray)) rfl (fun hb4 => ?_) (fun hb4 => ?_)
     ·replace HF := bif_t hb4 HF
      refine WC.skip <| WC.to [4] [(4, .bool (bEq x1 (⟨#[97, 110, 100, 110]⟩ : ByteArray)))] rfl ?_
      exact J97 ⟨h0, bEq x1 (⟨#[97, 110, 100, 110]⟩ : ByteArray), HF, rfl, S0, Hle.refl _⟩
     ·replace HF := bif_f hb4 HF
      refine WC.seq <| WC.region <| WL.val rfl rfl rfl (ov_eqlS rfl rfl) <| WL.val rfl rfl rfl (ov_assign rfl) <| WL.nil <| WQ.seqN <| WC.cond (b := bEq x1 (⟨#[97, 116]⟩ : ByteArray)) rfl (fun hb5 => ?_) (fun hb5 => ?_)
      ·replace HF := bif_t hb5 HF
       refine WC.skip <| WC.to [4] [(4, .bool (bEq x1 (⟨#[97, 116]⟩ : ByteArray)))] rfl ?_
       exact J97 ⟨h0, bEq x1 (⟨#[97, 116]⟩ : ByteArray), HF, rfl, S0, Hle.refl _⟩
      ·replace HF := bif_f hb5 HF
       refine WC.seq <| WC.region <| WL.val rfl rfl rfl (ov_eqlS rfl rfl) <| WL.val rfl rfl rfl (ov_assign rfl) <| WL.nil <| WQ.seqN <| WC.cond (b := bEq x1 (⟨#[98, 108, 111, 99, 107]⟩ : ByteArray)) rfl (fun hb6 => ?_) (fun hb6 => ?_)
       ·replace HF := bif_t hb6 HF
        refine WC.skip <| WC.to [4] [(4, .bool (bEq x1 (⟨#[98, 108, 111, 99, 107]⟩ : ByteArray)))] rfl ?_
        exact J97 ⟨h0, bEq x1 (⟨#[98, 108, 111, 99, 107]⟩ : ByteArray), HF, rfl, S0, Hle.refl _⟩
       ·replace HF := bif_f hb6 HF
        refine WC.seq <| WC.region <| WL.val rfl rfl rfl (ov_eqlS rfl rfl) <| WL.val rfl rfl rfl (ov_assign rfl) <| WL.nil <| WQ.seqN <| WC.cond (b := bEq x1 (⟨#[98, 111, 111, 108]⟩ : ByteArray)) rfl (fun hb7 => ?_) (fun hb7 => ?_)
        ·replace HF := bif_t hb7 HF
         refine WC.skip <| WC.to [4] [(4, .bool (bEq x1 (⟨#[98, 111, 111, 108]⟩ : ByteArray)))] rfl ?_
         exact J97 ⟨h0, bEq x1 (⟨#[98, 111, 111, 108]⟩ : ByteArray), HF, rfl, S0, Hle.refl _⟩
        ·replace HF := bif_f hb7 HF
         refine WC.seq <| WC.region <| WL.val rfl rfl rfl (ov_eqlS rfl rfl) <| WL.val rfl rfl rfl (ov_assign rfl) <| WL.nil <| WQ.seqN <| WC.cond (b := bEq x1 (⟨#[98, 111, 120]⟩ : ByteArray)) rfl (fun hb8 => ?_) (fun hb8 => ?_)
         ·replace HF := bif_t hb8 HF
          refine WC.skip <| WC.to [4] [(4, .bool (bEq x1 (⟨#[98, 111, 120]⟩ : ByteArray)))] rfl ?_
          exact J97 ⟨h0, bEq x1 (⟨#[98, 111, 120]⟩ : ByteArray), HF, rfl, S0, Hle.refl _⟩
         ·replace HF := bif_f hb8 HF
          refine WC.seq <| WC.region <| WL.val rfl rfl rfl (ov_eqlS rfl rfl) <| WL.val rfl rfl rfl (ov_assign rfl) <| WL.nil <| WQ.seqN <| WC.cond (b := bEq x1 (⟨#[98, 121]⟩ : ByteArray)) rfl (fun hb9 => ?_) (fun hb9 => ?_)
          ·replace HF := bif_t hb9 HF
           refine WC.skip <| WC.to [4] [(4, .bool (bEq x1 (⟨#[98, 121]⟩ : ByteArray)))] rfl ?_
           exact J97 ⟨h0, bEq x1 (⟨#[98, 121]⟩ : ByteArray), HF, rfl, S0, Hle.refl _⟩
          ·replace HF := bif_f hb9 HF
           refine WC.seq <| WC.region <| WL.val rfl rfl rfl (ov_eqlS rfl rfl) <| WL.val rfl rfl rfl (ov_assign rfl) <| WL.nil <| WQ.seqN <| WC.cond (b := bEq x1 (⟨#[99, 97, 108]⟩ : ByteArray)) rfl (fun hb10 => ?_) (fun hb10 => ?_)
           ·replace HF := bif_t hb10 HF
            refine WC.skip <| WC.to [4] [(4, .bool (bEq x1 (⟨#[99, 97, 108]⟩ : ByteArray)))] rfl ?_
            exact J97 ⟨h0, bEq x1 (⟨#[99, 97, 108]⟩ : ByteArray), HF, rfl, S0, Hle.refl _⟩
           ·replace HF := bif_f hb10 HF
            refine WC.seq <| WC.region <| WL.val rfl rfl rfl (ov_eqlS rfl rfl) <| WL.val rfl rfl rfl (ov_assign rfl) <| WL.nil <| WQ.seqN <| WC.cond (b := bEq x1 (⟨#[99, 97, 108, 99]⟩ : ByteArray)) rfl (fun hb11 => ?_) (fun hb11 => ?_)
            ·replace HF := bif_t hb11 HF
             refine WC.skip <| WC.to [4] [(4, .bool (bEq x1 (⟨#[99, 97, 108, 99]⟩ : ByteArray)))] rfl ?_
             exact J97 ⟨h0, bEq x1 (⟨#[99, 97, 108, 99]⟩ : ByteArray), HF, rfl, S0, Hle.refl _⟩
            ·replace HF := bif_f hb11 HF
             refine WC.seq <| WC.region <| WL.val rfl rfl rfl (ov_eqlS rfl rfl) <| WL.val rfl rfl rfl (ov_assign rfl) <| WL.nil <| WQ.seqN <| WC.cond (b := bEq x1 (⟨#[99, 97, 108, 99, 110]⟩ : ByteArray)) rfl (fun hb12 => ?_) (fun hb12 => ?_)
             ·replace HF := bif_t hb12 HF
              refine WC.skip <| WC.to [4] [(4, .bool (bEq x1 (⟨#[99, 97, 108, 99, 110]⟩ : ByteArray)))] rfl ?_
              exact J97 ⟨h0, bEq x1 (⟨#[99, 97, 108, 99, 110]⟩ : ByteArray), HF, rfl, S0, Hle.refl _⟩
             ·replace HF := bif_f hb12 HF
              refine WC.seq <| WC.region <| WL.val rfl rfl rfl (ov_eqlS rfl rfl) <| WL.val rfl rfl rfl (ov_assign rfl) <| WL.nil <| WQ.seqN <| WC.cond (b := bEq x1 (⟨#[99, 97, 115, 101]⟩ : ByteArray)) rfl (fun hb13 => ?_) (fun hb13 => ?_)
              ·replace HF := bif_t hb13 HF
               refine WC.skip <| WC.to [4] [(4, .bool (bEq x1 (⟨#[99, 97, 115, 101]⟩ : ByteArray)))] rfl ?_
               exact J97 ⟨h0, bEq x1 (⟨#[99, 97, 115, 101]⟩ : ByteArray), HF, rfl, S0, Hle.refl _⟩
              ·replace HF := bif_f hb13 HF
               refine WC.seq <| WC.region <| WL.val rfl rfl rfl (ov_eqlS rfl rfl) <| WL.val rfl rfl rfl (ov_assign rfl) <| WL.nil <| WQ.seqN <| WC.cond (b := bEq x1 (⟨#[100, 101, 108, 97, 121]⟩ : ByteArray)) rfl (fun hb14 => ?_) (fun hb14 => ?_)
               ·replace HF := bif_t hb14 HF
                refine WC.skip <| WC.to [4] [(4, .bool (bEq x1 (⟨#[100, 101, 108, 97, 121]⟩ : ByteArray)))] rfl ?_
                exact J97 ⟨h0, bEq x1 (⟨#[100, 101, 108, 97, 121]⟩ : ByteArray), HF, rfl, S0, Hle.refl _⟩
               ·replace HF := bif_f hb14 HF
                refine WC.seq <| WC.region <| WL.val rfl rfl rfl (ov_eqlS rfl rfl) <| WL.val rfl rfl rfl (ov_assign rfl) <| WL.nil <| WQ.seqN <| WC.cond (b := bEq x1 (⟨#[100, 105, 118]⟩ : ByteArray)) rfl (fun hb15 => ?_) (fun hb15 => ?_)
                ·replace HF := bif_t hb15 HF
                 refine WC.skip <| WC.to [4] [(4, .bool (bEq x1 (⟨#[100, 105, 118]⟩ : ByteArray)))] rfl ?_
                 exact J97 ⟨h0, bEq x1 (⟨#[100, 105, 118]⟩ : ByteArray), HF, rfl, S0, Hle.refl _⟩
                ·replace HF := bif_f hb15 HF
                 refine WC.seq <| WC.region <| WL.val rfl rfl rfl (ov_eqlS rfl rfl) <| WL.val rfl rfl rfl (ov_assign rfl) <| WL.nil <| WQ.seqN <| WC.cond (b := bEq x1 (⟨#[100, 111]⟩ : ByteArray)) rfl (fun hb16 => ?_) (fun hb16 => ?_)
                 ·replace HF := bif_t hb16 HF
                  refine WC.skip <| WC.to [4] [(4, .bool (bEq x1 (⟨#[100, 111]⟩ : ByteArray)))] rfl ?_
                  exact J97 ⟨h0, bEq x1 (⟨#[100, 111]⟩ : ByteArray), HF, rfl, S0, Hle.refl _⟩
                 ·replace HF := bif_f hb16 HF
                  refine WC.seq <| WC.region <| WL.val rfl rfl rfl (ov_eqlS rfl rfl) <| WL.val rfl rfl rfl (ov_assign rfl) <| WL.nil <| WQ.seqN <| WC.cond (b := bEq x1 (⟨#[101, 108, 115, 101]⟩ : ByteArray)) rfl (fun hb17 => ?_) (fun hb17 => ?_)
                  ·replace HF := bif_t hb17 HF
                   refine WC.skip <| WC.to [4] [(4, .bool (bEq x1 (⟨#[101, 108, 115, 101]⟩ : ByteArray)))] rfl ?_
                   exact J97 ⟨h0, bEq x1 (⟨#[101, 108, 115, 101]⟩ : ByteArray), HF, rfl, S0, Hle.refl _⟩
                  ·replace HF := bif_f hb17 HF
                   refine WC.seq <| WC.region <| WL.val rfl rfl rfl (ov_eqlS rfl rfl) <| WL.val rfl rfl rfl (ov_assign rfl) <| WL.nil <| WQ.seqN <| WC.cond (b := bEq x1 (⟨#[101, 108, 115, 105, 102]⟩ : ByteArray)) rfl (fun hb18 => ?_) (fun hb18 => ?_)
                   ·replace HF := bif_t hb18 HF
                    refine WC.skip <| WC.to [4] [(4, .bool (bEq x1 (⟨#[101, 108, 115, 105, 102]⟩ : ByteArray)))] rfl ?_
                    exact J97 ⟨h0, bEq x1 (⟨#[101, 108, 115, 105, 102]⟩ : ByteArray), HF, rfl, S0, Hle.refl _⟩
                   ·replace HF := bif_f hb18 HF
                    refine WC.seq <| WC.region <| WL.val rfl rfl rfl (ov_eqlS rfl rfl) <| WL.val rfl rfl rfl (ov_assign rfl) <| WL.nil <| WQ.seqN <| WC.cond (b := bEq x1 (⟨#[101, 110, 100]⟩ : ByteArray)) rfl (fun hb19 => ?_) (fun hb19 => ?_)
                    ·replace HF := bif_t hb19 HF
                     refine WC.skip <| WC.to [4] [(4, .bool (bEq x1 (⟨#[101, 110, 100]⟩ : ByteArray)))] rfl ?_
                     exact J97 ⟨h0, bEq x1 (⟨#[101, 110, 100]⟩ : ByteArray), HF, rfl, S0, Hle.refl _⟩
                    ·replace HF := bif_f hb19 HF
                     refine WC.seq <| WC.region <| WL.val rfl rfl rfl (ov_eqlS rfl rfl) <| WL.val rfl rfl rfl (ov_assign rfl) <| WL.nil <| WQ.seqN <| WC.cond (b := bEq x1 (⟨#[101, 110, 100, 95, 99, 97, 115, 101]⟩ : ByteArray)) rfl (fun hb20 => ?_) (fun hb20 => ?_)
                     ·replace HF := bif_t hb20 HF
                      refine WC.skip <| WC.to [4] [(4, .bool (bEq x1 (⟨#[101, 110, 100, 95, 99, 97, 115, 101]⟩ : ByteArray)))] rfl ?_
                      exact J97 ⟨h0, bEq x1 (⟨#[101, 110, 100, 95, 99, 97, 115, 101]⟩ : ByteArray), HF, rfl, S0, Hle.refl _⟩
                     ·replace HF := bif_f hb20 HF
                      refine WC.seq <| WC.region <| WL.val rfl rfl rfl (ov_eqlS rfl rfl) <| WL.val rfl rfl rfl (ov_assign rfl) <| WL.nil <| WQ.seqN <| WC.cond (b := bEq x1 (⟨#[101, 110, 100, 95, 102, 111, 114]⟩ : ByteArray)) rfl (fun hb21 => ?_) (fun hb21 => ?_)
                      ·replace HF := bif_t hb21 HF
                       refine WC.skip <| WC.to [4] [(4, .bool (bEq x1 (⟨#[101, 110, 100, 95, 102, 111, 114]⟩ : ByteArray)))] rfl ?_
                       exact J97 ⟨h0, bEq x1 (⟨#[101, 110, 100, 95, 102, 111, 114]⟩ : ByteArray), HF, rfl, S0, Hle.refl _⟩
                      ·replace HF := bif_f hb21 HF
                       refine WC.seq <| WC.region <| WL.val rfl rfl rfl (ov_eqlS rfl rfl) <| WL.val rfl rfl rfl (ov_assign rfl) <| WL.nil <| WQ.seqN <| WC.cond (b := bEq x1 (⟨#[101, 110, 100, 95, 105, 102]⟩ : ByteArray)) rfl (fun hb22 => ?_) (fun hb22 => ?_)
                       ·replace HF := bif_t hb22 HF
                        refine WC.skip <| WC.to [4] [(4, .bool (bEq x1 (⟨#[101, 110, 100, 95, 105, 102]⟩ : ByteArray)))] rfl ?_
                        exact J97 ⟨h0, bEq x1 (⟨#[101, 110, 100, 95, 105, 102]⟩ : ByteArray), HF, rfl, S0, Hle.refl _⟩
                       ·replace HF := bif_f hb22 HF
                        refine WC.seq <| WC.region <| WL.val rfl rfl rfl (ov_eqlS rfl rfl) <| WL.val rfl rfl rfl (ov_assign rfl) <| WL.nil <| WQ.seqN <| WC.cond (b := bEq x1 (⟨#[101, 110, 100, 95, 114, 101, 112, 101, 97, 116]⟩ : ByteArray)) rfl (fun hb23 => ?_) (fun hb23 => ?_)
                        ·replace HF := bif_t hb23 HF
                         refine WC.skip <| WC.to [4] [(4, .bool (bEq x1 (⟨#[101, 110, 100, 95, 114, 101, 112, 101, 97, 116]⟩ : ByteArray)))] rfl ?_
                         exact J97 ⟨h0, bEq x1 (⟨#[101, 110, 100, 95, 114, 101, 112, 101, 97, 116]⟩ : ByteArray), HF, rfl, S0, Hle.refl _⟩
                        ·replace HF := bif_f hb23 HF
                         refine WC.seq <| WC.region <| WL.val rfl rfl rfl (ov_eqlS rfl rfl) <| WL.val rfl rfl rfl (ov_assign rfl) <| WL.nil <| WQ.seqN <| WC.cond (b := bEq x1 (⟨#[101, 110, 100, 95, 119, 104, 105, 108, 101]⟩ : ByteArray)) rfl (fun hb24 => ?_) (fun hb24 => ?_)
                         ·replace HF := bif_t hb24 HF
                          refine WC.skip <| WC.to [4] [(4, .bool (bEq x1 (⟨#[101, 110, 100, 95, 119, 104, 105, 108, 101]⟩ : ByteArray)))] rfl ?_
                          exact J97 ⟨h0, bEq x1 (⟨#[101, 110, 100, 95, 119, 104, 105, 108, 101]⟩ : ByteArray), HF, rfl, S0, Hle.refl _⟩
                         ·replace HF := bif_f hb24 HF
                          refine WC.seq <| WC.region <| WL.val rfl rfl rfl (ov_eqlS rfl rfl) <| WL.val rfl rfl rfl (ov_assign rfl) <| WL.nil <| WQ.seqN <| WC.cond (b := bEq x1 (⟨#[101, 110, 116, 101, 114]⟩ : ByteArray)) rfl (fun hb25 => ?_) (fun hb25 => ?_)
                          ·replace HF := bif_t hb25 HF
                           refine WC.skip <| WC.to [4] [(4, .bool (bEq x1 (⟨#[101, 110, 116, 101, 114]⟩ : ByteArray)))] rfl ?_
                           exact J97 ⟨h0, bEq x1 (⟨#[101, 110, 116, 101, 114]⟩ : ByteArray), HF, rfl, S0, Hle.refl _⟩
                          ·replace HF := bif_f hb25 HF
                           refine WC.seq <| WC.region <| WL.val rfl rfl rfl (ov_eqlS rfl rfl) <| WL.val rfl rfl rfl (ov_assign rfl) <| WL.nil <| WQ.seqN <| WC.cond (b := bEq x1 (⟨#[101, 113]⟩ : ByteArray)) rfl (fun hb26 => ?_) (fun hb26 => ?_)
                           ·replace HF := bif_t hb26 HF
                            refine WC.skip <| WC.to [4] [(4, .bool (bEq x1 (⟨#[101, 113]⟩ : ByteArray)))] rfl ?_
                            exact J97 ⟨h0, bEq x1 (⟨#[101, 113]⟩ : ByteArray), HF, rfl, S0, Hle.refl _⟩
                           ·replace HF := bif_f hb26 HF
                            refine WC.seq <| WC.region <| WL.val rfl rfl rfl (ov_eqlS rfl rfl) <| WL.val rfl rfl rfl (ov_assign rfl) <| WL.nil <| WQ.seqN <| WC.cond (b := bEq x1 (⟨#[101, 118, 101, 114, 121]⟩ : ByteArray)) rfl (fun hb27 => ?_) (fun hb27 => ?_)
                            ·replace HF := bif_t hb27 HF
                             refine WC.skip <| WC.to [4] [(4, .bool (bEq x1 (⟨#[101, 118, 101, 114, 121]⟩ : ByteArray)))] rfl ?_
                             exact J97 ⟨h0, bEq x1 (⟨#[101, 118, 101, 114, 121]⟩ : ByteArray), HF, rfl, S0, Hle.refl _⟩
                            ·replace HF := bif_f hb27 HF
                             refine WC.seq <| WC.region <| WL.val rfl rfl rfl (ov_eqlS rfl rfl) <| WL.val rfl rfl rfl (ov_assign rfl) <| WL.nil <| WQ.seqN <| WC.cond (b := bEq x1 (⟨#[101, 120, 105, 116]⟩ : ByteArray)) rfl (fun hb28 => ?_) (fun hb28 => ?_)
                             ·replace HF := bif_t hb28 HF
                              refine WC.skip <| WC.to [4] [(4, .bool (bEq x1 (⟨#[101, 120, 105, 116]⟩ : ByteArray)))] rfl ?_
                              exact J97 ⟨h0, bEq x1 (⟨#[101, 120, 105, 116]⟩ : ByteArray), HF, rfl, S0, Hle.refl _⟩
                             ·replace HF := bif_f hb28 HF
                              refine WC.seq <| WC.region <| WL.val rfl rfl rfl (ov_eqlS rfl rfl) <| WL.val rfl rfl rfl (ov_assign rfl) <| WL.nil <| WQ.seqN <| WC.cond (b := bEq x1 (⟨#[102, 97, 108, 108]⟩ : ByteArray)) rfl (fun hb29 => ?_) (fun hb29 => ?_)
                              ·replace HF := bif_t hb29 HF
                               refine WC.skip <| WC.to [4] [(4, .bool (bEq x1 (⟨#[102, 97, 108, 108]⟩ : ByteArray)))] rfl ?_
                               exact J97 ⟨h0, bEq x1 (⟨#[102, 97, 108, 108]⟩ : ByteArray), HF, rfl, S0, Hle.refl _⟩
                              ·replace HF := bif_f hb29 HF
                               refine WC.seq <| WC.region <| WL.val rfl rfl rfl (ov_eqlS rfl rfl) <| WL.val rfl rfl rfl (ov_assign rfl) <| WL.nil <| WQ.seqN <| WC.cond (b := bEq x1 (⟨#[102, 97, 108, 115, 101]⟩ : ByteArray)) rfl (fun hb30 => ?_) (fun hb30 => ?_)
                               ·replace HF := bif_t hb30 HF
                                refine WC.skip <| WC.to [4] [(4, .bool (bEq x1 (⟨#[102, 97, 108, 115, 101]⟩ : ByteArray)))] rfl ?_
                                exact J97 ⟨h0, bEq x1 (⟨#[102, 97, 108, 115, 101]⟩ : ByteArray), HF, rfl, S0, Hle.refl _⟩
                               ·replace HF := bif_f hb30 HF
                                refine WC.seq <| WC.region <| WL.val rfl rfl rfl (ov_eqlS rfl rfl) <| WL.val rfl rfl rfl (ov_assign rfl) <| WL.nil <| WQ.seqN <| WC.cond (b := bEq x1 (⟨#[102, 98, 100]⟩ : ByteArray)) rfl (fun hb31 => ?_) (fun hb31 => ?_)
                                ·replace HF := bif_t hb31 HF
                                 refine WC.skip <| WC.to [4] [(4, .bool (bEq x1 (⟨#[102, 98, 100]⟩ : ByteArray)))] rfl ?_
                                 exact J97 ⟨h0, bEq x1 (⟨#[102, 98, 100]⟩ : ByteArray), HF, rfl, S0, Hle.refl _⟩
                                ·replace HF := bif_f hb31 HF
                                 refine WC.seq <| WC.region <| WL.val rfl rfl rfl (ov_eqlS rfl rfl) <| WL.val rfl rfl rfl (ov_assign rfl) <| WL.nil <| WQ.seqN <| WC.cond (b := bEq x1 (⟨#[102, 111, 114]⟩ : ByteArray)) rfl (fun hb32 => ?_) (fun hb32 => ?_)
                                 ·replace HF := bif_t hb32 HF
                                  refine WC.skip <| WC.to [4] [(4, .bool (bEq x1 (⟨#[102, 111, 114]⟩ : ByteArray)))] rfl ?_
                                  exact J97 ⟨h0, bEq x1 (⟨#[102, 111, 114]⟩ : ByteArray), HF, rfl, S0, Hle.refl _⟩
                                 ·replace HF := bif_f hb32 HF
                                  refine WC.seq <| WC.region <| WL.val rfl rfl rfl (ov_eqlS rfl rfl) <| WL.val rfl rfl rfl (ov_assign rfl) <| WL.nil <| WQ.seqN <| WC.cond (b := bEq x1 (⟨#[102, 114, 111, 109]⟩ : ByteArray)) rfl (fun hb33 => ?_) (fun hb33 => ?_)
                                  ·replace HF := bif_t hb33 HF
                                   refine WC.skip <| WC.to [4] [(4, .bool (bEq x1 (⟨#[102, 114, 111, 109]⟩ : ByteArray)))] rfl ?_
                                   exact J97 ⟨h0, bEq x1 (⟨#[102, 114, 111, 109]⟩ : ByteArray), HF, rfl, S0, Hle.refl _⟩
                                  ·replace HF := bif_f hb33 HF
                                   refine WC.seq <| WC.region <| WL.val rfl rfl rfl (ov_eqlS rfl rfl) <| WL.val rfl rfl rfl (ov_assign rfl) <| WL.nil <| WQ.seqN <| WC.cond (b := bEq x1 (⟨#[102, 117, 110, 99, 116, 105, 111, 110]⟩ : ByteArray)) rfl (fun hb34 => ?_) (fun hb34 => ?_)
                                   ·replace HF := bif_t hb34 HF
                                    refine WC.skip <| WC.to [4] [(4, .bool (bEq x1 (⟨#[102, 117, 110, 99, 116, 105, 111, 110]⟩ : ByteArray)))] rfl ?_
                                    exact J97 ⟨h0, bEq x1 (⟨#[102, 117, 110, 99, 116, 105, 111, 110]⟩ : ByteArray), HF, rfl, S0, Hle.refl _⟩
                                   ·replace HF := bif_f hb34 HF
                                    refine WC.seq <| WC.region <| WL.val rfl rfl rfl (ov_eqlS rfl rfl) <| WL.val rfl rfl rfl (ov_assign rfl) <| WL.nil <| WQ.seqN <| WC.cond (b := bEq x1 (⟨#[103, 101]⟩ : ByteArray)) rfl (fun hb35 => ?_) (fun hb35 => ?_)
                                    ·replace HF := bif_t hb35 HF
                                     refine WC.skip <| WC.to [4] [(4, .bool (bEq x1 (⟨#[103, 101]⟩ : ByteArray)))] rfl ?_
                                     exact J97 ⟨h0, bEq x1 (⟨#[103, 101]⟩ : ByteArray), HF, rfl, S0, Hle.refl _⟩
                                    ·replace HF := bif_f hb35 HF
                                     refine WC.seq <| WC.region <| WL.val rfl rfl rfl (ov_eqlS rfl rfl) <| WL.val rfl rfl rfl (ov_assign rfl) <| WL.nil <| WQ.seqN <| WC.cond (b := bEq x1 (⟨#[103, 116]⟩ : ByteArray)) rfl (fun hb36 => ?_) (fun hb36 => ?_)
                                     ·replace HF := bif_t hb36 HF
                                      refine WC.skip <| WC.to [4] [(4, .bool (bEq x1 (⟨#[103, 116]⟩ : ByteArray)))] rfl ?_
                                      exact J97 ⟨h0, bEq x1 (⟨#[103, 116]⟩ : ByteArray), HF, rfl, S0, Hle.refl _⟩
                                     ·replace HF := bif_f hb36 HF
                                      refine WC.seq <| WC.region <| WL.val rfl rfl rfl (ov_eqlS rfl rfl) <| WL.val rfl rfl rfl (ov_assign rfl) <| WL.nil <| WQ.seqN <| WC.cond (b := bEq x1 (⟨#[105, 102]⟩ : ByteArray)) rfl (fun hb37 => ?_) (fun hb37 => ?_)
                                      ·replace HF := bif_t hb37 HF
                                       refine WC.skip <| WC.to [4] [(4, .bool (bEq x1 (⟨#[105, 102]⟩ : ByteArray)))] rfl ?_
                                       exact J97 ⟨h0, bEq x1 (⟨#[105, 102]⟩ : ByteArray), HF, rfl, S0, Hle.refl _⟩
                                      ·replace HF := bif_f hb37 HF
                                       refine WC.seq <| WC.region <| WL.val rfl rfl rfl (ov_eqlS rfl rfl) <| WL.val rfl rfl rfl (ov_assign rfl) <| WL.nil <| WQ.seqN <| WC.cond (b := bEq x1 (⟨#[105, 108]⟩ : ByteArray)) rfl (fun hb38 => ?_) (fun hb38 => ?_)
                                       ·replace HF := bif_t hb38 HF
                                        refine WC.skip <| WC.to [4] [(4, .bool (bEq x1 (⟨#[105, 108]⟩ : ByteArray)))] rfl ?_
                                        exact J97 ⟨h0, bEq x1 (⟨#[105, 108]⟩ : ByteArray), HF, rfl, S0, Hle.refl _⟩
                                       ·replace HF := bif_f hb38 HF
                                        refine WC.seq <| WC.region <| WL.val rfl rfl rfl (ov_eqlS rfl rfl) <| WL.val rfl rfl rfl (ov_assign rfl) <| WL.nil <| WQ.seqN <| WC.cond (b := bEq x1 (⟨#[105, 110, 105, 116, 105, 97, 108]⟩ : ByteArray)) rfl (fun hb39 => ?_) (fun hb39 => ?_)
                                        ·replace HF := bif_t hb39 HF
                                         refine WC.skip <| WC.to [4] [(4, .bool (bEq x1 (⟨#[105, 110, 105, 116, 105, 97, 108]⟩ : ByteArray)))] rfl ?_
                                         exact J97 ⟨h0, bEq x1 (⟨#[105, 110, 105, 116, 105, 97, 108]⟩ : ByteArray), HF, rfl, S0, Hle.refl _⟩
                                        ·replace HF := bif_f hb39 HF
                                         refine WC.seq <| WC.region <| WL.val rfl rfl rfl (ov_eqlS rfl rfl) <| WL.val rfl rfl rfl (ov_assign rfl) <| WL.nil <| WQ.seqN <| WC.cond (b := bEq x1 (⟨#[105, 110, 112, 117, 116]⟩ : ByteArray)) rfl (fun hb40 => ?_) (fun hb40 => ?_)
                                         ·replace HF := bif_t hb40 HF
                                          refine WC.skip <| WC.to [4] [(4, .bool (bEq x1 (⟨#[105, 110, 112, 117, 116]⟩ : ByteArray)))] rfl ?_
                                          exact J97 ⟨h0, bEq x1 (⟨#[105, 110, 112, 117, 116]⟩ : ByteArray), HF, rfl, S0, Hle.refl _⟩
                                         ·replace HF := bif_f hb40 HF
                                          refine WC.seq <| WC.region <| WL.val rfl rfl rfl (ov_eqlS rfl rfl) <| WL.val rfl rfl rfl (ov_assign rfl) <| WL.nil <| WQ.seqN <| WC.cond (b := bEq x1 (⟨#[105, 110, 116]⟩ : ByteArray)) rfl (fun hb41 => ?_) (fun hb41 => ?_)
                                          ·replace HF := bif_t hb41 HF
                                           refine WC.skip <| WC.to [4] [(4, .bool (bEq x1 (⟨#[105, 110, 116]⟩ : ByteArray)))] rfl ?_
                                           exact J97 ⟨h0, bEq x1 (⟨#[105, 110, 116]⟩ : ByteArray), HF, rfl, S0, Hle.refl _⟩
                                          ·replace HF := bif_f hb41 HF
                                           refine WC.seq <| WC.region <| WL.val rfl rfl rfl (ov_eqlS rfl rfl) <| WL.val rfl rfl rfl (ov_assign rfl) <| WL.nil <| WQ.seqN <| WC.cond (b := bEq x1 (⟨#[106, 109, 112]⟩ : ByteArray)) rfl (fun hb42 => ?_) (fun hb42 => ?_)
                                           ·replace HF := bif_t hb42 HF
                                            refine WC.skip <| WC.to [4] [(4, .bool (bEq x1 (⟨#[106, 109, 112]⟩ : ByteArray)))] rfl ?_
                                            exact J97 ⟨h0, bEq x1 (⟨#[106, 109, 112]⟩ : ByteArray), HF, rfl, S0, Hle.refl _⟩
                                           ·replace HF := bif_f hb42 HF
                                            refine WC.seq <| WC.region <| WL.val rfl rfl rfl (ov_eqlS rfl rfl) <| WL.val rfl rfl rfl (ov_assign rfl) <| WL.nil <| WQ.seqN <| WC.cond (b := bEq x1 (⟨#[106, 109, 112, 99]⟩ : ByteArray)) rfl (fun hb43 => ?_) (fun hb43 => ?_)
                                            ·replace HF := bif_t hb43 HF
                                             refine WC.skip <| WC.to [4] [(4, .bool (bEq x1 (⟨#[106, 109, 112, 99]⟩ : ByteArray)))] rfl ?_
                                             exact J97 ⟨h0, bEq x1 (⟨#[106, 109, 112, 99]⟩ : ByteArray), HF, rfl, S0, Hle.refl _⟩
                                            ·replace HF := bif_f hb43 HF
                                             refine WC.seq <| WC.region <| WL.val rfl rfl rfl (ov_eqlS rfl rfl) <| WL.val rfl rfl rfl (ov_assign rfl) <| WL.nil <| WQ.seqN <| WC.cond (b := bEq x1 (⟨#[106, 109, 112, 99, 110]⟩ : ByteArray)) rfl (fun hb44 => ?_) (fun hb44 => ?_)
                                             ·replace HF := bif_t hb44 HF
                                              refine WC.skip <| WC.to [4] [(4, .bool (bEq x1 (⟨#[106, 109, 112, 99, 110]⟩ : ByteArray)))] rfl ?_
                                              exact J97 ⟨h0, bEq x1 (⟨#[106, 109, 112, 99, 110]⟩ : ByteArray), HF, rfl, S0, Hle.refl _⟩
                                             ·replace HF := bif_f hb44 HF
                                              refine WC.seq <| WC.region <| WL.val rfl rfl rfl (ov_eqlS rfl rfl) <| WL.val rfl rfl rfl (ov_assign rfl) <| WL.nil <| WQ.seqN <| WC.cond (b := bEq x1 (⟨#[106, 117, 109, 112]⟩ : ByteArray)) rfl (fun hb45 => ?_) (fun hb45 => ?_)
                                              ·replace HF := bif_t hb45 HF
                                               refine WC.skip <| WC.to [4] [(4, .bool (bEq x1 (⟨#[106, 117, 109, 112]⟩ : ByteArray)))] rfl ?_
                                               exact J97 ⟨h0, bEq x1 (⟨#[106, 117, 109, 112]⟩ : ByteArray), HF, rfl, S0, Hle.refl _⟩
                                              ·replace HF := bif_f hb45 HF
                                               refine WC.seq <| WC.region <| WL.val rfl rfl rfl (ov_eqlS rfl rfl) <| WL.val rfl rfl rfl (ov_assign rfl) <| WL.nil <| WQ.seqN <| WC.cond (b := bEq x1 (⟨#[108, 100]⟩ : ByteArray)) rfl (fun hb46 => ?_) (fun hb46 => ?_)
                                               ·replace HF := bif_t hb46 HF
                                                refine WC.skip <| WC.to [4] [(4, .bool (bEq x1 (⟨#[108, 100]⟩ : ByteArray)))] rfl ?_
                                                exact J97 ⟨h0, bEq x1 (⟨#[108, 100]⟩ : ByteArray), HF, rfl, S0, Hle.refl _⟩
                                               ·replace HF := bif_f hb46 HF
                                                refine WC.seq <| WC.region <| WL.val rfl rfl rfl (ov_eqlS rfl rfl) <| WL.val rfl rfl rfl (ov_assign rfl) <| WL.nil <| WQ.seqN <| WC.cond (b := bEq x1 (⟨#[108, 100, 110]⟩ : ByteArray)) rfl (fun hb47 => ?_) (fun hb47 => ?_)
                                                ·replace HF := bif_t hb47 HF
                                                 refine WC.skip <| WC.to [4] [(4, .bool (bEq x1 (⟨#[108, 100, 110]⟩ : ByteArray)))] rfl ?_
                                                 exact J97 ⟨h0, bEq x1 (⟨#[108, 100, 110]⟩ : ByteArray), HF, rfl, S0, Hle.refl _⟩
                                                ·replace HF := bif_f hb47 HF
                                                 refine WC.seq <| WC.region <| WL.val rfl rfl rfl (ov_eqlS rfl rfl) <| WL.val rfl rfl rfl (ov_assign rfl) <| WL.nil <| WQ.seqN <| WC.cond (b := bEq x1 (⟨#[108, 101]⟩ : ByteArray)) rfl (fun hb48 => ?_) (fun hb48 => ?_)
                                                 ·replace HF := bif_t hb48 HF
                                                  refine WC.skip <| WC.to [4] [(4, .bool (bEq x1 (⟨#[108, 101]⟩ : ByteArray)))] rfl ?_
                                                  exact J97 ⟨h0, bEq x1 (⟨#[108, 101]⟩ : ByteArray), HF, rfl, S0, Hle.refl _⟩
                                                 ·replace HF := bif_f hb48 HF
                                                  refine WC.seq <| WC.region <| WL.val rfl rfl rfl (ov_eqlS rfl rfl) <| WL.val rfl rfl rfl (ov_assign rfl) <| WL.nil <| WQ.seqN <| WC.cond (b := bEq x1 (⟨#[108, 101, 97, 118, 101]⟩ : ByteArray)) rfl (fun hb49 => ?_) (fun hb49 => ?_)
                                                  ·replace HF := bif_t hb49 HF
                                                   refine WC.skip <| WC.to [4] [(4, .bool (bEq x1 (⟨#[108, 101, 97, 118, 101]⟩ : ByteArray)))] rfl ?_
                                                   exact J97 ⟨h0, bEq x1 (⟨#[108, 101, 97, 118, 101]⟩ : ByteArray), HF, rfl, S0, Hle.refl _⟩
                                                  ·replace HF := bif_f hb49 HF
                                                   refine WC.seq <| WC.region <| WL.val rfl rfl rfl (ov_eqlS rfl rfl) <| WL.val rfl rfl rfl (ov_assign rfl) <| WL.nil <| WQ.seqN <| WC.cond (b := bEq x1 (⟨#[108, 105, 109, 105, 116, 95]⟩ : ByteArray)) rfl (fun hb50 => ?_) (fun hb50 => ?_)
                                                   ·replace HF := bif_t hb50 HF
                                                    refine WC.skip <| WC.to [4] [(4, .bool (bEq x1 (⟨#[108, 105, 109, 105, 116, 95]⟩ : ByteArray)))] rfl ?_
                                                    exact J97 ⟨h0, bEq x1 (⟨#[108, 105, 109, 105, 116, 95]⟩ : ByteArray), HF, rfl, S0, Hle.refl _⟩
                                                   ·replace HF := bif_f hb50 HF
                                                    refine WC.seq <| WC.region <| WL.val rfl rfl rfl (ov_eqlS rfl rfl) <| WL.val rfl rfl rfl (ov_assign rfl) <| WL.nil <| WQ.seqN <| WC.cond (b := bEq x1 (⟨#[108, 111, 99, 97, 108]⟩ : ByteArray)) rfl (fun hb51 => ?_) (fun hb51 => ?_)
                                                    ·replace HF := bif_t hb51 HF
                                                     refine WC.skip <| WC.to [4] [(4, .bool (bEq x1 (⟨#[108, 111, 99, 97, 108]⟩ : ByteArray)))] rfl ?_
                                                     exact J97 ⟨h0, bEq x1 (⟨#[108, 111, 99, 97, 108]⟩ : ByteArray), HF, rfl, S0, Hle.refl _⟩
                                                    ·replace HF := bif_f hb51 HF
                                                     refine WC.seq <| WC.region <| WL.val rfl rfl rfl (ov_eqlS rfl rfl) <| WL.val rfl rfl rfl (ov_assign rfl) <| WL.nil <| WQ.seqN <| WC.cond (b := bEq x1 (⟨#[108, 116]⟩ : ByteArray)) rfl (fun hb52 => ?_) (fun hb52 => ?_)
                                                     ·replace HF := bif_t hb52 HF
                                                      refine WC.skip <| WC.to [4] [(4, .bool (bEq x1 (⟨#[108, 116]⟩ : ByteArray)))] rfl ?_
                                                      exact J97 ⟨h0, bEq x1 (⟨#[108, 116]⟩ : ByteArray), HF, rfl, S0, Hle.refl _⟩
                                                     ·replace HF := bif_f hb52 HF
                                                      refine WC.seq <| WC.region <| WL.val rfl rfl rfl (ov_eqlS rfl rfl) <| WL.val rfl rfl rfl (ov_assign rfl) <| WL.nil <| WQ.seqN <| WC.cond (b := bEq x1 (⟨#[109, 97, 99, 114, 111]⟩ : ByteArray)) rfl (fun hb53 => ?_) (fun hb53 => ?_)
                                                      ·replace HF := bif_t hb53 HF
                                                       refine WC.skip <| WC.to [4] [(4, .bool (bEq x1 (⟨#[109, 97, 99, 114, 111]⟩ : ByteArray)))] rfl ?_
                                                       exact J97 ⟨h0, bEq x1 (⟨#[109, 97, 99, 114, 111]⟩ : ByteArray), HF, rfl, S0, Hle.refl _⟩
                                                      ·replace HF := bif_f hb53 HF
                                                       refine WC.seq <| WC.region <| WL.val rfl rfl rfl (ov_eqlS rfl rfl) <| WL.val rfl rfl rfl (ov_assign rfl) <| WL.nil <| WQ.seqN <| WC.cond (b := bEq x1 (⟨#[109, 111, 100]⟩ : ByteArray)) rfl (fun hb54 => ?_) (fun hb54 => ?_)
                                                       ·replace HF := bif_t hb54 HF
                                                        refine WC.skip <| WC.to [4] [(4, .bool (bEq x1 (⟨#[109, 111, 100]⟩ : ByteArray)))] rfl ?_
                                                        exact J97 ⟨h0, bEq x1 (⟨#[109, 111, 100]⟩ : ByteArray), HF, rfl, S0, Hle.refl _⟩
                                                       ·replace HF := bif_f hb54 HF
                                                        refine WC.seq <| WC.region <| WL.val rfl rfl rfl (ov_eqlS rfl rfl) <| WL.val rfl rfl rfl (ov_assign rfl) <| WL.nil <| WQ.seqN <| WC.cond (b := bEq x1 (⟨#[109, 117, 108]⟩ : ByteArray)) rfl (fun hb55 => ?_) (fun hb55 => ?_)
                                                        ·replace HF := bif_t hb55 HF
                                                         refine WC.skip <| WC.to [4] [(4, .bool (bEq x1 (⟨#[109, 117, 108]⟩ : ByteArray)))] rfl ?_
                                                         exact J97 ⟨h0, bEq x1 (⟨#[109, 117, 108]⟩ : ByteArray), HF, rfl, S0, Hle.refl _⟩
                                                        ·replace HF := bif_f hb55 HF
                                                         refine WC.seq <| WC.region <| WL.val rfl rfl rfl (ov_eqlS rfl rfl) <| WL.val rfl rfl rfl (ov_assign rfl) <| WL.nil <| WQ.seqN <| WC.cond (b := bEq x1 (⟨#[110, 101]⟩ : ByteArray)) rfl (fun hb56 => ?_) (fun hb56 => ?_)
                                                         ·replace HF := bif_t hb56 HF
                                                          refine WC.skip <| WC.to [4] [(4, .bool (bEq x1 (⟨#[110, 101]⟩ : ByteArray)))] rfl ?_
                                                          exact J97 ⟨h0, bEq x1 (⟨#[110, 101]⟩ : ByteArray), HF, rfl, S0, Hle.refl _⟩
                                                         ·replace HF := bif_f hb56 HF
                                                          refine WC.seq <| WC.region <| WL.val rfl rfl rfl (ov_eqlS rfl rfl) <| WL.val rfl rfl rfl (ov_assign rfl) <| WL.nil <| WQ.seqN <| WC.cond (b := bEq x1 (⟨#[110, 111, 116]⟩ : ByteArray)) rfl (fun hb57 => ?_) (fun hb57 => ?_)
                                                          ·replace HF := bif_t hb57 HF
                                                           refine WC.skip <| WC.to [4] [(4, .bool (bEq x1 (⟨#[110, 111, 116]⟩ : ByteArray)))] rfl ?_
                                                           exact J97 ⟨h0, bEq x1 (⟨#[110, 111, 116]⟩ : ByteArray), HF, rfl, S0, Hle.refl _⟩
                                                          ·replace HF := bif_f hb57 HF
                                                           refine WC.seq <| WC.region <| WL.val rfl rfl rfl (ov_eqlS rfl rfl) <| WL.val rfl rfl rfl (ov_assign rfl) <| WL.nil <| WQ.seqN <| WC.cond (b := bEq x1 (⟨#[111, 102]⟩ : ByteArray)) rfl (fun hb58 => ?_) (fun hb58 => ?_)
                                                           ·replace HF := bif_t hb58 HF
                                                            refine WC.skip <| WC.to [4] [(4, .bool (bEq x1 (⟨#[111, 102]⟩ : ByteArray)))] rfl ?_
                                                            exact J97 ⟨h0, bEq x1 (⟨#[111, 102]⟩ : ByteArray), HF, rfl, S0, Hle.refl _⟩
                                                           ·replace HF := bif_f hb58 HF
                                                            refine WC.seq <| WC.region <| WL.val rfl rfl rfl (ov_eqlS rfl rfl) <| WL.val rfl rfl rfl (ov_assign rfl) <| WL.nil <| WQ.seqN <| WC.cond (b := bEq x1 (⟨#[111, 114]⟩ : ByteArray)) rfl (fun hb59 => ?_) (fun hb59 => ?_)
                                                            ·replace HF := bif_t hb59 HF
                                                             refine WC.skip <| WC.to [4] [(4, .bool (bEq x1 (⟨#[111, 114]⟩ : ByteArray)))] rfl ?_
                                                             exact J97 ⟨h0, bEq x1 (⟨#[111, 114]⟩ : ByteArray), HF, rfl, S0, Hle.refl _⟩
                                                            ·replace HF := bif_f hb59 HF
                                                             refine WC.seq <| WC.region <| WL.val rfl rfl rfl (ov_eqlS rfl rfl) <| WL.val rfl rfl rfl (ov_assign rfl) <| WL.nil <| WQ.seqN <| WC.cond (b := bEq x1 (⟨#[111, 114, 110]⟩ : ByteArray)) rfl (fun hb60 => ?_) (fun hb60 => ?_)
                                                             ·replace HF := bif_t hb60 HF
                                                              refine WC.skip <| WC.to [4] [(4, .bool (bEq x1 (⟨#[111, 114, 110]⟩ : ByteArray)))] rfl ?_
                                                              exact J97 ⟨h0, bEq x1 (⟨#[111, 114, 110]⟩ : ByteArray), HF, rfl, S0, Hle.refl _⟩
                                                             ·replace HF := bif_f hb60 HF
                                                              refine WC.seq <| WC.region <| WL.val rfl rfl rfl (ov_eqlS rfl rfl) <| WL.val rfl rfl rfl (ov_assign rfl) <| WL.nil <| WQ.seqN <| WC.cond (b := bEq x1 (⟨#[111, 117, 116, 112, 117, 116]⟩ : ByteArray)) rfl (fun hb61 => ?_) (fun hb61 => ?_)
                                                              ·replace HF := bif_t hb61 HF
                                                               refine WC.skip <| WC.to [4] [(4, .bool (bEq x1 (⟨#[111, 117, 116, 112, 117, 116]⟩ : ByteArray)))] rfl ?_
                                                               exact J97 ⟨h0, bEq x1 (⟨#[111, 117, 116, 112, 117, 116]⟩ : ByteArray), HF, rfl, S0, Hle.refl _⟩
                                                              ·replace HF := bif_f hb61 HF
                                                               refine WC.seq <| WC.region <| WL.val rfl rfl rfl (ov_eqlS rfl rfl) <| WL.val rfl rfl rfl (ov_assign rfl) <| WL.nil <| WQ.seqN <| WC.cond (b := bEq x1 (⟨#[112, 104, 97, 115, 101]⟩ : ByteArray)) rfl (fun hb62 => ?_) (fun hb62 => ?_)
                                                               ·replace HF := bif_t hb62 HF
                                                                refine WC.skip <| WC.to [4] [(4, .bool (bEq x1 (⟨#[112, 104, 97, 115, 101]⟩ : ByteArray)))] rfl ?_
                                                                exact J97 ⟨h0, bEq x1 (⟨#[112, 104, 97, 115, 101]⟩ : ByteArray), HF, rfl, S0, Hle.refl _⟩
                                                               ·replace HF := bif_f hb62 HF
                                                                refine WC.seq <| WC.region <| WL.val rfl rfl rfl (ov_eqlS rfl rfl) <| WL.val rfl rfl rfl (ov_assign rfl) <| WL.nil <| WQ.seqN <| WC.cond (b := bEq x1 (⟨#[112, 114, 105, 111, 114, 105, 116, 121]⟩ : ByteArray)) rfl (fun hb63 => ?_) (fun hb63 => ?_)
                                                                ·replace HF := bif_t hb63 HF
                                                                 refine WC.skip <| WC.to [4] [(4, .bool (bEq x1 (⟨#[112, 114, 105, 111, 114, 105, 116, 121]⟩ : ByteArray)))] rfl ?_
                                                                 exact J97 ⟨h0, bEq x1 (⟨#[112, 114, 105, 111, 114, 105, 116, 121]⟩ : ByteArray), HF, rfl, S0, Hle.refl _⟩
                                                                ·replace HF := bif_f hb63 HF
                                                                 refine WC.seq <| WC.region <| WL.val rfl rfl rfl (ov_eqlS rfl rfl) <| WL.val rfl rfl rfl (ov_assign rfl) <| WL.nil <| WQ.seqN <| WC.cond (b := bEq x1 (⟨#[112, 114, 111, 103, 114, 97, 109]⟩ : ByteArray)) rfl (fun hb64 => ?_) (fun hb64 => ?_)
                                                                 ·replace HF := bif_t hb64 HF
                                                                  refine WC.skip <| WC.to [4] [(4, .bool (bEq x1 (⟨#[112, 114, 111, 103, 114, 97, 109]⟩ : ByteArray)))] rfl ?_
                                                                  exact J97 ⟨h0, bEq x1 (⟨#[112, 114, 111, 103, 114, 97, 109]⟩ : ByteArray), HF, rfl, S0, Hle.refl _⟩
                                                                 ·replace HF := bif_f hb64 HF
                                                                  refine WC.seq <| WC.region <| WL.val rfl rfl rfl (ov_eqlS rfl rfl) <| WL.val rfl rfl rfl (ov_assign rfl) <| WL.nil <| WQ.seqN <| WC.cond (b := bEq x1 (⟨#[114, 101, 112, 101, 97, 116]⟩ : ByteArray)) rfl (fun hb65 => ?_) (fun hb65 => ?_)
                                                                  ·replace HF := bif_t hb65 HF
                                                                   refine WC.skip <| WC.to [4] [(4, .bool (bEq x1 (⟨#[114, 101, 112, 101, 97, 116]⟩ : ByteArray)))] rfl ?_
                                                                   exact J97 ⟨h0, bEq x1 (⟨#[114, 101, 112, 101, 97, 116]⟩ : ByteArray), HF, rfl, S0, Hle.refl _⟩
                                                                  ·replace HF := bif_f hb65 HF
                                                                   refine WC.seq <| WC.region <| WL.val rfl rfl rfl (ov_eqlS rfl rfl) <| WL.val rfl rfl rfl (ov_assign rfl) <| WL.nil <| WQ.seqN <| WC.cond (b := bEq x1 (⟨#[114, 101, 115, 101, 116]⟩ : ByteArray)) rfl (fun hb66 => ?_) (fun hb66 => ?_)
                                                                   ·replace HF := bif_t hb66 HF
                                                                    refine WC.skip <| WC.to [4] [(4, .bool (bEq x1 (⟨#[114, 101, 115, 101, 116]⟩ : ByteArray)))] rfl ?_
                                                                    exact J97 ⟨h0, bEq x1 (⟨#[114, 101, 115, 101, 116]⟩ : ByteArray), HF, rfl, S0, Hle.refl _⟩
                                                                   ·replace HF := bif_f hb66 HF
                                                                    refine WC.seq <| WC.region <| WL.val rfl rfl rfl (ov_eqlS rfl rfl) <| WL.val rfl rfl rfl (ov_assign rfl) <| WL.nil <| WQ.seqN <| WC.cond (b := bEq x1 (⟨#[114, 101, 116]⟩ : ByteArray)) rfl (fun hb67 => ?_) (fun hb67 => ?_)
                                                                    ·replace HF := bif_t hb67 HF
                                                                     refine WC.skip <| WC.to [4] [(4, .bool (bEq x1 (⟨#[114, 101, 116]⟩ : ByteArray)))] rfl ?_
                                                                     exact J97 ⟨h0, bEq x1 (⟨#[114, 101, 116]⟩ : ByteArray), HF, rfl, S0, Hle.refl _⟩
                                                                    ·replace HF := bif_f hb67 HF
                                                                     refine WC.seq <| WC.region <| WL.val rfl rfl rfl (ov_eqlS rfl rfl) <| WL.val rfl rfl rfl (ov_assign rfl) <| WL.nil <| WQ.seqN <| WC.cond (b := bEq x1 (⟨#[114, 101, 116, 97, 105, 110]⟩ : ByteArray)) rfl (fun hb68 => ?_) (fun hb68 => ?_)
                                                                     ·replace HF := bif_t hb68 HF
                                                                      refine WC.skip <| WC.to [4] [(4, .bool (bEq x1 (⟨#[114, 101, 116, 97, 105, 110]⟩ : ByteArray)))] rfl ?_
                                                                      exact J97 ⟨h0, bEq x1 (⟨#[114, 101, 116, 97, 105, 110]⟩ : ByteArray), HF, rfl, S0, Hle.refl _⟩
                                                                     ·replace HF := bif_f hb68 HF
                                                                      refine WC.seq <| WC.region <| WL.val rfl rfl rfl (ov_eqlS rfl rfl) <| WL.val rfl rfl rfl (ov_assign rfl) <| WL.nil <| WQ.seqN <| WC.cond (b := bEq x1 (⟨#[114, 101, 116, 99]⟩ : ByteArray)) rfl (fun hb69 => ?_) (fun hb69 => ?_)
                                                                      ·replace HF := bif_t hb69 HF
                                                                       refine WC.skip <| WC.to [4] [(4, .bool (bEq x1 (⟨#[114, 101, 116, 99]⟩ : ByteArray)))] rfl ?_
                                                                       exact J97 ⟨h0, bEq x1 (⟨#[114, 101, 116, 99]⟩ : ByteArray), HF, rfl, S0, Hle.refl _⟩
                                                                      ·replace HF := bif_f hb69 HF
                                                                       refine WC.seq <| WC.region <| WL.val rfl rfl rfl (ov_eqlS rfl rfl) <| WL.val rfl rfl rfl (ov_assign rfl) <| WL.nil <| WQ.seqN <| WC.cond (b := bEq x1 (⟨#[114, 101, 116, 99, 110]⟩ : ByteArray)) rfl (fun hb70 => ?_) (fun hb70 => ?_)
                                                                       ·replace HF := bif_t hb70 HF
                                                                        refine WC.skip <| WC.to [4] [(4, .bool (bEq x1 (⟨#[114, 101, 116, 99, 110]⟩ : ByteArray)))] rfl ?_
                                                                        exact J97 ⟨h0, bEq x1 (⟨#[114, 101, 116, 99, 110]⟩ : ByteArray), HF, rfl, S0, Hle.refl _⟩
                                                                       ·replace HF := bif_f hb70 HF
                                                                        refine WC.seq <| WC.region <| WL.val rfl rfl rfl (ov_eqlS rfl rfl) <| WL.val rfl rfl rfl (ov_assign rfl) <| WL.nil <| WQ.seqN <| WC.cond (b := bEq x1 (⟨#[114, 101, 116, 117, 114, 110]⟩ : ByteArray)) rfl (fun hb71 => ?_) (fun hb71 => ?_)
                                                                        ·replace HF := bif_t hb71 HF
                                                                         refine WC.skip <| WC.to [4] [(4, .bool (bEq x1 (⟨#[114, 101, 116, 117, 114, 110]⟩ : ByteArray)))] rfl ?_
                                                                         exact J97 ⟨h0, bEq x1 (⟨#[114, 101, 116, 117, 114, 110]⟩ : ByteArray), HF, rfl, S0, Hle.refl _⟩
                                                                        ·replace HF := bif_f hb71 HF
                                                                         refine WC.seq <| WC.region <| WL.val rfl rfl rfl (ov_eqlS rfl rfl) <| WL.val rfl rfl rfl (ov_assign rfl) <| WL.nil <| WQ.seqN <| WC.cond (b := bEq x1 (⟨#[114, 105, 115, 101]⟩ : ByteArray)) rfl (fun hb72 => ?_) (fun hb72 => ?_)
                                                                         ·replace HF := bif_t hb72 HF
                                                                          refine WC.skip <| WC.to [4] [(4, .bool (bEq x1 (⟨#[114, 105, 115, 101]⟩ : ByteArray)))] rfl ?_
                                                                          exact J97 ⟨h0, bEq x1 (⟨#[114, 105, 115, 101]⟩ : ByteArray), HF, rfl, S0, Hle.refl _⟩
                                                                         ·replace HF := bif_f hb72 HF
                                                                          refine WC.seq <| WC.region <| WL.val rfl rfl rfl (ov_eqlS rfl rfl) <| WL.val rfl rfl rfl (ov_assign rfl) <| WL.nil <| WQ.seqN <| WC.cond (b := bEq x1 (⟨#[114, 117, 110]⟩ : ByteArray)) rfl (fun hb73 => ?_) (fun hb73 => ?_)
                                                                          ·replace HF := bif_t hb73 HF
                                                                           refine WC.skip <| WC.to [4] [(4, .bool (bEq x1 (⟨#[114, 117, 110]⟩ : ByteArray)))] rfl ?_
                                                                           exact J97 ⟨h0, bEq x1 (⟨#[114, 117, 110]⟩ : ByteArray), HF, rfl, S0, Hle.refl _⟩
                                                                          ·replace HF := bif_f hb73 HF
                                                                           refine WC.seq <| WC.region <| WL.val rfl rfl rfl (ov_eqlS rfl rfl) <| WL.val rfl rfl rfl (ov_assign rfl) <| WL.nil <| WQ.seqN <| WC.cond (b := bEq x1 (⟨#[114, 117, 110, 103]⟩ : ByteArray)) rfl (fun hb74 => ?_) (fun hb74 => ?_)
                                                                           ·replace HF := bif_t hb74 HF
                                                                            refine WC.skip <| WC.to [4] [(4, .bool (bEq x1 (⟨#[114, 117, 110, 103]⟩ : ByteArray)))] rfl ?_
                                                                            exact J97 ⟨h0, bEq x1 (⟨#[114, 117, 110, 103]⟩ : ByteArray), HF, rfl, S0, Hle.refl _⟩
                                                                           ·replace HF := bif_f hb74 HF
                                                                            refine WC.seq <| WC.region <| WL.val rfl rfl rfl (ov_eqlS rfl rfl) <| WL.val rfl rfl rfl (ov_assign rfl) <| WL.nil <| WQ.seqN <| WC.cond (b := bEq x1 (⟨#[115, 101, 116]⟩ : ByteArray)) rfl (fun hb75 => ?_) (fun hb75 => ?_)
                                                                            ·replace HF := bif_t hb75 HF
                                                                             refine WC.skip <| WC.to [4] [(4, .bool (bEq x1 (⟨#[115, 101, 116]⟩ : ByteArray)))] rfl ?_
                                                                             exact J97 ⟨h0, bEq x1 (⟨#[115, 101, 116]⟩ : ByteArray), HF, rfl, S0, Hle.refl _⟩
                                                                            ·replace HF := bif_f hb75 HF
                                                                             refine WC.seq <| WC.region <| WL.val rfl rfl rfl (ov_eqlS rfl rfl) <| WL.val rfl rfl rfl (ov_assign rfl) <| WL.nil <| WQ.seqN <| WC.cond (b := bEq x1 (⟨#[115, 102, 99]⟩ : ByteArray)) rfl (fun hb76 => ?_) (fun hb76 => ?_)
                                                                             ·replace HF := bif_t hb76 HF
                                                                              refine WC.skip <| WC.to [4] [(4, .bool (bEq x1 (⟨#[115, 102, 99]⟩ : ByteArray)))] rfl ?_
                                                                              exact J97 ⟨h0, bEq x1 (⟨#[115, 102, 99]⟩ : ByteArray), HF, rfl, S0, Hle.refl _⟩
                                                                             ·replace HF := bif_f hb76 HF
                                                                              refine WC.seq <| WC.region <| WL.val rfl rfl rfl (ov_eqlS rfl rfl) <| WL.val rfl rfl rfl (ov_assign rfl) <| WL.nil <| WQ.seqN <| WC.cond (b := bEq x1 (⟨#[115, 116]⟩ : ByteArray)) rfl (fun hb77 => ?_) (fun hb77 => ?_)
                                                                              ·replace HF := bif_t hb77 HF
                                                                               refine WC.skip <| WC.to [4] [(4, .bool (bEq x1 (⟨#[115, 116]⟩ : ByteArray)))] rfl ?_
                                                                               exact J97 ⟨h0, bEq x1 (⟨#[115, 116]⟩ : ByteArray), HF, rfl, S0, Hle.refl _⟩
                                                                              ·replace HF := bif_f hb77 HF
                                                                               refine WC.seq <| WC.region <| WL.val rfl rfl rfl (ov_eqlS rfl rfl) <| WL.val rfl rfl rfl (ov_assign rfl) <| WL.nil <| WQ.seqN <| WC.cond (b := bEq x1 (⟨#[115, 116, 101, 112]⟩ : ByteArray)) rfl (fun hb78 => ?_) (fun hb78 => ?_)
                                                                               ·replace HF := bif_t hb78 HF
                                                                                refine WC.skip <| WC.to [4] [(4, .bool (bEq x1 (⟨#[115, 116, 101, 112]⟩ : ByteArray)))] rfl ?_
                                                                                exact J97 ⟨h0, bEq x1 (⟨#[115, 116, 101, 112]⟩ : ByteArray), HF, rfl, S0, Hle.refl _⟩
                                                                               ·replace HF := bif_f hb78 HF
                                                                                refine WC.seq <| WC.region <| WL.val rfl rfl rfl (ov_eqlS rfl rfl) <| WL.val rfl rfl rfl (ov_assign rfl) <| WL.nil <| WQ.seqN <| WC.cond (b := bEq x1 (⟨#[115, 116, 110]⟩ : ByteArray)) rfl (fun hb79 => ?_) (fun hb79 => ?_)
                                                                                ·replace HF := bif_t hb79 HF
                                                                                 refine WC.skip <| WC.to [4] [(4, .bool (bEq x1 (⟨#[115, 116, 110]⟩ : ByteArray)))] rfl ?_
                                                                                 exact J97 ⟨h0, bEq x1 (⟨#[115, 116, 110]⟩ : ByteArray), HF, rfl, S0, Hle.refl _⟩
                                                                                ·replace HF := bif_f hb79 HF
                                                                                 refine WC.seq <| WC.region <| WL.val rfl rfl rfl (ov_eqlS rfl rfl) <| WL.val rfl rfl rfl (ov_assign rfl) <| WL.nil <| WQ.seqN <| WC.cond (b := bEq x1 (⟨#[115, 117, 98]⟩ : ByteArray)) rfl (fun hb80 => ?_) (fun hb80 => ?_)
                                                                                 ·replace HF := bif_t hb80 HF
                                                                                  refine WC.skip <| WC.to [4] [(4, .bool (bEq x1 (⟨#[115, 117, 98]⟩ : ByteArray)))] rfl ?_
                                                                                  exact J97 ⟨h0, bEq x1 (⟨#[115, 117, 98]⟩ : ByteArray), HF, rfl, S0, Hle.refl _⟩
                                                                                 ·replace HF := bif_f hb80 HF
                                                                                  refine WC.seq <| WC.region <| WL.val rfl rfl rfl (ov_eqlS rfl rfl) <| WL.val rfl rfl rfl (ov_assign rfl) <| WL.nil <| WQ.seqN <| WC.cond (b := bEq x1 (⟨#[116, 97, 115, 107]⟩ : ByteArray)) rfl (fun hb81 => ?_) (fun hb81 => ?_)
                                                                                  ·replace HF := bif_t hb81 HF
                                                                                   refine WC.skip <| WC.to [4] [(4, .bool (bEq x1 (⟨#[116, 97, 115, 107]⟩ : ByteArray)))] rfl ?_
                                                                                   exact J97 ⟨h0, bEq x1 (⟨#[116, 97, 115, 107]⟩ : ByteArray), HF, rfl, S0, Hle.refl _⟩
                                                                                  ·replace HF := bif_f hb81 HF
                                                                                   refine WC.seq <| WC.region <| WL.val rfl rfl rfl (ov_eqlS rfl rfl) <| WL.val rfl rfl rfl (ov_assign rfl) <| WL.nil <| WQ.seqN <| WC.cond (b := bEq x1 (⟨#[116, 104, 101, 110]⟩ : ByteArray)) rfl (fun hb82 => ?_) (fun hb82 => ?_)
                                                                                   ·replace HF := bif_t hb82 HF
                                                                                    refine WC.skip <| WC.to [4] [(4, .bool (bEq x1 (⟨#[116, 104, 101, 110]⟩ : ByteArray)))] rfl ?_
                                                                                    exact J97 ⟨h0, bEq x1 (⟨#[116, 104, 101, 110]⟩ : ByteArray), HF, rfl, S0, Hle.refl _⟩
                                                                                   ·replace HF := bif_f hb82 HF
                                                                                    refine WC.seq <| WC.region <| WL.val rfl rfl rfl (ov_eqlS rfl rfl) <| WL.val rfl rfl rfl (ov_assign rfl) <| WL.nil <| WQ.seqN <| WC.cond (b := bEq x1 (⟨#[116, 105, 109, 101]⟩ : ByteArray)) rfl (fun hb83 => ?_) (fun hb83 => ?_)
                                                                                    ·replace HF := bif_t hb83 HF
                                                                                     refine WC.skip <| WC.to [4] [(4, .bool (bEq x1 (⟨#[116, 105, 109, 101]⟩ : ByteArray)))] rfl ?_
                                                                                     exact J97 ⟨h0, bEq x1 (⟨#[116, 105, 109, 101]⟩ : ByteArray), HF, rfl, S0, Hle.refl _⟩
                                                                                    ·replace HF := bif_f hb83 HF
                                                                                     refine WC.seq <| WC.region <| WL.val rfl rfl rfl (ov_eqlS rfl rfl) <| WL.val rfl rfl rfl (ov_assign rfl) <| WL.nil <| WQ.seqN <| WC.cond (b := bEq x1 (⟨#[116, 111]⟩ : ByteArray)) rfl (fun hb84 => ?_) (fun hb84 => ?_)
                                                                                     ·replace HF := bif_t hb84 HF
                                                                                      refine WC.skip <| WC.to [4] [(4, .bool (bEq x1 (⟨#[116, 111]⟩ : ByteArray)))] rfl ?_
                                                                                      exact J97 ⟨h0, bEq x1 (⟨#[116, 111]⟩ : ByteArray), HF, rfl, S0, Hle.refl _⟩
                                                                                     ·replace HF := bif_f hb84 HF
                                                                                      refine WC.seq <| WC.region <| WL.val rfl rfl rfl (ov_eqlS rfl rfl) <| WL.val rfl rfl rfl (ov_assign rfl) <| WL.nil <| WQ.seqN <| WC.cond (b := bEq x1 (⟨#[116, 114, 97, 110, 115, 105, 116, 105, 111, 110]⟩ : ByteArray)) rfl (fun hb85 => ?_) (fun hb85 => ?_)
                                                                                      ·replace HF := bif_t hb85 HF
                                                                                       refine WC.skip <| WC.to [4] [(4, .bool (bEq x1 (⟨#[116, 114, 97, 110, 115, 105, 116, 105, 111, 110]⟩ : ByteArray)))] rfl ?_
                                                                                       exact J97 ⟨h0, bEq x1 (⟨#[116, 114, 97, 110, 115, 105, 116, 105, 111, 110]⟩ : ByteArray), HF, rfl, S0, Hle.refl _⟩
                                                                                      ·replace HF := bif_f hb85 HF
                                                                                       refine WC.seq <| WC.region <| WL.val rfl rfl rfl (ov_eqlS rfl rfl) <| WL.val rfl rfl rfl (ov_assign rfl) <| WL.nil <| WQ.seqN <| WC.cond (b := bEq x1 (⟨#[116, 114, 117, 101]⟩ : ByteArray)) rfl (fun hb86 => ?_) (fun hb86 => ?_)
                                                                                       ·replace HF := bif_t hb86 HF
                                                                                        refine WC.skip <| WC.to [4] [(4, .bool (bEq x1 (⟨#[116, 114, 117, 101]⟩ : ByteArray)))] rfl ?_
                                                                                        exact J97 ⟨h0, bEq x1 (⟨#[116, 114, 117, 101]⟩ : ByteArray), HF, rfl, S0, Hle.refl _⟩
                                                                                       ·replace HF := bif_f hb86 HF
                                                                                        refine WC.seq <| WC.region <| WL.val rfl rfl rfl (ov_eqlS rfl rfl) <| WL.val rfl rfl rfl (ov_assign rfl) <| WL.nil <| WQ.seqN <| WC.cond (b := bEq x1 (⟨#[117, 110, 116, 105, 108]⟩ : ByteArray)) rfl (fun hb87 => ?_) (fun hb87 => ?_)
                                                                                        ·replace HF := bif_t hb87 HF
                                                                                         refine WC.skip <| WC.to [4] [(4, .bool (bEq x1 (⟨#[117, 110, 116, 105, 108]⟩ : ByteArray)))] rfl ?_
                                                                                         exact J97 ⟨h0, bEq x1 (⟨#[117, 110, 116, 105, 108]⟩ : ByteArray), HF, rfl, S0, Hle.refl _⟩
                                                                                        ·replace HF := bif_f hb87 HF
                                                                                         refine WC.seq <| WC.region <| WL.val rfl rfl rfl (ov_eqlS rfl rfl) <| WL.val rfl rfl rfl (ov_assign rfl) <| WL.nil <| WQ.seqN <| WC.cond (b := bEq x1 (⟨#[119, 104, 101, 110]⟩ : ByteArray)) rfl (fun hb88 => ?_) (fun hb88 => ?_)
                                                                                         ·replace HF := bif_t hb88 HF
                                                                                          refine WC.skip <| WC.to [4] [(4, .bool (bEq x1 (⟨#[119, 104, 101, 110]⟩ : ByteArray)))] rfl ?_
                                                                                          exact J97 ⟨h0, bEq x1 (⟨#[119, 104, 101, 110]⟩ : ByteArray), HF, rfl, S0, Hle.refl _⟩
                                                                                         ·replace HF := bif_f hb88 HF
                                                                                          refine WC.seq <| WC.region <| WL.val rfl rfl rfl (ov_eqlS rfl rfl) <| WL.val rfl rfl rfl (ov_assign rfl) <| WL.nil <| WQ.seqN <| WC.cond (b := bEq x1 (⟨#[119, 104, 105, 108, 101]⟩ : ByteArray)) rfl (fun hb89 => ?_) (fun hb89 => ?_)
                                                                                          ·replace HF := bif_t hb89 HF
                                                                                           refine WC.skip <| WC.to [4] [(4, .bool (bEq x1 (⟨#[119, 104, 105, 108, 101]⟩ : ByteArray)))] rfl ?_
                                                                                           exact J97 ⟨h0, bEq x1 (⟨#[119, 104, 105, 108, 101]⟩ : ByteArray), HF, rfl, S0, Hle.refl _⟩
                                                                                          ·replace HF := bif_f hb89 HF
                                                                                           refine WC.seq <| WC.region <| WL.val rfl rfl rfl (ov_eqlS rfl rfl) <| WL.val rfl rfl rfl (ov_assign rfl) <| WL.nil <| WQ.seqN <| WC.cond (b := bEq x1 (⟨#[120, 111, 114]⟩ : ByteArray)) rfl (fun hb90 => ?_) (fun hb90 => ?_)
                                                                                           ·replace HF := bif_t hb90 HF
                                                                                            refine WC.skip <| WC.to [4] [(4, .bool (bEq x1 (⟨#[120, 111, 114]⟩ : ByteArray)))] rfl ?_
                                                                                            exact J97 ⟨h0, bEq x1 (⟨#[120, 111, 114]⟩ : ByteArray), HF, rfl, S0, Hle.refl _⟩
                                                                                           ·replace HF := bif_f hb90 HF
                                                                                            refine WC.region <| WL.val rfl rfl rfl (ov_eqlS rfl rfl) <| WL.val rfl rfl rfl (ov_assign rfl) <| WL.nil <| WC.to [4] [(4, .bool (bEq x1 (⟨#[120, 111, 114, 110]⟩ : ByteArray)))] rfl ?_
                                                                                            exact J97 ⟨h0, bEq x1 (⟨#[120, 111, 114, 110]⟩ : ByteArray), HF, rfl, S0, Hle.refl _⟩
theorem ok_lexis_IsWord (k : Nat) : C_lexis_IsWord (F_lexis_IsWord k) := s_lexis_IsWord k

def C_lexis_isLetter (φ : Int → Option Bool) : Prop := ∀ ⦃x1 : Int⦄ ⦃r : Bool⦄, φ x1 = some r → ∀ ⦃w0 : World⦄ ⦃h0 : Hp⦄, Sub h0 w0 →
  Calls Tryz.prog 135 #[.int .u8 x1] w0 fun e w1 => ∃ v, e = .returned v ∧ ∃ h1, Stp [] w0 h0 w1 h1 ∧ v = .bool r
set_option maxRecDepth 20000 in
set_option maxHeartbeats 4000000 in
theorem s_lexis_isLetter (k : Nat) : C_lexis_isLetter (F_lexis_isLetter k) := by
 intro x1 r HF w0 h0  hs0 
 have S0 : Stp [] w0 h0 w0 h0 := Stp.refl hs0 _
 refine enter (n := 9) Tryz.func135 rfl Tryz.ntmps135 rfl [(0, .int .u8 x1)] rfl <| WC.seq <| WC.region <| WL.val rfl rfl rfl (ov_assign rfl) <| WL.nil <| WQ.seqN <| WC.seq <| WC.region <| WL.val rfl rfl rfl (ov_move rfl) <| WL.val rfl rfl rfl (ov_geq rfl rfl) <| WL.val rfl rfl rfl (ov_move rfl) <| WL.split 5 (b := decide ((97 : Int) ≤ x1)) rfl (fun hb2 => ?_) (fun hb2 => ?_)
 ·replace HF := bif_t hb2 HF
  refine WL.val rfl rfl rfl (ov_move rfl) <| WL.val rfl rfl rfl (ov_leq rfl rfl) <| WL.val rfl rfl rfl (ov_pickT rfl rfl) <| WL.val rfl rfl rfl (ov_assign rfl) <| WL.nil <| WQ.seqN <| WC.ret <| WQ.ret1 rfl rfl ?_
  obtain rfl := Option.some.inj HF
  exact ⟨_, rfl, h0, S0, rfl⟩
 ·replace HF := bif_f hb2 HF
  refine WL.pass rfl rfl rfl <| WL.pass rfl rfl rfl <| WL.val rfl rfl rfl (ov_pickF rfl rfl) <| WL.val rfl rfl rfl (ov_assign rfl) <| WL.nil <| WQ.seqN <| WC.ret <| WQ.ret1 rfl rfl ?_
  obtain rfl := Option.some.inj HF
  exact ⟨_, rfl, h0, S0, rfl⟩
theorem ok_lexis_isLetter (k : Nat) : C_lexis_isLetter (F_lexis_isLetter k) := s_lexis_isLetter k

def C_lexis_isDigit (φ : Int → Option Bool) : Prop := ∀ ⦃x1 : Int⦄ ⦃r : Bool⦄, φ x1 = some r → ∀ ⦃w0 : World⦄ ⦃h0 : Hp⦄, Sub h0 w0 →
  Calls Tryz.prog 140 #[.int .u8 x1] w0 fun e w1 => ∃ v, e = .returned v ∧ ∃ h1, Stp [] w0 h0 w1 h1 ∧ v = .bool r
set_option maxRecDepth 20000 in
set_option maxHeartbeats 4000000 in
theorem s_lexis_isDigit (k : Nat) : C_lexis_isDigit (F_lexis_isDigit k) := by
 intro x1 r HF w0 h0  hs0 
 have S0 : Stp [] w0 h0 w0 h0 := Stp.refl hs0 _
 refine enter (n := 9) Tryz.func140 rfl Tryz.ntmps140 rfl [(0, .int .u8 x1)] rfl <| WC.seq <| WC.region <| WL.val rfl rfl rfl (ov_assign rfl) <| WL.nil <| WQ.seqN <| WC.seq <| WC.region <| WL.val rfl rfl rfl (ov_move rfl) <| WL.val rfl rfl rfl (ov_geq rfl rfl) <| WL.val rfl rfl rfl (ov_move rfl) <| WL.split 5 (b := decide ((48 : Int) ≤ x1)) rfl (fun hb2 => ?_) (fun hb2 => ?_)
 ·replace HF := bif_t hb2 HF
  refine WL.val rfl rfl rfl (ov_move rfl) <| WL.val rfl rfl rfl (ov_leq rfl rfl) <| WL.val rfl rfl rfl (ov_pickT rfl rfl) <| WL.val rfl rfl rfl (ov_assign rfl) <| WL.nil <| WQ.seqN <| WC.ret <| WQ.ret1 rfl rfl ?_
  obtain rfl := Option.some.inj HF
  exact ⟨_, rfl, h0, S0, rfl⟩
 ·replace HF := bif_f hb2 HF
  refine WL.pass rfl rfl rfl <| WL.pass rfl rfl rfl <| WL.val rfl rfl rfl (ov_pickF rfl rfl) <| WL.val rfl rfl rfl (ov_assign rfl) <| WL.nil <| WQ.seqN <| WC.ret <| WQ.ret1 rfl rfl ?_
  obtain rfl := Option.some.inj HF
  exact ⟨_, rfl, h0, S0, rfl⟩
theorem ok_lexis_isDigit (k : Nat) : C_lexis_isDigit (F_lexis_isDigit k) := s_lexis_isDigit k

def C_lexis_isPart (φ : Int → Option Bool) : Prop := ∀ ⦃x1 : Int⦄ ⦃r : Bool⦄, φ x1 = some r → ∀ ⦃w0 : World⦄ ⦃h0 : Hp⦄, Sub h0 w0 →
  Calls Tryz.prog 134 #[.int .u8 x1] w0 fun e w1 => ∃ v, e = .returned v ∧ ∃ h1, Stp [] w0 h0 w1 h1 ∧ v = .bool r
set_option maxRecDepth 20000 in
set_option maxHeartbeats 4000000 in
theorem s_lexis_isPart (k : Nat) : C_lexis_isPart (F_lexis_isPart k) := by
 intro x1 r HF w0 h0  hs0 
 have S0 : Stp [] w0 h0 w0 h0 := Stp.refl hs0 _
 refine enter (n := 13) Tryz.func134 rfl Tryz.ntmps134 rfl [(0, .int .u8 x1)] rfl <| WC.seq <| WC.region <| WL.val rfl rfl rfl (ov_assign rfl) <| WL.nil <| WQ.seqN <| WC.seq <| WC.region <| WL.val rfl rfl rfl (ov_move rfl) ?_
 obtain ⟨r2, hr3, HF⟩ := bind_some HF
 refine WL.call rfl rfl rfl (oc_func (vs := [.int .u8 x1]) rfl t_ent_135) (ok_lexis_isLetter _ hr3 S0.sub) ?_
 rintro _ w5 ⟨h6, s7, rfl⟩
 have S8 := S0.trans0 s7
 refine WL.val rfl rfl rfl (ov_move rfl) <| WL.split 5 (b := r2) rfl (fun hb9 => ?_) (fun hb9 => ?_)
 ·replace HF := bif_t hb9 HF
  refine WL.pass rfl rfl rfl <| WL.pass rfl rfl rfl <| WL.val rfl rfl rfl (ov_pickT rfl rfl) <| WL.val rfl rfl rfl (ov_move rfl) <| WL.pass rfl rfl rfl <| WL.pass rfl rfl rfl <| WL.val rfl rfl rfl (ov_pickT rfl rfl) <| WL.val rfl rfl rfl (ov_assign rfl) <| WL.nil <| WQ.seqN <| WC.ret <| WQ.ret1 rfl rfl ?_
  obtain rfl := Option.some.inj HF
  exact ⟨_, rfl, h6, S8, rfl⟩
 ·replace HF := bif_f hb9 HF
  refine WL.val rfl rfl rfl (ov_move rfl) ?_
  obtain ⟨r10, hr11, HF⟩ := bind_some HF
  refine WL.call rfl rfl rfl (oc_func (vs := [.int .u8 x1]) rfl t_ent_140) (ok_lexis_isDigit _ hr11 S8.sub) ?_
  rintro _ w13 ⟨h14, s15, rfl⟩
  have S16 := S8.trans0 s15
  refine WL.val rfl rfl rfl (ov_pickF rfl rfl) <| WL.val rfl rfl rfl (ov_move rfl) <| WL.split 9 (b := r10) rfl (fun hb17 => ?_) (fun hb17 => ?_)
  ·replace HF := bif_t hb17 HF
   refine WL.pass rfl rfl rfl <| WL.pass rfl rfl rfl <| WL.val rfl rfl rfl (ov_pickT rfl rfl) <| WL.val rfl rfl rfl (ov_assign rfl) <| WL.nil <| WQ.seqN <| WC.ret <| WQ.ret1 rfl rfl ?_
   obtain rfl := Option.some.inj HF
   exact ⟨_, rfl, h14, S16, rfl⟩
  ·replace HF := bif_f hb17 HF
   refine WL.val rfl rfl rfl (ov_move rfl) <| WL.val rfl rfl rfl (ov_eql rfl rfl) <| WL.val rfl rfl rfl (ov_pickF rfl rfl) <| WL.val rfl rfl rfl (ov_assign rfl) <| WL.nil <| WQ.seqN <| WC.ret <| WQ.ret1 rfl rfl ?_
   obtain rfl := Option.some.inj HF
   exact ⟨_, rfl, h14, S16, rfl⟩
theorem ok_lexis_isPart (k : Nat) : C_lexis_isPart (F_lexis_isPart k) := s_lexis_isPart k

def C_lexis_isRun (φ : ByteArray → Option Bool) : Prop := ∀ ⦃x1 : ByteArray⦄ ⦃r : Bool⦄, φ x1 = some r → ∀ ⦃w0 : World⦄ ⦃h0 : Hp⦄, Sub h0 w0 →
  Calls Tryz.prog 118 #[.string x1] w0 fun e w1 => ∃ v, e = .returned v ∧ ∃ h1, Stp [] w0 h0 w1 h1 ∧ v = .bool r
set_option maxRecDepth 20000 in
set_option maxHeartbeats 4000000 in
theorem s_lexis_isRun (k : Nat) (IH : ∀ j, j ≤ k → C_lexis_isRun (tie_lexis_isRun j).lexis_isRun) : C_lexis_isRun (m_lexis_isRun k (tie_lexis_isRun k)) := by
 intro x1 r HF w0 h0  hs0 
 have S0 : Stp [] w0 h0 w0 h0 := Stp.refl hs0 _
 refine enter (n := 22) Tryz.func118 rfl Tryz.ntmps118 rfl [(0, .string x1)] rfl <| WC.seq <| WC.region <| WL.val rfl rfl rfl (ov_assign rfl) <| WL.nil <| WQ.seqN <| WC.seq <| WC.seq <| WC.region <| WL.val rfl rfl rfl (ov_move rfl) <| WL.val rfl rfl rfl (ov_lenS rfl t_string_9) <| WL.val rfl rfl rfl (ov_move rfl) <| WL.nil <| WQ.seqN <| WC.block <| WC.loop <| WP.to [0, 5, 6] [(0, .string x1), (5, .int .i64 (x1.size : Int)), (6, .int .i64 0)] rfl <| WP_rule (K := k) (fun j E w3 => ∃ (h2 : Hp) (x6 : Int), (tie_lexis_isRun j).lexis_isRun_l1 x1 x6 = some r ∧ E = [(0, .string x1), (5, .int .i64 (x1.size : Int)), (6, .int .i64 x6)] ∧ Stp [] w0 h0 w3 h2 ∧ Hle h0 h2) ?_ ?_ (j := k) (Nat.le_refl _) ?_
 ·rintro E w3 ⟨_, _, HF, _⟩; cases HF
 ·rintro j7 hj9 IHL8 E w3 ⟨h2, x6, HF, rfl, S5, le4⟩
  refine WC.seq <| WC.region <| WL.val rfl rfl rfl (ov_lss rfl rfl) <| WL.nil <| WQ.seqN <| WC.join (fun E w22 => ∃ (h21 : Hp), lexis_isRun_j2 j7 (tie_lexis_isRun j7) x1 x6 = some r ∧ E = [(0, .string x1), (5, .int .i64 (x1.size : Int)), (6, .int .i64 x6)] ∧ Stp [] w0 h0 w22 h21 ∧ Hle h2 h21) ?_ ?_
  ·rintro E w22 ⟨h21, HF, rfl, S24, le23⟩
   refine WC.seq <| WC.block <| WC.seq <| WC.region <| WL.val rfl rfl rfl (ov_move rfl) <| WL.val rfl rfl rfl (ov_assign rfl) <| WL.nil <| WQ.seqN <| WC.seq <| WC.region <| WL.val rfl rfl rfl (ov_move rfl) <| WL.val rfl rfl rfl (ov_move rfl) ?_
   obtain ⟨c25, hc26, HF⟩ := bind_some HF
   refine WL.val rfl rfl rfl (ov_indexSO rfl rfl t_string_9 hc26) ?_
   obtain ⟨r27, hr28, HF⟩ := bind_some HF
   refine WL.call rfl rfl rfl (oc_func (vs := [.int .u8 c25]) rfl t_ent_134) (ok_lexis_isPart _ hr28 S24.sub) ?_
   rintro _ w30 ⟨h31, s32, rfl⟩
   have S33 := S24.trans0 s32
   refine WL.val rfl rfl rfl (ov_not rfl) <| WL.nil <| WQ.seqN <| WC.cond (b := !r27) rfl (fun hb34 => ?_) (fun hb34 => ?_)
   ·replace HF := bif_t hb34 HF
    refine WC.seq <| WC.region <| WL.val rfl rfl rfl (ov_assign rfl) <| WL.nil <| WQ.seqN <| WC.ret <| WQ.blockRet <| WQ.thenRet <| WQ.thenRet <| WQ.blockRet <| WQ.thenRet <| WQ.ret1 rfl rfl ?_
    obtain rfl := Option.some.inj HF
    exact ⟨_, rfl, h31, S33, rfl⟩
   ·replace HF := bif_f hb34 HF
    refine WC.skip <| WQ.blockN <| WQ.seqN <| WC.region <| WL.val rfl rfl rfl (ov_add rfl rfl) <| WL.val rfl rfl rfl (ov_move rfl) <| WL.nil <| WQ.loopN <| WP.to [0, 5, 6] [(0, .string x1), (5, .int .i64 (x1.size : Int)), (6, .int .i64 (IntKind.i64.wrap (x6 + 1)))] rfl ?_
    exact IHL8 j7 (Nat.le_refl _) _ _ ⟨h31, IntKind.i64.wrap (x6 + 1), HF, rfl, S33, (le4).trans ((le23).trans s32.le)⟩
  ·intro J35
   refine WC.cond (b := decide ((x6 : Int) < (x1.size : Int))) rfl (fun hb10 => ?_) (fun hb10 => ?_)
   ·replace HF := bif_t hb10 HF
    refine WC.skip <| WC.to [0, 5, 6] [(0, .string x1), (5, .int .i64 (x1.size : Int)), (6, .int .i64 x6)] rfl ?_
    exact J35 ⟨h2, HF, rfl, S5, Hle.refl _⟩
   ·replace HF := bif_f hb10 HF
    refine WC.exit <| WQ.thenExit <| WQ.thenExit <| WQ.blockHit <| WQ.seqN <| WC.seq <| WC.region <| WL.val rfl rfl rfl (ov_move rfl) <| WL.val rfl rfl rfl (ov_neqS rfl rfl) <| WL.val rfl rfl rfl (ov_move rfl) <| WL.split 17 (b := !bEq x1 (⟨#[]⟩ : ByteArray)) rfl (fun hb11 => ?_) (fun hb11 => ?_)
    ·replace HF := bif_t hb11 HF
     refine WL.val rfl rfl rfl (ov_move rfl) ?_
     obtain ⟨c12, hc13, HF⟩ := bind_some HF
     refine WL.val rfl rfl rfl (ov_indexSO rfl rfl t_string_9 hc13) ?_
     obtain ⟨r14, hr15, HF⟩ := bind_some HF
     refine WL.call rfl rfl rfl (oc_func (vs := [.int .u8 c12]) rfl t_ent_135) (ok_lexis_isLetter _ hr15 S5.sub) ?_
     rintro _ w17 ⟨h18, s19, rfl⟩
     have S20 := S5.trans0 s19
     refine WL.val rfl rfl rfl (ov_pickT rfl rfl) <| WL.val rfl rfl rfl (ov_assign rfl) <| WL.nil <| WQ.seqN <| WC.ret <| WQ.ret1 rfl rfl ?_
     obtain rfl := Option.some.inj HF
     exact ⟨_, rfl, h18, S20, rfl⟩
    ·replace HF := bif_f hb11 HF
     refine WL.pass rfl rfl rfl <| WL.pass rfl rfl rfl <| WL.pass rfl rfl rfl <| WL.val rfl rfl rfl (ov_pickF rfl rfl) <| WL.val rfl rfl rfl (ov_assign rfl) <| WL.nil <| WQ.seqN <| WC.ret <| WQ.ret1 rfl rfl ?_
     obtain rfl := Option.some.inj HF
     exact ⟨_, rfl, h2, S5, rfl⟩
 ·exact ⟨h0, 0, HF, rfl, S0, Hle.refl _⟩
theorem all_lexis_isRun : ∀ k j, j ≤ k → C_lexis_isRun (tie_lexis_isRun j).lexis_isRun := by
  intro k
  induction k with
  | zero =>
    intro j hj
    obtain rfl : j = 0 := by omega
    exact (fun _ _ => by intro h; cases h)
  | succ k ih =>
    intro j hj
    by_cases h : j ≤ k
    · exact ih j h
    · obtain rfl : j = k + 1 := by omega
      exact s_lexis_isRun k ih
theorem ok_lexis_isRun (k : Nat) : C_lexis_isRun (F_lexis_isRun k) := (all_lexis_isRun k k (Nat.le_refl _))

def C_lexis_IsName (φ : ByteArray → Option Bool) : Prop := ∀ ⦃x1 : ByteArray⦄ ⦃r : Bool⦄, φ x1 = some r → ∀ ⦃w0 : World⦄ ⦃h0 : Hp⦄, Sub h0 w0 →
  Calls Tryz.prog 100 #[.string x1] w0 fun e w1 => ∃ v, e = .returned v ∧ ∃ h1, Stp [] w0 h0 w1 h1 ∧ v = .bool r
set_option maxRecDepth 20000 in
set_option maxHeartbeats 4000000 in
theorem s_lexis_IsName (k : Nat) : C_lexis_IsName (F_lexis_IsName k) := by
 intro x1 r HF w0 h0  hs0 
 have S0 : Stp [] w0 h0 w0 h0 := Stp.refl hs0 _
 refine enter (n := 15) Tryz.func100 rfl Tryz.ntmps100 rfl [(0, .string x1)] rfl <| WC.seq <| WC.region <| WL.val rfl rfl rfl (ov_assign rfl) <| WL.nil <| WQ.seqN <| WC.seq <| WC.region <| WL.val rfl rfl rfl (ov_move rfl) ?_
 obtain ⟨r2, hr3, HF⟩ := bind_some HF
 refine WL.call rfl rfl rfl (oc_func (vs := [.string x1]) rfl t_ent_118) (ok_lexis_isRun _ hr3 S0.sub) ?_
 rintro _ w5 ⟨h6, s7, rfl⟩
 have S8 := S0.trans0 s7
 refine WL.val rfl rfl rfl (ov_move rfl) <| WL.split 5 (b := r2) rfl (fun hb9 => ?_) (fun hb9 => ?_)
 ·replace HF := bif_t hb9 HF
  refine WL.val rfl rfl rfl (ov_move rfl) <| WL.val rfl rfl rfl (ov_lenS rfl t_string_9) <| WL.val rfl rfl rfl (ov_leq rfl rfl) <| WL.val rfl rfl rfl (ov_pickT rfl rfl) <| WL.val rfl rfl rfl (ov_move rfl) <| WL.split 10 (b := decide (((x1.size : Int) : Int) ≤ 12)) rfl (fun hb10 => ?_) (fun hb10 => ?_)
  ·replace HF := bif_t hb10 HF
   refine WL.val rfl rfl rfl (ov_move rfl) ?_
   obtain ⟨r11, hr12, HF⟩ := bind_some HF
   refine WL.call rfl rfl rfl (oc_func (vs := [.string x1]) rfl t_ent_119) (ok_lexis_IsWord _ hr12 S8.sub) ?_
   rintro _ w14 ⟨h15, s16, rfl⟩
   have S17 := S8.trans0 s16
   refine WL.val rfl rfl rfl (ov_not rfl) <| WL.val rfl rfl rfl (ov_pickT rfl rfl) <| WL.val rfl rfl rfl (ov_assign rfl) <| WL.nil <| WQ.seqN <| WC.ret <| WQ.ret1 rfl rfl ?_
   obtain rfl := Option.some.inj HF
   exact ⟨_, rfl, h15, S17, rfl⟩
  ·replace HF := bif_f hb10 HF
   refine WL.pass rfl rfl rfl <| WL.pass rfl rfl rfl <| WL.pass rfl rfl rfl <| WL.val rfl rfl rfl (ov_pickF rfl rfl) <| WL.val rfl rfl rfl (ov_assign rfl) <| WL.nil <| WQ.seqN <| WC.ret <| WQ.ret1 rfl rfl ?_
   obtain rfl := Option.some.inj HF
   exact ⟨_, rfl, h6, S8, rfl⟩
 ·replace HF := bif_f hb9 HF
  refine WL.pass rfl rfl rfl <| WL.pass rfl rfl rfl <| WL.pass rfl rfl rfl <| WL.val rfl rfl rfl (ov_pickF rfl rfl) <| WL.val rfl rfl rfl (ov_move rfl) <| WL.pass rfl rfl rfl <| WL.pass rfl rfl rfl <| WL.pass rfl rfl rfl <| WL.val rfl rfl rfl (ov_pickF rfl rfl) <| WL.val rfl rfl rfl (ov_assign rfl) <| WL.nil <| WQ.seqN <| WC.ret <| WQ.ret1 rfl rfl ?_
  obtain rfl := Option.some.inj HF
  exact ⟨_, rfl, h6, S8, rfl⟩
theorem ok_lexis_IsName (k : Nat) : C_lexis_IsName (F_lexis_IsName k) := s_lexis_IsName k

def C_ast_isNamed (φ : ByteArray → Bool → Option Bool) : Prop := ∀ ⦃x1 : ByteArray⦄ ⦃x2 : Bool⦄ ⦃r : Bool⦄, φ x1 x2 = some r → ∀ ⦃w0 : World⦄ ⦃h0 : Hp⦄, Sub h0 w0 →
  Calls Tryz.prog 80 #[.string x1, .bool x2] w0 fun e w1 => ∃ v, e = .returned v ∧ ∃ h1, Stp [] w0 h0 w1 h1 ∧ v = .bool r
set_option maxRecDepth 20000 in
set_option maxHeartbeats 4000000 in
theorem s_ast_isNamed (k : Nat) : C_ast_isNamed (F_ast_isNamed k) := by
 intro x1 x2 r HF w0 h0  hs0 
 have S0 : Stp [] w0 h0 w0 h0 := Stp.refl hs0 _
 refine enter (n := 10) Tryz.func80 rfl Tryz.ntmps80 rfl [(0, .string x1), (1, .bool x2)] rfl <| WC.seq <| WC.region <| WL.val rfl rfl rfl (ov_assign rfl) <| WL.nil <| WQ.seqN <| WC.join (fun E w12 => ∃ (h11 : Hp), ast_isNamed_j1 k x1 = some r ∧ E = [(0, .string x1)] ∧ Stp [] w0 h0 w12 h11 ∧ Hle h0 h11) ?_ ?_
 ·rintro E w12 ⟨h11, HF, rfl, S14, le13⟩
  refine WC.seq <| WC.region <| WL.val rfl rfl rfl (ov_move rfl) <| WL.val rfl rfl rfl (ov_eqlS rfl rfl) <| WL.val rfl rfl rfl (ov_assign rfl) <| WL.nil <| WQ.seqN <| WC.ret <| WQ.ret1 rfl rfl ?_
  obtain rfl := Option.some.inj HF
  exact ⟨_, rfl, h11, S14, rfl⟩
 ·intro J15
  refine WC.seq <| WC.region <| WL.val rfl rfl rfl (ov_move rfl) <| WL.nil <| WQ.seqN <| WC.cond (b := x2) rfl (fun hb3 => ?_) (fun hb3 => ?_)
  ·replace HF := bif_t hb3 HF
   refine WC.seq <| WC.region <| WL.val rfl rfl rfl (ov_move rfl) ?_
   obtain ⟨r4, hr5, HF⟩ := bind_some HF
   refine WL.call rfl rfl rfl (oc_func (vs := [.string x1]) rfl t_ent_100) (ok_lexis_IsName _ hr5 S0.sub) ?_
   rintro _ w7 ⟨h8, s9, rfl⟩
   have S10 := S0.trans0 s9
   refine WL.val rfl rfl rfl (ov_assign rfl) <| WL.nil <| WQ.seqN <| WC.ret <| WQ.thenRet <| WQ.ret1 rfl rfl ?_
   obtain rfl := Option.some.inj HF
   exact ⟨_, rfl, h8, S10, rfl⟩
  ·replace HF := bif_f hb3 HF
   refine WC.skip <| WC.to [0] [(0, .string x1)] rfl ?_
   exact J15 ⟨h0, HF, rfl, S0, Hle.refl _⟩
theorem ok_ast_isNamed (k : Nat) : C_ast_isNamed (F_ast_isNamed k) := s_ast_isNamed k

def C_ast_Counter_Add (φ : Int → Int → Int → Option (Bool × Int × Int)) : Prop := ∀ ⦃x3 : Int⦄ ⦃x4 : Int⦄ ⦃x6 : Int⦄ ⦃r : Bool × Int × Int⦄, φ x3 x4 x6 = some r → ∀ ⦃w0 : World⦄ ⦃h0 : Hp⦄ ⦃b1 : Nat⦄ ⦃T2 : Nat⦄, Sub h0 w0 → OB w0 h0 b1 T2 [.int .i64 x3, .int .i64 x4] →
  Calls Tryz.prog 79 #[.pointer (some ⟨b1, 0, none⟩), .int .i64 x6] w0 fun e w1 => ∃ v, e = .returned v ∧ ∃ h1, Stp [b1] w0 h0 w1 h1 ∧ v = .bool r.1 ∧ (OB w1 h1 b1 T2 [.int .i64 r.2.1, .int .i64 r.2.2])
set_option maxRecDepth 20000 in
set_option maxHeartbeats 4000000 in
theorem s_ast_Counter_Add (k : Nat) : C_ast_Counter_Add (F_ast_Counter_Add k) := by
 intro x3 x4 x6 r HF w0 h0 b1 T2 hs0 ob5
 have S0 : Stp [b1] w0 h0 w0 h0 := Stp.refl hs0 _
 have lt7 : b1 < w0.heap.size := OB.lt ob5
 refine enter (n := 30) Tryz.func79 rfl Tryz.ntmps79 rfl [(0, .pointer (some ⟨b1, 0, none⟩)), (1, .int .i64 x6)] rfl <| WC.seq <| WC.region <| WL.val rfl rfl rfl (ov_assign rfl) <| WL.nil <| WQ.seqN <| WC.seq <| WC.region <| WL.val rfl rfl rfl (ov_move rfl) <| WL.val rfl rfl rfl (ov_nilCheck rfl) <| WL.val rfl rfl rfl (ov_fieldAddr rfl t_field_75_0) <| WL.val rfl rfl rfl (ov_load1 rfl t_agg_3 (OB.cell ob5 (j := 0) rfl)) <| WL.val rfl rfl rfl (ov_add rfl rfl) <| WL.val rfl rfl rfl (ov_nilCheck rfl) <| WL.val rfl rfl rfl (ov_fieldAddr rfl t_field_75_0) <| WL.store (vs := [.int .i64 (IntKind.i64.wrap (x3 + 1))]) rfl rfl rfl rfl t_size_3 (one_cons rfl one_nil) ob5 S0.sub (by simp) (ds := [.int .i64 (IntKind.i64.wrap (x3 + 1)), .int .i64 x4]) rfl (fun w8 s9 ob10 => ?_)
 have S11 := S0.trans1 s9 (.inl (by simp))
 refine WL.nil <| WQ.seqN <| WC.seq <| WC.region <| WL.val rfl rfl rfl (ov_move rfl) <| WL.val rfl rfl rfl (ov_move rfl) <| WL.val rfl rfl rfl (ov_nilCheck rfl) <| WL.val rfl rfl rfl (ov_fieldAddr rfl t_field_75_1) <| WL.val rfl rfl rfl (ov_load1 rfl t_agg_3 (OB.cell ob10 (j := 1) rfl)) <| WL.val rfl rfl rfl (ov_move rfl) <| WL.val rfl rfl rfl (ov_max rfl rfl) <| WL.val rfl rfl rfl (ov_nilCheck rfl) <| WL.val rfl rfl rfl (ov_fieldAddr rfl t_field_75_1) <| WL.store (vs := [.int .i64 (imax x4 x6)]) rfl rfl rfl rfl t_size_3 (one_cons rfl one_nil) ob10 S11.sub (by simp) (ds := [.int .i64 (IntKind.i64.wrap (x3 + 1)), .int .i64 (imax x4 x6)]) rfl (fun w12 s13 ob14 => ?_)
 have S15 := S11.trans1 s13 (.inl (by simp))
 refine WL.nil <| WQ.seqN <| WC.seq <| WC.region <| WL.val rfl rfl rfl (ov_move rfl) <| WL.val rfl rfl rfl (ov_nilCheck rfl) <| WL.val rfl rfl rfl (ov_fieldAddr rfl t_field_75_0) <| WL.val rfl rfl rfl (ov_load1 rfl t_agg_3 (OB.cell ob14 (j := 0) rfl)) <| WL.val rfl rfl rfl (ov_leq rfl rfl) <| WL.val rfl rfl rfl (ov_move rfl) <| WL.split 26 (b := decide (((IntKind.i64.wrap (x3 + 1)) : Int) ≤ 500)) rfl (fun hb16 => ?_) (fun hb16 => ?_)
 ·replace HF := bif_t hb16 HF
  refine WL.val rfl rfl rfl (ov_move rfl) <| WL.val rfl rfl rfl (ov_leq rfl rfl) <| WL.val rfl rfl rfl (ov_pickT rfl rfl) <| WL.val rfl rfl rfl (ov_assign rfl) <| WL.nil <| WQ.seqN <| WC.ret <| WQ.ret1 rfl rfl ?_
  obtain rfl := Option.some.inj HF
  exact ⟨_, rfl, h0, S15, rfl, ob14⟩
 ·replace HF := bif_f hb16 HF
  refine WL.pass rfl rfl rfl <| WL.pass rfl rfl rfl <| WL.val rfl rfl rfl (ov_pickF rfl rfl) <| WL.val rfl rfl rfl (ov_assign rfl) <| WL.nil <| WQ.seqN <| WC.ret <| WQ.ret1 rfl rfl ?_
  obtain rfl := Option.some.inj HF
  exact ⟨_, rfl, h0, S15, rfl, ob14⟩
theorem ok_ast_Counter_Add (k : Nat) : C_ast_Counter_Add (F_ast_Counter_Add k) := s_ast_Counter_Add k

def C_ast_Counter_Expr (φ : Int → Int → Ex → Int → Option (Bool × Int × Int)) : Prop := ∀ ⦃x3 : Int⦄ ⦃x4 : Int⦄ ⦃x6 : Ex⦄ ⦃x9 : Int⦄ ⦃r : Bool × Int × Int⦄, φ x3 x4 x6 x9 = some r → ∀ ⦃w0 : World⦄ ⦃h0 : Hp⦄ ⦃b1 : Nat⦄ ⦃T2 : Nat⦄ ⦃cs7 : List Value⦄, Sub h0 w0 → Rp.R h0 x6 cs7 → OB w0 h0 b1 T2 [.int .i64 x3, .int .i64 x4] →
  Calls Tryz.prog 54 #[.pointer (some ⟨b1, 0, none⟩), .agg cs7.toArray, .int .i64 x9] w0 fun e w1 => ∃ v, e = .returned v ∧ ∃ h1, Stp [b1] w0 h0 w1 h1 ∧ v = .bool r.1 ∧ (OB w1 h1 b1 T2 [.int .i64 r.2.1, .int .i64 r.2.2])
def C_ast_Counter_Exprs (φ : Int → Int → (List Ex) → Int → Option (Bool × Int × Int)) : Prop := ∀ ⦃x3 : Int⦄ ⦃x4 : Int⦄ ⦃xs6 : List Ex⦄ ⦃x9 : Int⦄ ⦃r : Bool × Int × Int⦄, φ x3 x4 xs6 x9 = some r → ∀ ⦃w0 : World⦄ ⦃h0 : Hp⦄ ⦃b1 : Nat⦄ ⦃T2 : Nat⦄ ⦃v7 : Value⦄, Sub h0 w0 → RS h0 v7 xs6 → OB w0 h0 b1 T2 [.int .i64 x3, .int .i64 x4] →
  Calls Tryz.prog 81 #[.pointer (some ⟨b1, 0, none⟩), v7, .int .i64 x9] w0 fun e w1 => ∃ v, e = .returned v ∧ ∃ h1, Stp [b1] w0 h0 w1 h1 ∧ v = .bool r.1 ∧ (OB w1 h1 b1 T2 [.int .i64 r.2.1, .int .i64 r.2.2])
set_option maxRecDepth 20000 in
set_option maxHeartbeats 4000000 in
theorem s_ast_Counter_Expr (k : Nat) (IH : ∀ j, j ≤ k → C_ast_Counter_Expr (tie_ast_Counter_Expr j).ast_Counter_Expr ∧ C_ast_Counter_Exprs (tie_ast_Counter_Expr j).ast_Counter_Exprs) : C_ast_Counter_Expr (m_ast_Counter_Expr k (tie_ast_Counter_Expr k)) := by
 intro x3 x4 x6 x9 r HF w0 h0 b1 T2 cs7 hs0 r8 ob5
 have S0 : Stp [b1] w0 h0 w0 h0 := Stp.refl hs0 _
 have lt10 : b1 < w0.heap.size := OB.lt ob5
 refine enter (n := 82) Tryz.func54 rfl Tryz.ntmps54 rfl [(0, .pointer (some ⟨b1, 0, none⟩)), (1, .agg cs7.toArray), (2, .int .i64 x9)] rfl <| WC.seq <| WC.region ?_
 obtain ⟨v11, rfl, rs12⟩ := rp_Ex.1 r8
 refine WL.box (cs := [.int .i64 x6.op, .int .i64 x6.kind, .int .i64 x6.n, .string x6.s, .string x6.f, v11]) rfl rfl rfl rfl S0.sub (fun w13 b14 hb15 s16 ob17 => ?_)
 have ne18 : b1 ≠ b14 := ob5.ne_new hb15
 have g19 : w0.heap.size ≤ b14 := by rw [hb15]; exact S0.size
 have S20 := S0.trans0 s16
 refine WL.val rfl rfl rfl (ov_assign rfl) <| WL.nil <| WQ.seqN <| WC.join (fun E w47 => ∃ (h46 : Hp) (x50 : Int) (x51 : Int), ast_Counter_Expr_j2 k (tie_ast_Counter_Expr k) x6 x9 x50 x51 = some r ∧ E = [(0, .pointer (some ⟨b1, 0, none⟩)), (2, .int .i64 x9), (4, .pointer (some ⟨b14, 0, none⟩))] ∧ Stp [b1] w0 h0 w47 h46 ∧ Hle h0 h46 ∧ OB w47 h46 b1 T2 [.int .i64 x50, .int .i64 x51] ∧ OB w47 h46 b14 32 [.int .i64 x6.op, .int .i64 x6.kind, .int .i64 x6.n, .string x6.s, .string x6.f, v11]) ?_ ?_
 ·rintro E w47 ⟨h46, x50, x51, HF, rfl, S49, le48, ob52, ob53⟩
  refine WC.seq <| WC.region <| WL.val rfl rfl rfl (ov_assign rfl) <| WL.val rfl rfl rfl (ov_assign rfl) <| WL.val rfl rfl rfl (ov_assign rfl) <| WL.nil <| WQ.seqN <| WC.join (fun E w96 => ∃ (h95 : Hp) (x99 : Bool) (x100 : Bool) (x101 : Int), ast_Counter_Expr_j4 k (tie_ast_Counter_Expr k) x6 x9 x50 x51 x99 x100 x101 = some r ∧ E = [(0, .pointer (some ⟨b1, 0, none⟩)), (2, .int .i64 x9), (4, .pointer (some ⟨b14, 0, none⟩)), (7, .bool x99), (8, .bool x100), (9, .int .i64 x101)] ∧ Stp [b1] w0 h0 w96 h95 ∧ Hle h46 h95 ∧ OB w96 h95 b1 T2 [.int .i64 x50, .int .i64 x51] ∧ OB w96 h95 b14 32 [.int .i64 x6.op, .int .i64 x6.kind, .int .i64 x6.n, .string x6.s, .string x6.f, v11]) ?_ ?_
  ·rintro E w96 ⟨h95, x99, x100, x101, HF, rfl, S98, le97, ob102, ob103⟩
   refine WC.seq <| WC.region <| WL.val rfl rfl rfl (ov_fieldAddr rfl t_field_32_3) <| WL.val rfl rfl rfl (ov_load1 rfl t_agg_9 (OB.cell ob103 (j := 3) rfl)) <| WL.val rfl rfl rfl (ov_move rfl) ?_
   obtain ⟨r104, hr105, HF⟩ := bind_some HF
   refine WL.call rfl rfl rfl (oc_func (vs := [.string x6.s, .bool x99]) rfl t_ent_80) (ok_ast_isNamed _ hr105 S98.sub) ?_
   rintro _ w107 ⟨h108, s109, rfl⟩
   have S110 := S98.trans0 s109
   refine WL.val rfl rfl rfl (ov_move rfl) <| WL.split 61 (b := r104) rfl (fun hb111 => ?_) (fun hb111 => ?_)
   ·replace HF := bif_t hb111 HF
    refine WL.val rfl rfl rfl (ov_fieldAddr rfl t_field_32_4) ?_
    have ob112 := (ob103.step0 s109)
    refine WL.val rfl rfl rfl (ov_load1 rfl t_agg_9 (OB.cell ob112 (j := 4) rfl)) <| WL.val rfl rfl rfl (ov_move rfl) ?_
    obtain ⟨r113, hr114, HF⟩ := bind_some HF
    refine WL.call rfl rfl rfl (oc_func (vs := [.string x6.f, .bool x100]) rfl t_ent_80) (ok_ast_isNamed _ hr114 S110.sub) ?_
    rintro _ w116 ⟨h117, s118, rfl⟩
    have S119 := S110.trans0 s118
    refine WL.val rfl rfl rfl (ov_pickT rfl rfl) <| WL.val rfl rfl rfl (ov_move rfl) <| WL.split 67 (b := r113) rfl (fun hb120 => ?_) (fun hb120 => ?_)
    ·replace HF := bif_t hb120 HF
     refine WL.val rfl rfl rfl (ov_fieldAddr rfl t_field_32_5) ?_
     have ob121 := (ob112.step0 s118)
     refine WL.val rfl rfl rfl (ov_load1 rfl t_agg_30 (OB.cell ob121 (j := 5) rfl)) ?_
     obtain ⟨A122, c123, rfl, rs124⟩ := RS.form (rs12.mono ((s16.le).trans ((le48).trans ((le97).trans ((s109.le).trans s118.le)))))
     refine WL.val rfl rfl rfl (ov_lenL rfl t_slice_30) <| WL.val rfl rfl rfl (ov_move rfl) <| WL.val rfl rfl rfl (ov_eql rfl rfl) <| WL.val rfl rfl rfl (ov_pickT rfl rfl) <| WL.val rfl rfl rfl (ov_move rfl) <| WL.split 74 (b := ((x6.args.length : Int) : Int) == x101) rfl (fun hb125 => ?_) (fun hb125 => ?_)
     ·replace HF := bif_t hb125 HF
      refine WL.val rfl rfl rfl (ov_move rfl) <| WL.val rfl rfl rfl (ov_fieldAddr rfl t_field_32_5) <| WL.val rfl rfl rfl (ov_load1 rfl t_agg_30 (OB.cell ob121 (j := 5) rfl)) <| WL.val rfl rfl rfl (ov_move rfl) <| WL.val rfl rfl rfl (ov_add rfl rfl) ?_
      have ob126 := ((ob102.step0 s109).step0 s118)
      obtain ⟨r127, hr128, HF⟩ := bind_some HF
      refine WL.call rfl rfl rfl (oc_func (vs := [.pointer (some ⟨b1, 0, none⟩), .slice A122 (x6.args).length c123, .int .i64 (IntKind.i64.wrap (x9 + 1))]) rfl t_ent_81) ((IH _ (Nat.le_refl _)).2 hr128 S119.sub rs124 ob126) ?_
      rintro _ w130 ⟨h131, s132, rfl, ob133⟩
      have S134 := S119.trans s132 (in_cons (.inl (by simp)) in_nil)
      refine WL.val rfl rfl rfl (ov_pickT rfl rfl) <| WL.val rfl rfl rfl (ov_assign rfl) <| WL.nil <| WQ.seqN <| WC.ret <| WQ.ret1 rfl rfl ?_
      obtain rfl := Option.some.inj HF
      exact ⟨_, rfl, h131, S134, rfl, ob133⟩
     ·replace HF := bif_f hb125 HF
      refine WL.pass rfl rfl rfl <| WL.pass rfl rfl rfl <| WL.pass rfl rfl rfl <| WL.pass rfl rfl rfl <| WL.pass rfl rfl rfl <| WL.pass rfl rfl rfl <| WL.val rfl rfl rfl (ov_pickF rfl rfl) <| WL.val rfl rfl rfl (ov_assign rfl) <| WL.nil <| WQ.seqN <| WC.ret ?_
      have ob135 := ((ob102.step0 s109).step0 s118)
      refine WQ.ret1 rfl rfl ?_
      obtain rfl := Option.some.inj HF
      exact ⟨_, rfl, h117, S119, rfl, ob135⟩
    ·replace HF := bif_f hb120 HF
     refine WL.pass rfl rfl rfl <| WL.pass rfl rfl rfl <| WL.pass rfl rfl rfl <| WL.pass rfl rfl rfl <| WL.pass rfl rfl rfl <| WL.val rfl rfl rfl (ov_pickF rfl rfl) <| WL.val rfl rfl rfl (ov_move rfl) <| WL.pass rfl rfl rfl <| WL.pass rfl rfl rfl <| WL.pass rfl rfl rfl <| WL.pass rfl rfl rfl <| WL.pass rfl rfl rfl <| WL.pass rfl rfl rfl <| WL.val rfl rfl rfl (ov_pickF rfl rfl) <| WL.val rfl rfl rfl (ov_assign rfl) <| WL.nil <| WQ.seqN <| WC.ret ?_
     have ob136 := ((ob102.step0 s109).step0 s118)
     refine WQ.ret1 rfl rfl ?_
     obtain rfl := Option.some.inj HF
     exact ⟨_, rfl, h117, S119, rfl, ob136⟩
   ·replace HF := bif_f hb111 HF
    refine WL.pass rfl rfl rfl <| WL.pass rfl rfl rfl <| WL.pass rfl rfl rfl <| WL.pass rfl rfl rfl <| WL.val rfl rfl rfl (ov_pickF rfl rfl) <| WL.val rfl rfl rfl (ov_move rfl) <| WL.pass rfl rfl rfl <| WL.pass rfl rfl rfl <| WL.pass rfl rfl rfl <| WL.pass rfl rfl rfl <| WL.pass rfl rfl rfl <| WL.val rfl rfl rfl (ov_pickF rfl rfl) <| WL.val rfl rfl rfl (ov_move rfl) <| WL.pass rfl rfl rfl <| WL.pass rfl rfl rfl <| WL.pass rfl rfl rfl <| WL.pass rfl rfl rfl <| WL.pass rfl rfl rfl <| WL.pass rfl rfl rfl <| WL.val rfl rfl rfl (ov_pickF rfl rfl) <| WL.val rfl rfl rfl (ov_assign rfl) <| WL.nil <| WQ.seqN <| WC.ret ?_
    have ob137 := (ob102.step0 s109)
    refine WQ.ret1 rfl rfl ?_
    obtain rfl := Option.some.inj HF
    exact ⟨_, rfl, h108, S110, rfl, ob137⟩
  ·intro J138
   refine WC.seq <| WC.region <| WL.val rfl rfl rfl (ov_fieldAddr rfl t_field_32_0) <| WL.val rfl rfl rfl (ov_load1 rfl t_agg_3 (OB.cell ob53 (j := 0) rfl)) <| WL.nil <| WQ.seqN <| WC.block <| WC.seq <| WC.region <| WL.val rfl rfl rfl (ov_eql rfl rfl) <| WL.val rfl rfl rfl (ov_assign rfl) <| WL.nil <| WQ.seqN <| WC.cond (b := (x6.op : Int) == 1) rfl (fun hb54 => ?_) (fun hb54 => ?_)
   ·replace HF := bif_t hb54 HF
    refine WC.seq <| WC.region <| WL.val rfl rfl rfl (ov_assign rfl) <| WL.nil <| WQ.seqN <| WC.seq <| WC.region <| WL.val rfl rfl rfl (ov_fieldAddr rfl t_field_32_1) <| WL.val rfl rfl rfl (ov_load1 rfl t_agg_3 (OB.cell ob53 (j := 1) rfl)) <| WL.val rfl rfl rfl (ov_fieldAddr rfl t_field_32_2) <| WL.val rfl rfl rfl (ov_load1 rfl t_agg_3 (OB.cell ob53 (j := 2) rfl)) ?_
    obtain ⟨r55, hr56, HF⟩ := bind_some HF
    refine WL.call rfl rfl rfl (oc_func (vs := [.int .i64 x6.kind, .int .i64 x6.n]) rfl t_ent_33) (ok_ast_IsConst _ hr56 S49.sub) ?_
    rintro _ w58 ⟨h59, s60, rfl⟩
    have S61 := S49.trans0 s60
    refine WL.val rfl rfl rfl (ov_not rfl) <| WL.nil <| WQ.seqN <| WC.cond (b := !r55) rfl (fun hb62 => ?_) (fun hb62 => ?_)
    ·replace HF := bif_t hb62 HF
     refine WC.seq <| WC.region <| WL.val rfl rfl rfl (ov_assign rfl) <| WL.nil <| WQ.seqN <| WC.ret <| WQ.blockRet <| WQ.thenRet ?_
     have ob63 := (ob52.step0 s60)
     refine WQ.ret1 rfl rfl ?_
     obtain rfl := Option.some.inj HF
     exact ⟨_, rfl, h59, S61, rfl, ob63⟩
    ·replace HF := bif_f hb62 HF
     refine WC.skip <| WQ.blockN ?_
     have ob139 := (ob52.step0 s60)
     have ob140 := (ob53.step0 s60)
     refine WC.to [0, 2, 4, 7, 8, 9] [(0, .pointer (some ⟨b1, 0, none⟩)), (2, .int .i64 x9), (4, .pointer (some ⟨b14, 0, none⟩)), (7, .bool false), (8, .bool false), (9, .int .i64 0)] rfl ?_
     exact J138 ⟨h59, false, false, 0, HF, rfl, S61, s60.le, ob139, ob140⟩
   ·replace HF := bif_f hb54 HF
    refine WC.seq <| WC.region <| WL.val rfl rfl rfl (ov_eql rfl rfl) <| WL.val rfl rfl rfl (ov_assign rfl) <| WL.nil <| WQ.seqN <| WC.cond (b := (x6.op : Int) == 2) rfl (fun hb64 => ?_) (fun hb64 => ?_)
    ·replace HF := bif_t hb64 HF
     refine WC.region <| WL.val rfl rfl rfl (ov_assign rfl) <| WL.val rfl rfl rfl (ov_assign rfl) <| WL.nil <| WQ.blockN <| WC.to [0, 2, 4, 7, 8, 9] [(0, .pointer (some ⟨b1, 0, none⟩)), (2, .int .i64 x9), (4, .pointer (some ⟨b14, 0, none⟩)), (7, .bool true), (8, .bool false), (9, .int .i64 0)] rfl ?_
     exact J138 ⟨h46, true, false, 0, HF, rfl, S49, Hle.refl _, ob52, ob53⟩
    ·replace HF := bif_f hb64 HF
     refine WC.seq <| WC.region <| WL.val rfl rfl rfl (ov_eql rfl rfl) <| WL.val rfl rfl rfl (ov_assign rfl) <| WL.nil <| WQ.seqN <| WC.cond (b := (x6.op : Int) == 3) rfl (fun hb65 => ?_) (fun hb65 => ?_)
     ·replace HF := bif_t hb65 HF
      refine WC.region <| WL.val rfl rfl rfl (ov_assign rfl) <| WL.val rfl rfl rfl (ov_assign rfl) <| WL.val rfl rfl rfl (ov_assign rfl) <| WL.nil <| WQ.blockN <| WC.to [0, 2, 4, 7, 8, 9] [(0, .pointer (some ⟨b1, 0, none⟩)), (2, .int .i64 x9), (4, .pointer (some ⟨b14, 0, none⟩)), (7, .bool true), (8, .bool true), (9, .int .i64 0)] rfl ?_
      exact J138 ⟨h46, true, true, 0, HF, rfl, S49, Hle.refl _, ob52, ob53⟩
     ·replace HF := bif_f hb65 HF
      refine WC.seq <| WC.region <| WL.val rfl rfl rfl (ov_eql rfl rfl) <| WL.val rfl rfl rfl (ov_assign rfl) <| WL.nil <| WQ.seqN <| WC.cond (b := (x6.op : Int) == 4) rfl (fun hb66 => ?_) (fun hb66 => ?_)
      ·replace HF := bif_t hb66 HF
       refine WC.region <| WL.val rfl rfl rfl (ov_assign rfl) <| WL.val rfl rfl rfl (ov_assign rfl) <| WL.nil <| WQ.blockN <| WC.to [0, 2, 4, 7, 8, 9] [(0, .pointer (some ⟨b1, 0, none⟩)), (2, .int .i64 x9), (4, .pointer (some ⟨b14, 0, none⟩)), (7, .bool true), (8, .bool false), (9, .int .i64 1)] rfl ?_
       exact J138 ⟨h46, true, false, 1, HF, rfl, S49, Hle.refl _, ob52, ob53⟩
      ·replace HF := bif_f hb66 HF
       refine WC.seq <| WC.region <| WL.val rfl rfl rfl (ov_eql rfl rfl) <| WL.val rfl rfl rfl (ov_assign rfl) <| WL.nil <| WQ.seqN <| WC.cond (b := (x6.op : Int) == 5) rfl (fun hb67 => ?_) (fun hb67 => ?_)
       ·replace HF := bif_t hb67 HF
        obtain ⟨A68, c69, rfl, rs70⟩ := RS.form (rs12.mono ((s16.le).trans le48))
        refine WC.drawn (m := 4) [(0, .pointer (some ⟨b1, 0, none⟩)), (2, .int .i64 x9), (4, .pointer (some ⟨b14, 0, none⟩)), (8, .bool false), (9, .int .i64 2)] [0, 2, 4, 8, 9] rfl (fun i v w h => match i with | 0 => v = .pointer (some ⟨b14, 5, none⟩) | 1 => v = .slice A68 (x6.args).length c69 | 2 => v = .int .i64 (x6.args.length : Int) | 3 => v = .bool true | _ => True) t_mixed S49.sub rfl rfl rfl rfl rfl ?_ ?_ ?_
        ·intro i v w h w2 h2 hΦ hst
         match i, hΦ with
         | 0, hΦ => exact hΦ
         | 1, hΦ => exact hΦ
         | 2, hΦ => exact hΦ
         | 3, hΦ => exact hΦ
         | i + 4, _ => exact trivial
        ·refine ⟨?_, ?_, ?_, ?_, trivial⟩
         ·intro a w71 h72 s73 hat hF
          exact front_val (show At _ [(0, .pointer (some ⟨b1, 0, none⟩)), (2, .int .i64 x9), (4, .pointer (some ⟨b14, 0, none⟩)), (8, .bool false), (9, .int .i64 2)] _ from hat) rfl (ov_fieldAddr rfl t_field_32_5) s73.sub (by exact rfl)
         ·intro a w71 h72 s73 hat hF
          obtain hv0 := hF 0 51 rfl rfl
          have ob74 := (ob53.step0 s73)
          exact front_val (show At _ [(51, .pointer (some ⟨b14, 5, none⟩)), (0, .pointer (some ⟨b1, 0, none⟩)), (2, .int .i64 x9), (4, .pointer (some ⟨b14, 0, none⟩)), (8, .bool false), (9, .int .i64 2)] _ from (At.cons hat hv0)) rfl (ov_load1 rfl t_agg_30 (OB.cell ob74 (j := 5) rfl)) s73.sub (by exact rfl)
         ·intro a w71 h72 s73 hat hF
          obtain hv1 := hF 1 52 rfl rfl
          exact front_val (show At _ [(52, .slice A68 (x6.args).length c69), (0, .pointer (some ⟨b1, 0, none⟩)), (2, .int .i64 x9), (4, .pointer (some ⟨b14, 0, none⟩)), (8, .bool false), (9, .int .i64 2)] _ from (At.cons hat hv1)) rfl (ov_lenL rfl t_slice_30) s73.sub (by exact rfl)
         ·intro a w71 h72 s73 hat hF
          exact front_val (show At _ [(0, .pointer (some ⟨b1, 0, none⟩)), (2, .int .i64 x9), (4, .pointer (some ⟨b14, 0, none⟩)), (8, .bool false), (9, .int .i64 2)] _ from hat) rfl (ov_assign rfl) s73.sub (by exact rfl)
        ·intro a w71 h72 s73 hat hF
         obtain hv0 := hF 0 51 (by decide) rfl
         obtain hv1 := hF 1 52 (by decide) rfl
         obtain hv2 := hF 2 53 (by decide) rfl
         obtain hv3 := hF 3 7 (by decide) rfl
         refine WL.at_ [(7, .bool true), (53, .int .i64 (x6.args.length : Int)), (52, .slice A68 (x6.args).length c69), (51, .pointer (some ⟨b14, 5, none⟩)), (0, .pointer (some ⟨b1, 0, none⟩)), (2, .int .i64 x9), (4, .pointer (some ⟨b14, 0, none⟩)), (8, .bool false), (9, .int .i64 2)] (At.cons (At.cons (At.cons (At.cons hat hv0) hv1) hv2) hv3) ?_
         have S75 := S49.trans0 s73
         refine WL.val rfl rfl rfl (ov_assign rfl) <| WL.nil <| WQ.blockN ?_
         have ob141 := (ob52.step0 s73)
         have ob142 := (ob53.step0 s73)
         refine WC.to [0, 2, 4, 7, 8, 9] [(0, .pointer (some ⟨b1, 0, none⟩)), (2, .int .i64 x9), (4, .pointer (some ⟨b14, 0, none⟩)), (7, .bool true), (8, .bool false), (9, .int .i64 (x6.args.length : Int))] rfl ?_
         exact J138 ⟨h72, true, false, (x6.args.length : Int), HF, rfl, S75, s73.le, ob141, ob142⟩
       ·replace HF := bif_f hb67 HF
        refine WC.join (fun E w78 => ∃ (h77 : Hp) (x81 : Bool), ast_Counter_Expr_j3 k (tie_ast_Counter_Expr k) x6 x9 x50 x51 x81 = some r ∧ E = [(0, .pointer (some ⟨b1, 0, none⟩)), (2, .int .i64 x9), (4, .pointer (some ⟨b14, 0, none⟩)), (7, .bool false), (8, .bool false), (9, .int .i64 2), (54, .bool x81)] ∧ Stp [b1] w0 h0 w78 h77 ∧ Hle h46 h77 ∧ OB w78 h77 b1 T2 [.int .i64 x50, .int .i64 x51] ∧ OB w78 h77 b14 32 [.int .i64 x6.op, .int .i64 x6.kind, .int .i64 x6.n, .string x6.s, .string x6.f, v11]) ?_ ?_
        ·rintro E w78 ⟨h77, x81, HF, rfl, S80, le79, ob82, ob83⟩
         refine WC.cond (b := x81) rfl (fun hb84 => ?_) (fun hb84 => ?_)
         ·replace HF := bif_t hb84 HF
          refine WC.region <| WL.val rfl rfl rfl (ov_assign rfl) <| WL.nil <| WQ.blockN <| WC.to [0, 2, 4, 7, 8, 9] [(0, .pointer (some ⟨b1, 0, none⟩)), (2, .int .i64 x9), (4, .pointer (some ⟨b14, 0, none⟩)), (7, .bool false), (8, .bool false), (9, .int .i64 1)] rfl ?_
          exact J138 ⟨h77, false, false, 1, HF, rfl, S80, le79, ob82, ob83⟩
         ·replace HF := bif_f hb84 HF
          refine WC.seq <| WC.region <| WL.val rfl rfl rfl (ov_fieldAddr rfl t_field_32_0) <| WL.val rfl rfl rfl (ov_load1 rfl t_agg_3 (OB.cell ob83 (j := 0) rfl)) ?_
          obtain ⟨r85, hr86, HF⟩ := bind_some HF
          refine WL.call rfl rfl rfl (oc_func (vs := [.int .i64 x6.op, .int .i64 8, .int .i64 21]) rfl t_ent_62) (ok_ast_within _ hr86 S80.sub) ?_
          rintro _ w88 ⟨h89, s90, rfl⟩
          have S91 := S80.trans0 s90
          refine WL.val rfl rfl rfl (ov_not rfl) <| WL.nil <| WQ.seqN <| WC.cond (b := !r85) rfl (fun hb92 => ?_) (fun hb92 => ?_)
          ·replace HF := bif_t hb92 HF
           refine WC.seq <| WC.region <| WL.val rfl rfl rfl (ov_assign rfl) <| WL.nil <| WQ.seqN <| WC.ret <| WQ.blockRet <| WQ.thenRet ?_
           have ob93 := (ob82.step0 s90)
           refine WQ.ret1 rfl rfl ?_
           obtain rfl := Option.some.inj HF
           exact ⟨_, rfl, h89, S91, rfl, ob93⟩
          ·replace HF := bif_f hb92 HF
           refine WC.skip <| WQ.blockN ?_
           have ob143 := (ob82.step0 s90)
           have ob144 := (ob83.step0 s90)
           refine WC.to [0, 2, 4, 7, 8, 9] [(0, .pointer (some ⟨b1, 0, none⟩)), (2, .int .i64 x9), (4, .pointer (some ⟨b14, 0, none⟩)), (7, .bool false), (8, .bool false), (9, .int .i64 2)] rfl ?_
           exact J138 ⟨h89, false, false, 2, HF, rfl, S91, (le79).trans s90.le, ob143, ob144⟩
        ·intro J94
         refine WC.seq <| WC.region <| WL.val rfl rfl rfl (ov_eql rfl rfl) <| WL.val rfl rfl rfl (ov_assign rfl) <| WL.nil <| WQ.seqN <| WC.cond (b := (x6.op : Int) == 6) rfl (fun hb76 => ?_) (fun hb76 => ?_)
         ·replace HF := bif_t hb76 HF
          refine WC.skip <| WC.to [0, 2, 4, 7, 8, 9, 54] [(0, .pointer (some ⟨b1, 0, none⟩)), (2, .int .i64 x9), (4, .pointer (some ⟨b14, 0, none⟩)), (7, .bool false), (8, .bool false), (9, .int .i64 2), (54, .bool ((x6.op : Int) == 6))] rfl ?_
          exact J94 ⟨h46, (x6.op : Int) == 6, HF, rfl, S49, Hle.refl _, ob52, ob53⟩
         ·replace HF := bif_f hb76 HF
          refine WC.region <| WL.val rfl rfl rfl (ov_eql rfl rfl) <| WL.val rfl rfl rfl (ov_assign rfl) <| WL.nil <| WC.to [0, 2, 4, 7, 8, 9, 54] [(0, .pointer (some ⟨b1, 0, none⟩)), (2, .int .i64 x9), (4, .pointer (some ⟨b14, 0, none⟩)), (7, .bool false), (8, .bool false), (9, .int .i64 2), (54, .bool ((x6.op : Int) == 7))] rfl ?_
          exact J94 ⟨h46, (x6.op : Int) == 7, HF, rfl, S49, Hle.refl _, ob52, ob53⟩
 ·intro J145
  refine WC.join (fun E w35 => ∃ (h34 : Hp) (x38 : Bool) (x39 : Int) (x40 : Int), ast_Counter_Expr_j1 k (tie_ast_Counter_Expr k) x6 x9 x38 x39 x40 = some r ∧ E = [(0, .pointer (some ⟨b1, 0, none⟩)), (2, .int .i64 x9), (4, .pointer (some ⟨b14, 0, none⟩)), (28, .bool x38)] ∧ Stp [b1] w0 h0 w35 h34 ∧ Hle h0 h34 ∧ OB w35 h34 b1 T2 [.int .i64 x39, .int .i64 x40] ∧ OB w35 h34 b14 32 [.int .i64 x6.op, .int .i64 x6.kind, .int .i64 x6.n, .string x6.s, .string x6.f, v11]) ?_ ?_
  ·rintro E w35 ⟨h34, x38, x39, x40, HF, rfl, S37, le36, ob41, ob42⟩
   refine WC.cond (b := x38) rfl (fun hb43 => ?_) (fun hb43 => ?_)
   ·replace HF := bif_t hb43 HF
    refine WC.seq <| WC.region <| WL.val rfl rfl rfl (ov_assign rfl) <| WL.nil <| WQ.seqN <| WC.ret <| WQ.thenRet <| WQ.ret1 rfl rfl ?_
    obtain rfl := Option.some.inj HF
    exact ⟨_, rfl, h34, S37, rfl, ob41⟩
   ·replace HF := bif_f hb43 HF
    refine WC.skip <| WC.to [0, 2, 4] [(0, .pointer (some ⟨b1, 0, none⟩)), (2, .int .i64 x9), (4, .pointer (some ⟨b14, 0, none⟩))] rfl ?_
    exact J145 ⟨h34, x39, x40, HF, rfl, S37, le36, ob41, ob42⟩
  ·intro J44
   refine WC.region <| WL.val rfl rfl rfl (ov_move rfl) <| WL.val rfl rfl rfl (ov_move rfl) ?_
   have ob21 := (ob5.step0 s16)
   obtain ⟨r22, hr23, HF⟩ := bind_some HF
   refine WL.call rfl rfl rfl (oc_func (vs := [.pointer (some ⟨b1, 0, none⟩), .int .i64 x9]) rfl t_ent_79) (ok_ast_Counter_Add _ hr23 S20.sub ob21) ?_
   rintro _ w25 ⟨h26, s27, rfl, ob28⟩
   have S29 := S20.trans s27 (in_cons (.inl (by simp)) in_nil)
   refine WL.val rfl rfl rfl (ov_not rfl) <| WL.val rfl rfl rfl (ov_move rfl) <| WL.split 14 (b := !r22.1) rfl (fun hb30 => ?_) (fun hb30 => ?_)
   ·replace HF := bif_t hb30 HF
    refine WL.pass rfl rfl rfl <| WL.pass rfl rfl rfl <| WL.pass rfl rfl rfl <| WL.pass rfl rfl rfl <| WL.pass rfl rfl rfl <| WL.pass rfl rfl rfl <| WL.pass rfl rfl rfl <| WL.pass rfl rfl rfl <| WL.pass rfl rfl rfl <| WL.pass rfl rfl rfl <| WL.pass rfl rfl rfl <| WL.pass rfl rfl rfl <| WL.pass rfl rfl rfl <| WL.val rfl rfl rfl (ov_pickT rfl rfl) <| WL.nil ?_
    have ob45 := (ob17.step1 s27 (Ne.symm ne18))
    refine WC.to [0, 2, 4, 28] [(0, .pointer (some ⟨b1, 0, none⟩)), (2, .int .i64 x9), (4, .pointer (some ⟨b14, 0, none⟩)), (28, .bool true)] rfl ?_
    exact J44 ⟨h26, true, r22.2.1, r22.2.2, HF, rfl, S29, s27.le, ob28, ob45⟩
   ·replace HF := bif_f hb30 HF
    refine WL.val rfl rfl rfl (ov_fieldAddr rfl t_field_32_0) ?_
    have ob31 := (ob17.step1 s27 (Ne.symm ne18))
    refine WL.val rfl rfl rfl (ov_load1 rfl t_agg_3 (OB.cell ob31 (j := 0) rfl)) <| WL.val rfl rfl rfl (ov_neq rfl rfl) <| WL.val rfl rfl rfl (ov_move rfl) <| WL.split 18 (b := (x6.op : Int) != 1) rfl (fun hb32 => ?_) (fun hb32 => ?_)
    ·replace HF := bif_t hb32 HF
     refine WL.val rfl rfl rfl (ov_fieldAddr rfl t_field_32_1) <| WL.val rfl rfl rfl (ov_load1 rfl t_agg_3 (OB.cell ob31 (j := 1) rfl)) <| WL.val rfl rfl rfl (ov_neq rfl rfl) <| WL.val rfl rfl rfl (ov_move rfl) <| WL.split 22 (b := (x6.kind : Int) != 0) rfl (fun hb33 => ?_) (fun hb33 => ?_)
     ·replace HF := bif_t hb33 HF
      refine WL.pass rfl rfl rfl <| WL.pass rfl rfl rfl <| WL.pass rfl rfl rfl <| WL.val rfl rfl rfl (ov_pickT rfl rfl) <| WL.val rfl rfl rfl (ov_pickT rfl rfl) <| WL.val rfl rfl rfl (ov_pickF rfl rfl) <| WL.nil <| WC.to [0, 2, 4, 28] [(0, .pointer (some ⟨b1, 0, none⟩)), (2, .int .i64 x9), (4, .pointer (some ⟨b14, 0, none⟩)), (28, .bool true)] rfl ?_
      exact J44 ⟨h26, true, r22.2.1, r22.2.2, HF, rfl, S29, s27.le, ob28, ob31⟩
     ·replace HF := bif_f hb33 HF
      refine WL.val rfl rfl rfl (ov_fieldAddr rfl t_field_32_2) <| WL.val rfl rfl rfl (ov_load1 rfl t_agg_3 (OB.cell ob31 (j := 2) rfl)) <| WL.val rfl rfl rfl (ov_neq rfl rfl) <| WL.val rfl rfl rfl (ov_pickF rfl rfl) <| WL.val rfl rfl rfl (ov_pickT rfl rfl) <| WL.val rfl rfl rfl (ov_pickF rfl rfl) <| WL.nil <| WC.to [0, 2, 4, 28] [(0, .pointer (some ⟨b1, 0, none⟩)), (2, .int .i64 x9), (4, .pointer (some ⟨b14, 0, none⟩)), (28, .bool ((x6.n : Int) != 0))] rfl ?_
      exact J44 ⟨h26, (x6.n : Int) != 0, r22.2.1, r22.2.2, HF, rfl, S29, s27.le, ob28, ob31⟩
    ·replace HF := bif_f hb32 HF
     refine WL.pass rfl rfl rfl <| WL.pass rfl rfl rfl <| WL.pass rfl rfl rfl <| WL.pass rfl rfl rfl <| WL.pass rfl rfl rfl <| WL.pass rfl rfl rfl <| WL.pass rfl rfl rfl <| WL.pass rfl rfl rfl <| WL.val rfl rfl rfl (ov_pickF rfl rfl) <| WL.val rfl rfl rfl (ov_pickF rfl rfl) <| WL.nil <| WC.to [0, 2, 4, 28] [(0, .pointer (some ⟨b1, 0, none⟩)), (2, .int .i64 x9), (4, .pointer (some ⟨b14, 0, none⟩)), (28, .bool false)] rfl ?_
     exact J44 ⟨h26, false, r22.2.1, r22.2.2, HF, rfl, S29, s27.le, ob28, ob31⟩
set_option maxRecDepth 20000 in
set_option maxHeartbeats 4000000 in
theorem s_ast_Counter_Exprs (k : Nat) (IH : ∀ j, j ≤ k → C_ast_Counter_Expr (tie_ast_Counter_Expr j).ast_Counter_Expr ∧ C_ast_Counter_Exprs (tie_ast_Counter_Expr j).ast_Counter_Exprs) : C_ast_Counter_Exprs (m_ast_Counter_Exprs k (tie_ast_Counter_Expr k)) := by
 intro x3 x4 xs6 x9 r HF w0 h0 b1 T2 v7 hs0 rs8 ob5
 have S0 : Stp [b1] w0 h0 w0 h0 := Stp.refl hs0 _
 have lt10 : b1 < w0.heap.size := OB.lt ob5
 refine enter (n := 21) Tryz.func81 rfl Tryz.ntmps81 rfl [(0, .pointer (some ⟨b1, 0, none⟩)), (1, v7), (2, .int .i64 x9)] rfl <| WC.seq <| WC.region <| WL.val rfl rfl rfl (ov_assign rfl) <| WL.nil <| WQ.seqN <| WC.seq <| WC.seq <| WC.region <| WL.val rfl rfl rfl (ov_move rfl) ?_
 obtain ⟨A11, c12, rfl, rs13⟩ := RS.form rs8
 refine WL.val rfl rfl rfl (ov_lenL rfl t_slice_30) <| WL.val rfl rfl rfl (ov_move rfl) <| WL.nil <| WQ.seqN <| WC.block <| WC.loop <| WP.to [0, 2, 9, 10, 11] [(0, .pointer (some ⟨b1, 0, none⟩)), (2, .int .i64 x9), (9, .slice A11 (xs6).length c12), (10, .int .i64 (xs6.length : Int)), (11, .int .i64 0)] rfl <| WP_rule (K := k) (fun j E w15 => ∃ (h14 : Hp) (x18 : Int) (x19 : Int) (x20 : Int), (tie_ast_Counter_Expr j).ast_Counter_Exprs_l1 xs6 x9 x18 x19 x20 = some r ∧ E = [(0, .pointer (some ⟨b1, 0, none⟩)), (2, .int .i64 x9), (9, .slice A11 (xs6).length c12), (10, .int .i64 (xs6.length : Int)), (11, .int .i64 x18)] ∧ Stp [b1] w0 h0 w15 h14 ∧ Hle h0 h14 ∧ OB w15 h14 b1 T2 [.int .i64 x19, .int .i64 x20]) ?_ ?_ (j := k) (Nat.le_refl _) ?_
 ·rintro E w15 ⟨_, _, _, _, HF, _⟩; cases HF
 ·rintro j22 hj24 IHL23 E w15 ⟨h14, x18, x19, x20, HF, rfl, S17, le16, ob21⟩
  refine WC.seq <| WC.region <| WL.val rfl rfl rfl (ov_lss rfl rfl) <| WL.nil <| WQ.seqN <| WC.join (fun E w27 => ∃ (h26 : Hp), ast_Counter_Exprs_j2 j22 (tie_ast_Counter_Expr j22) xs6 x9 x18 x19 x20 = some r ∧ E = [(0, .pointer (some ⟨b1, 0, none⟩)), (2, .int .i64 x9), (9, .slice A11 (xs6).length c12), (10, .int .i64 (xs6.length : Int)), (11, .int .i64 x18)] ∧ Stp [b1] w0 h0 w27 h26 ∧ Hle h14 h26 ∧ OB w27 h26 b1 T2 [.int .i64 x19, .int .i64 x20]) ?_ ?_
  ·rintro E w27 ⟨h26, HF, rfl, S29, le28, ob30⟩
   refine WC.seq <| WC.block <| WC.seq <| WC.region ?_
   obtain ⟨e31, he32, HF⟩ := bind_some HF
   obtain ⟨b33, o34, rfl, h36, h37, ra35⟩ := RS.atO (rs13.mono ((le16).trans le28)) he32
   obtain ⟨cs38, r39, hc40⟩ := ra35
   refine WL.val rfl rfl rfl (ov_indexAddr rfl rfl t_slice_30 t_size_32 h36 h37) <| WL.val rfl rfl rfl (ov_loadN (cs := cs38) rfl t_agg_32 (by rw [Rp.len r39]; exact t_size_32) (fun j v hv => S29.sub.at_ _ _ _ (hc40 j v hv))) <| WL.alloc (zs := [.int .i64 0, .int .i64 0, .int .i64 0, .string (⟨#[]⟩ : ByteArray), .string (⟨#[]⟩ : ByteArray), .slice none 0 0]) rfl rfl t_zero_32 rfl S29.sub (fun w41 b42 hb43 s44 ob45 => ?_)
   have ne46 : b1 ≠ b42 := ob30.ne_new hb43
   have g47 : w0.heap.size ≤ b42 := by rw [hb43]; exact S29.size
   have S48 := S29.trans0 s44
   obtain ⟨v49, rfl, rs50⟩ := rp_Ex.1 (Rp.mono (s44.le) r39)
   refine WL.store (vs := [.int .i64 e31.op, .int .i64 e31.kind, .int .i64 e31.n, .string e31.s, .string e31.f, v49]) rfl rfl rfl rfl t_size_32 (one_cons rfl (one_cons rfl (one_cons rfl (one_cons rfl (one_cons rfl (one_cons (RS.one rs50) one_nil)))))) ob45 S48.sub (by simp) (ds := [.int .i64 e31.op, .int .i64 e31.kind, .int .i64 e31.n, .string e31.s, .string e31.f, v49]) rfl (fun w51 s52 ob53 => ?_)
   have S54 := S48.trans1 s52 (.inr g47)
   refine WL.nil <| WQ.seqN <| WC.seq <| WC.region <| WL.val rfl rfl rfl (ov_move rfl) <| WL.val rfl rfl rfl (ov_loadN (cs := [.int .i64 e31.op, .int .i64 e31.kind, .int .i64 e31.n, .string e31.s, .string e31.f, v49]) rfl t_agg_32 t_size_32 (OB.cells ob53 0 rfl)) <| WL.val rfl rfl rfl (ov_move rfl) ?_
   have ob55 := ((ob30.step0 s44).step1 s52 ne46)
   obtain ⟨r56, hr57, HF⟩ := bind_some HF
   refine WL.call rfl rfl rfl (oc_func (vs := [.pointer (some ⟨b1, 0, none⟩), .agg #[.int .i64 e31.op, .int .i64 e31.kind, .int .i64 e31.n, .string e31.s, .string e31.f, v49], .int .i64 x9]) rfl t_ent_54) ((IH _ (Nat.le_trans (Nat.le_of_succ_le hj24) (Nat.le_refl _))).1 hr57 S54.sub (rp_Ex.2 ⟨_, rfl, (rs50.mono (s52.le))⟩) ob55) ?_
   rintro _ w59 ⟨h60, s61, rfl, ob62⟩
   have S63 := S54.trans s61 (in_cons (.inl (by simp)) in_nil)
   refine WL.val rfl rfl rfl (ov_not rfl) <| WL.nil <| WQ.seqN <| WC.cond (b := !r56.1) rfl (fun hb64 => ?_) (fun hb64 => ?_)
   ·replace HF := bif_t hb64 HF
    refine WC.seq <| WC.region <| WL.val rfl rfl rfl (ov_assign rfl) <| WL.nil <| WQ.seqN <| WC.ret <| WQ.blockRet <| WQ.thenRet <| WQ.thenRet <| WQ.blockRet <| WQ.thenRet <| WQ.ret1 rfl rfl ?_
    obtain rfl := Option.some.inj HF
    exact ⟨_, rfl, h60, S63, rfl, ob62⟩
   ·replace HF := bif_f hb64 HF
    refine WC.skip <| WQ.blockN <| WQ.seqN <| WC.region <| WL.val rfl rfl rfl (ov_add rfl rfl) <| WL.val rfl rfl rfl (ov_move rfl) <| WL.nil <| WQ.loopN <| WP.to [0, 2, 9, 10, 11] [(0, .pointer (some ⟨b1, 0, none⟩)), (2, .int .i64 x9), (9, .slice (some ⟨b33, o34, none⟩) (xs6).length c12), (10, .int .i64 (xs6.length : Int)), (11, .int .i64 (IntKind.i64.wrap (x18 + 1)))] rfl ?_
    exact IHL23 j22 (Nat.le_refl _) _ _ ⟨h60, IntKind.i64.wrap (x18 + 1), r56.2.1, r56.2.2, HF, rfl, S63, (le16).trans ((le28).trans ((s44.le).trans ((s52.le).trans s61.le))), ob62⟩
  ·intro J65
   refine WC.cond (b := decide ((x18 : Int) < (xs6.length : Int))) rfl (fun hb25 => ?_) (fun hb25 => ?_)
   ·replace HF := bif_t hb25 HF
    refine WC.skip <| WC.to [0, 2, 9, 10, 11] [(0, .pointer (some ⟨b1, 0, none⟩)), (2, .int .i64 x9), (9, .slice A11 (xs6).length c12), (10, .int .i64 (xs6.length : Int)), (11, .int .i64 x18)] rfl ?_
    exact J65 ⟨h14, HF, rfl, S17, Hle.refl _, ob21⟩
   ·replace HF := bif_f hb25 HF
    refine WC.exit <| WQ.thenExit <| WQ.thenExit <| WQ.blockHit <| WQ.seqN <| WC.seq <| WC.region <| WL.val rfl rfl rfl (ov_assign rfl) <| WL.nil <| WQ.seqN <| WC.ret <| WQ.ret1 rfl rfl ?_
    obtain rfl := Option.some.inj HF
    exact ⟨_, rfl, h14, S17, rfl, ob21⟩
 ·exact ⟨h0, 0, x3, x4, HF, rfl, S0, Hle.refl _, ob5⟩
theorem all_ast_Counter_Expr : ∀ k j, j ≤ k → C_ast_Counter_Expr (tie_ast_Counter_Expr j).ast_Counter_Expr ∧ C_ast_Counter_Exprs (tie_ast_Counter_Expr j).ast_Counter_Exprs := by
  intro k
  induction k with
  | zero =>
    intro j hj
    obtain rfl : j = 0 := by omega
    exact ⟨(fun _ _ _ _ _ => by intro h; cases h), (fun _ _ _ _ _ => by intro h; cases h)⟩
  | succ k ih =>
    intro j hj
    by_cases h : j ≤ k
    · exact ih j h
    · obtain rfl : j = k + 1 := by omega
      exact ⟨s_ast_Counter_Expr k ih, s_ast_Counter_Exprs k ih⟩
theorem ok_ast_Counter_Expr (k : Nat) : C_ast_Counter_Expr (F_ast_Counter_Expr k) := (all_ast_Counter_Expr k k (Nat.le_refl _)).1
theorem ok_ast_Counter_Exprs (k : Nat) : C_ast_Counter_Exprs (F_ast_Counter_Exprs k) := (all_ast_Counter_Expr k k (Nat.le_refl _)).2

def C_ast_IsExpr (φ : Ex → Option Bool) : Prop := ∀ ⦃x1 : Ex⦄ ⦃r : Bool⦄, φ x1 = some r → ∀ ⦃w0 : World⦄ ⦃h0 : Hp⦄ ⦃cs2 : List Value⦄, Sub h0 w0 → Rp.R h0 x1 cs2 →
  Calls Tryz.prog 26 #[.agg cs2.toArray] w0 fun e w1 => ∃ v, e = .returned v ∧ ∃ h1, Stp [] w0 h0 w1 h1 ∧ v = .bool r
set_option maxRecDepth 20000 in
set_option maxHeartbeats 4000000 in
theorem s_ast_IsExpr (k : Nat) : C_ast_IsExpr (F_ast_IsExpr k) := by
 intro x1 r HF w0 h0 cs2 hs0 r3
 have S0 : Stp [] w0 h0 w0 h0 := Stp.refl hs0 _
 refine enter (n := 6) Tryz.func26 rfl Tryz.ntmps26 rfl [(0, .agg cs2.toArray)] rfl <| WC.seq <| WC.region ?_
 obtain ⟨v4, rfl, rs5⟩ := rp_Ex.1 r3
 refine WL.box (cs := [.int .i64 x1.op, .int .i64 x1.kind, .int .i64 x1.n, .string x1.s, .string x1.f, v4]) rfl rfl rfl rfl S0.sub (fun w6 b7 hb8 s9 ob10 => ?_)
 have g11 : w0.heap.size ≤ b7 := by rw [hb8]; exact S0.size
 have S12 := S0.trans0 s9
 refine WL.val rfl rfl rfl (ov_assign rfl) <| WL.nil <| WQ.seqN <| WC.seq <| WC.region <| WL.alloc (zs := [.int .i64 0, .int .i64 0]) rfl rfl t_zero_75 rfl S12.sub (fun w13 b14 hb15 s16 ob17 => ?_)
 have ne18 : b7 ≠ b14 := ob10.ne_new hb15
 have g19 : w0.heap.size ≤ b14 := by rw [hb15]; exact S12.size
 have S20 := S12.trans0 s16
 refine WL.nil <| WQ.seqN <| WC.seq <| WC.region ?_
 have ob21 := (ob10.step0 s16)
 refine WL.val rfl rfl rfl (ov_loadN (cs := [.int .i64 x1.op, .int .i64 x1.kind, .int .i64 x1.n, .string x1.s, .string x1.f, v4]) rfl t_agg_32 t_size_32 (OB.cells ob21 0 rfl)) ?_
 obtain ⟨r22, hr23, HF⟩ := bind_some HF
 refine WL.call rfl rfl rfl (oc_func (vs := [.pointer (some ⟨b14, 0, none⟩), .agg #[.int .i64 x1.op, .int .i64 x1.kind, .int .i64 x1.n, .string x1.s, .string x1.f, v4], .int .i64 1]) rfl t_ent_54) (ok_ast_Counter_Expr _ hr23 S20.sub (rp_Ex.2 ⟨_, rfl, (rs5.mono ((s9.le).trans s16.le))⟩) ob17) ?_
 rintro _ w25 ⟨h26, s27, rfl, ob28⟩
 have S29 := S20.trans s27 (in_cons (.inr g19) in_nil)
 refine WL.val rfl rfl rfl (ov_assign rfl) <| WL.nil <| WQ.seqN <| WC.ret <| WQ.ret1 rfl rfl ?_
 obtain rfl := Option.some.inj HF
 exact ⟨_, rfl, h26, S29, rfl⟩
theorem ok_ast_IsExpr (k : Nat) : C_ast_IsExpr (F_ast_IsExpr k) := s_ast_IsExpr k

def C_print_signs (φ : Option (List (Int × (ByteArray × Int)))) : Prop := ∀ ⦃r : List (Int × (ByteArray × Int))⦄, φ  = some r → ∀ ⦃w0 : World⦄ ⦃h0 : Hp⦄, Sub h0 w0 →
  Calls Tryz.prog 55 #[] w0 fun e w1 => ∃ v, e = .returned v ∧ ∃ h1, Stp [] w0 h0 w1 h1 ∧ RM (fun x : ByteArray × Int => .agg #[.string x.1, .int .i64 x.2]) h1 v r
set_option maxRecDepth 20000 in
set_option maxHeartbeats 4000000 in
theorem s_print_signs (k : Nat) : C_print_signs (F_print_signs k) := by
 intro  r HF w0 h0  hs0 
 have S0 : Stp [] w0 h0 w0 h0 := Stp.refl hs0 _
 refine enter (n := 19) Tryz.func55 rfl Tryz.ntmps55 rfl [] rfl <| WC.seq <| WC.region <| WL.val rfl rfl rfl (ov_assign rfl) <| WL.nil <| WQ.seqN <| WC.seq <| WC.region <| WL.makeMap rfl rfl S0.sub (fun w1 b2 hb3 s4 ob5 => ?_)
 have g6 : w0.heap.size ≤ b2 := by rw [hb3]; exact S0.size
 have S7 := S0.trans0 s4
 refine WL.val rfl rfl rfl (ov_buildP (vs := [(0, .string (⟨#[110, 111, 116, 32]⟩ : ByteArray)), (1, .int .i64 8)]) (cs := [.string (⟨#[110, 111, 116, 32]⟩ : ByteArray), .int .i64 8]) rfl t_places_91 t_zero_91 rfl) <| WL.insert rfl rfl rfl rfl t_map_93 t_int_3 (.inr ⟨_, rfl⟩) ob5 S7.sub rfl (fun w8 s9 ob10 => ?_)
 have S11 := S7.trans1 s9 (.inr g6)
 refine WL.val rfl rfl rfl (ov_buildP (vs := [(0, .string (⟨#[45]⟩ : ByteArray)), (1, .int .i64 8)]) (cs := [.string (⟨#[45]⟩ : ByteArray), .int .i64 8]) rfl t_places_91 t_zero_91 rfl) <| WL.insert rfl rfl rfl rfl t_map_93 t_int_3 (.inr ⟨_, rfl⟩) ob10 S11.sub rfl (fun w12 s13 ob14 => ?_)
 have S15 := S11.trans1 s13 (.inr g6)
 refine WL.val rfl rfl rfl (ov_buildP (vs := [(0, .string (⟨#[111, 114]⟩ : ByteArray)), (1, .int .i64 1)]) (cs := [.string (⟨#[111, 114]⟩ : ByteArray), .int .i64 1]) rfl t_places_91 t_zero_91 rfl) <| WL.insert rfl rfl rfl rfl t_map_93 t_int_3 (.inr ⟨_, rfl⟩) ob14 S15.sub rfl (fun w16 s17 ob18 => ?_)
 have S19 := S15.trans1 s17 (.inr g6)
 refine WL.val rfl rfl rfl (ov_buildP (vs := [(0, .string (⟨#[120, 111, 114]⟩ : ByteArray)), (1, .int .i64 2)]) (cs := [.string (⟨#[120, 111, 114]⟩ : ByteArray), .int .i64 2]) rfl t_places_91 t_zero_91 rfl) <| WL.insert rfl rfl rfl rfl t_map_93 t_int_3 (.inr ⟨_, rfl⟩) ob18 S19.sub rfl (fun w20 s21 ob22 => ?_)
 have S23 := S19.trans1 s21 (.inr g6)
 refine WL.val rfl rfl rfl (ov_buildP (vs := [(0, .string (⟨#[97, 110, 100]⟩ : ByteArray)), (1, .int .i64 3)]) (cs := [.string (⟨#[97, 110, 100]⟩ : ByteArray), .int .i64 3]) rfl t_places_91 t_zero_91 rfl) <| WL.insert rfl rfl rfl rfl t_map_93 t_int_3 (.inr ⟨_, rfl⟩) ob22 S23.sub rfl (fun w24 s25 ob26 => ?_)
 have S27 := S23.trans1 s25 (.inr g6)
 refine WL.val rfl rfl rfl (ov_buildP (vs := [(0, .string (⟨#[61]⟩ : ByteArray)), (1, .int .i64 4)]) (cs := [.string (⟨#[61]⟩ : ByteArray), .int .i64 4]) rfl t_places_91 t_zero_91 rfl) <| WL.insert rfl rfl rfl rfl t_map_93 t_int_3 (.inr ⟨_, rfl⟩) ob26 S27.sub rfl (fun w28 s29 ob30 => ?_)
 have S31 := S27.trans1 s29 (.inr g6)
 refine WL.val rfl rfl rfl (ov_buildP (vs := [(0, .string (⟨#[60, 62]⟩ : ByteArray)), (1, .int .i64 4)]) (cs := [.string (⟨#[60, 62]⟩ : ByteArray), .int .i64 4]) rfl t_places_91 t_zero_91 rfl) <| WL.insert rfl rfl rfl rfl t_map_93 t_int_3 (.inr ⟨_, rfl⟩) ob30 S31.sub rfl (fun w32 s33 ob34 => ?_)
 have S35 := S31.trans1 s33 (.inr g6)
 refine WL.val rfl rfl rfl (ov_buildP (vs := [(0, .string (⟨#[60]⟩ : ByteArray)), (1, .int .i64 5)]) (cs := [.string (⟨#[60]⟩ : ByteArray), .int .i64 5]) rfl t_places_91 t_zero_91 rfl) <| WL.insert rfl rfl rfl rfl t_map_93 t_int_3 (.inr ⟨_, rfl⟩) ob34 S35.sub rfl (fun w36 s37 ob38 => ?_)
 have S39 := S35.trans1 s37 (.inr g6)
 refine WL.val rfl rfl rfl (ov_buildP (vs := [(0, .string (⟨#[60, 61]⟩ : ByteArray)), (1, .int .i64 5)]) (cs := [.string (⟨#[60, 61]⟩ : ByteArray), .int .i64 5]) rfl t_places_91 t_zero_91 rfl) <| WL.insert rfl rfl rfl rfl t_map_93 t_int_3 (.inr ⟨_, rfl⟩) ob38 S39.sub rfl (fun w40 s41 ob42 => ?_)
 have S43 := S39.trans1 s41 (.inr g6)
 refine WL.val rfl rfl rfl (ov_buildP (vs := [(0, .string (⟨#[62]⟩ : ByteArray)), (1, .int .i64 5)]) (cs := [.string (⟨#[62]⟩ : ByteArray), .int .i64 5]) rfl t_places_91 t_zero_91 rfl) <| WL.insert rfl rfl rfl rfl t_map_93 t_int_3 (.inr ⟨_, rfl⟩) ob42 S43.sub rfl (fun w44 s45 ob46 => ?_)
 have S47 := S43.trans1 s45 (.inr g6)
 refine WL.val rfl rfl rfl (ov_buildP (vs := [(0, .string (⟨#[62, 61]⟩ : ByteArray)), (1, .int .i64 5)]) (cs := [.string (⟨#[62, 61]⟩ : ByteArray), .int .i64 5]) rfl t_places_91 t_zero_91 rfl) <| WL.insert rfl rfl rfl rfl t_map_93 t_int_3 (.inr ⟨_, rfl⟩) ob46 S47.sub rfl (fun w48 s49 ob50 => ?_)
 have S51 := S47.trans1 s49 (.inr g6)
 refine WL.val rfl rfl rfl (ov_buildP (vs := [(0, .string (⟨#[43]⟩ : ByteArray)), (1, .int .i64 6)]) (cs := [.string (⟨#[43]⟩ : ByteArray), .int .i64 6]) rfl t_places_91 t_zero_91 rfl) <| WL.insert rfl rfl rfl rfl t_map_93 t_int_3 (.inr ⟨_, rfl⟩) ob50 S51.sub rfl (fun w52 s53 ob54 => ?_)
 have S55 := S51.trans1 s53 (.inr g6)
 refine WL.val rfl rfl rfl (ov_buildP (vs := [(0, .string (⟨#[45]⟩ : ByteArray)), (1, .int .i64 6)]) (cs := [.string (⟨#[45]⟩ : ByteArray), .int .i64 6]) rfl t_places_91 t_zero_91 rfl) <| WL.insert rfl rfl rfl rfl t_map_93 t_int_3 (.inr ⟨_, rfl⟩) ob54 S55.sub rfl (fun w56 s57 ob58 => ?_)
 have S59 := S55.trans1 s57 (.inr g6)
 refine WL.val rfl rfl rfl (ov_buildP (vs := [(0, .string (⟨#[42]⟩ : ByteArray)), (1, .int .i64 7)]) (cs := [.string (⟨#[42]⟩ : ByteArray), .int .i64 7]) rfl t_places_91 t_zero_91 rfl) <| WL.insert rfl rfl rfl rfl t_map_93 t_int_3 (.inr ⟨_, rfl⟩) ob58 S59.sub rfl (fun w60 s61 ob62 => ?_)
 have S63 := S59.trans1 s61 (.inr g6)
 refine WL.val rfl rfl rfl (ov_buildP (vs := [(0, .string (⟨#[47]⟩ : ByteArray)), (1, .int .i64 7)]) (cs := [.string (⟨#[47]⟩ : ByteArray), .int .i64 7]) rfl t_places_91 t_zero_91 rfl) <| WL.insert rfl rfl rfl rfl t_map_93 t_int_3 (.inr ⟨_, rfl⟩) ob62 S63.sub rfl (fun w64 s65 ob66 => ?_)
 have S67 := S63.trans1 s65 (.inr g6)
 refine WL.val rfl rfl rfl (ov_buildP (vs := [(0, .string (⟨#[109, 111, 100]⟩ : ByteArray)), (1, .int .i64 7)]) (cs := [.string (⟨#[109, 111, 100]⟩ : ByteArray), .int .i64 7]) rfl t_places_91 t_zero_91 rfl) <| WL.insert rfl rfl rfl rfl t_map_93 t_int_3 (.inr ⟨_, rfl⟩) ob66 S67.sub rfl (fun w68 s69 ob70 => ?_)
 have S71 := S67.trans1 s69 (.inr g6)
 refine WL.val rfl rfl rfl (ov_move rfl) <| WL.val rfl rfl rfl (ov_assign rfl) <| WL.nil <| WQ.seqN <| WC.ret ?_
 obtain ⟨h72, s73, rm74⟩ := MB.freeze (evl := (fun x : ByteArray × Int => .agg #[.string x.1, .int .i64 x.2])) (T := ([(6, ((⟨#[110, 111, 116, 32]⟩ : ByteArray), 8)), (7, ((⟨#[45]⟩ : ByteArray), 8)), (8, ((⟨#[111, 114]⟩ : ByteArray), 1)), (9, ((⟨#[120, 111, 114]⟩ : ByteArray), 2)), (10, ((⟨#[97, 110, 100]⟩ : ByteArray), 3)), (11, ((⟨#[61]⟩ : ByteArray), 4)), (12, ((⟨#[60, 62]⟩ : ByteArray), 4)), (13, ((⟨#[60]⟩ : ByteArray), 5)), (14, ((⟨#[60, 61]⟩ : ByteArray), 5)), (15, ((⟨#[62]⟩ : ByteArray), 5)), (16, ((⟨#[62, 61]⟩ : ByteArray), 5)), (17, ((⟨#[43]⟩ : ByteArray), 6)), (18, ((⟨#[45]⟩ : ByteArray), 6)), (19, ((⟨#[42]⟩ : ByteArray), 7)), (20, ((⟨#[47]⟩ : ByteArray), 7)), (21, ((⟨#[109, 111, 100]⟩ : ByteArray), 7))] : List (Int × (ByteArray × Int)))) ob70 S71.sub
 have S75 := S71.trans1 s73 (.inr g6)
 refine WQ.ret1 rfl rfl ?_
 obtain rfl := Option.some.inj HF
 exact ⟨_, rfl, h72, S75, rm74⟩
theorem ok_print_signs (k : Nat) : C_print_signs (F_print_signs k) := s_print_signs k

def C_strconv_Itoa (φ : Int → Option ByteArray) : Prop := ∀ ⦃x1 : Int⦄ ⦃r : ByteArray⦄, φ x1 = some r → ∀ ⦃w0 : World⦄ ⦃h0 : Hp⦄, Sub h0 w0 →
  Calls Tryz.prog 36 #[.int .i64 x1] w0 fun e w1 => ∃ v, e = .returned v ∧ ∃ h1, Stp [] w0 h0 w1 h1 ∧ v = .string r
set_option maxRecDepth 20000 in
theorem ok_strconv_Itoa (k : Nat) : C_strconv_Itoa (F_strconv_Itoa k) := by
  intro x1 r HF w0 h0 hs0
  simp only [F_strconv_Itoa] at HF
  obtain ⟨hn, HF⟩ := ite_none HF
  cases HF
  rw [itoaB_eq hn]
  refine (Tryz.strconv_Itoa x1 hn.1 hn.2 w0 (glob_pow hs0)).mono ?_
  rintro e w1 ⟨rfl, k, os, rfl⟩
  exact ⟨_, rfl, h0, Stp.of_below hs0 (grow_below k os), rfl⟩

def C_strconv_FormatBool (φ : Bool → Option ByteArray) : Prop := ∀ ⦃x1 : Bool⦄ ⦃r : ByteArray⦄, φ x1 = some r → ∀ ⦃w0 : World⦄ ⦃h0 : Hp⦄, Sub h0 w0 →
  Calls Tryz.prog 35 #[.bool x1] w0 fun e w1 => ∃ v, e = .returned v ∧ ∃ h1, Stp [] w0 h0 w1 h1 ∧ v = .string r
set_option maxRecDepth 20000 in
theorem ok_strconv_FormatBool (k : Nat) : C_strconv_FormatBool (F_strconv_FormatBool k) := by
  intro x1 r HF w0 h0 hs0
  simp only [F_strconv_FormatBool] at HF
  cases HF
  refine (Tryz.strconv_FormatBool x1 w0).mono ?_
  rintro e w1 ⟨rfl, rfl⟩
  exact ⟨_, rfl, h0, Stp.refl hs0 _, rfl⟩

def C_ast_IsLabel (φ : Int → Option Bool) : Prop := ∀ ⦃x1 : Int⦄ ⦃r : Bool⦄, φ x1 = some r → ∀ ⦃w0 : World⦄ ⦃h0 : Hp⦄, Sub h0 w0 →
  Calls Tryz.prog 34 #[.int .i64 x1] w0 fun e w1 => ∃ v, e = .returned v ∧ ∃ h1, Stp [] w0 h0 w1 h1 ∧ v = .bool r
set_option maxRecDepth 20000 in
set_option maxHeartbeats 4000000 in
theorem s_ast_IsLabel (k : Nat) : C_ast_IsLabel (F_ast_IsLabel k) := by
 intro x1 r HF w0 h0  hs0 
 have S0 : Stp [] w0 h0 w0 h0 := Stp.refl hs0 _
 refine enter (n := 5) Tryz.func34 rfl Tryz.ntmps34 rfl [(0, .int .i64 x1)] rfl <| WC.seq <| WC.region <| WL.val rfl rfl rfl (ov_assign rfl) <| WL.nil <| WQ.seqN <| WC.seq <| WC.region <| WL.val rfl rfl rfl (ov_move rfl) ?_
 obtain ⟨r2, hr3, HF⟩ := bind_some HF
 refine WL.call rfl rfl rfl (oc_func (vs := [.int .i64 x1, .int .i64 (-2147483647), .int .i64 2147483647]) rfl t_ent_62) (ok_ast_within _ hr3 S0.sub) ?_
 rintro _ w5 ⟨h6, s7, rfl⟩
 have S8 := S0.trans0 s7
 refine WL.val rfl rfl rfl (ov_assign rfl) <| WL.nil <| WQ.seqN <| WC.ret <| WQ.ret1 rfl rfl ?_
 obtain rfl := Option.some.inj HF
 exact ⟨_, rfl, h6, S8, rfl⟩
theorem ok_ast_IsLabel (k : Nat) : C_ast_IsLabel (F_ast_IsLabel k) := s_ast_IsLabel k

def C_print_Const (φ : Int → Int → Option (ByteArray × Int)) : Prop := ∀ ⦃x1 : Int⦄ ⦃x2 : Int⦄ ⦃r : ByteArray × Int⦄, φ x1 x2 = some r → ∀ ⦃w0 : World⦄ ⦃h0 : Hp⦄, Sub h0 w0 →
  Calls Tryz.prog 17 #[.int .i64 x1, .int .i64 x2] w0 fun e w1 => ∃ v, e = .returned v ∧ ∃ h1, Stp [] w0 h0 w1 h1 ∧ (∃ u0 u1 : Value, v = .tuple #[u0, u1] ∧ (u0 = .string r.1) ∧ (u1 = .int .i64 r.2))
set_option maxRecDepth 20000 in
set_option maxHeartbeats 4000000 in
theorem s_print_Const (k : Nat) : C_print_Const (F_print_Const k) := by
 intro x1 x2 r HF w0 h0  hs0 
 have S0 : Stp [] w0 h0 w0 h0 := Stp.refl hs0 _
 refine enter (n := 32) Tryz.func17 rfl Tryz.ntmps17 rfl [(0, .int .i64 x1), (1, .int .i64 x2)] rfl <| WC.seq <| WC.region <| WL.val rfl rfl rfl (ov_assign rfl) <| WL.val rfl rfl rfl (ov_assign rfl) <| WL.nil <| WQ.seqN <| WC.join (fun E w27 => ∃ (h26 : Hp), print_Const_j2 k x1 x2 = some r ∧ E = [(0, .int .i64 x1), (1, .int .i64 x2)] ∧ Stp [] w0 h0 w27 h26 ∧ Hle h0 h26) ?_ ?_
 ·rintro E w27 ⟨h26, HF, rfl, S29, le28⟩
  refine WC.join (fun E w48 => ∃ (h47 : Hp), print_Const_j3 k x2 = some r ∧ E = [(1, .int .i64 x2)] ∧ Stp [] w0 h0 w48 h47 ∧ Hle h26 h47) ?_ ?_
  ·rintro E w48 ⟨h47, HF, rfl, S50, le49⟩
   refine WC.seq <| WC.region <| WL.val rfl rfl rfl (ov_move rfl) ?_
   obtain ⟨r51, hr52, HF⟩ := bind_some HF
   refine WL.call rfl rfl rfl (oc_func (vs := [.int .i64 x2]) rfl t_ent_36) (ok_strconv_Itoa _ hr52 S50.sub) ?_
   rintro _ w54 ⟨h55, s56, rfl⟩
   have S57 := S50.trans0 s56
   refine WL.val rfl rfl rfl (ov_assign rfl) <| WL.val rfl rfl rfl (ov_assign rfl) <| WL.nil <| WQ.seqN <| WC.ret <| WQ.ret2 rfl rfl rfl ?_
   obtain rfl := Option.some.inj HF
   exact ⟨_, rfl, h55, S57, _, _, rfl, rfl, rfl⟩
  ·intro J58
   refine WC.seq <| WC.region <| WL.val rfl rfl rfl (ov_move rfl) <| WL.nil <| WQ.seqN <| WC.block <| WC.seq <| WC.region <| WL.val rfl rfl rfl (ov_eql rfl rfl) <| WL.val rfl rfl rfl (ov_assign rfl) <| WL.nil <| WQ.seqN <| WC.cond (b := (x1 : Int) == 1) rfl (fun hb30 => ?_) (fun hb30 => ?_)
   ·replace HF := bif_t hb30 HF
    refine WC.seq <| WC.region <| WL.val rfl rfl rfl (ov_move rfl) <| WL.val rfl rfl rfl (ov_eql rfl rfl) ?_
    obtain ⟨r31, hr32, HF⟩ := bind_some HF
    refine WL.call rfl rfl rfl (oc_func (vs := [.bool ((x2 : Int) == 1)]) rfl t_ent_35) (ok_strconv_FormatBool _ hr32 S29.sub) ?_
    rintro _ w34 ⟨h35, s36, rfl⟩
    have S37 := S29.trans0 s36
    refine WL.val rfl rfl rfl (ov_assign rfl) <| WL.val rfl rfl rfl (ov_assign rfl) <| WL.nil <| WQ.seqN <| WC.ret <| WQ.blockRet <| WQ.thenRet <| WQ.ret2 rfl rfl rfl ?_
    obtain rfl := Option.some.inj HF
    exact ⟨_, rfl, h35, S37, _, _, rfl, rfl, rfl⟩
   ·replace HF := bif_f hb30 HF
    refine WC.seq <| WC.region <| WL.val rfl rfl rfl (ov_eql rfl rfl) <| WL.val rfl rfl rfl (ov_assign rfl) <| WL.nil <| WQ.seqN <| WC.cond (b := (x1 : Int) == 3) rfl (fun hb38 => ?_) (fun hb38 => ?_)
    ·replace HF := bif_t hb38 HF
     refine WC.seq <| WC.region <| WL.val rfl rfl rfl (ov_move rfl) ?_
     obtain ⟨r39, hr40, HF⟩ := bind_some HF
     refine WL.call rfl rfl rfl (oc_func (vs := [.int .i64 x2]) rfl t_ent_36) (ok_strconv_Itoa _ hr40 S29.sub) ?_
     rintro _ w42 ⟨h43, s44, rfl⟩
     have S45 := S29.trans0 s44
     obtain ⟨hl46, HF⟩ := ite_none HF
     refine WL.val rfl rfl rfl (ov_addS rfl rfl hl46) <| WL.val rfl rfl rfl (ov_assign rfl) <| WL.val rfl rfl rfl (ov_assign rfl) <| WL.nil <| WQ.seqN <| WC.ret <| WQ.blockRet <| WQ.thenRet <| WQ.ret2 rfl rfl rfl ?_
     obtain rfl := Option.some.inj HF
     exact ⟨_, rfl, h43, S45, _, _, rfl, rfl, rfl⟩
    ·replace HF := bif_f hb38 HF
     refine WC.skip <| WQ.blockN <| WC.to [1] [(1, .int .i64 x2)] rfl ?_
     exact J58 ⟨h26, HF, rfl, S29, Hle.refl _⟩
 ·intro J59
  refine WC.join (fun E w20 => ∃ (h19 : Hp) (x23 : Bool), print_Const_j1 k x1 x2 x23 = some r ∧ E = [(0, .int .i64 x1), (1, .int .i64 x2), (18, .bool x23)] ∧ Stp [] w0 h0 w20 h19 ∧ Hle h0 h19) ?_ ?_
  ·rintro E w20 ⟨h19, x23, HF, rfl, S22, le21⟩
   refine WC.cond (b := x23) rfl (fun hb24 => ?_) (fun hb24 => ?_)
   ·replace HF := bif_t hb24 HF
    refine WC.seq <| WC.region <| WL.val rfl rfl rfl (ov_assign rfl) <| WL.val rfl rfl rfl (ov_assign rfl) <| WL.nil <| WQ.seqN <| WC.ret <| WQ.thenRet <| WQ.ret2 rfl rfl rfl ?_
    obtain rfl := Option.some.inj HF
    exact ⟨_, rfl, h19, S22, _, _, rfl, rfl, rfl⟩
   ·replace HF := bif_f hb24 HF
    refine WC.skip <| WC.to [0, 1] [(0, .int .i64 x1), (1, .int .i64 x2)] rfl ?_
    exact J59 ⟨h19, HF, rfl, S22, le21⟩
  ·intro J25
   refine WC.region <| WL.val rfl rfl rfl (ov_move rfl) <| WL.val rfl rfl rfl (ov_move rfl) ?_
   obtain ⟨r3, hr4, HF⟩ := bind_some HF
   refine WL.call rfl rfl rfl (oc_func (vs := [.int .i64 x1, .int .i64 x2]) rfl t_ent_33) (ok_ast_IsConst _ hr4 S0.sub) ?_
   rintro _ w6 ⟨h7, s8, rfl⟩
   have S9 := S0.trans0 s8
   refine WL.val rfl rfl rfl (ov_not rfl) <| WL.val rfl rfl rfl (ov_move rfl) <| WL.split 10 (b := !r3) rfl (fun hb10 => ?_) (fun hb10 => ?_)
   ·replace HF := bif_t hb10 HF
    refine WL.val rfl rfl rfl (ov_move rfl) <| WL.val rfl rfl rfl (ov_neq rfl rfl) <| WL.val rfl rfl rfl (ov_move rfl) <| WL.split 13 (b := (x1 : Int) != 2) rfl (fun hb11 => ?_) (fun hb11 => ?_)
    ·replace HF := bif_t hb11 HF
     refine WL.pass rfl rfl rfl <| WL.pass rfl rfl rfl <| WL.pass rfl rfl rfl <| WL.val rfl rfl rfl (ov_pickT rfl rfl) <| WL.val rfl rfl rfl (ov_pickT rfl rfl) <| WL.nil <| WC.to [0, 1, 18] [(0, .int .i64 x1), (1, .int .i64 x2), (18, .bool true)] rfl ?_
     exact J25 ⟨h7, true, HF, rfl, S9, s8.le⟩
    ·replace HF := bif_f hb11 HF
     refine WL.val rfl rfl rfl (ov_move rfl) ?_
     obtain ⟨r12, hr13, HF⟩ := bind_some HF
     refine WL.call rfl rfl rfl (oc_func (vs := [.int .i64 x2]) rfl t_ent_34) (ok_ast_IsLabel _ hr13 S9.sub) ?_
     rintro _ w15 ⟨h16, s17, rfl⟩
     have S18 := S9.trans0 s17
     refine WL.val rfl rfl rfl (ov_not rfl) <| WL.val rfl rfl rfl (ov_pickF rfl rfl) <| WL.val rfl rfl rfl (ov_pickT rfl rfl) <| WL.nil <| WC.to [0, 1, 18] [(0, .int .i64 x1), (1, .int .i64 x2), (18, .bool (!r12))] rfl ?_
     exact J25 ⟨h16, !r12, HF, rfl, S18, (s8.le).trans s17.le⟩
   ·replace HF := bif_f hb10 HF
    refine WL.pass rfl rfl rfl <| WL.pass rfl rfl rfl <| WL.pass rfl rfl rfl <| WL.pass rfl rfl rfl <| WL.pass rfl rfl rfl <| WL.pass rfl rfl rfl <| WL.pass rfl rfl rfl <| WL.val rfl rfl rfl (ov_pickF rfl rfl) <| WL.nil <| WC.to [0, 1, 18] [(0, .int .i64 x1), (1, .int .i64 x2), (18, .bool false)] rfl ?_
    exact J25 ⟨h7, false, HF, rfl, S9, s8.le⟩
theorem ok_print_Const (k : Nat) : C_print_Const (F_print_Const k) := s_print_Const k

def C_strings_Join (φ : (List ByteArray) → ByteArray → Option ByteArray) : Prop := ∀ ⦃xs1 : List ByteArray⦄ ⦃x4 : ByteArray⦄ ⦃r : ByteArray⦄, φ xs1 x4 = some r → ∀ ⦃w0 : World⦄ ⦃h0 : Hp⦄ ⦃v2 : Value⦄, Sub h0 w0 → RS h0 v2 xs1 →
  Calls Tryz.prog 67 #[v2, .string x4] w0 fun e w1 => ∃ v, e = .returned v ∧ ∃ h1, Stp [] w0 h0 w1 h1 ∧ v = .string r
set_option maxRecDepth 20000 in
theorem ok_strings_Join (k : Nat) : C_strings_Join (F_strings_Join k) := by
  intro xs1 x4 r HF w0 h0 v2 hs0 rs3
  simp only [F_strings_Join] at HF
  obtain ⟨hn, HF⟩ := ite_none HF
  cases HF
  obtain ⟨A, c, rfl, hc, hr⟩ := rs3
  by_cases hx : xs1 = []
  · subst hx
    refine (Tryz.strings_Join_none A c x4 w0).mono ?_
    rintro e w1 ⟨rfl, rfl⟩
    exact ⟨_, rfl, h0, Stp.refl hs0 _, rfl⟩
  · obtain ⟨b, o, rfl, hj⟩ := hr hx
    have hcells : ∀ (j : Nat) x, xs1[j]? = some x → w0.cell? ⟨b, o + j, none⟩ = some (.string x) := fun j x hj1 => by
      obtain ⟨cs, q1, q2⟩ := hj j x hj1
      have q1' : cs = [.string x] := q1
      subst q1'
      have := hs0.at_ _ _ _ (q2 0 _ rfl)
      simpa [Rp.sz] using this
    have hbk : b < w0.heap.size := World.block_lt_of_cell? w0 _ (hcells 0 _ (List.getElem?_eq_getElem (List.length_pos_iff.2 hx)))
    refine (Tryz.strings_Join b o c xs1 x4 w0 hcells hbk hn.1 hc hn.2).mono ?_
    rintro e w1 ⟨rfl, hb⟩
    exact ⟨_, rfl, h0, Stp.of_below hs0 hb, rfl⟩

def C_print_Of (φ : Ex → Option ByteArray) : Prop := ∀ ⦃x1 : Ex⦄ ⦃r : ByteArray⦄, φ x1 = some r → ∀ ⦃w0 : World⦄ ⦃h0 : Hp⦄ ⦃cs2 : List Value⦄, Sub h0 w0 → Rp.R h0 x1 cs2 →
  Calls Tryz.prog 27 #[.agg cs2.toArray] w0 fun e w1 => ∃ v, e = .returned v ∧ ∃ h1, Stp [] w0 h0 w1 h1 ∧ v = .string r
def C_print_Joined_api_Expr (φ : (List Ex) → ByteArray → Option ByteArray) : Prop := ∀ ⦃xs1 : List Ex⦄ ⦃x4 : ByteArray⦄ ⦃r : ByteArray⦄, φ xs1 x4 = some r → ∀ ⦃w0 : World⦄ ⦃h0 : Hp⦄ ⦃v2 : Value⦄, Sub h0 w0 → RS h0 v2 xs1 →
  Calls Tryz.prog 57 #[v2, .string x4, .func (.func 27) #[] #[]] w0 fun e w1 => ∃ v, e = .returned v ∧ ∃ h1, Stp [] w0 h0 w1 h1 ∧ v = .string r
def C_print_Of_1 (φ : Ex → Int → Option ByteArray) : Prop := ∀ ⦃x1 : Ex⦄ ⦃x4 : Int⦄ ⦃r : ByteArray⦄, φ x1 x4 = some r → ∀ ⦃w0 : World⦄ ⦃h0 : Hp⦄ ⦃cs2 : List Value⦄, Sub h0 w0 → Rp.R h0 x1 cs2 →
  Calls Tryz.prog 56 #[.agg cs2.toArray, .int .i64 x4] w0 fun e w1 => ∃ v, e = .returned v ∧ ∃ h1, Stp [] w0 h0 w1 h1 ∧ v = .string r
set_option maxRecDepth 20000 in
set_option maxHeartbeats 4000000 in
theorem s_print_Of (k : Nat) (IH : ∀ j, j ≤ k → C_print_Of (tie_print_Of j).print_Of ∧ C_print_Joined_api_Expr (tie_print_Of j).print_Joined_api_Expr ∧ C_print_Of_1 (tie_print_Of j).print_Of_1) : C_print_Of (m_print_Of k (tie_print_Of k)) := by
 intro x1 r HF w0 h0 cs2 hs0 r3
 have S0 : Stp [] w0 h0 w0 h0 := Stp.refl hs0 _
 refine enter (n := 104) Tryz.func27 rfl Tryz.ntmps27 rfl [(0, .agg cs2.toArray)] rfl <| WC.seq <| WC.region ?_
 obtain ⟨v4, rfl, rs5⟩ := rp_Ex.1 r3
 refine WL.box (cs := [.int .i64 x1.op, .int .i64 x1.kind, .int .i64 x1.n, .string x1.s, .string x1.f, v4]) rfl rfl rfl rfl S0.sub (fun w6 b7 hb8 s9 ob10 => ?_)
 have g11 : w0.heap.size ≤ b7 := by rw [hb8]; exact S0.size
 have S12 := S0.trans0 s9
 refine WL.val rfl rfl rfl (ov_assign rfl) <| WL.nil <| WQ.seqN <| WC.seq ?_
 obtain ⟨r13, hr14, HF⟩ := bind_some HF
 obtain ⟨r17, hr18, HF⟩ := bind_some HF
 replace hr18 := Option.some.inj hr18
 refine WC.drawnF (m := 8) [(1, .pointer (some ⟨b7, 0, none⟩))] [1] [6] rfl (fun i v w h => match i with | 0 => ∃ (v15 : Value), v = v15 ∧ RM (fun x : ByteArray × Int => .agg #[.string x.1, .int .i64 x.2]) h v15 r13 | 1 => v = .pointer (some ⟨b7, 0, none⟩) | 2 => v = .int .i64 x1.op | 3 => v = .tuple #[.agg #[.string ((r17.getD ((⟨#[]⟩ : ByteArray), 0)).1), .int .i64 ((r17.getD ((⟨#[]⟩ : ByteArray), 0)).2)], .bool r17.isSome] | 4 => v = .tuple #[.agg #[.string ((r17.getD ((⟨#[]⟩ : ByteArray), 0)).1), .int .i64 ((r17.getD ((⟨#[]⟩ : ByteArray), 0)).2)], .bool r17.isSome] | 5 => v = .agg #[.string ((r17.getD ((⟨#[]⟩ : ByteArray), 0)).1), .int .i64 ((r17.getD ((⟨#[]⟩ : ByteArray), 0)).2)] | 6 => v = .bool r17.isSome | 7 => ∃ (b19 : Nat), v = .pointer (some ⟨b19, 0, none⟩) ∧ OB w h b19 91 [.string (⟨#[]⟩ : ByteArray), .int .i64 0] ∧ w0.heap.size ≤ b19 ∧ b7 ≠ b19 | _ => True) t_mixed S12.sub rfl rfl rfl rfl rfl rfl rfl ?_ ?_ ?_
 ·intro i v w h w2 h2 hΦ hst
  match i, hΦ with
  | 0, ⟨v15, hv0, rm16⟩ => exact ⟨v15, hv0, rm16.mono hst.le⟩
  | 1, hΦ => exact hΦ
  | 2, hΦ => exact hΦ
  | 3, hΦ => exact hΦ
  | 4, hΦ => exact hΦ
  | 5, hΦ => exact hΦ
  | 6, hΦ => exact hΦ
  | 7, ⟨b19, hv7, ob20, g22, ne21⟩ => exact ⟨b19, hv7, ob20.step0 hst, g22, ne21⟩
  | i + 8, _ => exact trivial
 ·refine (FrontsF.front rfl ?_ (FrontsF.front rfl ?_ (FrontsF.front rfl ?_ (FrontsF.front rfl ?_ (FrontsF.front rfl ?_ (FrontsF.front rfl ?_ (FrontsF.float rfl ?_ (FrontsF.front rfl ?_ FrontsF.nil))))))))
  ·intro a w23 h24 s25 hat hF
   refine front_call (show At _ [(1, .pointer (some ⟨b7, 0, none⟩))] _ from hat) rfl (oc_func (vs := []) rfl t_ent_55) (ok_print_signs _ hr14 s25.sub) ?_
   rintro v15 w26 ⟨h27, s28, rm16⟩
   exact ⟨_, h27, rfl, s28, (by exact ⟨v15, rfl, rm16⟩)⟩
  ·intro a w23 h24 s25 hat hF
   exact front_val (show At _ [(1, .pointer (some ⟨b7, 0, none⟩))] _ from hat) rfl (ov_fieldAddr rfl t_field_32_0) s25.sub (by exact rfl)
  ·intro a w23 h24 s25 hat hF
   obtain hv1 := hF 1 10 rfl rfl
   have ob29 := (ob10.step0 s25)
   exact front_val (show At _ [(10, .pointer (some ⟨b7, 0, none⟩)), (1, .pointer (some ⟨b7, 0, none⟩))] _ from (At.cons hat hv1)) rfl (ov_load1 rfl t_agg_3 (OB.cell ob29 (j := 0) rfl)) s25.sub (by exact rfl)
  ·intro a w23 h24 s25 hat hF
   obtain ⟨v15, hv0, rm16⟩ := hF 0 9 rfl rfl
   obtain hv2 := hF 2 11 rfl rfl
   exact front_val (show At _ [(11, .int .i64 x1.op), (9, v15), (1, .pointer (some ⟨b7, 0, none⟩))] _ from (At.cons (At.cons hat hv0) hv2)) rfl (ov_lookupI2 (evl := (fun x : ByteArray × Int => .agg #[.string x.1, .int .i64 x.2])) (z := ((⟨#[]⟩ : ByteArray), 0)) rfl rfl t_map_93 t_int_3 t_zero_91 rm16 s25.sub hr18) s25.sub (by exact rfl)
  ·intro a w23 h24 s25 hat hF
   obtain hv3 := hF 3 12 rfl rfl
   exact front_val (show At _ [(12, .tuple #[.agg #[.string ((r17.getD ((⟨#[]⟩ : ByteArray), 0)).1), .int .i64 ((r17.getD ((⟨#[]⟩ : ByteArray), 0)).2)], .bool r17.isSome]), (1, .pointer (some ⟨b7, 0, none⟩))] _ from (At.cons hat hv3)) rfl (ov_move rfl) s25.sub (by exact rfl)
  ·intro a w23 h24 s25 hat hF
   obtain hv4 := hF 4 8 rfl rfl
   exact front_val (show At _ [(8, .tuple #[.agg #[.string ((r17.getD ((⟨#[]⟩ : ByteArray), 0)).1), .int .i64 ((r17.getD ((⟨#[]⟩ : ByteArray), 0)).2)], .bool r17.isSome]), (1, .pointer (some ⟨b7, 0, none⟩))] _ from (At.cons hat hv4)) rfl (ov_extract rfl rfl) s25.sub (by exact rfl)
  ·intro a w23 h24 ww s25 hat hF
   obtain hv4 := hF 4 8 rfl rfl
   exact front_float (show At _ [(8, .tuple #[.agg #[.string ((r17.getD ((⟨#[]⟩ : ByteArray), 0)).1), .int .i64 ((r17.getD ((⟨#[]⟩ : ByteArray), 0)).2)], .bool r17.isSome]), (1, .pointer (some ⟨b7, 0, none⟩))] _ from (At.cons hat hv4)) rfl (ov_extract rfl rfl) (by exact rfl)
  ·intro a w23 h24 s25 hat hF
   have ob33 := (ob10.step0 s25)
   exact front_alloc (zs := [.string (⟨#[]⟩ : ByteArray), .int .i64 0]) (show At _ [(1, .pointer (some ⟨b7, 0, none⟩))] _ from hat) rfl t_zero_91 rfl s25.sub (fun w32 b19 hb30 s31 ob20 => ⟨b19, rfl, ob20, by rw [hb30]; exact Nat.le_trans S12.size s25.size, ob33.ne_new hb30⟩)
 ·intro a w23 h24 s25 hat hF
  obtain ⟨v15, hv0, rm16⟩ := hF 0 9 (by decide) rfl rfl
  obtain hv1 := hF 1 10 (by decide) rfl rfl
  obtain hv2 := hF 2 11 (by decide) rfl rfl
  obtain hv3 := hF 3 12 (by decide) rfl rfl
  obtain hv4 := hF 4 8 (by decide) rfl rfl
  obtain hv5 := hF 5 13 (by decide) rfl rfl
  obtain ⟨b19, hv7, ob20, g22, ne21⟩ := hF 7 3 (by decide) rfl rfl
  have S34 := S12.trans0 s25
  refine F.store [(3, .pointer (some ⟨b19, 0, none⟩)), (13, .agg #[.string ((r17.getD ((⟨#[]⟩ : ByteArray), 0)).1), .int .i64 ((r17.getD ((⟨#[]⟩ : ByteArray), 0)).2)]), (8, .tuple #[.agg #[.string ((r17.getD ((⟨#[]⟩ : ByteArray), 0)).1), .int .i64 ((r17.getD ((⟨#[]⟩ : ByteArray), 0)).2)], .bool r17.isSome]), (12, .tuple #[.agg #[.string ((r17.getD ((⟨#[]⟩ : ByteArray), 0)).1), .int .i64 ((r17.getD ((⟨#[]⟩ : ByteArray), 0)).2)], .bool r17.isSome]), (11, .int .i64 x1.op), (10, .pointer (some ⟨b7, 0, none⟩)), (9, v15), (1, .pointer (some ⟨b7, 0, none⟩))] (At.cons (At.cons (At.cons (At.cons (At.cons (At.cons (At.cons hat hv0) hv1) hv2) hv3) hv4) hv5) hv7) rfl (vs := [.string ((r17.getD ((⟨#[]⟩ : ByteArray), 0)).1), .int .i64 ((r17.getD ((⟨#[]⟩ : ByteArray), 0)).2)]) rfl rfl rfl t_size_91 (one_cons rfl (one_cons rfl one_nil)) ob20 S34.sub (by simp) (ds := [.string ((r17.getD ((⟨#[]⟩ : ByteArray), 0)).1), .int .i64 ((r17.getD ((⟨#[]⟩ : ByteArray), 0)).2)]) rfl (fun w35 s36 ob37 a2 hat2 hG => ?_)
  have S38 := S34.trans1 s36 (.inr g22)
  obtain hv6 := hG 6 14 (by decide) rfl rfl
  refine WL.at_ [(14, .bool r17.isSome), (3, .pointer (some ⟨b19, 0, none⟩)), (13, .agg #[.string ((r17.getD ((⟨#[]⟩ : ByteArray), 0)).1), .int .i64 ((r17.getD ((⟨#[]⟩ : ByteArray), 0)).2)]), (8, .tuple #[.agg #[.string ((r17.getD ((⟨#[]⟩ : ByteArray), 0)).1), .int .i64 ((r17.getD ((⟨#[]⟩ : ByteArray), 0)).2)], .bool r17.isSome]), (12, .tuple #[.agg #[.string ((r17.getD ((⟨#[]⟩ : ByteArray), 0)).1), .int .i64 ((r17.getD ((⟨#[]⟩ : ByteArray), 0)).2)], .bool r17.isSome]), (11, .int .i64 x1.op), (10, .pointer (some ⟨b7, 0, none⟩)), (9, v15), (1, .pointer (some ⟨b7, 0, none⟩))] (At.cons hat2 hv6) <| WL.val rfl rfl rfl (ov_assign rfl) <| WL.nil <| WQ.seqN <| WC.seq <| WC.region <| WL.val rfl rfl rfl (ov_assign rfl) <| WL.nil <| WQ.seqN <| WC.join (fun E w128 => ∃ (h127 : Hp), print_Of_j2 k (tie_print_Of k) x1 = some r ∧ E = [(1, .pointer (some ⟨b7, 0, none⟩))] ∧ Stp [] w0 h0 w128 h127 ∧ Hle h24 h127 ∧ OB w128 h127 b7 32 [.int .i64 x1.op, .int .i64 x1.kind, .int .i64 x1.n, .string x1.s, .string x1.f, v4]) ?_ ?_
  ·rintro E w128 ⟨h127, HF, rfl, S130, le129, ob131⟩
   refine WC.join (fun E w187 => ∃ (h186 : Hp), print_Of_j3 k (tie_print_Of k) x1 = some r ∧ E = [(1, .pointer (some ⟨b7, 0, none⟩))] ∧ Stp [] w0 h0 w187 h186 ∧ Hle h127 h186 ∧ OB w187 h186 b7 32 [.int .i64 x1.op, .int .i64 x1.kind, .int .i64 x1.n, .string x1.s, .string x1.f, v4]) ?_ ?_
   ·rintro E w187 ⟨h186, HF, rfl, S189, le188, ob190⟩
    refine WC.seq <| WC.region <| WL.val rfl rfl rfl (ov_fieldAddr rfl t_field_32_3) <| WL.val rfl rfl rfl (ov_load1 rfl t_agg_9 (OB.cell ob190 (j := 3) rfl)) <| WL.val rfl rfl rfl (ov_assign rfl) <| WL.nil <| WQ.seqN <| WC.ret <| WQ.ret1 rfl rfl ?_
    obtain rfl := Option.some.inj HF
    exact ⟨_, rfl, h186, S189, rfl⟩
   ·intro J191
    refine WC.seq <| WC.region <| WL.val rfl rfl rfl (ov_fieldAddr rfl t_field_32_0) <| WL.val rfl rfl rfl (ov_load1 rfl t_agg_3 (OB.cell ob131 (j := 0) rfl)) <| WL.nil <| WQ.seqN <| WC.block <| WC.seq <| WC.region <| WL.val rfl rfl rfl (ov_eql rfl rfl) <| WL.val rfl rfl rfl (ov_assign rfl) <| WL.nil <| WQ.seqN <| WC.cond (b := (x1.op : Int) == 1) rfl (fun hb132 => ?_) (fun hb132 => ?_)
    ·replace HF := bif_t hb132 HF
     refine WC.seq <| WC.region <| WL.val rfl rfl rfl (ov_fieldAddr rfl t_field_32_1) <| WL.val rfl rfl rfl (ov_load1 rfl t_agg_3 (OB.cell ob131 (j := 1) rfl)) <| WL.val rfl rfl rfl (ov_fieldAddr rfl t_field_32_2) <| WL.val rfl rfl rfl (ov_load1 rfl t_agg_3 (OB.cell ob131 (j := 2) rfl)) ?_
     obtain ⟨r133, hr134, HF⟩ := bind_some HF
     refine WL.call rfl rfl rfl (oc_func (vs := [.int .i64 x1.kind, .int .i64 x1.n]) rfl t_ent_17) (ok_print_Const _ hr134 S130.sub) ?_
     rintro _ w136 ⟨h137, s138, _, _, rfl, rfl, rfl⟩
     have S139 := S130.trans0 s138
     refine WL.val rfl rfl rfl (ov_move rfl) <| WL.val rfl rfl rfl (ov_extract rfl rfl) <| WL.val rfl rfl rfl (ov_extract rfl rfl) <| WL.val rfl rfl rfl (ov_assign rfl) <| WL.val rfl rfl rfl (ov_assign rfl) <| WL.nil <| WQ.seqN <| WC.seq <| WC.region <| WL.val rfl rfl rfl (ov_move rfl) <| WL.val rfl rfl rfl (ov_assign rfl) <| WL.nil <| WQ.seqN <| WC.ret <| WQ.blockRet <| WQ.thenRet <| WQ.ret1 rfl rfl ?_
     obtain rfl := Option.some.inj HF
     exact ⟨_, rfl, h137, S139, rfl⟩
    ·replace HF := bif_f hb132 HF
     refine WC.seq <| WC.region <| WL.val rfl rfl rfl (ov_eql rfl rfl) <| WL.val rfl rfl rfl (ov_assign rfl) <| WL.nil <| WQ.seqN <| WC.cond (b := (x1.op : Int) == 3) rfl (fun hb140 => ?_) (fun hb140 => ?_)
     ·replace HF := bif_t hb140 HF
      refine WC.seq <| WC.region <| WL.val rfl rfl rfl (ov_fieldAddr rfl t_field_32_3) <| WL.val rfl rfl rfl (ov_load1 rfl t_agg_9 (OB.cell ob131 (j := 3) rfl)) ?_
      obtain ⟨hl141, HF⟩ := ite_none HF
      refine WL.val rfl rfl rfl (ov_addS rfl rfl hl141) <| WL.val rfl rfl rfl (ov_fieldAddr rfl t_field_32_4) <| WL.val rfl rfl rfl (ov_load1 rfl t_agg_9 (OB.cell ob131 (j := 4) rfl)) ?_
      obtain ⟨hl142, HF⟩ := ite_none HF
      refine WL.val rfl rfl rfl (ov_addS rfl rfl hl142) <| WL.val rfl rfl rfl (ov_assign rfl) <| WL.nil <| WQ.seqN <| WC.ret <| WQ.blockRet <| WQ.thenRet <| WQ.ret1 rfl rfl ?_
      obtain rfl := Option.some.inj HF
      exact ⟨_, rfl, h127, S130, rfl⟩
     ·replace HF := bif_f hb140 HF
      refine WC.seq <| WC.region <| WL.val rfl rfl rfl (ov_eql rfl rfl) <| WL.val rfl rfl rfl (ov_assign rfl) <| WL.nil <| WQ.seqN <| WC.cond (b := (x1.op : Int) == 4) rfl (fun hb143 => ?_) (fun hb143 => ?_)
      ·replace HF := bif_t hb143 HF
       refine WC.seq ?_
       obtain ⟨hl144, HF⟩ := ite_none HF
       obtain ⟨A145, c146, rfl, rs147⟩ := RS.form (rs5.mono ((s9.le).trans ((s25.le).trans ((s36.le).trans le129))))
       obtain ⟨e148, he149, HF⟩ := bind_some HF
       obtain ⟨b150, o151, rfl, h153, h154, ra152⟩ := RS.atO rs147 he149
       obtain ⟨cs155, r156, hc157⟩ := ra152
       obtain ⟨r158, hr159, HF⟩ := bind_some HF
       refine WC.drawn (m := 8) [(1, .pointer (some ⟨b7, 0, none⟩))] [1] rfl (fun i v w h => match i with | 0 => v = .pointer (some ⟨b7, 3, none⟩) | 1 => v = .string x1.s | 2 => v = .string (x1.s ++ (⟨#[91]⟩ : ByteArray)) | 3 => v = .pointer (some ⟨b7, 5, none⟩) | 4 => v = .slice (some ⟨b150, o151, none⟩) (x1.args).length c146 | 5 => v = .pointer (some ⟨b150, o151 + Int.toNat 0 * 6, none⟩) | 6 => v = .agg cs155.toArray | 7 => v = .string r158 | _ => True) t_mixed S130.sub rfl rfl rfl rfl rfl ?_ ?_ ?_
       ·intro i v w h w2 h2 hΦ hst
        match i, hΦ with
        | 0, hΦ => exact hΦ
        | 1, hΦ => exact hΦ
        | 2, hΦ => exact hΦ
        | 3, hΦ => exact hΦ
        | 4, hΦ => exact hΦ
        | 5, hΦ => exact hΦ
        | 6, hΦ => exact hΦ
        | 7, hΦ => exact hΦ
        | i + 8, _ => exact trivial
       ·refine ⟨?_, ?_, ?_, ?_, ?_, ?_, ?_, ?_, trivial⟩
        ·intro a w160 h161 s162 hat hF
         exact front_val (show At _ [(1, .pointer (some ⟨b7, 0, none⟩))] _ from hat) rfl (ov_fieldAddr rfl t_field_32_3) s162.sub (by exact rfl)
        ·intro a w160 h161 s162 hat hF
         obtain hv0 := hF 0 82 rfl rfl
         have ob163 := (ob131.step0 s162)
         exact front_val (show At _ [(82, .pointer (some ⟨b7, 3, none⟩)), (1, .pointer (some ⟨b7, 0, none⟩))] _ from (At.cons hat hv0)) rfl (ov_load1 rfl t_agg_9 (OB.cell ob163 (j := 3) rfl)) s162.sub (by exact rfl)
        ·intro a w160 h161 s162 hat hF
         obtain hv1 := hF 1 83 rfl rfl
         exact front_val (show At _ [(83, .string x1.s), (1, .pointer (some ⟨b7, 0, none⟩))] _ from (At.cons hat hv1)) rfl (ov_addS rfl rfl hl144) s162.sub (by exact rfl)
        ·intro a w160 h161 s162 hat hF
         exact front_val (show At _ [(1, .pointer (some ⟨b7, 0, none⟩))] _ from hat) rfl (ov_fieldAddr rfl t_field_32_5) s162.sub (by exact rfl)
        ·intro a w160 h161 s162 hat hF
         obtain hv3 := hF 3 85 rfl rfl
         have ob164 := (ob131.step0 s162)
         exact front_val (show At _ [(85, .pointer (some ⟨b7, 5, none⟩)), (1, .pointer (some ⟨b7, 0, none⟩))] _ from (At.cons hat hv3)) rfl (ov_load1 rfl t_agg_30 (OB.cell ob164 (j := 5) rfl)) s162.sub (by exact rfl)
        ·intro a w160 h161 s162 hat hF
         obtain hv4 := hF 4 86 rfl rfl
         exact front_val (show At _ [(86, .slice (some ⟨b150, o151, none⟩) (x1.args).length c146), (1, .pointer (some ⟨b7, 0, none⟩))] _ from (At.cons hat hv4)) rfl (ov_indexAddr rfl rfl t_slice_30 t_size_32 h153 h154) s162.sub (by exact rfl)
        ·intro a w160 h161 s162 hat hF
         obtain hv5 := hF 5 87 rfl rfl
         exact front_val (show At _ [(87, .pointer (some ⟨b150, o151 + Int.toNat 0 * 6, none⟩)), (1, .pointer (some ⟨b7, 0, none⟩))] _ from (At.cons hat hv5)) rfl (ov_loadN (cs := cs155) rfl t_agg_32 (by rw [Rp.len (Rp.mono (s162.le) r156)]; exact t_size_32) (fun j v hv => s162.sub.at_ _ _ _ ((fun i v hv => (s162.le).1 _ _ _ (hc157 i v hv)) j v hv))) s162.sub (by exact rfl)
        ·intro a w160 h161 s162 hat hF
         obtain hv6 := hF 6 88 rfl rfl
         refine front_call (show At _ [(88, .agg cs155.toArray), (1, .pointer (some ⟨b7, 0, none⟩))] _ from (At.cons hat hv6)) rfl (oc_func (vs := [.agg cs155.toArray]) rfl t_ent_27) ((IH _ (Nat.le_refl _)).1 hr159 s162.sub (Rp.mono (s162.le) r156)) ?_
         rintro _ w165 ⟨h166, s167, rfl⟩
         exact ⟨_, h166, rfl, s167, (by exact rfl)⟩
       ·intro a w160 h161 s162 hat hF
        obtain hv0 := hF 0 82 (by decide) rfl
        obtain hv1 := hF 1 83 (by decide) rfl
        obtain hv2 := hF 2 84 (by decide) rfl
        obtain hv3 := hF 3 85 (by decide) rfl
        obtain hv4 := hF 4 86 (by decide) rfl
        obtain hv5 := hF 5 87 (by decide) rfl
        obtain hv6 := hF 6 88 (by decide) rfl
        obtain hv7 := hF 7 89 (by decide) rfl
        refine WL.at_ [(89, .string r158), (88, .agg cs155.toArray), (87, .pointer (some ⟨b150, o151 + Int.toNat 0 * 6, none⟩)), (86, .slice (some ⟨b150, o151, none⟩) (x1.args).length c146), (85, .pointer (some ⟨b7, 5, none⟩)), (84, .string (x1.s ++ (⟨#[91]⟩ : ByteArray))), (83, .string x1.s), (82, .pointer (some ⟨b7, 3, none⟩)), (1, .pointer (some ⟨b7, 0, none⟩))] (At.cons (At.cons (At.cons (At.cons (At.cons (At.cons (At.cons (At.cons hat hv0) hv1) hv2) hv3) hv4) hv5) hv6) hv7) ?_
        have S168 := S130.trans0 s162
        obtain ⟨hl169, HF⟩ := ite_none HF
        refine WL.val rfl rfl rfl (ov_addS rfl rfl hl169) ?_
        obtain ⟨hl170, HF⟩ := ite_none HF
        refine WL.val rfl rfl rfl (ov_addS rfl rfl hl170) <| WL.val rfl rfl rfl (ov_assign rfl) <| WL.nil <| WQ.seqN <| WC.ret <| WQ.blockRet <| WQ.thenRet <| WQ.ret1 rfl rfl ?_
        obtain rfl := Option.some.inj HF
        exact ⟨_, rfl, h161, S168, rfl⟩
      ·replace HF := bif_f hb143 HF
       refine WC.seq <| WC.region <| WL.val rfl rfl rfl (ov_eql rfl rfl) <| WL.val rfl rfl rfl (ov_assign rfl) <| WL.nil <| WQ.seqN <| WC.cond (b := (x1.op : Int) == 5) rfl (fun hb171 => ?_) (fun hb171 => ?_)
       ·replace HF := bif_t hb171 HF
        refine WC.seq ?_
        obtain ⟨hl172, HF⟩ := ite_none HF
        obtain ⟨r173, hr174, HF⟩ := bind_some HF
        refine WC.drawn (m := 6) [(1, .pointer (some ⟨b7, 0, none⟩))] [1] rfl (fun i v w h => match i with | 0 => v = .pointer (some ⟨b7, 3, none⟩) | 1 => v = .string x1.s | 2 => v = .string (x1.s ++ (⟨#[40]⟩ : ByteArray)) | 3 => v = .pointer (some ⟨b7, 5, none⟩) | 4 => v = v4 | 5 => v = .string r173 | _ => True) t_mixed S130.sub rfl rfl rfl rfl rfl ?_ ?_ ?_
        ·intro i v w h w2 h2 hΦ hst
         match i, hΦ with
         | 0, hΦ => exact hΦ
         | 1, hΦ => exact hΦ
         | 2, hΦ => exact hΦ
         | 3, hΦ => exact hΦ
         | 4, hΦ => exact hΦ
         | 5, hΦ => exact hΦ
         | i + 6, _ => exact trivial
        ·refine ⟨?_, ?_, ?_, ?_, ?_, ?_, trivial⟩
         ·intro a w175 h176 s177 hat hF
          exact front_val (show At _ [(1, .pointer (some ⟨b7, 0, none⟩))] _ from hat) rfl (ov_fieldAddr rfl t_field_32_3) s177.sub (by exact rfl)
         ·intro a w175 h176 s177 hat hF
          obtain hv0 := hF 0 94 rfl rfl
          have ob178 := (ob131.step0 s177)
          exact front_val (show At _ [(94, .pointer (some ⟨b7, 3, none⟩)), (1, .pointer (some ⟨b7, 0, none⟩))] _ from (At.cons hat hv0)) rfl (ov_load1 rfl t_agg_9 (OB.cell ob178 (j := 3) rfl)) s177.sub (by exact rfl)
         ·intro a w175 h176 s177 hat hF
          obtain hv1 := hF 1 95 rfl rfl
          exact front_val (show At _ [(95, .string x1.s), (1, .pointer (some ⟨b7, 0, none⟩))] _ from (At.cons hat hv1)) rfl (ov_addS rfl rfl hl172) s177.sub (by exact rfl)
         ·intro a w175 h176 s177 hat hF
          exact front_val (show At _ [(1, .pointer (some ⟨b7, 0, none⟩))] _ from hat) rfl (ov_fieldAddr rfl t_field_32_5) s177.sub (by exact rfl)
         ·intro a w175 h176 s177 hat hF
          obtain hv3 := hF 3 97 rfl rfl
          have ob179 := (ob131.step0 s177)
          exact front_val (show At _ [(97, .pointer (some ⟨b7, 5, none⟩)), (1, .pointer (some ⟨b7, 0, none⟩))] _ from (At.cons hat hv3)) rfl (ov_load1 rfl t_agg_30 (OB.cell ob179 (j := 5) rfl)) s177.sub (by exact rfl)
         ·intro a w175 h176 s177 hat hF
          obtain hv4 := hF 4 98 rfl rfl
          refine front_call (show At _ [(98, v4), (1, .pointer (some ⟨b7, 0, none⟩))] _ from (At.cons hat hv4)) rfl (oc_func (vs := [v4, .string (⟨#[44, 32]⟩ : ByteArray), .func (.func 27) #[] #[]]) rfl t_ent_57) ((IH _ (Nat.le_refl _)).2.1 hr174 s177.sub (rs5.mono ((s9.le).trans ((s25.le).trans ((s36.le).trans ((le129).trans s177.le)))))) ?_
          rintro _ w180 ⟨h181, s182, rfl⟩
          exact ⟨_, h181, rfl, s182, (by exact rfl)⟩
        ·intro a w175 h176 s177 hat hF
         obtain hv0 := hF 0 94 (by decide) rfl
         obtain hv1 := hF 1 95 (by decide) rfl
         obtain hv2 := hF 2 96 (by decide) rfl
         obtain hv3 := hF 3 97 (by decide) rfl
         obtain hv4 := hF 4 98 (by decide) rfl
         obtain hv5 := hF 5 99 (by decide) rfl
         refine WL.at_ [(99, .string r173), (98, v4), (97, .pointer (some ⟨b7, 5, none⟩)), (96, .string (x1.s ++ (⟨#[40]⟩ : ByteArray))), (95, .string x1.s), (94, .pointer (some ⟨b7, 3, none⟩)), (1, .pointer (some ⟨b7, 0, none⟩))] (At.cons (At.cons (At.cons (At.cons (At.cons (At.cons hat hv0) hv1) hv2) hv3) hv4) hv5) ?_
         have S183 := S130.trans0 s177
         obtain ⟨hl184, HF⟩ := ite_none HF
         refine WL.val rfl rfl rfl (ov_addS rfl rfl hl184) ?_
         obtain ⟨hl185, HF⟩ := ite_none HF
         refine WL.val rfl rfl rfl (ov_addS rfl rfl hl185) <| WL.val rfl rfl rfl (ov_assign rfl) <| WL.nil <| WQ.seqN <| WC.ret <| WQ.blockRet <| WQ.thenRet <| WQ.ret1 rfl rfl ?_
         obtain rfl := Option.some.inj HF
         exact ⟨_, rfl, h176, S183, rfl⟩
       ·replace HF := bif_f hb171 HF
        refine WC.skip <| WQ.blockN <| WC.to [1] [(1, .pointer (some ⟨b7, 0, none⟩))] rfl ?_
        exact J191 ⟨h127, HF, rfl, S130, Hle.refl _, ob131⟩
  ·intro J192
   refine WC.block <| WC.join (fun E w45 => ∃ (h44 : Hp) (x48 : Bool), print_Of_j1 k (tie_print_Of k) x1 r17 x48 = some r ∧ E = [(1, .pointer (some ⟨b7, 0, none⟩)), (3, .pointer (some ⟨b19, 0, none⟩)), (4, .bool r17.isSome), (5, .func (.func 56) #[] #[]), (15, .bool x48)] ∧ Stp [] w0 h0 w45 h44 ∧ Hle h24 h44 ∧ OB w45 h44 b7 32 [.int .i64 x1.op, .int .i64 x1.kind, .int .i64 x1.n, .string x1.s, .string x1.f, v4] ∧ OB w45 h44 b19 91 [.string ((r17.getD ((⟨#[]⟩ : ByteArray), 0)).1), .int .i64 ((r17.getD ((⟨#[]⟩ : ByteArray), 0)).2)]) ?_ ?_
   ·rintro E w45 ⟨h44, x48, HF, rfl, S47, le46, ob49, ob50⟩
    refine WC.cond (b := x48) rfl (fun hb51 => ?_) (fun hb51 => ?_)
    ·replace HF := bif_t hb51 HF
     refine WC.seq ?_
     obtain ⟨A52, c53, rfl, rs54⟩ := RS.form (rs5.mono ((s9.le).trans ((s25.le).trans ((s36.le).trans le46))))
     obtain ⟨e55, he56, HF⟩ := bind_some HF
     obtain ⟨b57, o58, rfl, h60, h61, ra59⟩ := RS.atO rs54 he56
     obtain ⟨cs62, r63, hc64⟩ := ra59
     obtain ⟨r65, hr66, HF⟩ := bind_some HF
     refine WC.drawn (m := 10) [(1, .pointer (some ⟨b7, 0, none⟩)), (3, .pointer (some ⟨b19, 0, none⟩)), (5, .func (.func 56) #[] #[])] [1, 3, 5] rfl (fun i v w h => match i with | 0 => v = .pointer (some ⟨b19, 0, none⟩) | 1 => v = .string ((r17.getD ((⟨#[]⟩ : ByteArray), 0)).1) | 2 => v = .func (.func 56) #[] #[] | 3 => v = .pointer (some ⟨b7, 5, none⟩) | 4 => v = .slice (some ⟨b57, o58, none⟩) (x1.args).length c53 | 5 => v = .pointer (some ⟨b57, o58 + Int.toNat 0 * 6, none⟩) | 6 => v = .agg cs62.toArray | 7 => v = .pointer (some ⟨b19, 1, none⟩) | 8 => v = .int .i64 ((r17.getD ((⟨#[]⟩ : ByteArray), 0)).2) | 9 => v = .string r65 | _ => True) t_mixed S47.sub rfl rfl rfl rfl rfl ?_ ?_ ?_
     ·intro i v w h w2 h2 hΦ hst
      match i, hΦ with
      | 0, hΦ => exact hΦ
      | 1, hΦ => exact hΦ
      | 2, hΦ => exact hΦ
      | 3, hΦ => exact hΦ
      | 4, hΦ => exact hΦ
      | 5, hΦ => exact hΦ
      | 6, hΦ => exact hΦ
      | 7, hΦ => exact hΦ
      | 8, hΦ => exact hΦ
      | 9, hΦ => exact hΦ
      | i + 10, _ => exact trivial
     ·refine ⟨?_, ?_, ?_, ?_, ?_, ?_, ?_, ?_, ?_, ?_, trivial⟩
      ·intro a w67 h68 s69 hat hF
       exact front_val (show At _ [(1, .pointer (some ⟨b7, 0, none⟩)), (3, .pointer (some ⟨b19, 0, none⟩)), (5, .func (.func 56) #[] #[])] _ from hat) rfl (ov_fieldAddr rfl t_field_91_0) s69.sub (by exact rfl)
      ·intro a w67 h68 s69 hat hF
       obtain hv0 := hF 0 23 rfl rfl
       have ob70 := (ob50.step0 s69)
       exact front_val (show At _ [(23, .pointer (some ⟨b19, 0, none⟩)), (1, .pointer (some ⟨b7, 0, none⟩)), (3, .pointer (some ⟨b19, 0, none⟩)), (5, .func (.func 56) #[] #[])] _ from (At.cons hat hv0)) rfl (ov_load1 rfl t_agg_9 (OB.cell ob70 (j := 0) rfl)) s69.sub (by exact rfl)
      ·intro a w67 h68 s69 hat hF
       exact front_val (show At _ [(1, .pointer (some ⟨b7, 0, none⟩)), (3, .pointer (some ⟨b19, 0, none⟩)), (5, .func (.func 56) #[] #[])] _ from hat) rfl (ov_move rfl) s69.sub (by exact rfl)
      ·intro a w67 h68 s69 hat hF
       exact front_val (show At _ [(1, .pointer (some ⟨b7, 0, none⟩)), (3, .pointer (some ⟨b19, 0, none⟩)), (5, .func (.func 56) #[] #[])] _ from hat) rfl (ov_fieldAddr rfl t_field_32_5) s69.sub (by exact rfl)
      ·intro a w67 h68 s69 hat hF
       obtain hv3 := hF 3 26 rfl rfl
       have ob71 := (ob49.step0 s69)
       exact front_val (show At _ [(26, .pointer (some ⟨b7, 5, none⟩)), (1, .pointer (some ⟨b7, 0, none⟩)), (3, .pointer (some ⟨b19, 0, none⟩)), (5, .func (.func 56) #[] #[])] _ from (At.cons hat hv3)) rfl (ov_load1 rfl t_agg_30 (OB.cell ob71 (j := 5) rfl)) s69.sub (by exact rfl)
      ·intro a w67 h68 s69 hat hF
       obtain hv4 := hF 4 27 rfl rfl
       exact front_val (show At _ [(27, .slice (some ⟨b57, o58, none⟩) (x1.args).length c53), (1, .pointer (some ⟨b7, 0, none⟩)), (3, .pointer (some ⟨b19, 0, none⟩)), (5, .func (.func 56) #[] #[])] _ from (At.cons hat hv4)) rfl (ov_indexAddr rfl rfl t_slice_30 t_size_32 h60 h61) s69.sub (by exact rfl)
      ·intro a w67 h68 s69 hat hF
       obtain hv5 := hF 5 28 rfl rfl
       exact front_val (show At _ [(28, .pointer (some ⟨b57, o58 + Int.toNat 0 * 6, none⟩)), (1, .pointer (some ⟨b7, 0, none⟩)), (3, .pointer (some ⟨b19, 0, none⟩)), (5, .func (.func 56) #[] #[])] _ from (At.cons hat hv5)) rfl (ov_loadN (cs := cs62) rfl t_agg_32 (by rw [Rp.len (Rp.mono (s69.le) r63)]; exact t_size_32) (fun j v hv => s69.sub.at_ _ _ _ ((fun i v hv => (s69.le).1 _ _ _ (hc64 i v hv)) j v hv))) s69.sub (by exact rfl)
      ·intro a w67 h68 s69 hat hF
       exact front_val (show At _ [(1, .pointer (some ⟨b7, 0, none⟩)), (3, .pointer (some ⟨b19, 0, none⟩)), (5, .func (.func 56) #[] #[])] _ from hat) rfl (ov_fieldAddr rfl t_field_91_1) s69.sub (by exact rfl)
      ·intro a w67 h68 s69 hat hF
       obtain hv7 := hF 7 30 rfl rfl
       have ob72 := (ob50.step0 s69)
       exact front_val (show At _ [(30, .pointer (some ⟨b19, 1, none⟩)), (1, .pointer (some ⟨b7, 0, none⟩)), (3, .pointer (some ⟨b19, 0, none⟩)), (5, .func (.func 56) #[] #[])] _ from (At.cons hat hv7)) rfl (ov_load1 rfl t_agg_3 (OB.cell ob72 (j := 1) rfl)) s69.sub (by exact rfl)
      ·intro a w67 h68 s69 hat hF
       obtain hv2 := hF 2 25 rfl rfl
       obtain hv6 := hF 6 29 rfl rfl
       obtain hv8 := hF 8 31 rfl rfl
       refine front_call (show At _ [(31, .int .i64 ((r17.getD ((⟨#[]⟩ : ByteArray), 0)).2)), (29, .agg cs62.toArray), (25, .func (.func 56) #[] #[]), (1, .pointer (some ⟨b7, 0, none⟩)), (3, .pointer (some ⟨b19, 0, none⟩)), (5, .func (.func 56) #[] #[])] _ from (At.cons (At.cons (At.cons hat hv2) hv6) hv8)) rfl (oc_val (vs := [.agg cs62.toArray, .int .i64 ((r17.getD ((⟨#[]⟩ : ByteArray), 0)).2)]) (caps := []) rfl rfl t_ent_56) ((IH _ (Nat.le_refl _)).2.2 hr66 s69.sub (Rp.mono (s69.le) r63)) ?_
       rintro _ w73 ⟨h74, s75, rfl⟩
       exact ⟨_, h74, rfl, s75, (by exact rfl)⟩
     ·intro a w67 h68 s69 hat hF
      obtain hv0 := hF 0 23 (by decide) rfl
      obtain hv1 := hF 1 24 (by decide) rfl
      obtain hv2 := hF 2 25 (by decide) rfl
      obtain hv3 := hF 3 26 (by decide) rfl
      obtain hv4 := hF 4 27 (by decide) rfl
      obtain hv5 := hF 5 28 (by decide) rfl
      obtain hv6 := hF 6 29 (by decide) rfl
      obtain hv7 := hF 7 30 (by decide) rfl
      obtain hv8 := hF 8 31 (by decide) rfl
      obtain hv9 := hF 9 32 (by decide) rfl
      refine WL.at_ [(32, .string r65), (31, .int .i64 ((r17.getD ((⟨#[]⟩ : ByteArray), 0)).2)), (30, .pointer (some ⟨b19, 1, none⟩)), (29, .agg cs62.toArray), (28, .pointer (some ⟨b57, o58 + Int.toNat 0 * 6, none⟩)), (27, .slice (some ⟨b57, o58, none⟩) (x1.args).length c53), (26, .pointer (some ⟨b7, 5, none⟩)), (25, .func (.func 56) #[] #[]), (24, .string ((r17.getD ((⟨#[]⟩ : ByteArray), 0)).1)), (23, .pointer (some ⟨b19, 0, none⟩)), (1, .pointer (some ⟨b7, 0, none⟩)), (3, .pointer (some ⟨b19, 0, none⟩)), (5, .func (.func 56) #[] #[])] (At.cons (At.cons (At.cons (At.cons (At.cons (At.cons (At.cons (At.cons (At.cons (At.cons hat hv0) hv1) hv2) hv3) hv4) hv5) hv6) hv7) hv8) hv9) ?_
      have S76 := S47.trans0 s69
      obtain ⟨hl77, HF⟩ := ite_none HF
      refine WL.val rfl rfl rfl (ov_addS rfl rfl hl77) <| WL.val rfl rfl rfl (ov_assign rfl) <| WL.nil <| WQ.seqN <| WC.ret <| WQ.blockRet <| WQ.thenRet <| WQ.ret1 rfl rfl ?_
      obtain rfl := Option.some.inj HF
      exact ⟨_, rfl, h68, S76, rfl⟩
    ·replace HF := bif_f hb51 HF
     refine WC.seq <| WC.region <| WL.val rfl rfl rfl (ov_move rfl) <| WL.val rfl rfl rfl (ov_assign rfl) <| WL.nil <| WQ.seqN <| WC.cond (b := r17.isSome) rfl (fun hb78 => ?_) (fun hb78 => ?_)
     ·replace HF := bif_t hb78 HF
      refine WC.seq ?_
      obtain ⟨A79, c80, rfl, rs81⟩ := RS.form (rs5.mono ((s9.le).trans ((s25.le).trans ((s36.le).trans le46))))
      obtain ⟨e82, he83, HF⟩ := bind_some HF
      obtain ⟨b84, o85, rfl, h87, h88, ra86⟩ := RS.atO rs81 he83
      obtain ⟨cs89, r90, hc91⟩ := ra86
      obtain ⟨r92, hr93, HF⟩ := bind_some HF
      obtain ⟨hl94, HF⟩ := ite_none HF
      obtain ⟨hl95, HF⟩ := ite_none HF
      obtain ⟨hl96, HF⟩ := ite_none HF
      obtain ⟨e97, he98, HF⟩ := bind_some HF
      obtain ⟨b99, o100, hA, h102, h103, ra101⟩ := RS.atO rs81 he98
      obtain ⟨rfl, rfl⟩ := some_addr hA
      obtain ⟨cs104, r105, hc106⟩ := ra101
      obtain ⟨r107, hr108, HF⟩ := bind_some HF
      refine WC.drawn (m := 22) [(1, .pointer (some ⟨b7, 0, none⟩)), (3, .pointer (some ⟨b19, 0, none⟩)), (5, .func (.func 56) #[] #[])] [1, 3, 5] rfl (fun i v w h => match i with | 0 => v = .func (.func 56) #[] #[] | 1 => v = .pointer (some ⟨b7, 5, none⟩) | 2 => v = .slice (some ⟨b84, o85, none⟩) (x1.args).length c80 | 3 => v = .pointer (some ⟨b84, o85 + Int.toNat 0 * 6, none⟩) | 4 => v = .agg cs89.toArray | 5 => v = .pointer (some ⟨b19, 1, none⟩) | 6 => v = .int .i64 ((r17.getD ((⟨#[]⟩ : ByteArray), 0)).2) | 7 => v = .string r92 | 8 => v = .string (r92 ++ (⟨#[32]⟩ : ByteArray)) | 9 => v = .pointer (some ⟨b19, 0, none⟩) | 10 => v = .string ((r17.getD ((⟨#[]⟩ : ByteArray), 0)).1) | 11 => v = .string ((r92 ++ (⟨#[32]⟩ : ByteArray)) ++ ((r17.getD ((⟨#[]⟩ : ByteArray), 0)).1)) | 12 => v = .string (((r92 ++ (⟨#[32]⟩ : ByteArray)) ++ ((r17.getD ((⟨#[]⟩ : ByteArray), 0)).1)) ++ (⟨#[32]⟩ : ByteArray)) | 13 => v = .func (.func 56) #[] #[] | 14 => v = .pointer (some ⟨b7, 5, none⟩) | 15 => v = .slice (some ⟨b84, o85, none⟩) (x1.args).length c80 | 16 => v = .pointer (some ⟨b84, o85 + Int.toNat 1 * 6, none⟩) | 17 => v = .agg cs104.toArray | 18 => v = .pointer (some ⟨b19, 1, none⟩) | 19 => v = .int .i64 ((r17.getD ((⟨#[]⟩ : ByteArray), 0)).2) | 20 => v = .int .i64 (IntKind.i64.wrap (((r17.getD ((⟨#[]⟩ : ByteArray), 0)).2) + 1)) | 21 => v = .string r107 | _ => True) t_mixed S47.sub rfl rfl rfl rfl rfl ?_ ?_ ?_
      ·intro i v w h w2 h2 hΦ hst
       match i, hΦ with
       | 0, hΦ => exact hΦ
       | 1, hΦ => exact hΦ
       | 2, hΦ => exact hΦ
       | 3, hΦ => exact hΦ
       | 4, hΦ => exact hΦ
       | 5, hΦ => exact hΦ
       | 6, hΦ => exact hΦ
       | 7, hΦ => exact hΦ
       | 8, hΦ => exact hΦ
       | 9, hΦ => exact hΦ
       | 10, hΦ => exact hΦ
       | 11, hΦ => exact hΦ
       | 12, hΦ => exact hΦ
       | 13, hΦ => exact hΦ
       | 14, hΦ => exact hΦ
       | 15, hΦ => exact hΦ
       | 16, hΦ => exact hΦ
       | 17, hΦ => exact hΦ
       | 18, hΦ => exact hΦ
       | 19, hΦ => exact hΦ
       | 20, hΦ => exact hΦ
       | 21, hΦ => exact hΦ
       | i + 22, _ => exact trivial
      ·refine ⟨?_, ?_, ?_, ?_, ?_, ?_, ?_, ?_, ?_, ?_, ?_, ?_, ?_, ?_, ?_, ?_, ?_, ?_, ?_, ?_, ?_, ?_, trivial⟩
       ·intro a w109 h110 s111 hat hF
        exact front_val (show At _ [(1, .pointer (some ⟨b7, 0, none⟩)), (3, .pointer (some ⟨b19, 0, none⟩)), (5, .func (.func 56) #[] #[])] _ from hat) rfl (ov_move rfl) s111.sub (by exact rfl)
       ·intro a w109 h110 s111 hat hF
        exact front_val (show At _ [(1, .pointer (some ⟨b7, 0, none⟩)), (3, .pointer (some ⟨b19, 0, none⟩)), (5, .func (.func 56) #[] #[])] _ from hat) rfl (ov_fieldAddr rfl t_field_32_5) s111.sub (by exact rfl)
       ·intro a w109 h110 s111 hat hF
        obtain hv1 := hF 1 37 rfl rfl
        have ob112 := (ob49.step0 s111)
        exact front_val (show At _ [(37, .pointer (some ⟨b7, 5, none⟩)), (1, .pointer (some ⟨b7, 0, none⟩)), (3, .pointer (some ⟨b19, 0, none⟩)), (5, .func (.func 56) #[] #[])] _ from (At.cons hat hv1)) rfl (ov_load1 rfl t_agg_30 (OB.cell ob112 (j := 5) rfl)) s111.sub (by exact rfl)
       ·intro a w109 h110 s111 hat hF
        obtain hv2 := hF 2 38 rfl rfl
        exact front_val (show At _ [(38, .slice (some ⟨b84, o85, none⟩) (x1.args).length c80), (1, .pointer (some ⟨b7, 0, none⟩)), (3, .pointer (some ⟨b19, 0, none⟩)), (5, .func (.func 56) #[] #[])] _ from (At.cons hat hv2)) rfl (ov_indexAddr rfl rfl t_slice_30 t_size_32 h87 h88) s111.sub (by exact rfl)
       ·intro a w109 h110 s111 hat hF
        obtain hv3 := hF 3 39 rfl rfl
        exact front_val (show At _ [(39, .pointer (some ⟨b84, o85 + Int.toNat 0 * 6, none⟩)), (1, .pointer (some ⟨b7, 0, none⟩)), (3, .pointer (some ⟨b19, 0, none⟩)), (5, .func (.func 56) #[] #[])] _ from (At.cons hat hv3)) rfl (ov_loadN (cs := cs89) rfl t_agg_32 (by rw [Rp.len (Rp.mono (s111.le) r90)]; exact t_size_32) (fun j v hv => s111.sub.at_ _ _ _ ((fun i v hv => (s111.le).1 _ _ _ (hc91 i v hv)) j v hv))) s111.sub (by exact rfl)
       ·intro a w109 h110 s111 hat hF
        exact front_val (show At _ [(1, .pointer (some ⟨b7, 0, none⟩)), (3, .pointer (some ⟨b19, 0, none⟩)), (5, .func (.func 56) #[] #[])] _ from hat) rfl (ov_fieldAddr rfl t_field_91_1) s111.sub (by exact rfl)
       ·intro a w109 h110 s111 hat hF
        obtain hv5 := hF 5 41 rfl rfl
        have ob113 := (ob50.step0 s111)
        exact front_val (show At _ [(41, .pointer (some ⟨b19, 1, none⟩)), (1, .pointer (some ⟨b7, 0, none⟩)), (3, .pointer (some ⟨b19, 0, none⟩)), (5, .func (.func 56) #[] #[])] _ from (At.cons hat hv5)) rfl (ov_load1 rfl t_agg_3 (OB.cell ob113 (j := 1) rfl)) s111.sub (by exact rfl)
       ·intro a w109 h110 s111 hat hF
        obtain hv0 := hF 0 36 rfl rfl
        obtain hv4 := hF 4 40 rfl rfl
        obtain hv6 := hF 6 42 rfl rfl
        refine front_call (show At _ [(42, .int .i64 ((r17.getD ((⟨#[]⟩ : ByteArray), 0)).2)), (40, .agg cs89.toArray), (36, .func (.func 56) #[] #[]), (1, .pointer (some ⟨b7, 0, none⟩)), (3, .pointer (some ⟨b19, 0, none⟩)), (5, .func (.func 56) #[] #[])] _ from (At.cons (At.cons (At.cons hat hv0) hv4) hv6)) rfl (oc_val (vs := [.agg cs89.toArray, .int .i64 ((r17.getD ((⟨#[]⟩ : ByteArray), 0)).2)]) (caps := []) rfl rfl t_ent_56) ((IH _ (Nat.le_refl _)).2.2 hr93 s111.sub (Rp.mono (s111.le) r90)) ?_
        rintro _ w114 ⟨h115, s116, rfl⟩
        exact ⟨_, h115, rfl, s116, (by exact rfl)⟩
       ·intro a w109 h110 s111 hat hF
        obtain hv7 := hF 7 43 rfl rfl
        exact front_val (show At _ [(43, .string r92), (1, .pointer (some ⟨b7, 0, none⟩)), (3, .pointer (some ⟨b19, 0, none⟩)), (5, .func (.func 56) #[] #[])] _ from (At.cons hat hv7)) rfl (ov_addS rfl rfl hl94) s111.sub (by exact rfl)
       ·intro a w109 h110 s111 hat hF
        exact front_val (show At _ [(1, .pointer (some ⟨b7, 0, none⟩)), (3, .pointer (some ⟨b19, 0, none⟩)), (5, .func (.func 56) #[] #[])] _ from hat) rfl (ov_fieldAddr rfl t_field_91_0) s111.sub (by exact rfl)
       ·intro a w109 h110 s111 hat hF
        obtain hv9 := hF 9 45 rfl rfl
        have ob117 := (ob50.step0 s111)
        exact front_val (show At _ [(45, .pointer (some ⟨b19, 0, none⟩)), (1, .pointer (some ⟨b7, 0, none⟩)), (3, .pointer (some ⟨b19, 0, none⟩)), (5, .func (.func 56) #[] #[])] _ from (At.cons hat hv9)) rfl (ov_load1 rfl t_agg_9 (OB.cell ob117 (j := 0) rfl)) s111.sub (by exact rfl)
       ·intro a w109 h110 s111 hat hF
        obtain hv8 := hF 8 44 rfl rfl
        obtain hv10 := hF 10 46 rfl rfl
        exact front_val (show At _ [(46, .string ((r17.getD ((⟨#[]⟩ : ByteArray), 0)).1)), (44, .string (r92 ++ (⟨#[32]⟩ : ByteArray))), (1, .pointer (some ⟨b7, 0, none⟩)), (3, .pointer (some ⟨b19, 0, none⟩)), (5, .func (.func 56) #[] #[])] _ from (At.cons (At.cons hat hv8) hv10)) rfl (ov_addS rfl rfl hl95) s111.sub (by exact rfl)
       ·intro a w109 h110 s111 hat hF
        obtain hv11 := hF 11 47 rfl rfl
        exact front_val (show At _ [(47, .string ((r92 ++ (⟨#[32]⟩ : ByteArray)) ++ ((r17.getD ((⟨#[]⟩ : ByteArray), 0)).1))), (1, .pointer (some ⟨b7, 0, none⟩)), (3, .pointer (some ⟨b19, 0, none⟩)), (5, .func (.func 56) #[] #[])] _ from (At.cons hat hv11)) rfl (ov_addS rfl rfl hl96) s111.sub (by exact rfl)
       ·intro a w109 h110 s111 hat hF
        exact front_val (show At _ [(1, .pointer (some ⟨b7, 0, none⟩)), (3, .pointer (some ⟨b19, 0, none⟩)), (5, .func (.func 56) #[] #[])] _ from hat) rfl (ov_move rfl) s111.sub (by exact rfl)
       ·intro a w109 h110 s111 hat hF
        exact front_val (show At _ [(1, .pointer (some ⟨b7, 0, none⟩)), (3, .pointer (some ⟨b19, 0, none⟩)), (5, .func (.func 56) #[] #[])] _ from hat) rfl (ov_fieldAddr rfl t_field_32_5) s111.sub (by exact rfl)
       ·intro a w109 h110 s111 hat hF
        obtain hv14 := hF 14 50 rfl rfl
        have ob118 := (ob49.step0 s111)
        exact front_val (show At _ [(50, .pointer (some ⟨b7, 5, none⟩)), (1, .pointer (some ⟨b7, 0, none⟩)), (3, .pointer (some ⟨b19, 0, none⟩)), (5, .func (.func 56) #[] #[])] _ from (At.cons hat hv14)) rfl (ov_load1 rfl t_agg_30 (OB.cell ob118 (j := 5) rfl)) s111.sub (by exact rfl)
       ·intro a w109 h110 s111 hat hF
        obtain hv15 := hF 15 51 rfl rfl
        exact front_val (show At _ [(51, .slice (some ⟨b84, o85, none⟩) (x1.args).length c80), (1, .pointer (some ⟨b7, 0, none⟩)), (3, .pointer (some ⟨b19, 0, none⟩)), (5, .func (.func 56) #[] #[])] _ from (At.cons hat hv15)) rfl (ov_indexAddr rfl rfl t_slice_30 t_size_32 h102 h103) s111.sub (by exact rfl)
       ·intro a w109 h110 s111 hat hF
        obtain hv16 := hF 16 52 rfl rfl
        exact front_val (show At _ [(52, .pointer (some ⟨b84, o85 + Int.toNat 1 * 6, none⟩)), (1, .pointer (some ⟨b7, 0, none⟩)), (3, .pointer (some ⟨b19, 0, none⟩)), (5, .func (.func 56) #[] #[])] _ from (At.cons hat hv16)) rfl (ov_loadN (cs := cs104) rfl t_agg_32 (by rw [Rp.len (Rp.mono (s111.le) r105)]; exact t_size_32) (fun j v hv => s111.sub.at_ _ _ _ ((fun i v hv => (s111.le).1 _ _ _ (hc106 i v hv)) j v hv))) s111.sub (by exact rfl)
       ·intro a w109 h110 s111 hat hF
        exact front_val (show At _ [(1, .pointer (some ⟨b7, 0, none⟩)), (3, .pointer (some ⟨b19, 0, none⟩)), (5, .func (.func 56) #[] #[])] _ from hat) rfl (ov_fieldAddr rfl t_field_91_1) s111.sub (by exact rfl)
       ·intro a w109 h110 s111 hat hF
        obtain hv18 := hF 18 54 rfl rfl
        have ob119 := (ob50.step0 s111)
        exact front_val (show At _ [(54, .pointer (some ⟨b19, 1, none⟩)), (1, .pointer (some ⟨b7, 0, none⟩)), (3, .pointer (some ⟨b19, 0, none⟩)), (5, .func (.func 56) #[] #[])] _ from (At.cons hat hv18)) rfl (ov_load1 rfl t_agg_3 (OB.cell ob119 (j := 1) rfl)) s111.sub (by exact rfl)
       ·intro a w109 h110 s111 hat hF
        obtain hv19 := hF 19 55 rfl rfl
        exact front_val (show At _ [(55, .int .i64 ((r17.getD ((⟨#[]⟩ : ByteArray), 0)).2)), (1, .pointer (some ⟨b7, 0, none⟩)), (3, .pointer (some ⟨b19, 0, none⟩)), (5, .func (.func 56) #[] #[])] _ from (At.cons hat hv19)) rfl (ov_add rfl rfl) s111.sub (by exact rfl)
       ·intro a w109 h110 s111 hat hF
        obtain hv13 := hF 13 49 rfl rfl
        obtain hv17 := hF 17 53 rfl rfl
        obtain hv20 := hF 20 56 rfl rfl
        refine front_call (show At _ [(56, .int .i64 (IntKind.i64.wrap (((r17.getD ((⟨#[]⟩ : ByteArray), 0)).2) + 1))), (53, .agg cs104.toArray), (49, .func (.func 56) #[] #[]), (1, .pointer (some ⟨b7, 0, none⟩)), (3, .pointer (some ⟨b19, 0, none⟩)), (5, .func (.func 56) #[] #[])] _ from (At.cons (At.cons (At.cons hat hv13) hv17) hv20)) rfl (oc_val (vs := [.agg cs104.toArray, .int .i64 (IntKind.i64.wrap (((r17.getD ((⟨#[]⟩ : ByteArray), 0)).2) + 1))]) (caps := []) rfl rfl t_ent_56) ((IH _ (Nat.le_refl _)).2.2 hr108 s111.sub (Rp.mono (s111.le) r105)) ?_
        rintro _ w120 ⟨h121, s122, rfl⟩
        exact ⟨_, h121, rfl, s122, (by exact rfl)⟩
      ·intro a w109 h110 s111 hat hF
       obtain hv0 := hF 0 36 (by decide) rfl
       obtain hv1 := hF 1 37 (by decide) rfl
       obtain hv2 := hF 2 38 (by decide) rfl
       obtain hv3 := hF 3 39 (by decide) rfl
       obtain hv4 := hF 4 40 (by decide) rfl
       obtain hv5 := hF 5 41 (by decide) rfl
       obtain hv6 := hF 6 42 (by decide) rfl
       obtain hv7 := hF 7 43 (by decide) rfl
       obtain hv8 := hF 8 44 (by decide) rfl
       obtain hv9 := hF 9 45 (by decide) rfl
       obtain hv10 := hF 10 46 (by decide) rfl
       obtain hv11 := hF 11 47 (by decide) rfl
       obtain hv12 := hF 12 48 (by decide) rfl
       obtain hv13 := hF 13 49 (by decide) rfl
       obtain hv14 := hF 14 50 (by decide) rfl
       obtain hv15 := hF 15 51 (by decide) rfl
       obtain hv16 := hF 16 52 (by decide) rfl
       obtain hv17 := hF 17 53 (by decide) rfl
       obtain hv18 := hF 18 54 (by decide) rfl
       obtain hv19 := hF 19 55 (by decide) rfl
       obtain hv20 := hF 20 56 (by decide) rfl
       obtain hv21 := hF 21 57 (by decide) rfl
       refine WL.at_ [(57, .string r107), (56, .int .i64 (IntKind.i64.wrap (((r17.getD ((⟨#[]⟩ : ByteArray), 0)).2) + 1))), (55, .int .i64 ((r17.getD ((⟨#[]⟩ : ByteArray), 0)).2)), (54, .pointer (some ⟨b19, 1, none⟩)), (53, .agg cs104.toArray), (52, .pointer (some ⟨b84, o85 + Int.toNat 1 * 6, none⟩)), (51, .slice (some ⟨b84, o85, none⟩) (x1.args).length c80), (50, .pointer (some ⟨b7, 5, none⟩)), (49, .func (.func 56) #[] #[]), (48, .string (((r92 ++ (⟨#[32]⟩ : ByteArray)) ++ ((r17.getD ((⟨#[]⟩ : ByteArray), 0)).1)) ++ (⟨#[32]⟩ : ByteArray))), (47, .string ((r92 ++ (⟨#[32]⟩ : ByteArray)) ++ ((r17.getD ((⟨#[]⟩ : ByteArray), 0)).1))), (46, .string ((r17.getD ((⟨#[]⟩ : ByteArray), 0)).1)), (45, .pointer (some ⟨b19, 0, none⟩)), (44, .string (r92 ++ (⟨#[32]⟩ : ByteArray))), (43, .string r92), (42, .int .i64 ((r17.getD ((⟨#[]⟩ : ByteArray), 0)).2)), (41, .pointer (some ⟨b19, 1, none⟩)), (40, .agg cs89.toArray), (39, .pointer (some ⟨b84, o85 + Int.toNat 0 * 6, none⟩)), (38, .slice (some ⟨b84, o85, none⟩) (x1.args).length c80), (37, .pointer (some ⟨b7, 5, none⟩)), (36, .func (.func 56) #[] #[]), (1, .pointer (some ⟨b7, 0, none⟩)), (3, .pointer (some ⟨b19, 0, none⟩)), (5, .func (.func 56) #[] #[])] (At.cons (At.cons (At.cons (At.cons (At.cons (At.cons (At.cons (At.cons (At.cons (At.cons (At.cons (At.cons (At.cons (At.cons (At.cons (At.cons (At.cons (At.cons (At.cons (At.cons (At.cons (At.cons hat hv0) hv1) hv2) hv3) hv4) hv5) hv6) hv7) hv8) hv9) hv10) hv11) hv12) hv13) hv14) hv15) hv16) hv17) hv18) hv19) hv20) hv21) ?_
       have S123 := S47.trans0 s111
       obtain ⟨hl124, HF⟩ := ite_none HF
       refine WL.val rfl rfl rfl (ov_addS rfl rfl hl124) <| WL.val rfl rfl rfl (ov_assign rfl) <| WL.nil <| WQ.seqN <| WC.ret <| WQ.blockRet <| WQ.thenRet <| WQ.ret1 rfl rfl ?_
       obtain rfl := Option.some.inj HF
       exact ⟨_, rfl, h110, S123, rfl⟩
     ·replace HF := bif_f hb78 HF
      refine WC.skip <| WQ.blockN <| WC.to [1] [(1, .pointer (some ⟨b7, 0, none⟩))] rfl ?_
      exact J192 ⟨h44, HF, rfl, S47, le46, ob49⟩
   ·intro J125
    refine WC.region <| WL.val rfl rfl rfl (ov_move rfl) <| WL.val rfl rfl rfl (ov_move rfl) <| WL.split 17 (b := r17.isSome) rfl (fun hb39 => ?_) (fun hb39 => ?_)
    ·replace HF := bif_t hb39 HF
     refine WL.val rfl rfl rfl (ov_fieldAddr rfl t_field_32_5) ?_
     have ob40 := ((ob10.step0 s25).step1 s36 ne21)
     refine WL.val rfl rfl rfl (ov_load1 rfl t_agg_30 (OB.cell ob40 (j := 5) rfl)) ?_
     obtain ⟨A41, c42, rfl, rs43⟩ := RS.form (rs5.mono ((s9.le).trans ((s25.le).trans s36.le)))
     refine WL.val rfl rfl rfl (ov_lenL rfl t_slice_30) <| WL.val rfl rfl rfl (ov_eql rfl rfl) <| WL.val rfl rfl rfl (ov_pickT rfl rfl) <| WL.val rfl rfl rfl (ov_assign rfl) <| WL.nil <| WC.to [1, 3, 4, 5, 15] [(1, .pointer (some ⟨b7, 0, none⟩)), (3, .pointer (some ⟨b19, 0, none⟩)), (4, .bool r17.isSome), (5, .func (.func 56) #[] #[]), (15, .bool (((x1.args.length : Int) : Int) == 1))] rfl ?_
     exact J125 ⟨h24, ((x1.args.length : Int) : Int) == 1, HF, rfl, S38, Hle.refl _, ob40, ob37⟩
    ·replace HF := bif_f hb39 HF
     refine WL.pass rfl rfl rfl <| WL.pass rfl rfl rfl <| WL.pass rfl rfl rfl <| WL.pass rfl rfl rfl <| WL.val rfl rfl rfl (ov_pickF rfl rfl) <| WL.val rfl rfl rfl (ov_assign rfl) <| WL.nil ?_
     have ob126 := ((ob10.step0 s25).step1 s36 ne21)
     refine WC.to [1, 3, 4, 5, 15] [(1, .pointer (some ⟨b7, 0, none⟩)), (3, .pointer (some ⟨b19, 0, none⟩)), (4, .bool r17.isSome), (5, .func (.func 56) #[] #[]), (15, .bool false)] rfl ?_
     exact J125 ⟨h24, false, HF, rfl, S38, Hle.refl _, ob126, ob37⟩
set_option maxRecDepth 20000 in
set_option maxHeartbeats 4000000 in
theorem s_print_Joined_api_Expr (k : Nat) (IH : ∀ j, j ≤ k → C_print_Of (tie_print_Of j).print_Of ∧ C_print_Joined_api_Expr (tie_print_Of j).print_Joined_api_Expr ∧ C_print_Of_1 (tie_print_Of j).print_Of_1) : C_print_Joined_api_Expr (m_print_Joined_api_Expr k (tie_print_Of k)) := by
 intro xs1 x4 r HF w0 h0 v2 hs0 rs3
 have S0 : Stp [] w0 h0 w0 h0 := Stp.refl hs0 _
 refine enter (n := 26) Tryz.func57 rfl Tryz.ntmps57 rfl [(0, v2), (1, .string x4), (2, .func (.func 27) #[] #[])] rfl <| WC.seq <| WC.region <| WL.val rfl rfl rfl (ov_assign rfl) <| WL.nil <| WQ.seqN <| WC.seq <| WC.region <| WL.val rfl rfl rfl (ov_assign rfl) <| WL.nil <| WQ.seqN <| WC.seq <| WC.seq <| WC.region <| WL.val rfl rfl rfl (ov_move rfl) ?_
 obtain ⟨A5, c6, rfl, rs7⟩ := RS.form rs3
 refine WL.val rfl rfl rfl (ov_lenL rfl t_slice_30) <| WL.val rfl rfl rfl (ov_move rfl) <| WL.nil <| WQ.seqN <| WC.block <| WC.loop <| WP.to [1, 2, 7, 10, 11, 12] [(1, .string x4), (2, .func (.func 27) #[] #[]), (7, .slice none 0 0), (10, .slice A5 (xs1).length c6), (11, .int .i64 (xs1.length : Int)), (12, .int .i64 0)] rfl <| WP_rule (K := k) (fun j E w9 => ∃ (h8 : Hp) (xs12 : List ByteArray) (v13 : Value) (x16 : Int), (tie_print_Of j).print_Joined_api_Expr_l1 xs1 x4 xs12 x16 = some r ∧ E = [(1, .string x4), (2, .func (.func 27) #[] #[]), (7, v13), (10, .slice A5 (xs1).length c6), (11, .int .i64 (xs1.length : Int)), (12, .int .i64 x16)] ∧ Stp [] w0 h0 w9 h8 ∧ Hle h0 h8 ∧ RS h8 v13 xs12 ∧ Own w9 h8 w0.heap.size 9 1 v13 xs12.length) ?_ ?_ (j := k) (Nat.le_refl _) ?_
 ·rintro E w9 ⟨_, _, _, _, HF, _⟩; cases HF
 ·rintro j17 hj19 IHL18 E w9 ⟨h8, xs12, v13, x16, HF, rfl, S11, le10, rs14, ow15⟩
  refine WC.seq <| WC.region <| WL.val rfl rfl rfl (ov_lss rfl rfl) <| WL.nil <| WQ.seqN <| WC.join (fun E w29 => ∃ (h28 : Hp) (xs32 : List ByteArray) (v33 : Value), print_Joined_api_Expr_j2 j17 (tie_print_Of j17) xs1 x4 x16 xs32 = some r ∧ E = [(1, .string x4), (2, .func (.func 27) #[] #[]), (7, v33), (10, .slice A5 (xs1).length c6), (11, .int .i64 (xs1.length : Int)), (12, .int .i64 x16)] ∧ Stp [] w0 h0 w29 h28 ∧ Hle h8 h28 ∧ RS h28 v33 xs32 ∧ Own w29 h28 w0.heap.size 9 1 v33 xs32.length) ?_ ?_
  ·rintro E w29 ⟨h28, xs32, v33, HF, rfl, S31, le30, rs34, ow35⟩
   refine WC.seq <| WC.block <| WC.seq <| WC.region ?_
   obtain ⟨e36, he37, HF⟩ := bind_some HF
   obtain ⟨b38, o39, rfl, h41, h42, ra40⟩ := RS.atO (rs7.mono ((le10).trans le30)) he37
   obtain ⟨cs43, r44, hc45⟩ := ra40
   refine WL.val rfl rfl rfl (ov_indexAddr rfl rfl t_slice_30 t_size_32 h41 h42) <| WL.val rfl rfl rfl (ov_loadN (cs := cs43) rfl t_agg_32 (by rw [Rp.len r44]; exact t_size_32) (fun j v hv => S31.sub.at_ _ _ _ (hc45 j v hv))) <| WL.alloc (zs := [.int .i64 0, .int .i64 0, .int .i64 0, .string (⟨#[]⟩ : ByteArray), .string (⟨#[]⟩ : ByteArray), .slice none 0 0]) rfl rfl t_zero_32 rfl S31.sub (fun w46 b47 hb48 s49 ob50 => ?_)
   have g51 : w0.heap.size ≤ b47 := by rw [hb48]; exact S31.size
   have S52 := S31.trans0 s49
   obtain ⟨v53, rfl, rs54⟩ := rp_Ex.1 (Rp.mono (s49.le) r44)
   refine WL.store (vs := [.int .i64 e36.op, .int .i64 e36.kind, .int .i64 e36.n, .string e36.s, .string e36.f, v53]) rfl rfl rfl rfl t_size_32 (one_cons rfl (one_cons rfl (one_cons rfl (one_cons rfl (one_cons rfl (one_cons (RS.one rs54) one_nil)))))) ob50 S52.sub (by simp) (ds := [.int .i64 e36.op, .int .i64 e36.kind, .int .i64 e36.n, .string e36.s, .string e36.f, v53]) rfl (fun w55 s56 ob57 => ?_)
   have S58 := S52.trans1 s56 (.inr g51)
   refine WL.nil <| WQ.seqN <| WC.region <| WL.val rfl rfl rfl (ov_move rfl) <| WL.val rfl rfl rfl (ov_move rfl) <| WL.val rfl rfl rfl (ov_loadN (cs := [.int .i64 e36.op, .int .i64 e36.kind, .int .i64 e36.n, .string e36.s, .string e36.f, v53]) rfl t_agg_32 t_size_32 (OB.cells ob57 0 rfl)) ?_
   obtain ⟨r59, hr60, HF⟩ := bind_some HF
   refine WL.call rfl rfl rfl (oc_val (vs := [.agg #[.int .i64 e36.op, .int .i64 e36.kind, .int .i64 e36.n, .string e36.s, .string e36.f, v53]]) (caps := []) rfl rfl t_ent_27) ((IH _ (Nat.le_trans (Nat.le_of_succ_le hj19) (Nat.le_refl _))).1 hr60 S58.sub (rp_Ex.2 ⟨_, rfl, (rs54.mono (s56.le))⟩)) ?_
   rintro _ w62 ⟨h63, s64, rfl⟩
   have S65 := S58.trans0 s64
   have ob73 := (ob57.step0 s64)
   refine WL.buildSliceD (us := [.string r59]) (cs := [.string r59]) rfl rfl rfl t_slice_41 t_size_9 t_zero_9 rfl (cl_cons rfl cl_nil) rfl rfl rfl S65.sub (fun w66 h67 b68 hb69 s70 hk71 hc72 => ?_)
   have S74 := S65.trans0 s70
   have rs75 : RS h67 (.slice (some ⟨b68, 0, none⟩) 1 1) ([r59] : List ByteArray) := RS.litL _ [[.string r59]] rfl rfl hc72 ⟨rfl, trivial⟩
   have ow76 := Own.lit (base := w0.heap.size) (sz := 1) (m := 1) hk71 hc72 (by rw [hb69]; exact S65.size) rfl (by decide)
   obtain ⟨hl77, HF⟩ := ite_none HF
   have ob85 := (ob73.step0 s70)
   refine WL.append (xs := (xs32 : List ByteArray)) (ys := [r59]) rfl rfl rfl rfl t_slice_41 t_size_9 t_zero_9 rfl t_bytes_9 rfl ((((ow35.step0 s49).step s56 (on_cons ((ow35.step0 s49).ne_ob ob50 (by decide)) on_nil)).step0 s64).step0 s70) (rs34.mono ((s49.le).trans ((s56.le).trans ((s64.le).trans s70.le)))) rs75 hl77 S74.sub S74.size (by rw [S74.eqb]; exact hs0.big) (fun v78 w79 h80 rs81 ow82 s83 at84 => ?_)
   have S86 := S74.trans s83 (fun i hi => .inr (((((ow35.step0 s49).step s56 (on_cons ((ow35.step0 s49).ne_ob ob50 (by decide)) on_nil)).step0 s64).step0 s70).base_le i hi))
   refine WL.val rfl rfl rfl (ov_assign rfl) <| WL.nil <| WQ.blockN <| WQ.seqN <| WC.region <| WL.val rfl rfl rfl (ov_add rfl rfl) <| WL.val rfl rfl rfl (ov_move rfl) <| WL.nil <| WQ.loopN <| WP.to [1, 2, 7, 10, 11, 12] [(1, .string x4), (2, .func (.func 27) #[] #[]), (7, v78), (10, .slice (some ⟨b38, o39, none⟩) (xs1).length c6), (11, .int .i64 (xs1.length : Int)), (12, .int .i64 (IntKind.i64.wrap (x16 + 1)))] rfl ?_
   exact IHL18 j17 (Nat.le_refl _) _ _ ⟨h80, xs32 ++ [r59], v78, IntKind.i64.wrap (x16 + 1), HF, rfl, S86, (le10).trans ((le30).trans ((s49.le).trans ((s56.le).trans ((s64.le).trans ((s70.le).trans s83.le))))), rs81, ow82⟩
  ·intro J87
   refine WC.cond (b := decide ((x16 : Int) < (xs1.length : Int))) rfl (fun hb20 => ?_) (fun hb20 => ?_)
   ·replace HF := bif_t hb20 HF
    refine WC.skip <| WC.to [1, 2, 7, 10, 11, 12] [(1, .string x4), (2, .func (.func 27) #[] #[]), (7, v13), (10, .slice A5 (xs1).length c6), (11, .int .i64 (xs1.length : Int)), (12, .int .i64 x16)] rfl ?_
    exact J87 ⟨h8, xs12, v13, HF, rfl, S11, Hle.refl _, rs14, ow15⟩
   ·replace HF := bif_f hb20 HF
    refine WC.exit <| WQ.thenExit <| WQ.thenExit <| WQ.blockHit <| WQ.seqN <| WC.seq <| WC.region <| WL.val rfl rfl rfl (ov_move rfl) <| WL.val rfl rfl rfl (ov_move rfl) ?_
    obtain ⟨r21, hr22, HF⟩ := bind_some HF
    refine WL.call rfl rfl rfl (oc_func (vs := [v13, .string x4]) rfl t_ent_67) (ok_strings_Join _ hr22 S11.sub rs14) ?_
    rintro _ w24 ⟨h25, s26, rfl⟩
    have S27 := S11.trans0 s26
    refine WL.val rfl rfl rfl (ov_assign rfl) <| WL.nil <| WQ.seqN <| WC.ret <| WQ.ret1 rfl rfl ?_
    obtain rfl := Option.some.inj HF
    exact ⟨_, rfl, h25, S27, rfl⟩
 ·exact ⟨h0, ([] : List ByteArray), .slice none 0 0, 0, HF, rfl, S0, Hle.refl _, (RS.nil _), (Own.nil _ _ _ _ _)⟩
set_option maxRecDepth 20000 in
set_option maxHeartbeats 4000000 in
theorem s_print_Of_1 (k : Nat) (IH : ∀ j, j ≤ k → C_print_Of (tie_print_Of j).print_Of ∧ C_print_Joined_api_Expr (tie_print_Of j).print_Joined_api_Expr ∧ C_print_Of_1 (tie_print_Of j).print_Of_1) : C_print_Of_1 (m_print_Of_1 k (tie_print_Of k)) := by
 intro x1 x4 r HF w0 h0 cs2 hs0 r3
 have S0 : Stp [] w0 h0 w0 h0 := Stp.refl hs0 _
 refine enter (n := 33) Tryz.func56 rfl Tryz.ntmps56 rfl [(0, .agg cs2.toArray), (1, .int .i64 x4)] rfl <| WC.seq <| WC.region ?_
 obtain ⟨v5, rfl, rs6⟩ := rp_Ex.1 r3
 refine WL.box (cs := [.int .i64 x1.op, .int .i64 x1.kind, .int .i64 x1.n, .string x1.s, .string x1.f, v5]) rfl rfl rfl rfl S0.sub (fun w7 b8 hb9 s10 ob11 => ?_)
 have g12 : w0.heap.size ≤ b8 := by rw [hb9]; exact S0.size
 have S13 := S0.trans0 s10
 refine WL.val rfl rfl rfl (ov_assign rfl) <| WL.nil <| WQ.seqN <| WC.join (fun E w65 => ∃ (h64 : Hp), print_Of_1_j2 k (tie_print_Of k) x1 = some r ∧ E = [(2, .pointer (some ⟨b8, 0, none⟩))] ∧ Stp [] w0 h0 w65 h64 ∧ Hle h0 h64 ∧ OB w65 h64 b8 32 [.int .i64 x1.op, .int .i64 x1.kind, .int .i64 x1.n, .string x1.s, .string x1.f, v5]) ?_ ?_
 ·rintro E w65 ⟨h64, HF, rfl, S67, le66, ob68⟩
  refine WC.seq <| WC.region <| WL.val rfl rfl rfl (ov_loadN (cs := [.int .i64 x1.op, .int .i64 x1.kind, .int .i64 x1.n, .string x1.s, .string x1.f, v5]) rfl t_agg_32 t_size_32 (OB.cells ob68 0 rfl)) ?_
  obtain ⟨r69, hr70, HF⟩ := bind_some HF
  refine WL.call rfl rfl rfl (oc_func (vs := [.agg #[.int .i64 x1.op, .int .i64 x1.kind, .int .i64 x1.n, .string x1.s, .string x1.f, v5]]) rfl t_ent_27) ((IH _ (Nat.le_refl _)).1 hr70 S67.sub (rp_Ex.2 ⟨_, rfl, (rs6.mono ((s10.le).trans le66))⟩)) ?_
  rintro _ w72 ⟨h73, s74, rfl⟩
  have S75 := S67.trans0 s74
  refine WL.val rfl rfl rfl (ov_assign rfl) <| WL.nil <| WQ.seqN <| WC.ret <| WQ.ret1 rfl rfl ?_
  obtain rfl := Option.some.inj HF
  exact ⟨_, rfl, h73, S75, rfl⟩
 ·intro J76
  refine WC.seq ?_
  obtain ⟨r14, hr15, HF⟩ := bind_some HF
  obtain ⟨r18, hr19, HF⟩ := bind_some HF
  replace hr19 := Option.some.inj hr19
  refine WC.drawnF (m := 8) [(1, .int .i64 x4), (2, .pointer (some ⟨b8, 0, none⟩))] [1, 2] [6] rfl (fun i v w h => match i with | 0 => ∃ (v16 : Value), v = v16 ∧ RM (fun x : ByteArray × Int => .agg #[.string x.1, .int .i64 x.2]) h v16 r14 | 1 => v = .pointer (some ⟨b8, 0, none⟩) | 2 => v = .int .i64 x1.op | 3 => v = .tuple #[.agg #[.string ((r18.getD ((⟨#[]⟩ : ByteArray), 0)).1), .int .i64 ((r18.getD ((⟨#[]⟩ : ByteArray), 0)).2)], .bool r18.isSome] | 4 => v = .tuple #[.agg #[.string ((r18.getD ((⟨#[]⟩ : ByteArray), 0)).1), .int .i64 ((r18.getD ((⟨#[]⟩ : ByteArray), 0)).2)], .bool r18.isSome] | 5 => v = .agg #[.string ((r18.getD ((⟨#[]⟩ : ByteArray), 0)).1), .int .i64 ((r18.getD ((⟨#[]⟩ : ByteArray), 0)).2)] | 6 => v = .bool r18.isSome | 7 => ∃ (b20 : Nat), v = .pointer (some ⟨b20, 0, none⟩) ∧ OB w h b20 91 [.string (⟨#[]⟩ : ByteArray), .int .i64 0] ∧ w0.heap.size ≤ b20 ∧ b8 ≠ b20 | _ => True) t_mixed S13.sub rfl rfl rfl rfl rfl rfl rfl ?_ ?_ ?_
  ·intro i v w h w2 h2 hΦ hst
   match i, hΦ with
   | 0, ⟨v16, hv0, rm17⟩ => exact ⟨v16, hv0, rm17.mono hst.le⟩
   | 1, hΦ => exact hΦ
   | 2, hΦ => exact hΦ
   | 3, hΦ => exact hΦ
   | 4, hΦ => exact hΦ
   | 5, hΦ => exact hΦ
   | 6, hΦ => exact hΦ
   | 7, ⟨b20, hv7, ob21, g23, ne22⟩ => exact ⟨b20, hv7, ob21.step0 hst, g23, ne22⟩
   | i + 8, _ => exact trivial
  ·refine (FrontsF.front rfl ?_ (FrontsF.front rfl ?_ (FrontsF.front rfl ?_ (FrontsF.front rfl ?_ (FrontsF.front rfl ?_ (FrontsF.front rfl ?_ (FrontsF.float rfl ?_ (FrontsF.front rfl ?_ FrontsF.nil))))))))
   ·intro a w24 h25 s26 hat hF
    refine front_call (show At _ [(1, .int .i64 x4), (2, .pointer (some ⟨b8, 0, none⟩))] _ from hat) rfl (oc_func (vs := []) rfl t_ent_55) (ok_print_signs _ hr15 s26.sub) ?_
    rintro v16 w27 ⟨h28, s29, rm17⟩
    exact ⟨_, h28, rfl, s29, (by exact ⟨v16, rfl, rm17⟩)⟩
   ·intro a w24 h25 s26 hat hF
    exact front_val (show At _ [(1, .int .i64 x4), (2, .pointer (some ⟨b8, 0, none⟩))] _ from hat) rfl (ov_fieldAddr rfl t_field_32_0) s26.sub (by exact rfl)
   ·intro a w24 h25 s26 hat hF
    obtain hv1 := hF 1 9 rfl rfl
    have ob30 := (ob11.step0 s26)
    exact front_val (show At _ [(9, .pointer (some ⟨b8, 0, none⟩)), (1, .int .i64 x4), (2, .pointer (some ⟨b8, 0, none⟩))] _ from (At.cons hat hv1)) rfl (ov_load1 rfl t_agg_3 (OB.cell ob30 (j := 0) rfl)) s26.sub (by exact rfl)
   ·intro a w24 h25 s26 hat hF
    obtain ⟨v16, hv0, rm17⟩ := hF 0 8 rfl rfl
    obtain hv2 := hF 2 10 rfl rfl
    exact front_val (show At _ [(10, .int .i64 x1.op), (8, v16), (1, .int .i64 x4), (2, .pointer (some ⟨b8, 0, none⟩))] _ from (At.cons (At.cons hat hv0) hv2)) rfl (ov_lookupI2 (evl := (fun x : ByteArray × Int => .agg #[.string x.1, .int .i64 x.2])) (z := ((⟨#[]⟩ : ByteArray), 0)) rfl rfl t_map_93 t_int_3 t_zero_91 rm17 s26.sub hr19) s26.sub (by exact rfl)
   ·intro a w24 h25 s26 hat hF
    obtain hv3 := hF 3 11 rfl rfl
    exact front_val (show At _ [(11, .tuple #[.agg #[.string ((r18.getD ((⟨#[]⟩ : ByteArray), 0)).1), .int .i64 ((r18.getD ((⟨#[]⟩ : ByteArray), 0)).2)], .bool r18.isSome]), (1, .int .i64 x4), (2, .pointer (some ⟨b8, 0, none⟩))] _ from (At.cons hat hv3)) rfl (ov_move rfl) s26.sub (by exact rfl)
   ·intro a w24 h25 s26 hat hF
    obtain hv4 := hF 4 7 rfl rfl
    exact front_val (show At _ [(7, .tuple #[.agg #[.string ((r18.getD ((⟨#[]⟩ : ByteArray), 0)).1), .int .i64 ((r18.getD ((⟨#[]⟩ : ByteArray), 0)).2)], .bool r18.isSome]), (1, .int .i64 x4), (2, .pointer (some ⟨b8, 0, none⟩))] _ from (At.cons hat hv4)) rfl (ov_extract rfl rfl) s26.sub (by exact rfl)
   ·intro a w24 h25 ww s26 hat hF
    obtain hv4 := hF 4 7 rfl rfl
    exact front_float (show At _ [(7, .tuple #[.agg #[.string ((r18.getD ((⟨#[]⟩ : ByteArray), 0)).1), .int .i64 ((r18.getD ((⟨#[]⟩ : ByteArray), 0)).2)], .bool r18.isSome]), (1, .int .i64 x4), (2, .pointer (some ⟨b8, 0, none⟩))] _ from (At.cons hat hv4)) rfl (ov_extract rfl rfl) (by exact rfl)
   ·intro a w24 h25 s26 hat hF
    have ob34 := (ob11.step0 s26)
    exact front_alloc (zs := [.string (⟨#[]⟩ : ByteArray), .int .i64 0]) (show At _ [(1, .int .i64 x4), (2, .pointer (some ⟨b8, 0, none⟩))] _ from hat) rfl t_zero_91 rfl s26.sub (fun w33 b20 hb31 s32 ob21 => ⟨b20, rfl, ob21, by rw [hb31]; exact Nat.le_trans S13.size s26.size, ob34.ne_new hb31⟩)
  ·intro a w24 h25 s26 hat hF
   obtain ⟨v16, hv0, rm17⟩ := hF 0 8 (by decide) rfl rfl
   obtain hv1 := hF 1 9 (by decide) rfl rfl
   obtain hv2 := hF 2 10 (by decide) rfl rfl
   obtain hv3 := hF 3 11 (by decide) rfl rfl
   obtain hv4 := hF 4 7 (by decide) rfl rfl
   obtain hv5 := hF 5 12 (by decide) rfl rfl
   obtain ⟨b20, hv7, ob21, g23, ne22⟩ := hF 7 5 (by decide) rfl rfl
   have S35 := S13.trans0 s26
   refine F.store [(5, .pointer (some ⟨b20, 0, none⟩)), (12, .agg #[.string ((r18.getD ((⟨#[]⟩ : ByteArray), 0)).1), .int .i64 ((r18.getD ((⟨#[]⟩ : ByteArray), 0)).2)]), (7, .tuple #[.agg #[.string ((r18.getD ((⟨#[]⟩ : ByteArray), 0)).1), .int .i64 ((r18.getD ((⟨#[]⟩ : ByteArray), 0)).2)], .bool r18.isSome]), (11, .tuple #[.agg #[.string ((r18.getD ((⟨#[]⟩ : ByteArray), 0)).1), .int .i64 ((r18.getD ((⟨#[]⟩ : ByteArray), 0)).2)], .bool r18.isSome]), (10, .int .i64 x1.op), (9, .pointer (some ⟨b8, 0, none⟩)), (8, v16), (1, .int .i64 x4), (2, .pointer (some ⟨b8, 0, none⟩))] (At.cons (At.cons (At.cons (At.cons (At.cons (At.cons (At.cons hat hv0) hv1) hv2) hv3) hv4) hv5) hv7) rfl (vs := [.string ((r18.getD ((⟨#[]⟩ : ByteArray), 0)).1), .int .i64 ((r18.getD ((⟨#[]⟩ : ByteArray), 0)).2)]) rfl rfl rfl t_size_91 (one_cons rfl (one_cons rfl one_nil)) ob21 S35.sub (by simp) (ds := [.string ((r18.getD ((⟨#[]⟩ : ByteArray), 0)).1), .int .i64 ((r18.getD ((⟨#[]⟩ : ByteArray), 0)).2)]) rfl (fun w36 s37 ob38 a2 hat2 hG => ?_)
   have S39 := S35.trans1 s37 (.inr g23)
   obtain hv6 := hG 6 13 (by decide) rfl rfl
   refine WL.at_ [(13, .bool r18.isSome), (5, .pointer (some ⟨b20, 0, none⟩)), (12, .agg #[.string ((r18.getD ((⟨#[]⟩ : ByteArray), 0)).1), .int .i64 ((r18.getD ((⟨#[]⟩ : ByteArray), 0)).2)]), (7, .tuple #[.agg #[.string ((r18.getD ((⟨#[]⟩ : ByteArray), 0)).1), .int .i64 ((r18.getD ((⟨#[]⟩ : ByteArray), 0)).2)], .bool r18.isSome]), (11, .tuple #[.agg #[.string ((r18.getD ((⟨#[]⟩ : ByteArray), 0)).1), .int .i64 ((r18.getD ((⟨#[]⟩ : ByteArray), 0)).2)], .bool r18.isSome]), (10, .int .i64 x1.op), (9, .pointer (some ⟨b8, 0, none⟩)), (8, v16), (1, .int .i64 x4), (2, .pointer (some ⟨b8, 0, none⟩))] (At.cons hat2 hv6) <| WL.val rfl rfl rfl (ov_assign rfl) <| WL.nil <| WQ.seqN <| WC.join (fun E w47 => ∃ (h46 : Hp) (x50 : Bool), print_Of_1_j1 k (tie_print_Of k) x1 x50 = some r ∧ E = [(2, .pointer (some ⟨b8, 0, none⟩)), (26, .bool x50)] ∧ Stp [] w0 h0 w47 h46 ∧ Hle h25 h46 ∧ OB w47 h46 b8 32 [.int .i64 x1.op, .int .i64 x1.kind, .int .i64 x1.n, .string x1.s, .string x1.f, v5]) ?_ ?_
   ·rintro E w47 ⟨h46, x50, HF, rfl, S49, le48, ob51⟩
    refine WC.cond (b := x50) rfl (fun hb52 => ?_) (fun hb52 => ?_)
    ·replace HF := bif_t hb52 HF
     refine WC.seq <| WC.region <| WL.val rfl rfl rfl (ov_loadN (cs := [.int .i64 x1.op, .int .i64 x1.kind, .int .i64 x1.n, .string x1.s, .string x1.f, v5]) rfl t_agg_32 t_size_32 (OB.cells ob51 0 rfl)) ?_
     obtain ⟨r53, hr54, HF⟩ := bind_some HF
     refine WL.call rfl rfl rfl (oc_func (vs := [.agg #[.int .i64 x1.op, .int .i64 x1.kind, .int .i64 x1.n, .string x1.s, .string x1.f, v5]]) rfl t_ent_27) ((IH _ (Nat.le_refl _)).1 hr54 S49.sub (rp_Ex.2 ⟨_, rfl, (rs6.mono ((s10.le).trans ((s26.le).trans ((s37.le).trans le48))))⟩)) ?_
     rintro _ w56 ⟨h57, s58, rfl⟩
     have S59 := S49.trans0 s58
     obtain ⟨hl60, HF⟩ := ite_none HF
     refine WL.val rfl rfl rfl (ov_addS rfl rfl hl60) ?_
     obtain ⟨hl61, HF⟩ := ite_none HF
     refine WL.val rfl rfl rfl (ov_addS rfl rfl hl61) <| WL.val rfl rfl rfl (ov_assign rfl) <| WL.nil <| WQ.seqN <| WC.ret <| WQ.thenRet <| WQ.ret1 rfl rfl ?_
     obtain rfl := Option.some.inj HF
     exact ⟨_, rfl, h57, S59, rfl⟩
    ·replace HF := bif_f hb52 HF
     refine WC.skip <| WC.to [2] [(2, .pointer (some ⟨b8, 0, none⟩))] rfl ?_
     exact J76 ⟨h46, HF, rfl, S49, (s26.le).trans ((s37.le).trans le48), ob51⟩
   ·intro J62
    refine WC.region <| WL.val rfl rfl rfl (ov_move rfl) <| WL.val rfl rfl rfl (ov_move rfl) <| WL.split 15 (b := r18.isSome) rfl (fun hb40 => ?_) (fun hb40 => ?_)
    ·replace HF := bif_t hb40 HF
     refine WL.val rfl rfl rfl (ov_fieldAddr rfl t_field_32_5) ?_
     have ob41 := ((ob11.step0 s26).step1 s37 ne22)
     refine WL.val rfl rfl rfl (ov_load1 rfl t_agg_30 (OB.cell ob41 (j := 5) rfl)) ?_
     obtain ⟨A42, c43, rfl, rs44⟩ := RS.form (rs6.mono ((s10.le).trans ((s26.le).trans s37.le)))
     refine WL.val rfl rfl rfl (ov_lenL rfl t_slice_30) <| WL.val rfl rfl rfl (ov_eql rfl rfl) <| WL.val rfl rfl rfl (ov_pickT rfl rfl) <| WL.val rfl rfl rfl (ov_move rfl) <| WL.split 21 (b := ((x1.args.length : Int) : Int) == 2) rfl (fun hb45 => ?_) (fun hb45 => ?_)
     ·replace HF := bif_t hb45 HF
      refine WL.val rfl rfl rfl (ov_fieldAddr rfl t_field_91_1) <| WL.val rfl rfl rfl (ov_load1 rfl t_agg_3 (OB.cell ob38 (j := 1) rfl)) <| WL.val rfl rfl rfl (ov_move rfl) <| WL.val rfl rfl rfl (ov_lss rfl rfl) <| WL.val rfl rfl rfl (ov_pickT rfl rfl) <| WL.nil <| WC.to [2, 26] [(2, .pointer (some ⟨b8, 0, none⟩)), (26, .bool (decide ((((r18.getD ((⟨#[]⟩ : ByteArray), 0)).2) : Int) < x4)))] rfl ?_
      exact J62 ⟨h25, decide ((((r18.getD ((⟨#[]⟩ : ByteArray), 0)).2) : Int) < x4), HF, rfl, S39, Hle.refl _, ob41⟩
     ·replace HF := bif_f hb45 HF
      refine WL.pass rfl rfl rfl <| WL.pass rfl rfl rfl <| WL.pass rfl rfl rfl <| WL.pass rfl rfl rfl <| WL.val rfl rfl rfl (ov_pickF rfl rfl) <| WL.nil <| WC.to [2, 26] [(2, .pointer (some ⟨b8, 0, none⟩)), (26, .bool false)] rfl ?_
      exact J62 ⟨h25, false, HF, rfl, S39, Hle.refl _, ob41⟩
    ·replace HF := bif_f hb40 HF
     refine WL.pass rfl rfl rfl <| WL.pass rfl rfl rfl <| WL.pass rfl rfl rfl <| WL.pass rfl rfl rfl <| WL.val rfl rfl rfl (ov_pickF rfl rfl) <| WL.val rfl rfl rfl (ov_move rfl) <| WL.pass rfl rfl rfl <| WL.pass rfl rfl rfl <| WL.pass rfl rfl rfl <| WL.pass rfl rfl rfl <| WL.val rfl rfl rfl (ov_pickF rfl rfl) <| WL.nil ?_
     have ob63 := ((ob11.step0 s26).step1 s37 ne22)
     refine WC.to [2, 26] [(2, .pointer (some ⟨b8, 0, none⟩)), (26, .bool false)] rfl ?_
     exact J62 ⟨h25, false, HF, rfl, S39, Hle.refl _, ob63⟩
theorem all_print_Of : ∀ k j, j ≤ k → C_print_Of (tie_print_Of j).print_Of ∧ C_print_Joined_api_Expr (tie_print_Of j).print_Joined_api_Expr ∧ C_print_Of_1 (tie_print_Of j).print_Of_1 := by
  intro k
  induction k with
  | zero =>
    intro j hj
    obtain rfl : j = 0 := by omega
    exact ⟨(fun _ _ => by intro h; cases h), (fun _ _ _ => by intro h; cases h), (fun _ _ _ => by intro h; cases h)⟩
  | succ k ih =>
    intro j hj
    by_cases h : j ≤ k
    · exact ih j h
    · obtain rfl : j = k + 1 := by omega
      exact ⟨s_print_Of k ih, s_print_Joined_api_Expr k ih, s_print_Of_1 k ih⟩
theorem ok_print_Of (k : Nat) : C_print_Of (F_print_Of k) := (all_print_Of k k (Nat.le_refl _)).1
theorem ok_print_Joined_api_Expr (k : Nat) : C_print_Joined_api_Expr (F_print_Joined_api_Expr k) := (all_print_Of k k (Nat.le_refl _)).2.1
theorem ok_print_Of_1 (k : Nat) : C_print_Of_1 (F_print_Of_1 k) := (all_print_Of k k (Nat.le_refl _)).2.2

def C_print_Expr (φ : Ex → Option (ByteArray × Int)) : Prop := ∀ ⦃x1 : Ex⦄ ⦃r : ByteArray × Int⦄, φ x1 = some r → ∀ ⦃w0 : World⦄ ⦃h0 : Hp⦄ ⦃cs2 : List Value⦄, Sub h0 w0 → Rp.R h0 x1 cs2 →
  Calls Tryz.prog 14 #[.agg cs2.toArray] w0 fun e w1 => ∃ v, e = .returned v ∧ ∃ h1, Stp [] w0 h0 w1 h1 ∧ (∃ u0 u1 : Value, v = .tuple #[u0, u1] ∧ (u0 = .string r.1) ∧ (u1 = .int .i64 r.2))
set_option maxRecDepth 20000 in
set_option maxHeartbeats 4000000 in
theorem s_print_Expr (k : Nat) : C_print_Expr (F_print_Expr k) := by
 intro x1 r HF w0 h0 cs2 hs0 r3
 have S0 : Stp [] w0 h0 w0 h0 := Stp.refl hs0 _
 refine enter (n := 9) Tryz.func14 rfl Tryz.ntmps14 rfl [(0, .agg cs2.toArray)] rfl <| WC.seq <| WC.region ?_
 obtain ⟨v4, rfl, rs5⟩ := rp_Ex.1 r3
 refine WL.box (cs := [.int .i64 x1.op, .int .i64 x1.kind, .int .i64 x1.n, .string x1.s, .string x1.f, v4]) rfl rfl rfl rfl S0.sub (fun w6 b7 hb8 s9 ob10 => ?_)
 have g11 : w0.heap.size ≤ b7 := by rw [hb8]; exact S0.size
 have S12 := S0.trans0 s9
 refine WL.val rfl rfl rfl (ov_assign rfl) <| WL.val rfl rfl rfl (ov_assign rfl) <| WL.nil <| WQ.seqN <| WC.join (fun E w22 => ∃ (h21 : Hp), print_Expr_j1 k x1 = some r ∧ E = [(1, .pointer (some ⟨b7, 0, none⟩))] ∧ Stp [] w0 h0 w22 h21 ∧ Hle h0 h21 ∧ OB w22 h21 b7 32 [.int .i64 x1.op, .int .i64 x1.kind, .int .i64 x1.n, .string x1.s, .string x1.f, v4]) ?_ ?_
 ·rintro E w22 ⟨h21, HF, rfl, S24, le23, ob25⟩
  refine WC.seq <| WC.region <| WL.val rfl rfl rfl (ov_loadN (cs := [.int .i64 x1.op, .int .i64 x1.kind, .int .i64 x1.n, .string x1.s, .string x1.f, v4]) rfl t_agg_32 t_size_32 (OB.cells ob25 0 rfl)) ?_
  obtain ⟨r26, hr27, HF⟩ := bind_some HF
  refine WL.call rfl rfl rfl (oc_func (vs := [.agg #[.int .i64 x1.op, .int .i64 x1.kind, .int .i64 x1.n, .string x1.s, .string x1.f, v4]]) rfl t_ent_27) (ok_print_Of _ hr27 S24.sub (rp_Ex.2 ⟨_, rfl, (rs5.mono ((s9.le).trans le23))⟩)) ?_
  rintro _ w29 ⟨h30, s31, rfl⟩
  have S32 := S24.trans0 s31
  refine WL.val rfl rfl rfl (ov_assign rfl) <| WL.val rfl rfl rfl (ov_assign rfl) <| WL.nil <| WQ.seqN <| WC.ret <| WQ.ret2 rfl rfl rfl ?_
  obtain rfl := Option.some.inj HF
  exact ⟨_, rfl, h30, S32, _, _, rfl, rfl, rfl⟩
 ·intro J33
  refine WC.seq <| WC.region <| WL.val rfl rfl rfl (ov_loadN (cs := [.int .i64 x1.op, .int .i64 x1.kind, .int .i64 x1.n, .string x1.s, .string x1.f, v4]) rfl t_agg_32 t_size_32 (OB.cells ob10 0 rfl)) ?_
  obtain ⟨r13, hr14, HF⟩ := bind_some HF
  refine WL.call rfl rfl rfl (oc_func (vs := [.agg #[.int .i64 x1.op, .int .i64 x1.kind, .int .i64 x1.n, .string x1.s, .string x1.f, v4]]) rfl t_ent_26) (ok_ast_IsExpr _ hr14 S12.sub (rp_Ex.2 ⟨_, rfl, (rs5.mono (s9.le))⟩)) ?_
  rintro _ w16 ⟨h17, s18, rfl⟩
  have S19 := S12.trans0 s18
  refine WL.val rfl rfl rfl (ov_not rfl) <| WL.nil <| WQ.seqN <| WC.cond (b := !r13) rfl (fun hb20 => ?_) (fun hb20 => ?_)
  ·replace HF := bif_t hb20 HF
   refine WC.seq <| WC.region <| WL.val rfl rfl rfl (ov_assign rfl) <| WL.val rfl rfl rfl (ov_assign rfl) <| WL.nil <| WQ.seqN <| WC.ret <| WQ.thenRet <| WQ.ret2 rfl rfl rfl ?_
   obtain rfl := Option.some.inj HF
   exact ⟨_, rfl, h17, S19, _, _, rfl, rfl, rfl⟩
  ·replace HF := bif_f hb20 HF
   refine WC.skip ?_
   have ob34 := (ob10.step0 s18)
   refine WC.to [1] [(1, .pointer (some ⟨b7, 0, none⟩))] rfl ?_
   exact J33 ⟨h17, HF, rfl, S19, s18.le, ob34⟩
theorem ok_print_Expr (k : Nat) : C_print_Expr (F_print_Expr k) := s_print_Expr k

def C_strings_TrimSuffix (φ : ByteArray → ByteArray → Option ByteArray) : Prop := ∀ ⦃x1 : ByteArray⦄ ⦃x2 : ByteArray⦄ ⦃r : ByteArray⦄, φ x1 x2 = some r → ∀ ⦃w0 : World⦄ ⦃h0 : Hp⦄, Sub h0 w0 →
  Calls Tryz.prog 49 #[.string x1, .string x2] w0 fun e w1 => ∃ v, e = .returned v ∧ ∃ h1, Stp [] w0 h0 w1 h1 ∧ v = .string r
set_option maxRecDepth 20000 in
theorem ok_strings_TrimSuffix (k : Nat) : C_strings_TrimSuffix (F_strings_TrimSuffix k) := by
  intro x1 x2 r HF w0 h0 hs0
  simp only [F_strings_TrimSuffix] at HF
  obtain ⟨hn, HF⟩ := ite_none HF
  cases HF
  refine (Tryz.strings_TrimSuffix x1 x2 w0 hn).mono ?_
  rintro e w1 ⟨rfl, rfl⟩
  exact ⟨_, rfl, h0, Stp.refl hs0 _, rfl⟩

def C_strings_TrimLeft (φ : ByteArray → ByteArray → Option ByteArray) : Prop := ∀ ⦃x1 : ByteArray⦄ ⦃x2 : ByteArray⦄ ⦃r : ByteArray⦄, φ x1 x2 = some r → ∀ ⦃w0 : World⦄ ⦃h0 : Hp⦄, Sub h0 w0 →
  Calls Tryz.prog 51 #[.string x1, .string x2] w0 fun e w1 => ∃ v, e = .returned v ∧ ∃ h1, Stp [] w0 h0 w1 h1 ∧ v = .string r
set_option maxRecDepth 20000 in
theorem ok_strings_TrimLeft (k : Nat) : C_strings_TrimLeft (F_strings_TrimLeft k) := by
  intro x1 x2 r HF w0 h0 hs0
  simp only [F_strings_TrimLeft] at HF
  obtain ⟨c, hc, h1, rfl⟩ := trimL_some HF
  subst h1
  refine (Tryz.strings_TrimLeft_one x1 c hc w0).mono ?_
  rintro e w1 ⟨rfl, rfl⟩
  exact ⟨_, rfl, h0, Stp.refl hs0 _, rfl⟩

def C_print_Line_1 (φ : ByteArray → Option ByteArray) : Prop := ∀ ⦃x1 : ByteArray⦄ ⦃r : ByteArray⦄, φ x1 = some r → ∀ ⦃w0 : World⦄ ⦃h0 : Hp⦄, Sub h0 w0 →
  Calls Tryz.prog 50 #[.string x1] w0 fun e w1 => ∃ v, e = .returned v ∧ ∃ h1, Stp [] w0 h0 w1 h1 ∧ v = .string r
set_option maxRecDepth 20000 in
set_option maxHeartbeats 4000000 in
theorem s_print_Line_1 (k : Nat) : C_print_Line_1 (F_print_Line_1 k) := by
 intro x1 r HF w0 h0  hs0 
 have S0 : Stp [] w0 h0 w0 h0 := Stp.refl hs0 _
 refine enter (n := 5) Tryz.func50 rfl Tryz.ntmps50 rfl [(0, .string x1)] rfl <| WC.seq <| WC.region <| WL.val rfl rfl rfl (ov_assign rfl) <| WL.nil <| WQ.seqN <| WC.seq <| WC.region <| WL.val rfl rfl rfl (ov_move rfl) ?_
 obtain ⟨r2, hr3, HF⟩ := bind_some HF
 refine WL.call rfl rfl rfl (oc_func (vs := [.string x1, .string (⟨#[32]⟩ : ByteArray)]) rfl t_ent_51) (ok_strings_TrimLeft _ hr3 S0.sub) ?_
 rintro _ w5 ⟨h6, s7, rfl⟩
 have S8 := S0.trans0 s7
 refine WL.val rfl rfl rfl (ov_assign rfl) <| WL.nil <| WQ.seqN <| WC.ret <| WQ.ret1 rfl rfl ?_
 obtain rfl := Option.some.inj HF
 exact ⟨_, rfl, h6, S8, rfl⟩
theorem ok_print_Line_1 (k : Nat) : C_print_Line_1 (F_print_Line_1 k) := s_print_Line_1 k

def C_print_Joined_string (φ : (List ByteArray) → ByteArray → Option ByteArray) : Prop := ∀ ⦃xs1 : List ByteArray⦄ ⦃x4 : ByteArray⦄ ⦃r : ByteArray⦄, φ xs1 x4 = some r → ∀ ⦃w0 : World⦄ ⦃h0 : Hp⦄ ⦃v2 : Value⦄, Sub h0 w0 → RS h0 v2 xs1 →
  Calls Tryz.prog 47 #[v2, .string x4, .func (.func 50) #[] #[]] w0 fun e w1 => ∃ v, e = .returned v ∧ ∃ h1, Stp [] w0 h0 w1 h1 ∧ v = .string r
set_option maxRecDepth 20000 in
set_option maxHeartbeats 4000000 in
theorem s_print_Joined_string (k : Nat) (IH : ∀ j, j ≤ k → C_print_Joined_string (tie_print_Joined_string j).print_Joined_string) : C_print_Joined_string (m_print_Joined_string k (tie_print_Joined_string k)) := by
 intro xs1 x4 r HF w0 h0 v2 hs0 rs3
 have S0 : Stp [] w0 h0 w0 h0 := Stp.refl hs0 _
 refine enter (n := 26) Tryz.func47 rfl Tryz.ntmps47 rfl [(0, v2), (1, .string x4), (2, .func (.func 50) #[] #[])] rfl <| WC.seq <| WC.region <| WL.val rfl rfl rfl (ov_assign rfl) <| WL.nil <| WQ.seqN <| WC.seq <| WC.region <| WL.val rfl rfl rfl (ov_assign rfl) <| WL.nil <| WQ.seqN <| WC.seq <| WC.seq <| WC.region <| WL.val rfl rfl rfl (ov_move rfl) ?_
 obtain ⟨A5, c6, rfl, rs7⟩ := RS.form rs3
 refine WL.val rfl rfl rfl (ov_lenL rfl t_slice_41) <| WL.val rfl rfl rfl (ov_move rfl) <| WL.nil <| WQ.seqN <| WC.block <| WC.loop <| WP.to [1, 2, 7, 10, 11, 12] [(1, .string x4), (2, .func (.func 50) #[] #[]), (7, .slice none 0 0), (10, .slice A5 (xs1).length c6), (11, .int .i64 (xs1.length : Int)), (12, .int .i64 0)] rfl <| WP_rule (K := k) (fun j E w9 => ∃ (h8 : Hp) (xs12 : List ByteArray) (v13 : Value) (x16 : Int), (tie_print_Joined_string j).print_Joined_string_l1 xs1 x4 xs12 x16 = some r ∧ E = [(1, .string x4), (2, .func (.func 50) #[] #[]), (7, v13), (10, .slice A5 (xs1).length c6), (11, .int .i64 (xs1.length : Int)), (12, .int .i64 x16)] ∧ Stp [] w0 h0 w9 h8 ∧ Hle h0 h8 ∧ RS h8 v13 xs12 ∧ Own w9 h8 w0.heap.size 9 1 v13 xs12.length) ?_ ?_ (j := k) (Nat.le_refl _) ?_
 ·rintro E w9 ⟨_, _, _, _, HF, _⟩; cases HF
 ·rintro j17 hj19 IHL18 E w9 ⟨h8, xs12, v13, x16, HF, rfl, S11, le10, rs14, ow15⟩
  refine WC.seq <| WC.region <| WL.val rfl rfl rfl (ov_lss rfl rfl) <| WL.nil <| WQ.seqN <| WC.join (fun E w29 => ∃ (h28 : Hp) (xs32 : List ByteArray) (v33 : Value), print_Joined_string_j2 j17 (tie_print_Joined_string j17) xs1 x4 x16 xs32 = some r ∧ E = [(1, .string x4), (2, .func (.func 50) #[] #[]), (7, v33), (10, .slice A5 (xs1).length c6), (11, .int .i64 (xs1.length : Int)), (12, .int .i64 x16)] ∧ Stp [] w0 h0 w29 h28 ∧ Hle h8 h28 ∧ RS h28 v33 xs32 ∧ Own w29 h28 w0.heap.size 9 1 v33 xs32.length) ?_ ?_
  ·rintro E w29 ⟨h28, xs32, v33, HF, rfl, S31, le30, rs34, ow35⟩
   refine WC.seq <| WC.block <| WC.seq <| WC.region ?_
   obtain ⟨e36, he37, HF⟩ := bind_some HF
   obtain ⟨b38, o39, rfl, h41, h42, ra40⟩ := RS.atO (rs7.mono ((le10).trans le30)) he37
   obtain ⟨cs43, r44, hc45⟩ := ra40
   obtain rfl := (show cs43 = _ from r44)
   refine WL.val rfl rfl rfl (ov_indexAddr rfl rfl t_slice_41 t_size_9 h41 h42) <| WL.val rfl rfl rfl (ov_load1 rfl t_agg_9 (S31.sub.at_ _ _ _ (hc45 0 _ rfl))) <| WL.val rfl rfl rfl (ov_assign rfl) <| WL.nil <| WQ.seqN <| WC.region <| WL.val rfl rfl rfl (ov_move rfl) <| WL.val rfl rfl rfl (ov_move rfl) <| WL.val rfl rfl rfl (ov_move rfl) ?_
   obtain ⟨r46, hr47, HF⟩ := bind_some HF
   refine WL.call rfl rfl rfl (oc_val (vs := [.string e36]) (caps := []) rfl rfl t_ent_50) (ok_print_Line_1 _ hr47 S31.sub) ?_
   rintro _ w49 ⟨h50, s51, rfl⟩
   have S52 := S31.trans0 s51
   refine WL.buildSliceD (us := [.string r46]) (cs := [.string r46]) rfl rfl rfl t_slice_41 t_size_9 t_zero_9 rfl (cl_cons rfl cl_nil) rfl rfl rfl S52.sub (fun w53 h54 b55 hb56 s57 hk58 hc59 => ?_)
   have S60 := S52.trans0 s57
   have rs61 : RS h54 (.slice (some ⟨b55, 0, none⟩) 1 1) ([r46] : List ByteArray) := RS.litL _ [[.string r46]] rfl rfl hc59 ⟨rfl, trivial⟩
   have ow62 := Own.lit (base := w0.heap.size) (sz := 1) (m := 1) hk58 hc59 (by rw [hb56]; exact S52.size) rfl (by decide)
   obtain ⟨hl63, HF⟩ := ite_none HF
   refine WL.append (xs := (xs32 : List ByteArray)) (ys := [r46]) rfl rfl rfl rfl t_slice_41 t_size_9 t_zero_9 rfl t_bytes_9 rfl ((ow35.step0 s51).step0 s57) (rs34.mono ((s51.le).trans s57.le)) rs61 hl63 S60.sub S60.size (by rw [S60.eqb]; exact hs0.big) (fun v64 w65 h66 rs67 ow68 s69 at70 => ?_)
   have S71 := S60.trans s69 (fun i hi => .inr (((ow35.step0 s51).step0 s57).base_le i hi))
   refine WL.val rfl rfl rfl (ov_assign rfl) <| WL.nil <| WQ.blockN <| WQ.seqN <| WC.region <| WL.val rfl rfl rfl (ov_add rfl rfl) <| WL.val rfl rfl rfl (ov_move rfl) <| WL.nil <| WQ.loopN <| WP.to [1, 2, 7, 10, 11, 12] [(1, .string x4), (2, .func (.func 50) #[] #[]), (7, v64), (10, .slice (some ⟨b38, o39, none⟩) (xs1).length c6), (11, .int .i64 (xs1.length : Int)), (12, .int .i64 (IntKind.i64.wrap (x16 + 1)))] rfl ?_
   exact IHL18 j17 (Nat.le_refl _) _ _ ⟨h66, xs32 ++ [r46], v64, IntKind.i64.wrap (x16 + 1), HF, rfl, S71, (le10).trans ((le30).trans ((s51.le).trans ((s57.le).trans s69.le))), rs67, ow68⟩
  ·intro J72
   refine WC.cond (b := decide ((x16 : Int) < (xs1.length : Int))) rfl (fun hb20 => ?_) (fun hb20 => ?_)
   ·replace HF := bif_t hb20 HF
    refine WC.skip <| WC.to [1, 2, 7, 10, 11, 12] [(1, .string x4), (2, .func (.func 50) #[] #[]), (7, v13), (10, .slice A5 (xs1).length c6), (11, .int .i64 (xs1.length : Int)), (12, .int .i64 x16)] rfl ?_
    exact J72 ⟨h8, xs12, v13, HF, rfl, S11, Hle.refl _, rs14, ow15⟩
   ·replace HF := bif_f hb20 HF
    refine WC.exit <| WQ.thenExit <| WQ.thenExit <| WQ.blockHit <| WQ.seqN <| WC.seq <| WC.region <| WL.val rfl rfl rfl (ov_move rfl) <| WL.val rfl rfl rfl (ov_move rfl) ?_
    obtain ⟨r21, hr22, HF⟩ := bind_some HF
    refine WL.call rfl rfl rfl (oc_func (vs := [v13, .string x4]) rfl t_ent_67) (ok_strings_Join _ hr22 S11.sub rs14) ?_
    rintro _ w24 ⟨h25, s26, rfl⟩
    have S27 := S11.trans0 s26
    refine WL.val rfl rfl rfl (ov_assign rfl) <| WL.nil <| WQ.seqN <| WC.ret <| WQ.ret1 rfl rfl ?_
    obtain rfl := Option.some.inj HF
    exact ⟨_, rfl, h25, S27, rfl⟩
 ·exact ⟨h0, ([] : List ByteArray), .slice none 0 0, 0, HF, rfl, S0, Hle.refl _, (RS.nil _), (Own.nil _ _ _ _ _)⟩
theorem all_print_Joined_string : ∀ k j, j ≤ k → C_print_Joined_string (tie_print_Joined_string j).print_Joined_string := by
  intro k
  induction k with
  | zero =>
    intro j hj
    obtain rfl : j = 0 := by omega
    exact (fun _ _ _ => by intro h; cases h)
  | succ k ih =>
    intro j hj
    by_cases h : j ≤ k
    · exact ih j h
    · obtain rfl : j = k + 1 := by omega
      exact s_print_Joined_string k ih
theorem ok_print_Joined_string (k : Nat) : C_print_Joined_string (F_print_Joined_string k) := (all_print_Joined_string k k (Nat.le_refl _))

def C_strings_Split (φ : ByteArray → ByteArray → Option (List ByteArray)) : Prop := ∀ ⦃x1 : ByteArray⦄ ⦃x2 : ByteArray⦄ ⦃r : List ByteArray⦄, φ x1 x2 = some r → ∀ ⦃w0 : World⦄ ⦃h0 : Hp⦄, Sub h0 w0 →
  Calls Tryz.prog 48 #[.string x1, .string x2] w0 fun e w1 => ∃ v, e = .returned v ∧ ∃ h1, Stp [] w0 h0 w1 h1 ∧ RS h1 v r
set_option maxRecDepth 20000 in
theorem ok_strings_Split (k : Nat) : C_strings_Split (F_strings_Split k) := by
  intro x1 x2 r HF w0 h0 hs0
  simp only [F_strings_Split] at HF
  obtain ⟨hn, HF⟩ := ite_none HF
  cases HF
  obtain ⟨m, hm⟩ := hs0.glob.g4
  have hlen := (Lib.splitB_all x2 hn.2 0 _ x1 rfl)
  refine (Tryz.strings_Split x1 x2 m w0 hn.1 (hs0.at_ _ _ _ hm) hn.2).mono ?_
  rintro e w1 ⟨rfl, rfl⟩
  refine ⟨_, rfl, _, alloc_row hs0 _ 9, ?_⟩
  exact strs_RS _ (by simpa using hlen) (fun o => hadd_new h0 _ _ o)

def C_print_Line (φ : ByteArray → Option ByteArray) : Prop := ∀ ⦃x1 : ByteArray⦄ ⦃r : ByteArray⦄, φ x1 = some r → ∀ ⦃w0 : World⦄ ⦃h0 : Hp⦄, Sub h0 w0 →
  Calls Tryz.prog 22 #[.string x1] w0 fun e w1 => ∃ v, e = .returned v ∧ ∃ h1, Stp [] w0 h0 w1 h1 ∧ v = .string r
set_option maxRecDepth 20000 in
set_option maxHeartbeats 4000000 in
theorem s_print_Line (k : Nat) : C_print_Line (F_print_Line k) := by
 intro x1 r HF w0 h0  hs0 
 have S0 : Stp [] w0 h0 w0 h0 := Stp.refl hs0 _
 refine enter (n := 7) Tryz.func22 rfl Tryz.ntmps22 rfl [(0, .string x1)] rfl <| WC.seq <| WC.region <| WL.val rfl rfl rfl (ov_assign rfl) <| WL.nil <| WQ.seqN <| WC.seq <| WC.region <| WL.val rfl rfl rfl (ov_move rfl) ?_
 obtain ⟨r2, hr3, HF⟩ := bind_some HF
 refine WL.call rfl rfl rfl (oc_func (vs := [.string x1, .string (⟨#[10]⟩ : ByteArray)]) rfl t_ent_49) (ok_strings_TrimSuffix _ hr3 S0.sub) ?_
 rintro _ w5 ⟨h6, s7, rfl⟩
 have S8 := S0.trans0 s7
 obtain ⟨r9, hr10, HF⟩ := bind_some HF
 refine WL.call rfl rfl rfl (oc_func (vs := [.string r2, .string (⟨#[10]⟩ : ByteArray)]) rfl t_ent_48) (ok_strings_Split _ hr10 S8.sub) ?_
 rintro v15 w12 ⟨h13, s14, rs16⟩
 have S17 := S8.trans0 s14
 obtain ⟨r18, hr19, HF⟩ := bind_some HF
 refine WL.call rfl rfl rfl (oc_func (vs := [v15, .string (⟨#[32]⟩ : ByteArray), .func (.func 50) #[] #[]]) rfl t_ent_47) (ok_print_Joined_string _ hr19 S17.sub rs16) ?_
 rintro _ w21 ⟨h22, s23, rfl⟩
 have S24 := S17.trans0 s23
 refine WL.val rfl rfl rfl (ov_assign rfl) <| WL.nil <| WQ.seqN <| WC.ret <| WQ.ret1 rfl rfl ?_
 obtain rfl := Option.some.inj HF
 exact ⟨_, rfl, h22, S24, rfl⟩
theorem ok_print_Line (k : Nat) : C_print_Line (F_print_Line k) := s_print_Line k

def C_ast_AreNames_1 (φ : ByteArray → Option Bool) : Prop := ∀ ⦃x1 : ByteArray⦄ ⦃r : Bool⦄, φ x1 = some r → ∀ ⦃w0 : World⦄ ⦃h0 : Hp⦄, Sub h0 w0 →
  Calls Tryz.prog 108 #[.string x1] w0 fun e w1 => ∃ v, e = .returned v ∧ ∃ h1, Stp [] w0 h0 w1 h1 ∧ v = .bool r
set_option maxRecDepth 20000 in
set_option maxHeartbeats 4000000 in
theorem s_ast_AreNames_1 (k : Nat) : C_ast_AreNames_1 (F_ast_AreNames_1 k) := by
 intro x1 r HF w0 h0  hs0 
 have S0 : Stp [] w0 h0 w0 h0 := Stp.refl hs0 _
 refine enter (n := 6) Tryz.func108 rfl Tryz.ntmps108 rfl [(0, .string x1)] rfl <| WC.seq <| WC.region <| WL.val rfl rfl rfl (ov_assign rfl) <| WL.nil <| WQ.seqN <| WC.seq <| WC.region <| WL.val rfl rfl rfl (ov_move rfl) ?_
 obtain ⟨r2, hr3, HF⟩ := bind_some HF
 refine WL.call rfl rfl rfl (oc_func (vs := [.string x1]) rfl t_ent_100) (ok_lexis_IsName _ hr3 S0.sub) ?_
 rintro _ w5 ⟨h6, s7, rfl⟩
 have S8 := S0.trans0 s7
 refine WL.val rfl rfl rfl (ov_not rfl) <| WL.val rfl rfl rfl (ov_assign rfl) <| WL.nil <| WQ.seqN <| WC.ret <| WQ.ret1 rfl rfl ?_
 obtain rfl := Option.some.inj HF
 exact ⟨_, rfl, h6, S8, rfl⟩
theorem ok_ast_AreNames_1 (k : Nat) : C_ast_AreNames_1 (F_ast_AreNames_1 k) := s_ast_AreNames_1 k

def C_slices_IndexFunc_string_string (φ : (List ByteArray) → Option Int) : Prop := ∀ ⦃xs1 : List ByteArray⦄ ⦃r : Int⦄, φ xs1 = some r → ∀ ⦃w0 : World⦄ ⦃h0 : Hp⦄ ⦃v2 : Value⦄, Sub h0 w0 → RS h0 v2 xs1 →
  Calls Tryz.prog 125 #[v2, .func (.func 108) #[] #[]] w0 fun e w1 => ∃ v, e = .returned v ∧ ∃ h1, Stp [] w0 h0 w1 h1 ∧ v = .int .i64 r
set_option maxRecDepth 20000 in
set_option maxHeartbeats 4000000 in
theorem s_slices_IndexFunc_string_string (k : Nat) (IH : ∀ j, j ≤ k → C_slices_IndexFunc_string_string (tie_slices_IndexFunc_string_string j).slices_IndexFunc_string_string) : C_slices_IndexFunc_string_string (m_slices_IndexFunc_string_string k (tie_slices_IndexFunc_string_string k)) := by
 intro xs1 r HF w0 h0 v2 hs0 rs3
 have S0 : Stp [] w0 h0 w0 h0 := Stp.refl hs0 _
 refine enter (n := 19) Tryz.func125 rfl Tryz.ntmps125 rfl [(0, v2), (1, .func (.func 108) #[] #[])] rfl <| WC.seq <| WC.region <| WL.val rfl rfl rfl (ov_assign rfl) <| WL.nil <| WQ.seqN <| WC.seq <| WC.seq <| WC.region <| WL.val rfl rfl rfl (ov_move rfl) ?_
 obtain ⟨A4, c5, rfl, rs6⟩ := RS.form rs3
 refine WL.val rfl rfl rfl (ov_lenL rfl t_slice_41) <| WL.val rfl rfl rfl (ov_move rfl) <| WL.nil <| WQ.seqN <| WC.block <| WC.loop <| WP.to [0, 1, 7, 8] [(0, .slice A4 (xs1).length c5), (1, .func (.func 108) #[] #[]), (7, .int .i64 (xs1.length : Int)), (8, .int .i64 0)] rfl <| WP_rule (K := k) (fun j E w8 => ∃ (h7 : Hp) (x11 : Int), (tie_slices_IndexFunc_string_string j).slices_IndexFunc_string_string_l1 xs1 x11 = some r ∧ E = [(0, .slice A4 (xs1).length c5), (1, .func (.func 108) #[] #[]), (7, .int .i64 (xs1.length : Int)), (8, .int .i64 x11)] ∧ Stp [] w0 h0 w8 h7 ∧ Hle h0 h7) ?_ ?_ (j := k) (Nat.le_refl _) ?_
 ·rintro E w8 ⟨_, _, HF, _⟩; cases HF
 ·rintro j12 hj14 IHL13 E w8 ⟨h7, x11, HF, rfl, S10, le9⟩
  refine WC.seq <| WC.region <| WL.val rfl rfl rfl (ov_lss rfl rfl) <| WL.nil <| WQ.seqN <| WC.join (fun E w17 => ∃ (h16 : Hp), slices_IndexFunc_string_string_j2 j12 (tie_slices_IndexFunc_string_string j12) xs1 x11 = some r ∧ E = [(0, .slice A4 (xs1).length c5), (1, .func (.func 108) #[] #[]), (7, .int .i64 (xs1.length : Int)), (8, .int .i64 x11)] ∧ Stp [] w0 h0 w17 h16 ∧ Hle h7 h16) ?_ ?_
  ·rintro E w17 ⟨h16, HF, rfl, S19, le18⟩
   refine WC.seq <| WC.block <| WC.seq <| WC.region <| WL.val rfl rfl rfl (ov_move rfl) <| WL.val rfl rfl rfl (ov_assign rfl) <| WL.nil <| WQ.seqN <| WC.seq <| WC.region <| WL.val rfl rfl rfl (ov_move rfl) <| WL.val rfl rfl rfl (ov_move rfl) <| WL.val rfl rfl rfl (ov_move rfl) ?_
   obtain ⟨e20, he21, HF⟩ := bind_some HF
   obtain ⟨b22, o23, rfl, h25, h26, ra24⟩ := RS.atO (rs6.mono ((le9).trans le18)) he21
   obtain ⟨cs27, r28, hc29⟩ := ra24
   obtain rfl := (show cs27 = _ from r28)
   refine WL.val rfl rfl rfl (ov_indexAddr rfl rfl t_slice_41 t_size_9 h25 h26) <| WL.val rfl rfl rfl (ov_load1 rfl t_agg_9 (S19.sub.at_ _ _ _ (hc29 0 _ rfl))) ?_
   obtain ⟨r30, hr31, HF⟩ := bind_some HF
   refine WL.call rfl rfl rfl (oc_val (vs := [.string e20]) (caps := []) rfl rfl t_ent_108) (ok_ast_AreNames_1 _ hr31 S19.sub) ?_
   rintro _ w33 ⟨h34, s35, rfl⟩
   have S36 := S19.trans0 s35
   refine WL.nil <| WQ.seqN <| WC.cond (b := r30) rfl (fun hb37 => ?_) (fun hb37 => ?_)
   ·replace HF := bif_t hb37 HF
    refine WC.seq <| WC.region <| WL.val rfl rfl rfl (ov_move rfl) <| WL.val rfl rfl rfl (ov_assign rfl) <| WL.nil <| WQ.seqN <| WC.ret <| WQ.blockRet <| WQ.thenRet <| WQ.thenRet <| WQ.blockRet <| WQ.thenRet <| WQ.ret1 rfl rfl ?_
    obtain rfl := Option.some.inj HF
    exact ⟨_, rfl, h34, S36, rfl⟩
   ·replace HF := bif_f hb37 HF
    refine WC.skip <| WQ.blockN <| WQ.seqN <| WC.region <| WL.val rfl rfl rfl (ov_add rfl rfl) <| WL.val rfl rfl rfl (ov_move rfl) <| WL.nil <| WQ.loopN <| WP.to [0, 1, 7, 8] [(0, .slice (some ⟨b22, o23, none⟩) (xs1).length c5), (1, .func (.func 108) #[] #[]), (7, .int .i64 (xs1.length : Int)), (8, .int .i64 (IntKind.i64.wrap (x11 + 1)))] rfl ?_
    exact IHL13 j12 (Nat.le_refl _) _ _ ⟨h34, IntKind.i64.wrap (x11 + 1), HF, rfl, S36, (le9).trans ((le18).trans s35.le)⟩
  ·intro J38
   refine WC.cond (b := decide ((x11 : Int) < (xs1.length : Int))) rfl (fun hb15 => ?_) (fun hb15 => ?_)
   ·replace HF := bif_t hb15 HF
    refine WC.skip <| WC.to [0, 1, 7, 8] [(0, .slice A4 (xs1).length c5), (1, .func (.func 108) #[] #[]), (7, .int .i64 (xs1.length : Int)), (8, .int .i64 x11)] rfl ?_
    exact J38 ⟨h7, HF, rfl, S10, Hle.refl _⟩
   ·replace HF := bif_f hb15 HF
    refine WC.exit <| WQ.thenExit <| WQ.thenExit <| WQ.blockHit <| WQ.seqN <| WC.seq <| WC.region <| WL.val rfl rfl rfl (ov_assign rfl) <| WL.nil <| WQ.seqN <| WC.ret <| WQ.ret1 rfl rfl ?_
    obtain rfl := Option.some.inj HF
    exact ⟨_, rfl, h7, S10, rfl⟩
 ·exact ⟨h0, 0, HF, rfl, S0, Hle.refl _⟩
theorem all_slices_IndexFunc_string_string : ∀ k j, j ≤ k → C_slices_IndexFunc_string_string (tie_slices_IndexFunc_string_string j).slices_IndexFunc_string_string := by
  intro k
  induction k with
  | zero =>
    intro j hj
    obtain rfl : j = 0 := by omega
    exact (fun _ _ => by intro h; cases h)
  | succ k ih =>
    intro j hj
    by_cases h : j ≤ k
    · exact ih j h
    · obtain rfl : j = k + 1 := by omega
      exact s_slices_IndexFunc_string_string k ih
theorem ok_slices_IndexFunc_string_string (k : Nat) : C_slices_IndexFunc_string_string (F_slices_IndexFunc_string_string k) := (all_slices_IndexFunc_string_string k k (Nat.le_refl _))

def C_slices_ContainsFunc_string_string (φ : (List ByteArray) → Option Bool) : Prop := ∀ ⦃xs1 : List ByteArray⦄ ⦃r : Bool⦄, φ xs1 = some r → ∀ ⦃w0 : World⦄ ⦃h0 : Hp⦄ ⦃v2 : Value⦄, Sub h0 w0 → RS h0 v2 xs1 →
  Calls Tryz.prog 107 #[v2, .func (.func 108) #[] #[]] w0 fun e w1 => ∃ v, e = .returned v ∧ ∃ h1, Stp [] w0 h0 w1 h1 ∧ v = .bool r
set_option maxRecDepth 20000 in
set_option maxHeartbeats 4000000 in
theorem s_slices_ContainsFunc_string_string (k : Nat) : C_slices_ContainsFunc_string_string (F_slices_ContainsFunc_string_string k) := by
 intro xs1 r HF w0 h0 v2 hs0 rs3
 have S0 : Stp [] w0 h0 w0 h0 := Stp.refl hs0 _
 refine enter (n := 9) Tryz.func107 rfl Tryz.ntmps107 rfl [(0, v2), (1, .func (.func 108) #[] #[])] rfl <| WC.seq <| WC.region <| WL.val rfl rfl rfl (ov_assign rfl) <| WL.nil <| WQ.seqN <| WC.seq <| WC.region <| WL.val rfl rfl rfl (ov_move rfl) <| WL.val rfl rfl rfl (ov_move rfl) ?_
 obtain ⟨r4, hr5, HF⟩ := bind_some HF
 refine WL.call rfl rfl rfl (oc_func (vs := [v2, .func (.func 108) #[] #[]]) rfl t_ent_125) (ok_slices_IndexFunc_string_string _ hr5 S0.sub rs3) ?_
 rintro _ w7 ⟨h8, s9, rfl⟩
 have S10 := S0.trans0 s9
 refine WL.val rfl rfl rfl (ov_geq rfl rfl) <| WL.val rfl rfl rfl (ov_assign rfl) <| WL.nil <| WQ.seqN <| WC.ret <| WQ.ret1 rfl rfl ?_
 obtain rfl := Option.some.inj HF
 exact ⟨_, rfl, h8, S10, rfl⟩
theorem ok_slices_ContainsFunc_string_string (k : Nat) : C_slices_ContainsFunc_string_string (F_slices_ContainsFunc_string_string k) := s_slices_ContainsFunc_string_string k

def C_ast_AreNames (φ : (List ByteArray) → Option Bool) : Prop := ∀ ⦃xs1 : List ByteArray⦄ ⦃r : Bool⦄, φ xs1 = some r → ∀ ⦃w0 : World⦄ ⦃h0 : Hp⦄ ⦃v2 : Value⦄, Sub h0 w0 → RS h0 v2 xs1 →
  Calls Tryz.prog 86 #[v2] w0 fun e w1 => ∃ v, e = .returned v ∧ ∃ h1, Stp [] w0 h0 w1 h1 ∧ v = .bool r
set_option maxRecDepth 20000 in
set_option maxHeartbeats 4000000 in
theorem s_ast_AreNames (k : Nat) : C_ast_AreNames (F_ast_AreNames k) := by
 intro xs1 r HF w0 h0 v2 hs0 rs3
 have S0 : Stp [] w0 h0 w0 h0 := Stp.refl hs0 _
 refine enter (n := 6) Tryz.func86 rfl Tryz.ntmps86 rfl [(0, v2)] rfl <| WC.seq <| WC.region <| WL.val rfl rfl rfl (ov_assign rfl) <| WL.nil <| WQ.seqN <| WC.seq <| WC.region <| WL.val rfl rfl rfl (ov_move rfl) ?_
 obtain ⟨r4, hr5, HF⟩ := bind_some HF
 refine WL.call rfl rfl rfl (oc_func (vs := [v2, .func (.func 108) #[] #[]]) rfl t_ent_107) (ok_slices_ContainsFunc_string_string _ hr5 S0.sub rs3) ?_
 rintro _ w7 ⟨h8, s9, rfl⟩
 have S10 := S0.trans0 s9
 refine WL.val rfl rfl rfl (ov_not rfl) <| WL.val rfl rfl rfl (ov_assign rfl) <| WL.nil <| WQ.seqN <| WC.ret <| WQ.ret1 rfl rfl ?_
 obtain rfl := Option.some.inj HF
 exact ⟨_, rfl, h8, S10, rfl⟩
theorem ok_ast_AreNames (k : Nat) : C_ast_AreNames (F_ast_AreNames k) := s_ast_AreNames k

def C_ast_Counter_arm_1 (φ : Int → Option Bool) : Prop := ∀ ⦃x1 : Int⦄ ⦃r : Bool⦄, φ x1 = some r → ∀ ⦃w0 : World⦄ ⦃h0 : Hp⦄, Sub h0 w0 →
  Calls Tryz.prog 110 #[.int .i64 x1] w0 fun e w1 => ∃ v, e = .returned v ∧ ∃ h1, Stp [] w0 h0 w1 h1 ∧ v = .bool r
set_option maxRecDepth 20000 in
set_option maxHeartbeats 4000000 in
theorem s_ast_Counter_arm_1 (k : Nat) : C_ast_Counter_arm_1 (F_ast_Counter_arm_1 k) := by
 intro x1 r HF w0 h0  hs0 
 have S0 : Stp [] w0 h0 w0 h0 := Stp.refl hs0 _
 refine enter (n := 6) Tryz.func110 rfl Tryz.ntmps110 rfl [(0, .int .i64 x1)] rfl <| WC.seq <| WC.region <| WL.val rfl rfl rfl (ov_assign rfl) <| WL.nil <| WQ.seqN <| WC.seq <| WC.region <| WL.val rfl rfl rfl (ov_move rfl) ?_
 obtain ⟨r2, hr3, HF⟩ := bind_some HF
 refine WL.call rfl rfl rfl (oc_func (vs := [.int .i64 x1]) rfl t_ent_34) (ok_ast_IsLabel _ hr3 S0.sub) ?_
 rintro _ w5 ⟨h6, s7, rfl⟩
 have S8 := S0.trans0 s7
 refine WL.val rfl rfl rfl (ov_not rfl) <| WL.val rfl rfl rfl (ov_assign rfl) <| WL.nil <| WQ.seqN <| WC.ret <| WQ.ret1 rfl rfl ?_
 obtain rfl := Option.some.inj HF
 exact ⟨_, rfl, h6, S8, rfl⟩
theorem ok_ast_Counter_arm_1 (k : Nat) : C_ast_Counter_arm_1 (F_ast_Counter_arm_1 k) := s_ast_Counter_arm_1 k

def C_slices_IndexFunc_int_int (φ : (List Int) → Option Int) : Prop := ∀ ⦃xs1 : List Int⦄ ⦃r : Int⦄, φ xs1 = some r → ∀ ⦃w0 : World⦄ ⦃h0 : Hp⦄ ⦃v2 : Value⦄, Sub h0 w0 → RS h0 v2 xs1 →
  Calls Tryz.prog 126 #[v2, .func (.func 110) #[] #[]] w0 fun e w1 => ∃ v, e = .returned v ∧ ∃ h1, Stp [] w0 h0 w1 h1 ∧ v = .int .i64 r
set_option maxRecDepth 20000 in
set_option maxHeartbeats 4000000 in
theorem s_slices_IndexFunc_int_int (k : Nat) (IH : ∀ j, j ≤ k → C_slices_IndexFunc_int_int (tie_slices_IndexFunc_int_int j).slices_IndexFunc_int_int) : C_slices_IndexFunc_int_int (m_slices_IndexFunc_int_int k (tie_slices_IndexFunc_int_int k)) := by
 intro xs1 r HF w0 h0 v2 hs0 rs3
 have S0 : Stp [] w0 h0 w0 h0 := Stp.refl hs0 _
 refine enter (n := 19) Tryz.func126 rfl Tryz.ntmps126 rfl [(0, v2), (1, .func (.func 110) #[] #[])] rfl <| WC.seq <| WC.region <| WL.val rfl rfl rfl (ov_assign rfl) <| WL.nil <| WQ.seqN <| WC.seq <| WC.seq <| WC.region <| WL.val rfl rfl rfl (ov_move rfl) ?_
 obtain ⟨A4, c5, rfl, rs6⟩ := RS.form rs3
 refine WL.val rfl rfl rfl (ov_lenL rfl t_slice_45) <| WL.val rfl rfl rfl (ov_move rfl) <| WL.nil <| WQ.seqN <| WC.block <| WC.loop <| WP.to [0, 1, 7, 8] [(0, .slice A4 (xs1).length c5), (1, .func (.func 110) #[] #[]), (7, .int .i64 (xs1.length : Int)), (8, .int .i64 0)] rfl <| WP_rule (K := k) (fun j E w8 => ∃ (h7 : Hp) (x11 : Int), (tie_slices_IndexFunc_int_int j).slices_IndexFunc_int_int_l1 xs1 x11 = some r ∧ E = [(0, .slice A4 (xs1).length c5), (1, .func (.func 110) #[] #[]), (7, .int .i64 (xs1.length : Int)), (8, .int .i64 x11)] ∧ Stp [] w0 h0 w8 h7 ∧ Hle h0 h7) ?_ ?_ (j := k) (Nat.le_refl _) ?_
 ·rintro E w8 ⟨_, _, HF, _⟩; cases HF
 ·rintro j12 hj14 IHL13 E w8 ⟨h7, x11, HF, rfl, S10, le9⟩
  refine WC.seq <| WC.region <| WL.val rfl rfl rfl (ov_lss rfl rfl) <| WL.nil <| WQ.seqN <| WC.join (fun E w17 => ∃ (h16 : Hp), slices_IndexFunc_int_int_j2 j12 (tie_slices_IndexFunc_int_int j12) xs1 x11 = some r ∧ E = [(0, .slice A4 (xs1).length c5), (1, .func (.func 110) #[] #[]), (7, .int .i64 (xs1.length : Int)), (8, .int .i64 x11)] ∧ Stp [] w0 h0 w17 h16 ∧ Hle h7 h16) ?_ ?_
  ·rintro E w17 ⟨h16, HF, rfl, S19, le18⟩
   refine WC.seq <| WC.block <| WC.seq <| WC.region <| WL.val rfl rfl rfl (ov_move rfl) <| WL.val rfl rfl rfl (ov_assign rfl) <| WL.nil <| WQ.seqN <| WC.seq <| WC.region <| WL.val rfl rfl rfl (ov_move rfl) <| WL.val rfl rfl rfl (ov_move rfl) <| WL.val rfl rfl rfl (ov_move rfl) ?_
   obtain ⟨e20, he21, HF⟩ := bind_some HF
   obtain ⟨b22, o23, rfl, h25, h26, ra24⟩ := RS.atO (rs6.mono ((le9).trans le18)) he21
   obtain ⟨cs27, r28, hc29⟩ := ra24
   obtain rfl := (show cs27 = _ from r28)
   refine WL.val rfl rfl rfl (ov_indexAddr rfl rfl t_slice_45 t_size_3 h25 h26) <| WL.val rfl rfl rfl (ov_load1 rfl t_agg_3 (S19.sub.at_ _ _ _ (hc29 0 _ rfl))) ?_
   obtain ⟨r30, hr31, HF⟩ := bind_some HF
   refine WL.call rfl rfl rfl (oc_val (vs := [.int .i64 e20]) (caps := []) rfl rfl t_ent_110) (ok_ast_Counter_arm_1 _ hr31 S19.sub) ?_
   rintro _ w33 ⟨h34, s35, rfl⟩
   have S36 := S19.trans0 s35
   refine WL.nil <| WQ.seqN <| WC.cond (b := r30) rfl (fun hb37 => ?_) (fun hb37 => ?_)
   ·replace HF := bif_t hb37 HF
    refine WC.seq <| WC.region <| WL.val rfl rfl rfl (ov_move rfl) <| WL.val rfl rfl rfl (ov_assign rfl) <| WL.nil <| WQ.seqN <| WC.ret <| WQ.blockRet <| WQ.thenRet <| WQ.thenRet <| WQ.blockRet <| WQ.thenRet <| WQ.ret1 rfl rfl ?_
    obtain rfl := Option.some.inj HF
    exact ⟨_, rfl, h34, S36, rfl⟩
   ·replace HF := bif_f hb37 HF
    refine WC.skip <| WQ.blockN <| WQ.seqN <| WC.region <| WL.val rfl rfl rfl (ov_add rfl rfl) <| WL.val rfl rfl rfl (ov_move rfl) <| WL.nil <| WQ.loopN <| WP.to [0, 1, 7, 8] [(0, .slice (some ⟨b22, o23, none⟩) (xs1).length c5), (1, .func (.func 110) #[] #[]), (7, .int .i64 (xs1.length : Int)), (8, .int .i64 (IntKind.i64.wrap (x11 + 1)))] rfl ?_
    exact IHL13 j12 (Nat.le_refl _) _ _ ⟨h34, IntKind.i64.wrap (x11 + 1), HF, rfl, S36, (le9).trans ((le18).trans s35.le)⟩
  ·intro J38
   refine WC.cond (b := decide ((x11 : Int) < (xs1.length : Int))) rfl (fun hb15 => ?_) (fun hb15 => ?_)
   ·replace HF := bif_t hb15 HF
    refine WC.skip <| WC.to [0, 1, 7, 8] [(0, .slice A4 (xs1).length c5), (1, .func (.func 110) #[] #[]), (7, .int .i64 (xs1.length : Int)), (8, .int .i64 x11)] rfl ?_
    exact J38 ⟨h7, HF, rfl, S10, Hle.refl _⟩
   ·replace HF := bif_f hb15 HF
    refine WC.exit <| WQ.thenExit <| WQ.thenExit <| WQ.blockHit <| WQ.seqN <| WC.seq <| WC.region <| WL.val rfl rfl rfl (ov_assign rfl) <| WL.nil <| WQ.seqN <| WC.ret <| WQ.ret1 rfl rfl ?_
    obtain rfl := Option.some.inj HF
    exact ⟨_, rfl, h7, S10, rfl⟩
 ·exact ⟨h0, 0, HF, rfl, S0, Hle.refl _⟩
theorem all_slices_IndexFunc_int_int : ∀ k j, j ≤ k → C_slices_IndexFunc_int_int (tie_slices_IndexFunc_int_int j).slices_IndexFunc_int_int := by
  intro k
  induction k with
  | zero =>
    intro j hj
    obtain rfl : j = 0 := by omega
    exact (fun _ _ => by intro h; cases h)
  | succ k ih =>
    intro j hj
    by_cases h : j ≤ k
    · exact ih j h
    · obtain rfl : j = k + 1 := by omega
      exact s_slices_IndexFunc_int_int k ih
theorem ok_slices_IndexFunc_int_int (k : Nat) : C_slices_IndexFunc_int_int (F_slices_IndexFunc_int_int k) := (all_slices_IndexFunc_int_int k k (Nat.le_refl _))

def C_slices_ContainsFunc_int_int (φ : (List Int) → Option Bool) : Prop := ∀ ⦃xs1 : List Int⦄ ⦃r : Bool⦄, φ xs1 = some r → ∀ ⦃w0 : World⦄ ⦃h0 : Hp⦄ ⦃v2 : Value⦄, Sub h0 w0 → RS h0 v2 xs1 →
  Calls Tryz.prog 109 #[v2, .func (.func 110) #[] #[]] w0 fun e w1 => ∃ v, e = .returned v ∧ ∃ h1, Stp [] w0 h0 w1 h1 ∧ v = .bool r
set_option maxRecDepth 20000 in
set_option maxHeartbeats 4000000 in
theorem s_slices_ContainsFunc_int_int (k : Nat) : C_slices_ContainsFunc_int_int (F_slices_ContainsFunc_int_int k) := by
 intro xs1 r HF w0 h0 v2 hs0 rs3
 have S0 : Stp [] w0 h0 w0 h0 := Stp.refl hs0 _
 refine enter (n := 9) Tryz.func109 rfl Tryz.ntmps109 rfl [(0, v2), (1, .func (.func 110) #[] #[])] rfl <| WC.seq <| WC.region <| WL.val rfl rfl rfl (ov_assign rfl) <| WL.nil <| WQ.seqN <| WC.seq <| WC.region <| WL.val rfl rfl rfl (ov_move rfl) <| WL.val rfl rfl rfl (ov_move rfl) ?_
 obtain ⟨r4, hr5, HF⟩ := bind_some HF
 refine WL.call rfl rfl rfl (oc_func (vs := [v2, .func (.func 110) #[] #[]]) rfl t_ent_126) (ok_slices_IndexFunc_int_int _ hr5 S0.sub rs3) ?_
 rintro _ w7 ⟨h8, s9, rfl⟩
 have S10 := S0.trans0 s9
 refine WL.val rfl rfl rfl (ov_geq rfl rfl) <| WL.val rfl rfl rfl (ov_assign rfl) <| WL.nil <| WQ.seqN <| WC.ret <| WQ.ret1 rfl rfl ?_
 obtain rfl := Option.some.inj HF
 exact ⟨_, rfl, h8, S10, rfl⟩
theorem ok_slices_ContainsFunc_int_int (k : Nat) : C_slices_ContainsFunc_int_int (F_slices_ContainsFunc_int_int k) := s_slices_ContainsFunc_int_int k
end Go.Proofs.YtaknpdhmhifpeaaGreatDoor
