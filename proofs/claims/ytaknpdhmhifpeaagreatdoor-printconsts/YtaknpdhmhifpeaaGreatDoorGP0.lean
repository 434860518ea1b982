import Derived.Test.YtaknpdhmhifpeaaGreatDoorE0
import Derived.Test.YtaknpdhmhifpeaaGreatDoorProg
import Derived.Test.YtaknpdhmhifpeaaGreatDoorGF
import Derived.Test.YtaknpdhmhifpeaaGreatDoorGM
set_option linter.unusedVariables false
set_option linter.unusedSimpArgs false
namespace Go.Proofs.YtaknpdhmhifpeaaGreatDoor
open Go
def C_strconv_FormatBool (φ : Bool → Option ByteArray) : Prop := ∀ ⦃x1 : Bool⦄ ⦃r : ByteArray⦄, φ x1 = some r → ∀ ⦃w0 : World⦄ ⦃h0 : Hp⦄, Sub h0 w0 →
  Calls Tryz.prog 35 #[.bool x1] w0 fun e w1 => ∃ v, e = .returned v ∧ ∃ h1, Stp [] w0 h0 w1 h1 ∧ v = .string r
set_option maxRecDepth 20000 in
theorem ok_strconv_FormatBool (k : Nat) : C_strconv_FormatBool (F_strconv_FormatBool k) := by
  intro x1 r HF w0 h0 hs0
  simp only [F_strconv_FormatBool] at HF
  cases HF
  refine (Tryz.strconv_FormatBool x1 w0).mono ?_
  rintro e w1 ⟨rfl, rfl⟩
  exact ⟨_, rfl, h0, Stp.refl hs0 _, rfl⟩

def C_ast_within (φ : Int → Int → Int → Option Bool) : Prop := ∀ ⦃x1 : Int⦄ ⦃x2 : Int⦄ ⦃x3 : Int⦄ ⦃r : Bool⦄, φ x1 x2 x3 = some r → ∀ ⦃w0 : World⦄ ⦃h0 : Hp⦄, Sub h0 w0 →
  Calls Tryz.prog 62 #[.int .i64 x1, .int .i64 x2, .int .i64 x3] w0 fun e w1 => ∃ v, e = .returned v ∧ ∃ h1, Stp [] w0 h0 w1 h1 ∧ v = .bool r
set_option maxRecDepth 20000 in
set_option maxHeartbeats 4000000 in
theorem s_ast_within (k : Nat) : C_ast_within (F_ast_within k) := by
  intro x1 x2 x3 r HF w0 h0  hs0 
  have S0 : Stp [] w0 h0 w0 h0 := Stp.refl hs0 _
  refine enter (n := 15) Tryz.func62 rfl Tryz.ntmps62 rfl [(0, .int .i64 x1), (1, .int .i64 x2), (2, .int .i64 x3)] rfl ?_
  refine WC.seq ?_
  refine WC.region ?_
  refine WL.val rfl rfl rfl (ov_assign rfl) ?_
  refine WL.nil ?_
  refine WQ.seqN ?_
  refine WC.seq ?_
  refine WC.region ?_
  refine WL.val rfl rfl rfl (ov_move rfl) ?_
  refine WL.val rfl rfl rfl (ov_move rfl) ?_
  refine WL.val rfl rfl rfl (ov_geq rfl rfl) ?_
  refine WL.val rfl rfl rfl (ov_move rfl) ?_
  refine WL.split 10 (b := decide ((x2 : Int) ≤ x1)) rfl (fun hb4 => ?_) (fun hb4 => ?_)
  · replace HF := bif_t hb4 HF
    refine WL.val rfl rfl rfl (ov_move rfl) ?_
    refine WL.val rfl rfl rfl (ov_move rfl) ?_
    refine WL.val rfl rfl rfl (ov_leq rfl rfl) ?_
    refine WL.val rfl rfl rfl (ov_pickT rfl rfl) ?_
    refine WL.val rfl rfl rfl (ov_assign rfl) ?_
    refine WL.nil ?_
    refine WQ.seqN ?_
    refine WC.ret ?_
    refine WQ.ret1 rfl rfl ?_
    obtain rfl := Option.some.inj HF
    exact ⟨_, rfl, h0, S0, rfl⟩
  · replace HF := bif_f hb4 HF
    refine WL.pass rfl rfl rfl ?_
    refine WL.pass rfl rfl rfl ?_
    refine WL.pass rfl rfl rfl ?_
    refine WL.val rfl rfl rfl (ov_pickF rfl rfl) ?_
    refine WL.val rfl rfl rfl (ov_assign rfl) ?_
    refine WL.nil ?_
    refine WQ.seqN ?_
    refine WC.ret ?_
    refine WQ.ret1 rfl rfl ?_
    obtain rfl := Option.some.inj HF
    exact ⟨_, rfl, h0, S0, rfl⟩
theorem ok_ast_within (k : Nat) : C_ast_within (F_ast_within k) := s_ast_within k

def C_ast_IsConst (φ : Int → Int → Option Bool) : Prop := ∀ ⦃x1 : Int⦄ ⦃x2 : Int⦄ ⦃r : Bool⦄, φ x1 x2 = some r → ∀ ⦃w0 : World⦄ ⦃h0 : Hp⦄, Sub h0 w0 →
  Calls Tryz.prog 33 #[.int .i64 x1, .int .i64 x2] w0 fun e w1 => ∃ v, e = .returned v ∧ ∃ h1, Stp [] w0 h0 w1 h1 ∧ v = .bool r
set_option maxRecDepth 20000 in
set_option maxHeartbeats 4000000 in
theorem s_ast_IsConst (k : Nat) : C_ast_IsConst (F_ast_IsConst k) := by
  intro x1 x2 r HF w0 h0  hs0 
  have S0 : Stp [] w0 h0 w0 h0 := Stp.refl hs0 _
  refine enter (n := 15) Tryz.func33 rfl Tryz.ntmps33 rfl [(0, .int .i64 x1), (1, .int .i64 x2)] rfl ?_
  refine WC.seq ?_
  refine WC.region ?_
  refine WL.val rfl rfl rfl (ov_assign rfl) ?_
  refine WL.nil ?_
  refine WQ.seqN ?_
  refine WC.join (fun E w27 => ∃ (h26 : Hp), ast_IsConst_j2 k  = some r ∧ E = [] ∧ Stp [] w0 h0 w27 h26 ∧ Hle h0 h26) ?_ ?_
  · rintro E w27 ⟨h26, HF, rfl, S29, le28⟩
    refine WC.seq ?_
    refine WC.region ?_
    refine WL.val rfl rfl rfl (ov_assign rfl) ?_
    refine WL.nil ?_
    refine WQ.seqN ?_
    refine WC.ret ?_
    refine WQ.ret1 rfl rfl ?_
    obtain rfl := Option.some.inj HF
    exact ⟨_, rfl, h26, S29, rfl⟩
  · intro J30
    refine WC.seq ?_
    refine WC.region ?_
    refine WL.val rfl rfl rfl (ov_move rfl) ?_
    refine WL.nil ?_
    refine WQ.seqN ?_
    refine WC.block ?_
    refine WC.seq ?_
    refine WC.region ?_
    refine WL.val rfl rfl rfl (ov_eql rfl rfl) ?_
    refine WL.val rfl rfl rfl (ov_assign rfl) ?_
    refine WL.nil ?_
    refine WQ.seqN ?_
    refine WC.cond (b := (x1 : Int) == 1) rfl (fun hb3 => ?_) (fun hb3 => ?_)
    · replace HF := bif_t hb3 HF
      refine WC.seq ?_
      refine WC.region ?_
      refine WL.val rfl rfl rfl (ov_move rfl) ?_
      obtain ⟨r4, hr5, HF⟩ := bind_some HF
      refine WL.call rfl rfl rfl (oc_func (vs := [.int .i64 x2, .int .i64 0, .int .i64 1]) rfl t_ent_62) (ok_ast_within _ hr5 S0.sub) ?_
      rintro _ w7 ⟨h8, s9, rfl⟩
      have S10 := S0.trans0 s9
      refine WL.val rfl rfl rfl (ov_assign rfl) ?_
      refine WL.nil ?_
      refine WQ.seqN ?_
      refine WC.ret ?_
      refine WQ.blockRet ?_
      refine WQ.thenRet ?_
      refine WQ.ret1 rfl rfl ?_
      obtain rfl := Option.some.inj HF
      exact ⟨_, rfl, h8, S10, rfl⟩
    · replace HF := bif_f hb3 HF
      refine WC.join (fun E w13 => ∃ (h12 : Hp) (x16 : Bool), ast_IsConst_j1 k x2 x16 = some r ∧ E = [(1, .int .i64 x2), (10, .bool x16)] ∧ Stp [] w0 h0 w13 h12 ∧ Hle h0 h12) ?_ ?_
      · rintro E w13 ⟨h12, x16, HF, rfl, S15, le14⟩
        refine WC.cond (b := x16) rfl (fun hb17 => ?_) (fun hb17 => ?_)
        · replace HF := bif_t hb17 HF
          refine WC.seq ?_
          refine WC.region ?_
          refine WL.val rfl rfl rfl (ov_move rfl) ?_
          obtain ⟨r18, hr19, HF⟩ := bind_some HF
          refine WL.call rfl rfl rfl (oc_func (vs := [.int .i64 x2, .int .i64 0, .int .i64 2147483647]) rfl t_ent_62) (ok_ast_within _ hr19 S15.sub) ?_
          rintro _ w21 ⟨h22, s23, rfl⟩
          have S24 := S15.trans0 s23
          refine WL.val rfl rfl rfl (ov_assign rfl) ?_
          refine WL.nil ?_
          refine WQ.seqN ?_
          refine WC.ret ?_
          refine WQ.blockRet ?_
          refine WQ.thenRet ?_
          refine WQ.ret1 rfl rfl ?_
          obtain rfl := Option.some.inj HF
          exact ⟨_, rfl, h22, S24, rfl⟩
        · replace HF := bif_f hb17 HF
          refine WC.skip ?_
          refine WQ.blockN ?_
          refine WC.to [] [] rfl ?_
          exact J30 ⟨h12, HF, rfl, S15, le14⟩
      · intro J25
        refine WC.seq ?_
        refine WC.region ?_
        refine WL.val rfl rfl rfl (ov_eql rfl rfl) ?_
        refine WL.val rfl rfl rfl (ov_assign rfl) ?_
        refine WL.nil ?_
        refine WQ.seqN ?_
        refine WC.cond (b := (x1 : Int) == 2) rfl (fun hb11 => ?_) (fun hb11 => ?_)
        · replace HF := bif_t hb11 HF
          refine WC.skip ?_
          refine WC.to [1, 10] [(1, .int .i64 x2), (10, .bool ((x1 : Int) == 2))] rfl ?_
          exact J25 ⟨h0, (x1 : Int) == 2, HF, rfl, S0, Hle.refl _⟩
        · replace HF := bif_f hb11 HF
          refine WC.region ?_
          refine WL.val rfl rfl rfl (ov_eql rfl rfl) ?_
          refine WL.val rfl rfl rfl (ov_assign rfl) ?_
          refine WL.nil ?_
          refine WC.to [1, 10] [(1, .int .i64 x2), (10, .bool ((x1 : Int) == 3))] rfl ?_
          exact J25 ⟨h0, (x1 : Int) == 3, HF, rfl, S0, Hle.refl _⟩
theorem ok_ast_IsConst (k : Nat) : C_ast_IsConst (F_ast_IsConst k) := s_ast_IsConst k

def C_ast_IsLabel (φ : Int → Option Bool) : Prop := ∀ ⦃x1 : Int⦄ ⦃r : Bool⦄, φ x1 = some r → ∀ ⦃w0 : World⦄ ⦃h0 : Hp⦄, Sub h0 w0 →
  Calls Tryz.prog 34 #[.int .i64 x1] w0 fun e w1 => ∃ v, e = .returned v ∧ ∃ h1, Stp [] w0 h0 w1 h1 ∧ v = .bool r
set_option maxRecDepth 20000 in
set_option maxHeartbeats 4000000 in
theorem s_ast_IsLabel (k : Nat) : C_ast_IsLabel (F_ast_IsLabel k) := by
  intro x1 r HF w0 h0  hs0 
  have S0 : Stp [] w0 h0 w0 h0 := Stp.refl hs0 _
  refine enter (n := 5) Tryz.func34 rfl Tryz.ntmps34 rfl [(0, .int .i64 x1)] rfl ?_
  refine WC.seq ?_
  refine WC.region ?_
  refine WL.val rfl rfl rfl (ov_assign rfl) ?_
  refine WL.nil ?_
  refine WQ.seqN ?_
  refine WC.seq ?_
  refine WC.region ?_
  refine WL.val rfl rfl rfl (ov_move rfl) ?_
  obtain ⟨r2, hr3, HF⟩ := bind_some HF
  refine WL.call rfl rfl rfl (oc_func (vs := [.int .i64 x1, .int .i64 (-2147483647), .int .i64 2147483647]) rfl t_ent_62) (ok_ast_within _ hr3 S0.sub) ?_
  rintro _ w5 ⟨h6, s7, rfl⟩
  have S8 := S0.trans0 s7
  refine WL.val rfl rfl rfl (ov_assign rfl) ?_
  refine WL.nil ?_
  refine WQ.seqN ?_
  refine WC.ret ?_
  refine WQ.ret1 rfl rfl ?_
  obtain rfl := Option.some.inj HF
  exact ⟨_, rfl, h6, S8, rfl⟩
theorem ok_ast_IsLabel (k : Nat) : C_ast_IsLabel (F_ast_IsLabel k) := s_ast_IsLabel k

def C_strconv_Itoa (φ : Int → Option ByteArray) : Prop := ∀ ⦃x1 : Int⦄ ⦃r : ByteArray⦄, φ x1 = some r → ∀ ⦃w0 : World⦄ ⦃h0 : Hp⦄, Sub h0 w0 →
  Calls Tryz.prog 36 #[.int .i64 x1] w0 fun e w1 => ∃ v, e = .returned v ∧ ∃ h1, Stp [] w0 h0 w1 h1 ∧ v = .string r
set_option maxRecDepth 20000 in
theorem ok_strconv_Itoa (k : Nat) : C_strconv_Itoa (F_strconv_Itoa k) := by
  intro x1 r HF w0 h0 hs0
  simp only [F_strconv_Itoa] at HF
  obtain ⟨hn, HF⟩ := ite_none HF
  cases HF
  rw [itoaB_eq hn]
  refine (Tryz.strconv_Itoa x1 hn.1 hn.2 w0 (glob_pow hs0)).mono ?_
  rintro e w1 ⟨rfl, k, os, rfl⟩
  exact ⟨_, rfl, h0, Stp.of_below hs0 (grow_below k os), rfl⟩

def C_print_Const (φ : Int → Int → Option (ByteArray × Int)) : Prop := ∀ ⦃x1 : Int⦄ ⦃x2 : Int⦄ ⦃r : ByteArray × Int⦄, φ x1 x2 = some r → ∀ ⦃w0 : World⦄ ⦃h0 : Hp⦄, Sub h0 w0 →
  Calls Tryz.prog 17 #[.int .i64 x1, .int .i64 x2] w0 fun e w1 => ∃ v, e = .returned v ∧ ∃ h1, Stp [] w0 h0 w1 h1 ∧ (∃ u0 u1 : Value, v = .tuple #[u0, u1] ∧ (u0 = .string r.1) ∧ (u1 = .int .i64 r.2))
set_option maxRecDepth 20000 in
set_option maxHeartbeats 4000000 in
theorem s_print_Const (k : Nat) : C_print_Const (F_print_Const k) := by
  intro x1 x2 r HF w0 h0  hs0 
  have S0 : Stp [] w0 h0 w0 h0 := Stp.refl hs0 _
  refine enter (n := 32) Tryz.func17 rfl Tryz.ntmps17 rfl [(0, .int .i64 x1), (1, .int .i64 x2)] rfl ?_
  refine WC.seq ?_
  refine WC.region ?_
  refine WL.val rfl rfl rfl (ov_assign rfl) ?_
  refine WL.val rfl rfl rfl (ov_assign rfl) ?_
  refine WL.nil ?_
  refine WQ.seqN ?_
  refine WC.join (fun E w27 => ∃ (h26 : Hp), print_Const_j2 k x1 x2 = some r ∧ E = [(0, .int .i64 x1), (1, .int .i64 x2)] ∧ Stp [] w0 h0 w27 h26 ∧ Hle h0 h26) ?_ ?_
  · rintro E w27 ⟨h26, HF, rfl, S29, le28⟩
    refine WC.join (fun E w48 => ∃ (h47 : Hp), print_Const_j3 k x2 = some r ∧ E = [(1, .int .i64 x2)] ∧ Stp [] w0 h0 w48 h47 ∧ Hle h26 h47) ?_ ?_
    · rintro E w48 ⟨h47, HF, rfl, S50, le49⟩
      refine WC.seq ?_
      refine WC.region ?_
      refine WL.val rfl rfl rfl (ov_move rfl) ?_
      obtain ⟨r51, hr52, HF⟩ := bind_some HF
      refine WL.call rfl rfl rfl (oc_func (vs := [.int .i64 x2]) rfl t_ent_36) (ok_strconv_Itoa _ hr52 S50.sub) ?_
      rintro _ w54 ⟨h55, s56, rfl⟩
      have S57 := S50.trans0 s56
      refine WL.val rfl rfl rfl (ov_assign rfl) ?_
      refine WL.val rfl rfl rfl (ov_assign rfl) ?_
      refine WL.nil ?_
      refine WQ.seqN ?_
      refine WC.ret ?_
      refine WQ.ret2 rfl rfl rfl ?_
      obtain rfl := Option.some.inj HF
      exact ⟨_, rfl, h55, S57, _, _, rfl, rfl, rfl⟩
    · intro J58
      refine WC.seq ?_
      refine WC.region ?_
      refine WL.val rfl rfl rfl (ov_move rfl) ?_
      refine WL.nil ?_
      refine WQ.seqN ?_
      refine WC.block ?_
      refine WC.seq ?_
      refine WC.region ?_
      refine WL.val rfl rfl rfl (ov_eql rfl rfl) ?_
      refine WL.val rfl rfl rfl (ov_assign rfl) ?_
      refine WL.nil ?_
      refine WQ.seqN ?_
      refine WC.cond (b := (x1 : Int) == 1) rfl (fun hb30 => ?_) (fun hb30 => ?_)
      · replace HF := bif_t hb30 HF
        refine WC.seq ?_
        refine WC.region ?_
        refine WL.val rfl rfl rfl (ov_move rfl) ?_
        refine WL.val rfl rfl rfl (ov_eql rfl rfl) ?_
        obtain ⟨r31, hr32, HF⟩ := bind_some HF
        refine WL.call rfl rfl rfl (oc_func (vs := [.bool ((x2 : Int) == 1)]) rfl t_ent_35) (ok_strconv_FormatBool _ hr32 S29.sub) ?_
        rintro _ w34 ⟨h35, s36, rfl⟩
        have S37 := S29.trans0 s36
        refine WL.val rfl rfl rfl (ov_assign rfl) ?_
        refine WL.val rfl rfl rfl (ov_assign rfl) ?_
        refine WL.nil ?_
        refine WQ.seqN ?_
        refine WC.ret ?_
        refine WQ.blockRet ?_
        refine WQ.thenRet ?_
        refine WQ.ret2 rfl rfl rfl ?_
        obtain rfl := Option.some.inj HF
        exact ⟨_, rfl, h35, S37, _, _, rfl, rfl, rfl⟩
      · replace HF := bif_f hb30 HF
        refine WC.seq ?_
        refine WC.region ?_
        refine WL.val rfl rfl rfl (ov_eql rfl rfl) ?_
        refine WL.val rfl rfl rfl (ov_assign rfl) ?_
        refine WL.nil ?_
        refine WQ.seqN ?_
        refine WC.cond (b := (x1 : Int) == 3) rfl (fun hb38 => ?_) (fun hb38 => ?_)
        · replace HF := bif_t hb38 HF
          refine WC.seq ?_
          refine WC.region ?_
          refine WL.val rfl rfl rfl (ov_move rfl) ?_
          obtain ⟨r39, hr40, HF⟩ := bind_some HF
          refine WL.call rfl rfl rfl (oc_func (vs := [.int .i64 x2]) rfl t_ent_36) (ok_strconv_Itoa _ hr40 S29.sub) ?_
          rintro _ w42 ⟨h43, s44, rfl⟩
          have S45 := S29.trans0 s44
          obtain ⟨hl46, HF⟩ := ite_none HF
          refine WL.val rfl rfl rfl (ov_addS rfl rfl hl46) ?_
          refine WL.val rfl rfl rfl (ov_assign rfl) ?_
          refine WL.val rfl rfl rfl (ov_assign rfl) ?_
          refine WL.nil ?_
          refine WQ.seqN ?_
          refine WC.ret ?_
          refine WQ.blockRet ?_
          refine WQ.thenRet ?_
          refine WQ.ret2 rfl rfl rfl ?_
          obtain rfl := Option.some.inj HF
          exact ⟨_, rfl, h43, S45, _, _, rfl, rfl, rfl⟩
        · replace HF := bif_f hb38 HF
          refine WC.skip ?_
          refine WQ.blockN ?_
          refine WC.to [1] [(1, .int .i64 x2)] rfl ?_
          exact J58 ⟨h26, HF, rfl, S29, Hle.refl _⟩
  · intro J59
    refine WC.join (fun E w20 => ∃ (h19 : Hp) (x23 : Bool), print_Const_j1 k x1 x2 x23 = some r ∧ E = [(0, .int .i64 x1), (1, .int .i64 x2), (18, .bool x23)] ∧ Stp [] w0 h0 w20 h19 ∧ Hle h0 h19) ?_ ?_
    · rintro E w20 ⟨h19, x23, HF, rfl, S22, le21⟩
      refine WC.cond (b := x23) rfl (fun hb24 => ?_) (fun hb24 => ?_)
      · replace HF := bif_t hb24 HF
        refine WC.seq ?_
        refine WC.region ?_
        refine WL.val rfl rfl rfl (ov_assign rfl) ?_
        refine WL.val rfl rfl rfl (ov_assign rfl) ?_
        refine WL.nil ?_
        refine WQ.seqN ?_
        refine WC.ret ?_
        refine WQ.thenRet ?_
        refine WQ.ret2 rfl rfl rfl ?_
        obtain rfl := Option.some.inj HF
        exact ⟨_, rfl, h19, S22, _, _, rfl, rfl, rfl⟩
      · replace HF := bif_f hb24 HF
        refine WC.skip ?_
        refine WC.to [0, 1] [(0, .int .i64 x1), (1, .int .i64 x2)] rfl ?_
        exact J59 ⟨h19, HF, rfl, S22, le21⟩
    · intro J25
      refine WC.region ?_
      refine WL.val rfl rfl rfl (ov_move rfl) ?_
      refine WL.val rfl rfl rfl (ov_move rfl) ?_
      obtain ⟨r3, hr4, HF⟩ := bind_some HF
      refine WL.call rfl rfl rfl (oc_func (vs := [.int .i64 x1, .int .i64 x2]) rfl t_ent_33) (ok_ast_IsConst _ hr4 S0.sub) ?_
      rintro _ w6 ⟨h7, s8, rfl⟩
      have S9 := S0.trans0 s8
      refine WL.val rfl rfl rfl (ov_not rfl) ?_
      refine WL.val rfl rfl rfl (ov_move rfl) ?_
      refine WL.split 10 (b := !r3) rfl (fun hb10 => ?_) (fun hb10 => ?_)
      · replace HF := bif_t hb10 HF
        refine WL.val rfl rfl rfl (ov_move rfl) ?_
        refine WL.val rfl rfl rfl (ov_neq rfl rfl) ?_
        refine WL.val rfl rfl rfl (ov_move rfl) ?_
        refine WL.split 13 (b := (x1 : Int) != 2) rfl (fun hb11 => ?_) (fun hb11 => ?_)
        · replace HF := bif_t hb11 HF
          refine WL.pass rfl rfl rfl ?_
          refine WL.pass rfl rfl rfl ?_
          refine WL.pass rfl rfl rfl ?_
          refine WL.val rfl rfl rfl (ov_pickT rfl rfl) ?_
          refine WL.val rfl rfl rfl (ov_pickT rfl rfl) ?_
          refine WL.nil ?_
          refine WC.to [0, 1, 18] [(0, .int .i64 x1), (1, .int .i64 x2), (18, .bool true)] rfl ?_
          exact J25 ⟨h7, true, HF, rfl, S9, s8.le⟩
        · replace HF := bif_f hb11 HF
          refine WL.val rfl rfl rfl (ov_move rfl) ?_
          obtain ⟨r12, hr13, HF⟩ := bind_some HF
          refine WL.call rfl rfl rfl (oc_func (vs := [.int .i64 x2]) rfl t_ent_34) (ok_ast_IsLabel _ hr13 S9.sub) ?_
          rintro _ w15 ⟨h16, s17, rfl⟩
          have S18 := S9.trans0 s17
          refine WL.val rfl rfl rfl (ov_not rfl) ?_
          refine WL.val rfl rfl rfl (ov_pickF rfl rfl) ?_
          refine WL.val rfl rfl rfl (ov_pickT rfl rfl) ?_
          refine WL.nil ?_
          refine WC.to [0, 1, 18] [(0, .int .i64 x1), (1, .int .i64 x2), (18, .bool (!r12))] rfl ?_
          exact J25 ⟨h16, !r12, HF, rfl, S18, (s8.le).trans s17.le⟩
      · replace HF := bif_f hb10 HF
        refine WL.pass rfl rfl rfl ?_
        refine WL.pass rfl rfl rfl ?_
        refine WL.pass rfl rfl rfl ?_
        refine WL.pass rfl rfl rfl ?_
        refine WL.pass rfl rfl rfl ?_
        refine WL.pass rfl rfl rfl ?_
        refine WL.pass rfl rfl rfl ?_
        refine WL.val rfl rfl rfl (ov_pickF rfl rfl) ?_
        refine WL.nil ?_
        refine WC.to [0, 1, 18] [(0, .int .i64 x1), (1, .int .i64 x2), (18, .bool false)] rfl ?_
        exact J25 ⟨h7, false, HF, rfl, S9, s8.le⟩
theorem ok_print_Const (k : Nat) : C_print_Const (F_print_Const k) := s_print_Const k

def C_strings_Split (φ : ByteArray → ByteArray → Option (List ByteArray)) : Prop := ∀ ⦃x1 : ByteArray⦄ ⦃x2 : ByteArray⦄ ⦃r : List ByteArray⦄, φ x1 x2 = some r → ∀ ⦃w0 : World⦄ ⦃h0 : Hp⦄, Sub h0 w0 →
  Calls Tryz.prog 48 #[.string x1, .string x2] w0 fun e w1 => ∃ v, e = .returned v ∧ ∃ h1, Stp [] w0 h0 w1 h1 ∧ RS h1 v r
set_option maxRecDepth 20000 in
theorem ok_strings_Split (k : Nat) : C_strings_Split (F_strings_Split k) := by
  intro x1 x2 r HF w0 h0 hs0
  simp only [F_strings_Split] at HF
  obtain ⟨hn, HF⟩ := ite_none HF
  cases HF
  obtain ⟨m, hm⟩ := hs0.glob.g4
  have hlen := (Lib.splitB_all x2 hn.2 0 _ x1 rfl)
  refine (Tryz.strings_Split x1 x2 m w0 hn.1 (hs0.at_ _ _ _ hm) hn.2).mono ?_
  rintro e w1 ⟨rfl, rfl⟩
  refine ⟨_, rfl, _, alloc_row hs0 _ 9, ?_⟩
  exact strs_RS _ (by simpa using hlen) (fun o => hadd_new h0 _ _ o)

def C_strings_TrimSuffix (φ : ByteArray → ByteArray → Option ByteArray) : Prop := ∀ ⦃x1 : ByteArray⦄ ⦃x2 : ByteArray⦄ ⦃r : ByteArray⦄, φ x1 x2 = some r → ∀ ⦃w0 : World⦄ ⦃h0 : Hp⦄, Sub h0 w0 →
  Calls Tryz.prog 49 #[.string x1, .string x2] w0 fun e w1 => ∃ v, e = .returned v ∧ ∃ h1, Stp [] w0 h0 w1 h1 ∧ v = .string r
set_option maxRecDepth 20000 in
theorem ok_strings_TrimSuffix (k : Nat) : C_strings_TrimSuffix (F_strings_TrimSuffix k) := by
  intro x1 x2 r HF w0 h0 hs0
  simp only [F_strings_TrimSuffix] at HF
  obtain ⟨hn, HF⟩ := ite_none HF
  cases HF
  refine (Tryz.strings_TrimSuffix x1 x2 w0 hn).mono ?_
  rintro e w1 ⟨rfl, rfl⟩
  exact ⟨_, rfl, h0, Stp.refl hs0 _, rfl⟩

def C_strings_Join (φ : (List ByteArray) → ByteArray → Option ByteArray) : Prop := ∀ ⦃xs1 : List ByteArray⦄ ⦃x4 : ByteArray⦄ ⦃r : ByteArray⦄, φ xs1 x4 = some r → ∀ ⦃w0 : World⦄ ⦃h0 : Hp⦄ ⦃v2 : Value⦄, Sub h0 w0 → RS h0 v2 xs1 →
  Calls Tryz.prog 67 #[v2, .string x4] w0 fun e w1 => ∃ v, e = .returned v ∧ ∃ h1, Stp [] w0 h0 w1 h1 ∧ v = .string r
set_option maxRecDepth 20000 in
theorem ok_strings_Join (k : Nat) : C_strings_Join (F_strings_Join k) := by
  intro xs1 x4 r HF w0 h0 v2 hs0 rs3
  simp only [F_strings_Join] at HF
  obtain ⟨hn, HF⟩ := ite_none HF
  cases HF
  obtain ⟨A, c, rfl, hc, hr⟩ := rs3
  by_cases hx : xs1 = []
  · subst hx
    refine (Tryz.strings_Join_none A c x4 w0).mono ?_
    rintro e w1 ⟨rfl, rfl⟩
    exact ⟨_, rfl, h0, Stp.refl hs0 _, rfl⟩
  · obtain ⟨b, o, rfl, hj⟩ := hr hx
    have hcells : ∀ (j : Nat) x, xs1[j]? = some x → w0.cell? ⟨b, o + j, none⟩ = some (.string x) := fun j x hj1 => by
      obtain ⟨cs, q1, q2⟩ := hj j x hj1
      have q1' : cs = [.string x] := q1
      subst q1'
      have := hs0.at_ _ _ _ (q2 0 _ rfl)
      simpa [Rp.sz] using this
    have hbk : b < w0.heap.size := World.block_lt_of_cell? w0 _ (hcells 0 _ (List.getElem?_eq_getElem (List.length_pos_iff.2 hx)))
    refine (Tryz.strings_Join b o c xs1 x4 w0 hcells hbk hn.1 hc hn.2).mono ?_
    rintro e w1 ⟨rfl, hb⟩
    exact ⟨_, rfl, h0, Stp.of_below hs0 hb, rfl⟩

def C_strings_TrimLeft (φ : ByteArray → ByteArray → Option ByteArray) : Prop := ∀ ⦃x1 : ByteArray⦄ ⦃x2 : ByteArray⦄ ⦃r : ByteArray⦄, φ x1 x2 = some r → ∀ ⦃w0 : World⦄ ⦃h0 : Hp⦄, Sub h0 w0 →
  Calls Tryz.prog 51 #[.string x1, .string x2] w0 fun e w1 => ∃ v, e = .returned v ∧ ∃ h1, Stp [] w0 h0 w1 h1 ∧ v = .string r
set_option maxRecDepth 20000 in
theorem ok_strings_TrimLeft (k : Nat) : C_strings_TrimLeft (F_strings_TrimLeft k) := by
  intro x1 x2 r HF w0 h0 hs0
  simp only [F_strings_TrimLeft] at HF
  obtain ⟨c, hc, h1, rfl⟩ := trimL_some HF
  subst h1
  refine (Tryz.strings_TrimLeft_one x1 c hc w0).mono ?_
  rintro e w1 ⟨rfl, rfl⟩
  exact ⟨_, rfl, h0, Stp.refl hs0 _, rfl⟩

def C_print_Line_1 (φ : ByteArray → Option ByteArray) : Prop := ∀ ⦃x1 : ByteArray⦄ ⦃r : ByteArray⦄, φ x1 = some r → ∀ ⦃w0 : World⦄ ⦃h0 : Hp⦄, Sub h0 w0 →
  Calls Tryz.prog 50 #[.string x1] w0 fun e w1 => ∃ v, e = .returned v ∧ ∃ h1, Stp [] w0 h0 w1 h1 ∧ v = .string r
set_option maxRecDepth 20000 in
set_option maxHeartbeats 4000000 in
theorem s_print_Line_1 (k : Nat) : C_print_Line_1 (F_print_Line_1 k) := by
  intro x1 r HF w0 h0  hs0 
  have S0 : Stp [] w0 h0 w0 h0 := Stp.refl hs0 _
  refine enter (n := 5) Tryz.func50 rfl Tryz.ntmps50 rfl [(0, .string x1)] rfl ?_
  refine WC.seq ?_
  refine WC.region ?_
  refine WL.val rfl rfl rfl (ov_assign rfl) ?_
  refine WL.nil ?_
  refine WQ.seqN ?_
  refine WC.seq ?_
  refine WC.region ?_
  refine WL.val rfl rfl rfl (ov_move rfl) ?_
  obtain ⟨r2, hr3, HF⟩ := bind_some HF
  refine WL.call rfl rfl rfl (oc_func (vs := [.string x1, .string (⟨#[32]⟩ : ByteArray)]) rfl t_ent_51) (ok_strings_TrimLeft _ hr3 S0.sub) ?_
  rintro _ w5 ⟨h6, s7, rfl⟩
  have S8 := S0.trans0 s7
  refine WL.val rfl rfl rfl (ov_assign rfl) ?_
  refine WL.nil ?_
  refine WQ.seqN ?_
  refine WC.ret ?_
  refine WQ.ret1 rfl rfl ?_
  obtain rfl := Option.some.inj HF
  exact ⟨_, rfl, h6, S8, rfl⟩
theorem ok_print_Line_1 (k : Nat) : C_print_Line_1 (F_print_Line_1 k) := s_print_Line_1 k

def C_print_Joined_string (φ : (List ByteArray) → ByteArray → Option ByteArray) : Prop := ∀ ⦃xs1 : List ByteArray⦄ ⦃x4 : ByteArray⦄ ⦃r : ByteArray⦄, φ xs1 x4 = some r → ∀ ⦃w0 : World⦄ ⦃h0 : Hp⦄ ⦃v2 : Value⦄, Sub h0 w0 → RS h0 v2 xs1 →
  Calls Tryz.prog 47 #[v2, .string x4, .func (.func 50) #[] #[]] w0 fun e w1 => ∃ v, e = .returned v ∧ ∃ h1, Stp [] w0 h0 w1 h1 ∧ v = .string r
set_option maxRecDepth 20000 in
set_option maxHeartbeats 4000000 in
theorem s_print_Joined_string (k : Nat) (IH : ∀ j, j ≤ k → C_print_Joined_string (tie_print_Joined_string j).print_Joined_string) : C_print_Joined_string (m_print_Joined_string k (tie_print_Joined_string k)) := by
  intro xs1 x4 r HF w0 h0 v2 hs0 rs3
  have S0 : Stp [] w0 h0 w0 h0 := Stp.refl hs0 _
  refine enter (n := 26) Tryz.func47 rfl Tryz.ntmps47 rfl [(0, v2), (1, .string x4), (2, .func (.func 50) #[] #[])] rfl ?_
  refine WC.seq ?_
  refine WC.region ?_
  refine WL.val rfl rfl rfl (ov_assign rfl) ?_
  refine WL.nil ?_
  refine WQ.seqN ?_
  refine WC.seq ?_
  refine WC.region ?_
  refine WL.val rfl rfl rfl (ov_assign rfl) ?_
  refine WL.nil ?_
  refine WQ.seqN ?_
  refine WC.seq ?_
  refine WC.seq ?_
  refine WC.region ?_
  refine WL.val rfl rfl rfl (ov_move rfl) ?_
  obtain ⟨A5, c6, rfl, rs7⟩ := RS.form rs3
  refine WL.val rfl rfl rfl (ov_lenL rfl t_slice_41) ?_
  refine WL.val rfl rfl rfl (ov_move rfl) ?_
  refine WL.nil ?_
  refine WQ.seqN ?_
  refine WC.block ?_
  refine WC.loop ?_
  refine WP.to [1, 2, 7, 10, 11, 12] [(1, .string x4), (2, .func (.func 50) #[] #[]), (7, .slice none 0 0), (10, .slice A5 (xs1).length c6), (11, .int .i64 (xs1.length : Int)), (12, .int .i64 0)] rfl ?_
  refine WP_rule (K := k) (fun j E w9 => ∃ (h8 : Hp) (xs12 : List ByteArray) (v13 : Value) (x16 : Int), (tie_print_Joined_string j).print_Joined_string_l1 xs1 x4 xs12 x16 = some r ∧ E = [(1, .string x4), (2, .func (.func 50) #[] #[]), (7, v13), (10, .slice A5 (xs1).length c6), (11, .int .i64 (xs1.length : Int)), (12, .int .i64 x16)] ∧ Stp [] w0 h0 w9 h8 ∧ Hle h0 h8 ∧ RS h8 v13 xs12 ∧ Own w9 h8 w0.heap.size 9 1 v13 xs12.length) ?_ ?_ (j := k) (Nat.le_refl _) ?_
  · rintro E w9 ⟨_, _, _, _, HF, _⟩; cases HF
  · rintro j17 hj19 IHL18 E w9 ⟨h8, xs12, v13, x16, HF, rfl, S11, le10, rs14, ow15⟩
    refine WC.seq ?_
    refine WC.region ?_
    refine WL.val rfl rfl rfl (ov_lss rfl rfl) ?_
    refine WL.nil ?_
    refine WQ.seqN ?_
    refine WC.join (fun E w29 => ∃ (h28 : Hp) (xs32 : List ByteArray) (v33 : Value), print_Joined_string_j2 j17 (tie_print_Joined_string j17) xs1 x4 x16 xs32 = some r ∧ E = [(1, .string x4), (2, .func (.func 50) #[] #[]), (7, v33), (10, .slice A5 (xs1).length c6), (11, .int .i64 (xs1.length : Int)), (12, .int .i64 x16)] ∧ Stp [] w0 h0 w29 h28 ∧ Hle h8 h28 ∧ RS h28 v33 xs32 ∧ Own w29 h28 w0.heap.size 9 1 v33 xs32.length) ?_ ?_
    · rintro E w29 ⟨h28, xs32, v33, HF, rfl, S31, le30, rs34, ow35⟩
      refine WC.seq ?_
      refine WC.block ?_
      refine WC.seq ?_
      refine WC.region ?_
      obtain ⟨e36, he37, HF⟩ := bind_some HF
      obtain ⟨b38, o39, rfl, h41, h42, ra40⟩ := RS.atO (rs7.mono ((le10).trans le30)) he37
      obtain ⟨cs43, r44, hc45⟩ := ra40
      obtain rfl := (show cs43 = _ from r44)
      refine WL.val rfl rfl rfl (ov_indexAddr rfl rfl t_slice_41 t_size_9 h41 h42) ?_
      refine WL.val rfl rfl rfl (ov_load1 rfl t_agg_9 (S31.sub.at_ _ _ _ (hc45 0 _ rfl))) ?_
      refine WL.val rfl rfl rfl (ov_assign rfl) ?_
      refine WL.nil ?_
      refine WQ.seqN ?_
      refine WC.region ?_
      refine WL.val rfl rfl rfl (ov_move rfl) ?_
      refine WL.val rfl rfl rfl (ov_move rfl) ?_
      refine WL.val rfl rfl rfl (ov_move rfl) ?_
      obtain ⟨r46, hr47, HF⟩ := bind_some HF
      refine WL.call rfl rfl rfl (oc_val (vs := [.string e36]) (caps := []) rfl rfl t_ent_50) (ok_print_Line_1 _ hr47 S31.sub) ?_
      rintro _ w49 ⟨h50, s51, rfl⟩
      have S52 := S31.trans0 s51
      refine WL.buildSliceD (us := [.string r46]) (cs := [.string r46]) rfl rfl rfl t_slice_41 t_size_9 t_zero_9 rfl (cl_cons rfl cl_nil) rfl rfl rfl S52.sub (fun w53 h54 b55 hb56 s57 hk58 hc59 => ?_)
      have S60 := S52.trans0 s57
      have rs61 : RS h54 (.slice (some ⟨b55, 0, none⟩) 1 1) ([r46] : List ByteArray) := RS.litL _ [[.string r46]] rfl rfl hc59 ⟨rfl, trivial⟩
      have ow62 := Own.lit (base := w0.heap.size) (sz := 1) (m := 1) hk58 hc59 (by rw [hb56]; exact S52.size) rfl (by decide)
      obtain ⟨hl63, HF⟩ := ite_none HF
      refine WL.append (xs := (xs32 : List ByteArray)) (ys := [r46]) rfl rfl rfl rfl t_slice_41 t_size_9 t_zero_9 rfl t_bytes_9 rfl ((ow35.step0 s51).step0 s57) (rs34.mono ((s51.le).trans s57.le)) rs61 hl63 S60.sub S60.size (by rw [S60.eqb]; exact hs0.big) (fun v64 w65 h66 rs67 ow68 s69 at70 => ?_)
      have S71 := S60.trans s69 (fun i hi => .inr (((ow35.step0 s51).step0 s57).base_le i hi))
      refine WL.val rfl rfl rfl (ov_assign rfl) ?_
      refine WL.nil ?_
      refine WQ.blockN ?_
      refine WQ.seqN ?_
      refine WC.region ?_
      refine WL.val rfl rfl rfl (ov_add rfl rfl) ?_
      refine WL.val rfl rfl rfl (ov_move rfl) ?_
      refine WL.nil ?_
      refine WQ.loopN ?_
      refine WP.to [1, 2, 7, 10, 11, 12] [(1, .string x4), (2, .func (.func 50) #[] #[]), (7, v64), (10, .slice (some ⟨b38, o39, none⟩) (xs1).length c6), (11, .int .i64 (xs1.length : Int)), (12, .int .i64 (IntKind.i64.wrap (x16 + 1)))] rfl ?_
      exact IHL18 j17 (Nat.le_refl _) _ _ ⟨h66, xs32 ++ [r46], v64, IntKind.i64.wrap (x16 + 1), HF, rfl, S71, (le10).trans ((le30).trans ((s51.le).trans ((s57.le).trans s69.le))), rs67, ow68⟩
    · intro J72
      refine WC.cond (b := decide ((x16 : Int) < (xs1.length : Int))) rfl (fun hb20 => ?_) (fun hb20 => ?_)
      · replace HF := bif_t hb20 HF
        refine WC.skip ?_
        refine WC.to [1, 2, 7, 10, 11, 12] [(1, .string x4), (2, .func (.func 50) #[] #[]), (7, v13), (10, .slice A5 (xs1).length c6), (11, .int .i64 (xs1.length : Int)), (12, .int .i64 x16)] rfl ?_
        exact J72 ⟨h8, xs12, v13, HF, rfl, S11, Hle.refl _, rs14, ow15⟩
      · replace HF := bif_f hb20 HF
        refine WC.exit ?_
        refine WQ.thenExit ?_
        refine WQ.thenExit ?_
        refine WQ.blockHit ?_
        refine WQ.seqN ?_
        refine WC.seq ?_
        refine WC.region ?_
        refine WL.val rfl rfl rfl (ov_move rfl) ?_
        refine WL.val rfl rfl rfl (ov_move rfl) ?_
        obtain ⟨r21, hr22, HF⟩ := bind_some HF
        refine WL.call rfl rfl rfl (oc_func (vs := [v13, .string x4]) rfl t_ent_67) (ok_strings_Join _ hr22 S11.sub rs14) ?_
        rintro _ w24 ⟨h25, s26, rfl⟩
        have S27 := S11.trans0 s26
        refine WL.val rfl rfl rfl (ov_assign rfl) ?_
        refine WL.nil ?_
        refine WQ.seqN ?_
        refine WC.ret ?_
        refine WQ.ret1 rfl rfl ?_
        obtain rfl := Option.some.inj HF
        exact ⟨_, rfl, h25, S27, rfl⟩
  · exact ⟨h0, ([] : List ByteArray), .slice none 0 0, 0, HF, rfl, S0, Hle.refl _, (RS.nil _), (Own.nil _ _ _ _ _)⟩
theorem all_print_Joined_string : ∀ k j, j ≤ k → C_print_Joined_string (tie_print_Joined_string j).print_Joined_string := by
  intro k
  induction k with
  | zero =>
    intro j hj
    obtain rfl : j = 0 := by omega
    exact (fun _ _ _ => by intro h; cases h)
  | succ k ih =>
    intro j hj
    by_cases h : j ≤ k
    · exact ih j h
    · obtain rfl : j = k + 1 := by omega
      exact s_print_Joined_string k ih
theorem ok_print_Joined_string (k : Nat) : C_print_Joined_string (F_print_Joined_string k) := (all_print_Joined_string k k (Nat.le_refl _))

def C_print_Line (φ : ByteArray → Option ByteArray) : Prop := ∀ ⦃x1 : ByteArray⦄ ⦃r : ByteArray⦄, φ x1 = some r → ∀ ⦃w0 : World⦄ ⦃h0 : Hp⦄, Sub h0 w0 →
  Calls Tryz.prog 22 #[.string x1] w0 fun e w1 => ∃ v, e = .returned v ∧ ∃ h1, Stp [] w0 h0 w1 h1 ∧ v = .string r
set_option maxRecDepth 20000 in
set_option maxHeartbeats 4000000 in
theorem s_print_Line (k : Nat) : C_print_Line (F_print_Line k) := by
  intro x1 r HF w0 h0  hs0 
  have S0 : Stp [] w0 h0 w0 h0 := Stp.refl hs0 _
  refine enter (n := 7) Tryz.func22 rfl Tryz.ntmps22 rfl [(0, .string x1)] rfl ?_
  refine WC.seq ?_
  refine WC.region ?_
  refine WL.val rfl rfl rfl (ov_assign rfl) ?_
  refine WL.nil ?_
  refine WQ.seqN ?_
  refine WC.seq ?_
  refine WC.region ?_
  refine WL.val rfl rfl rfl (ov_move rfl) ?_
  obtain ⟨r2, hr3, HF⟩ := bind_some HF
  refine WL.call rfl rfl rfl (oc_func (vs := [.string x1, .string (⟨#[10]⟩ : ByteArray)]) rfl t_ent_49) (ok_strings_TrimSuffix _ hr3 S0.sub) ?_
  rintro _ w5 ⟨h6, s7, rfl⟩
  have S8 := S0.trans0 s7
  obtain ⟨r9, hr10, HF⟩ := bind_some HF
  refine WL.call rfl rfl rfl (oc_func (vs := [.string r2, .string (⟨#[10]⟩ : ByteArray)]) rfl t_ent_48) (ok_strings_Split _ hr10 S8.sub) ?_
  rintro v15 w12 ⟨h13, s14, rs16⟩
  have S17 := S8.trans0 s14
  obtain ⟨r18, hr19, HF⟩ := bind_some HF
  refine WL.call rfl rfl rfl (oc_func (vs := [v15, .string (⟨#[32]⟩ : ByteArray), .func (.func 50) #[] #[]]) rfl t_ent_47) (ok_print_Joined_string _ hr19 S17.sub rs16) ?_
  rintro _ w21 ⟨h22, s23, rfl⟩
  have S24 := S17.trans0 s23
  refine WL.val rfl rfl rfl (ov_assign rfl) ?_
  refine WL.nil ?_
  refine WQ.seqN ?_
  refine WC.ret ?_
  refine WQ.ret1 rfl rfl ?_
  obtain rfl := Option.some.inj HF
  exact ⟨_, rfl, h22, S24, rfl⟩
theorem ok_print_Line (k : Nat) : C_print_Line (F_print_Line k) := s_print_Line k

def C_print_signs (φ : Option (List (Int × (ByteArray × Int)))) : Prop := ∀ ⦃r : List (Int × (ByteArray × Int))⦄, φ  = some r → ∀ ⦃w0 : World⦄ ⦃h0 : Hp⦄, Sub h0 w0 →
  Calls Tryz.prog 55 #[] w0 fun e w1 => ∃ v, e = .returned v ∧ ∃ h1, Stp [] w0 h0 w1 h1 ∧ RM (fun x : ByteArray × Int => .agg #[.string x.1, .int .i64 x.2]) h1 v r
set_option maxRecDepth 20000 in
set_option maxHeartbeats 4000000 in
theorem s_print_signs (k : Nat) : C_print_signs (F_print_signs k) := by
  intro  r HF w0 h0  hs0 
  have S0 : Stp [] w0 h0 w0 h0 := Stp.refl hs0 _
  refine enter (n := 19) Tryz.func55 rfl Tryz.ntmps55 rfl [] rfl ?_
  refine WC.seq ?_
  refine WC.region ?_
  refine WL.val rfl rfl rfl (ov_assign rfl) ?_
  refine WL.nil ?_
  refine WQ.seqN ?_
  refine WC.seq ?_
  refine WC.region ?_
  refine WL.makeMap rfl rfl S0.sub (fun w1 b2 hb3 s4 ob5 => ?_)
  have g6 : w0.heap.size ≤ b2 := by rw [hb3]; exact S0.size
  have S7 := S0.trans0 s4
  refine WL.val rfl rfl rfl (ov_buildP (vs := [(0, .string (⟨#[110, 111, 116, 32]⟩ : ByteArray)), (1, .int .i64 8)]) (cs := [.string (⟨#[110, 111, 116, 32]⟩ : ByteArray), .int .i64 8]) rfl t_places_91 t_zero_91 rfl) ?_
  refine WL.insert rfl rfl rfl rfl t_map_93 t_int_3 (.inr ⟨_, rfl⟩) ob5 S7.sub rfl (fun w8 s9 ob10 => ?_)
  have S11 := S7.trans1 s9 (.inr g6)
  refine WL.val rfl rfl rfl (ov_buildP (vs := [(0, .string (⟨#[45]⟩ : ByteArray)), (1, .int .i64 8)]) (cs := [.string (⟨#[45]⟩ : ByteArray), .int .i64 8]) rfl t_places_91 t_zero_91 rfl) ?_
  refine WL.insert rfl rfl rfl rfl t_map_93 t_int_3 (.inr ⟨_, rfl⟩) ob10 S11.sub rfl (fun w12 s13 ob14 => ?_)
  have S15 := S11.trans1 s13 (.inr g6)
  refine WL.val rfl rfl rfl (ov_buildP (vs := [(0, .string (⟨#[111, 114]⟩ : ByteArray)), (1, .int .i64 1)]) (cs := [.string (⟨#[111, 114]⟩ : ByteArray), .int .i64 1]) rfl t_places_91 t_zero_91 rfl) ?_
  refine WL.insert rfl rfl rfl rfl t_map_93 t_int_3 (.inr ⟨_, rfl⟩) ob14 S15.sub rfl (fun w16 s17 ob18 => ?_)
  have S19 := S15.trans1 s17 (.inr g6)
  refine WL.val rfl rfl rfl (ov_buildP (vs := [(0, .string (⟨#[120, 111, 114]⟩ : ByteArray)), (1, .int .i64 2)]) (cs := [.string (⟨#[120, 111, 114]⟩ : ByteArray), .int .i64 2]) rfl t_places_91 t_zero_91 rfl) ?_
  refine WL.insert rfl rfl rfl rfl t_map_93 t_int_3 (.inr ⟨_, rfl⟩) ob18 S19.sub rfl (fun w20 s21 ob22 => ?_)
  have S23 := S19.trans1 s21 (.inr g6)
  refine WL.val rfl rfl rfl (ov_buildP (vs := [(0, .string (⟨#[97, 110, 100]⟩ : ByteArray)), (1, .int .i64 3)]) (cs := [.string (⟨#[97, 110, 100]⟩ : ByteArray), .int .i64 3]) rfl t_places_91 t_zero_91 rfl) ?_
  refine WL.insert rfl rfl rfl rfl t_map_93 t_int_3 (.inr ⟨_, rfl⟩) ob22 S23.sub rfl (fun w24 s25 ob26 => ?_)
  have S27 := S23.trans1 s25 (.inr g6)
  refine WL.val rfl rfl rfl (ov_buildP (vs := [(0, .string (⟨#[61]⟩ : ByteArray)), (1, .int .i64 4)]) (cs := [.string (⟨#[61]⟩ : ByteArray), .int .i64 4]) rfl t_places_91 t_zero_91 rfl) ?_
  refine WL.insert rfl rfl rfl rfl t_map_93 t_int_3 (.inr ⟨_, rfl⟩) ob26 S27.sub rfl (fun w28 s29 ob30 => ?_)
  have S31 := S27.trans1 s29 (.inr g6)
  refine WL.val rfl rfl rfl (ov_buildP (vs := [(0, .string (⟨#[60, 62]⟩ : ByteArray)), (1, .int .i64 4)]) (cs := [.string (⟨#[60, 62]⟩ : ByteArray), .int .i64 4]) rfl t_places_91 t_zero_91 rfl) ?_
  refine WL.insert rfl rfl rfl rfl t_map_93 t_int_3 (.inr ⟨_, rfl⟩) ob30 S31.sub rfl (fun w32 s33 ob34 => ?_)
  have S35 := S31.trans1 s33 (.inr g6)
  refine WL.val rfl rfl rfl (ov_buildP (vs := [(0, .string (⟨#[60]⟩ : ByteArray)), (1, .int .i64 5)]) (cs := [.string (⟨#[60]⟩ : ByteArray), .int .i64 5]) rfl t_places_91 t_zero_91 rfl) ?_
  refine WL.insert rfl rfl rfl rfl t_map_93 t_int_3 (.inr ⟨_, rfl⟩) ob34 S35.sub rfl (fun w36 s37 ob38 => ?_)
  have S39 := S35.trans1 s37 (.inr g6)
  refine WL.val rfl rfl rfl (ov_buildP (vs := [(0, .string (⟨#[60, 61]⟩ : ByteArray)), (1, .int .i64 5)]) (cs := [.string (⟨#[60, 61]⟩ : ByteArray), .int .i64 5]) rfl t_places_91 t_zero_91 rfl) ?_
  refine WL.insert rfl rfl rfl rfl t_map_93 t_int_3 (.inr ⟨_, rfl⟩) ob38 S39.sub rfl (fun w40 s41 ob42 => ?_)
  have S43 := S39.trans1 s41 (.inr g6)
  refine WL.val rfl rfl rfl (ov_buildP (vs := [(0, .string (⟨#[62]⟩ : ByteArray)), (1, .int .i64 5)]) (cs := [.string (⟨#[62]⟩ : ByteArray), .int .i64 5]) rfl t_places_91 t_zero_91 rfl) ?_
  refine WL.insert rfl rfl rfl rfl t_map_93 t_int_3 (.inr ⟨_, rfl⟩) ob42 S43.sub rfl (fun w44 s45 ob46 => ?_)
  have S47 := S43.trans1 s45 (.inr g6)
  refine WL.val rfl rfl rfl (ov_buildP (vs := [(0, .string (⟨#[62, 61]⟩ : ByteArray)), (1, .int .i64 5)]) (cs := [.string (⟨#[62, 61]⟩ : ByteArray), .int .i64 5]) rfl t_places_91 t_zero_91 rfl) ?_
  refine WL.insert rfl rfl rfl rfl t_map_93 t_int_3 (.inr ⟨_, rfl⟩) ob46 S47.sub rfl (fun w48 s49 ob50 => ?_)
  have S51 := S47.trans1 s49 (.inr g6)
  refine WL.val rfl rfl rfl (ov_buildP (vs := [(0, .string (⟨#[43]⟩ : ByteArray)), (1, .int .i64 6)]) (cs := [.string (⟨#[43]⟩ : ByteArray), .int .i64 6]) rfl t_places_91 t_zero_91 rfl) ?_
  refine WL.insert rfl rfl rfl rfl t_map_93 t_int_3 (.inr ⟨_, rfl⟩) ob50 S51.sub rfl (fun w52 s53 ob54 => ?_)
  have S55 := S51.trans1 s53 (.inr g6)
  refine WL.val rfl rfl rfl (ov_buildP (vs := [(0, .string (⟨#[45]⟩ : ByteArray)), (1, .int .i64 6)]) (cs := [.string (⟨#[45]⟩ : ByteArray), .int .i64 6]) rfl t_places_91 t_zero_91 rfl) ?_
  refine WL.insert rfl rfl rfl rfl t_map_93 t_int_3 (.inr ⟨_, rfl⟩) ob54 S55.sub rfl (fun w56 s57 ob58 => ?_)
  have S59 := S55.trans1 s57 (.inr g6)
  refine WL.val rfl rfl rfl (ov_buildP (vs := [(0, .string (⟨#[42]⟩ : ByteArray)), (1, .int .i64 7)]) (cs := [.string (⟨#[42]⟩ : ByteArray), .int .i64 7]) rfl t_places_91 t_zero_91 rfl) ?_
  refine WL.insert rfl rfl rfl rfl t_map_93 t_int_3 (.inr ⟨_, rfl⟩) ob58 S59.sub rfl (fun w60 s61 ob62 => ?_)
  have S63 := S59.trans1 s61 (.inr g6)
  refine WL.val rfl rfl rfl (ov_buildP (vs := [(0, .string (⟨#[47]⟩ : ByteArray)), (1, .int .i64 7)]) (cs := [.string (⟨#[47]⟩ : ByteArray), .int .i64 7]) rfl t_places_91 t_zero_91 rfl) ?_
  refine WL.insert rfl rfl rfl rfl t_map_93 t_int_3 (.inr ⟨_, rfl⟩) ob62 S63.sub rfl (fun w64 s65 ob66 => ?_)
  have S67 := S63.trans1 s65 (.inr g6)
  refine WL.val rfl rfl rfl (ov_buildP (vs := [(0, .string (⟨#[109, 111, 100]⟩ : ByteArray)), (1, .int .i64 7)]) (cs := [.string (⟨#[109, 111, 100]⟩ : ByteArray), .int .i64 7]) rfl t_places_91 t_zero_91 rfl) ?_
  refine WL.insert rfl rfl rfl rfl t_map_93 t_int_3 (.inr ⟨_, rfl⟩) ob66 S67.sub rfl (fun w68 s69 ob70 => ?_)
  have S71 := S67.trans1 s69 (.inr g6)
  refine WL.val rfl rfl rfl (ov_move rfl) ?_
  refine WL.val rfl rfl rfl (ov_assign rfl) ?_
  refine WL.nil ?_
  refine WQ.seqN ?_
  refine WC.ret ?_
  obtain ⟨h72, s73, rm74⟩ := MB.freeze (evl := (fun x : ByteArray × Int => .agg #[.string x.1, .int .i64 x.2])) (T := ([(6, ((⟨#[110, 111, 116, 32]⟩ : ByteArray), 8)), (7, ((⟨#[45]⟩ : ByteArray), 8)), (8, ((⟨#[111, 114]⟩ : ByteArray), 1)), (9, ((⟨#[120, 111, 114]⟩ : ByteArray), 2)), (10, ((⟨#[97, 110, 100]⟩ : ByteArray), 3)), (11, ((⟨#[61]⟩ : ByteArray), 4)), (12, ((⟨#[60, 62]⟩ : ByteArray), 4)), (13, ((⟨#[60]⟩ : ByteArray), 5)), (14, ((⟨#[60, 61]⟩ : ByteArray), 5)), (15, ((⟨#[62]⟩ : ByteArray), 5)), (16, ((⟨#[62, 61]⟩ : ByteArray), 5)), (17, ((⟨#[43]⟩ : ByteArray), 6)), (18, ((⟨#[45]⟩ : ByteArray), 6)), (19, ((⟨#[42]⟩ : ByteArray), 7)), (20, ((⟨#[47]⟩ : ByteArray), 7)), (21, ((⟨#[109, 111, 100]⟩ : ByteArray), 7))] : List (Int × (ByteArray × Int)))) ob70 S71.sub
  have S75 := S71.trans1 s73 (.inr g6)
  refine WQ.ret1 rfl rfl ?_
  obtain rfl := Option.some.inj HF
  exact ⟨_, rfl, h72, S75, rm74⟩
theorem ok_print_signs (k : Nat) : C_print_signs (F_print_signs k) := s_print_signs k

def C_print_Of (φ : Ex → Option ByteArray) : Prop := ∀ ⦃x1 : Ex⦄ ⦃r : ByteArray⦄, φ x1 = some r → ∀ ⦃w0 : World⦄ ⦃h0 : Hp⦄ ⦃cs2 : List Value⦄, Sub h0 w0 → Rp.R h0 x1 cs2 →
  Calls Tryz.prog 27 #[.agg cs2.toArray] w0 fun e w1 => ∃ v, e = .returned v ∧ ∃ h1, Stp [] w0 h0 w1 h1 ∧ v = .string r
def C_print_Joined_api_Expr (φ : (List Ex) → ByteArray → Option ByteArray) : Prop := ∀ ⦃xs1 : List Ex⦄ ⦃x4 : ByteArray⦄ ⦃r : ByteArray⦄, φ xs1 x4 = some r → ∀ ⦃w0 : World⦄ ⦃h0 : Hp⦄ ⦃v2 : Value⦄, Sub h0 w0 → RS h0 v2 xs1 →
  Calls Tryz.prog 57 #[v2, .string x4, .func (.func 27) #[] #[]] w0 fun e w1 => ∃ v, e = .returned v ∧ ∃ h1, Stp [] w0 h0 w1 h1 ∧ v = .string r
def C_print_Of_1 (φ : Ex → Int → Option ByteArray) : Prop := ∀ ⦃x1 : Ex⦄ ⦃x4 : Int⦄ ⦃r : ByteArray⦄, φ x1 x4 = some r → ∀ ⦃w0 : World⦄ ⦃h0 : Hp⦄ ⦃cs2 : List Value⦄, Sub h0 w0 → Rp.R h0 x1 cs2 →
  Calls Tryz.prog 56 #[.agg cs2.toArray, .int .i64 x4] w0 fun e w1 => ∃ v, e = .returned v ∧ ∃ h1, Stp [] w0 h0 w1 h1 ∧ v = .string r
set_option maxRecDepth 20000 in
set_option maxHeartbeats 4000000 in
theorem s_print_Of (k : Nat) (IH : ∀ j, j ≤ k → C_print_Of (tie_print_Of j).print_Of ∧ C_print_Joined_api_Expr (tie_print_Of j).print_Joined_api_Expr ∧ C_print_Of_1 (tie_print_Of j).print_Of_1) : C_print_Of (m_print_Of k (tie_print_Of k)) := by
  intro x1 r HF w0 h0 cs2 hs0 r3
  have S0 : Stp [] w0 h0 w0 h0 := Stp.refl hs0 _
  refine enter (n := 104) Tryz.func27 rfl Tryz.ntmps27 rfl [(0, .agg cs2.toArray)] rfl ?_
  refine WC.seq ?_
  refine WC.region ?_
  obtain ⟨v4, rfl, rs5⟩ := rp_Ex.1 r3
  refine WL.box (cs := [.int .i64 x1.op, .int .i64 x1.kind, .int .i64 x1.n, .string x1.s, .string x1.f, v4]) rfl rfl rfl rfl S0.sub (fun w6 b7 hb8 s9 ob10 => ?_)
  have g11 : w0.heap.size ≤ b7 := by rw [hb8]; exact S0.size
  have S12 := S0.trans0 s9
  refine WL.val rfl rfl rfl (ov_assign rfl) ?_
  refine WL.nil ?_
  refine WQ.seqN ?_
  refine WC.seq ?_
  obtain ⟨r13, hr14, HF⟩ := bind_some HF
  obtain ⟨r17, hr18, HF⟩ := bind_some HF
  replace hr18 := Option.some.inj hr18
  refine WC.drawnF (m := 8) [(1, .pointer (some ⟨b7, 0, none⟩))] [1] [6] rfl (fun i v w h => match i with | 0 => ∃ (v15 : Value), v = v15 ∧ RM (fun x : ByteArray × Int => .agg #[.string x.1, .int .i64 x.2]) h v15 r13 | 1 => v = .pointer (some ⟨b7, 0, none⟩) | 2 => v = .int .i64 x1.op | 3 => v = .tuple #[.agg #[.string ((r17.getD ((⟨#[]⟩ : ByteArray), 0)).1), .int .i64 ((r17.getD ((⟨#[]⟩ : ByteArray), 0)).2)], .bool r17.isSome] | 4 => v = .tuple #[.agg #[.string ((r17.getD ((⟨#[]⟩ : ByteArray), 0)).1), .int .i64 ((r17.getD ((⟨#[]⟩ : ByteArray), 0)).2)], .bool r17.isSome] | 5 => v = .agg #[.string ((r17.getD ((⟨#[]⟩ : ByteArray), 0)).1), .int .i64 ((r17.getD ((⟨#[]⟩ : ByteArray), 0)).2)] | 6 => v = .bool r17.isSome | 7 => ∃ (b19 : Nat), v = .pointer (some ⟨b19, 0, none⟩) ∧ OB w h b19 91 [.string (⟨#[]⟩ : ByteArray), .int .i64 0] ∧ w0.heap.size ≤ b19 ∧ b7 ≠ b19 | _ => True) t_mixed S12.sub rfl rfl rfl rfl rfl rfl rfl ?_ ?_ ?_
  · intro i v w h w2 h2 hΦ hst
    match i, hΦ with
    | 0, ⟨v15, hv0, rm16⟩ => exact ⟨v15, hv0, rm16.mono hst.le⟩
    | 1, hΦ => exact hΦ
    | 2, hΦ => exact hΦ
    | 3, hΦ => exact hΦ
    | 4, hΦ => exact hΦ
    | 5, hΦ => exact hΦ
    | 6, hΦ => exact hΦ
    | 7, ⟨b19, hv7, ob20, g22, ne21⟩ => exact ⟨b19, hv7, ob20.step0 hst, g22, ne21⟩
    | i + 8, _ => exact trivial
  · refine (FrontsF.front rfl ?_ (FrontsF.front rfl ?_ (FrontsF.front rfl ?_ (FrontsF.front rfl ?_ (FrontsF.front rfl ?_ (FrontsF.front rfl ?_ (FrontsF.float rfl ?_ (FrontsF.front rfl ?_ FrontsF.nil))))))))
    · intro a w23 h24 s25 hat hF
      refine front_call (show At _ [(1, .pointer (some ⟨b7, 0, none⟩))] _ from hat) rfl (oc_func (vs := []) rfl t_ent_55) (ok_print_signs _ hr14 s25.sub) ?_
      rintro v15 w26 ⟨h27, s28, rm16⟩
      exact ⟨_, h27, rfl, s28, (by exact ⟨v15, rfl, rm16⟩)⟩
    · intro a w23 h24 s25 hat hF
      exact front_val (show At _ [(1, .pointer (some ⟨b7, 0, none⟩))] _ from hat) rfl (ov_fieldAddr rfl t_field_32_0) s25.sub (by exact rfl)
    · intro a w23 h24 s25 hat hF
      obtain hv1 := hF 1 10 rfl rfl
      have ob29 := (ob10.step0 s25)
      exact front_val (show At _ [(10, .pointer (some ⟨b7, 0, none⟩)), (1, .pointer (some ⟨b7, 0, none⟩))] _ from (At.cons hat hv1)) rfl (ov_load1 rfl t_agg_3 (OB.cell ob29 (j := 0) rfl)) s25.sub (by exact rfl)
    · intro a w23 h24 s25 hat hF
      obtain ⟨v15, hv0, rm16⟩ := hF 0 9 rfl rfl
      obtain hv2 := hF 2 11 rfl rfl
      exact front_val (show At _ [(11, .int .i64 x1.op), (9, v15), (1, .pointer (some ⟨b7, 0, none⟩))] _ from (At.cons (At.cons hat hv0) hv2)) rfl (ov_lookupI2 (evl := (fun x : ByteArray × Int => .agg #[.string x.1, .int .i64 x.2])) (z := ((⟨#[]⟩ : ByteArray), 0)) rfl rfl t_map_93 t_int_3 t_zero_91 rm16 s25.sub hr18) s25.sub (by exact rfl)
    · intro a w23 h24 s25 hat hF
      obtain hv3 := hF 3 12 rfl rfl
      exact front_val (show At _ [(12, .tuple #[.agg #[.string ((r17.getD ((⟨#[]⟩ : ByteArray), 0)).1), .int .i64 ((r17.getD ((⟨#[]⟩ : ByteArray), 0)).2)], .bool r17.isSome]), (1, .pointer (some ⟨b7, 0, none⟩))] _ from (At.cons hat hv3)) rfl (ov_move rfl) s25.sub (by exact rfl)
    · intro a w23 h24 s25 hat hF
      obtain hv4 := hF 4 8 rfl rfl
      exact front_val (show At _ [(8, .tuple #[.agg #[.string ((r17.getD ((⟨#[]⟩ : ByteArray), 0)).1), .int .i64 ((r17.getD ((⟨#[]⟩ : ByteArray), 0)).2)], .bool r17.isSome]), (1, .pointer (some ⟨b7, 0, none⟩))] _ from (At.cons hat hv4)) rfl (ov_extract rfl rfl) s25.sub (by exact rfl)
    · intro a w23 h24 ww s25 hat hF
      obtain hv4 := hF 4 8 rfl rfl
      exact front_float (show At _ [(8, .tuple #[.agg #[.string ((r17.getD ((⟨#[]⟩ : ByteArray), 0)).1), .int .i64 ((r17.getD ((⟨#[]⟩ : ByteArray), 0)).2)], .bool r17.isSome]), (1, .pointer (some ⟨b7, 0, none⟩))] _ from (At.cons hat hv4)) rfl (ov_extract rfl rfl) (by exact rfl)
    · intro a w23 h24 s25 hat hF
      have ob33 := (ob10.step0 s25)
      exact front_alloc (zs := [.string (⟨#[]⟩ : ByteArray), .int .i64 0]) (show At _ [(1, .pointer (some ⟨b7, 0, none⟩))] _ from hat) rfl t_zero_91 rfl s25.sub (fun w32 b19 hb30 s31 ob20 => ⟨b19, rfl, ob20, by rw [hb30]; exact Nat.le_trans S12.size s25.size, ob33.ne_new hb30⟩)
  · intro a w23 h24 s25 hat hF
    obtain ⟨v15, hv0, rm16⟩ := hF 0 9 (by decide) rfl rfl
    obtain hv1 := hF 1 10 (by decide) rfl rfl
    obtain hv2 := hF 2 11 (by decide) rfl rfl
    obtain hv3 := hF 3 12 (by decide) rfl rfl
    obtain hv4 := hF 4 8 (by decide) rfl rfl
    obtain hv5 := hF 5 13 (by decide) rfl rfl
    obtain ⟨b19, hv7, ob20, g22, ne21⟩ := hF 7 3 (by decide) rfl rfl
    have S34 := S12.trans0 s25
    refine F.store [(3, .pointer (some ⟨b19, 0, none⟩)), (13, .agg #[.string ((r17.getD ((⟨#[]⟩ : ByteArray), 0)).1), .int .i64 ((r17.getD ((⟨#[]⟩ : ByteArray), 0)).2)]), (8, .tuple #[.agg #[.string ((r17.getD ((⟨#[]⟩ : ByteArray), 0)).1), .int .i64 ((r17.getD ((⟨#[]⟩ : ByteArray), 0)).2)], .bool r17.isSome]), (12, .tuple #[.agg #[.string ((r17.getD ((⟨#[]⟩ : ByteArray), 0)).1), .int .i64 ((r17.getD ((⟨#[]⟩ : ByteArray), 0)).2)], .bool r17.isSome]), (11, .int .i64 x1.op), (10, .pointer (some ⟨b7, 0, none⟩)), (9, v15), (1, .pointer (some ⟨b7, 0, none⟩))] (At.cons (At.cons (At.cons (At.cons (At.cons (At.cons (At.cons hat hv0) hv1) hv2) hv3) hv4) hv5) hv7) rfl (vs := [.string ((r17.getD ((⟨#[]⟩ : ByteArray), 0)).1), .int .i64 ((r17.getD ((⟨#[]⟩ : ByteArray), 0)).2)]) rfl rfl rfl t_size_91 (one_cons rfl (one_cons rfl one_nil)) ob20 S34.sub (by simp) (ds := [.string ((r17.getD ((⟨#[]⟩ : ByteArray), 0)).1), .int .i64 ((r17.getD ((⟨#[]⟩ : ByteArray), 0)).2)]) rfl (fun w35 s36 ob37 a2 hat2 hG => ?_)
    have S38 := S34.trans1 s36 (.inr g22)
    obtain hv6 := hG 6 14 (by decide) rfl rfl
    refine WL.at_ [(14, .bool r17.isSome), (3, .pointer (some ⟨b19, 0, none⟩)), (13, .agg #[.string ((r17.getD ((⟨#[]⟩ : ByteArray), 0)).1), .int .i64 ((r17.getD ((⟨#[]⟩ : ByteArray), 0)).2)]), (8, .tuple #[.agg #[.string ((r17.getD ((⟨#[]⟩ : ByteArray), 0)).1), .int .i64 ((r17.getD ((⟨#[]⟩ : ByteArray), 0)).2)], .bool r17.isSome]), (12, .tuple #[.agg #[.string ((r17.getD ((⟨#[]⟩ : ByteArray), 0)).1), .int .i64 ((r17.getD ((⟨#[]⟩ : ByteArray), 0)).2)], .bool r17.isSome]), (11, .int .i64 x1.op), (10, .pointer (some ⟨b7, 0, none⟩)), (9, v15), (1, .pointer (some ⟨b7, 0, none⟩))] (At.cons hat2 hv6) ?_
    refine WL.val rfl rfl rfl (ov_assign rfl) ?_
    refine WL.nil ?_
    refine WQ.seqN ?_
    refine WC.seq ?_
    refine WC.region ?_
    refine WL.val rfl rfl rfl (ov_assign rfl) ?_
    refine WL.nil ?_
    refine WQ.seqN ?_
    refine WC.join (fun E w128 => ∃ (h127 : Hp), print_Of_j2 k (tie_print_Of k) x1 = some r ∧ E = [(1, .pointer (some ⟨b7, 0, none⟩))] ∧ Stp [] w0 h0 w128 h127 ∧ Hle h24 h127 ∧ OB w128 h127 b7 32 [.int .i64 x1.op, .int .i64 x1.kind, .int .i64 x1.n, .string x1.s, .string x1.f, v4]) ?_ ?_
    · rintro E w128 ⟨h127, HF, rfl, S130, le129, ob131⟩
      refine WC.join (fun E w187 => ∃ (h186 : Hp), print_Of_j3 k (tie_print_Of k) x1 = some r ∧ E = [(1, .pointer (some ⟨b7, 0, none⟩))] ∧ Stp [] w0 h0 w187 h186 ∧ Hle h127 h186 ∧ OB w187 h186 b7 32 [.int .i64 x1.op, .int .i64 x1.kind, .int .i64 x1.n, .string x1.s, .string x1.f, v4]) ?_ ?_
      · rintro E w187 ⟨h186, HF, rfl, S189, le188, ob190⟩
        refine WC.seq ?_
        refine WC.region ?_
        refine WL.val rfl rfl rfl (ov_fieldAddr rfl t_field_32_3) ?_
        refine WL.val rfl rfl rfl (ov_load1 rfl t_agg_9 (OB.cell ob190 (j := 3) rfl)) ?_
        refine WL.val rfl rfl rfl (ov_assign rfl) ?_
        refine WL.nil ?_
        refine WQ.seqN ?_
        refine WC.ret ?_
        refine WQ.ret1 rfl rfl ?_
        obtain rfl := Option.some.inj HF
        exact ⟨_, rfl, h186, S189, rfl⟩
      · intro J191
        refine WC.seq ?_
        refine WC.region ?_
        refine WL.val rfl rfl rfl (ov_fieldAddr rfl t_field_32_0) ?_
        refine WL.val rfl rfl rfl (ov_load1 rfl t_agg_3 (OB.cell ob131 (j := 0) rfl)) ?_
        refine WL.nil ?_
        refine WQ.seqN ?_
        refine WC.block ?_
        refine WC.seq ?_
        refine WC.region ?_
        refine WL.val rfl rfl rfl (ov_eql rfl rfl) ?_
        refine WL.val rfl rfl rfl (ov_assign rfl) ?_
        refine WL.nil ?_
        refine WQ.seqN ?_
        refine WC.cond (b := (x1.op : Int) == 1) rfl (fun hb132 => ?_) (fun hb132 => ?_)
        · replace HF := bif_t hb132 HF
          refine WC.seq ?_
          refine WC.region ?_
          refine WL.val rfl rfl rfl (ov_fieldAddr rfl t_field_32_1) ?_
          refine WL.val rfl rfl rfl (ov_load1 rfl t_agg_3 (OB.cell ob131 (j := 1) rfl)) ?_
          refine WL.val rfl rfl rfl (ov_fieldAddr rfl t_field_32_2) ?_
          refine WL.val rfl rfl rfl (ov_load1 rfl t_agg_3 (OB.cell ob131 (j := 2) rfl)) ?_
          obtain ⟨r133, hr134, HF⟩ := bind_some HF
          refine WL.call rfl rfl rfl (oc_func (vs := [.int .i64 x1.kind, .int .i64 x1.n]) rfl t_ent_17) (ok_print_Const _ hr134 S130.sub) ?_
          rintro _ w136 ⟨h137, s138, _, _, rfl, rfl, rfl⟩
          have S139 := S130.trans0 s138
          refine WL.val rfl rfl rfl (ov_move rfl) ?_
          refine WL.val rfl rfl rfl (ov_extract rfl rfl) ?_
          refine WL.val rfl rfl rfl (ov_extract rfl rfl) ?_
          refine WL.val rfl rfl rfl (ov_assign rfl) ?_
          refine WL.val rfl rfl rfl (ov_assign rfl) ?_
          refine WL.nil ?_
          refine WQ.seqN ?_
          refine WC.seq ?_
          refine WC.region ?_
          refine WL.val rfl rfl rfl (ov_move rfl) ?_
          refine WL.val rfl rfl rfl (ov_assign rfl) ?_
          refine WL.nil ?_
          refine WQ.seqN ?_
          refine WC.ret ?_
          refine WQ.blockRet ?_
          refine WQ.thenRet ?_
          refine WQ.ret1 rfl rfl ?_
          obtain rfl := Option.some.inj HF
          exact ⟨_, rfl, h137, S139, rfl⟩
        · replace HF := bif_f hb132 HF
          refine WC.seq ?_
          refine WC.region ?_
          refine WL.val rfl rfl rfl (ov_eql rfl rfl) ?_
          refine WL.val rfl rfl rfl (ov_assign rfl) ?_
          refine WL.nil ?_
          refine WQ.seqN ?_
          refine WC.cond (b := (x1.op : Int) == 3) rfl (fun hb140 => ?_) (fun hb140 => ?_)
          · replace HF := bif_t hb140 HF
            refine WC.seq ?_
            refine WC.region ?_
            refine WL.val rfl rfl rfl (ov_fieldAddr rfl t_field_32_3) ?_
            refine WL.val rfl rfl rfl (ov_load1 rfl t_agg_9 (OB.cell ob131 (j := 3) rfl)) ?_
            obtain ⟨hl141, HF⟩ := ite_none HF
            refine WL.val rfl rfl rfl (ov_addS rfl rfl hl141) ?_
            refine WL.val rfl rfl rfl (ov_fieldAddr rfl t_field_32_4) ?_
            refine WL.val rfl rfl rfl (ov_load1 rfl t_agg_9 (OB.cell ob131 (j := 4) rfl)) ?_
            obtain ⟨hl142, HF⟩ := ite_none HF
            refine WL.val rfl rfl rfl (ov_addS rfl rfl hl142) ?_
            refine WL.val rfl rfl rfl (ov_assign rfl) ?_
            refine WL.nil ?_
            refine WQ.seqN ?_
            refine WC.ret ?_
            refine WQ.blockRet ?_
            refine WQ.thenRet ?_
            refine WQ.ret1 rfl rfl ?_
            obtain rfl := Option.some.inj HF
            exact ⟨_, rfl, h127, S130, rfl⟩
          · replace HF := bif_f hb140 HF
            refine WC.seq ?_
            refine WC.region ?_
            refine WL.val rfl rfl rfl (ov_eql rfl rfl) ?_
            refine WL.val rfl rfl rfl (ov_assign rfl) ?_
            refine WL.nil ?_
            refine WQ.seqN ?_
            refine WC.cond (b := (x1.op : Int) == 4) rfl (fun hb143 => ?_) (fun hb143 => ?_)
            · replace HF := bif_t hb143 HF
              refine WC.seq ?_
              obtain ⟨hl144, HF⟩ := ite_none HF
              obtain ⟨A145, c146, rfl, rs147⟩ := RS.form (rs5.mono ((s9.le).trans ((s25.le).trans ((s36.le).trans le129))))
              obtain ⟨e148, he149, HF⟩ := bind_some HF
              obtain ⟨b150, o151, rfl, h153, h154, ra152⟩ := RS.atO rs147 he149
              obtain ⟨cs155, r156, hc157⟩ := ra152
              obtain ⟨r158, hr159, HF⟩ := bind_some HF
              refine WC.drawn (m := 8) [(1, .pointer (some ⟨b7, 0, none⟩))] [1] rfl (fun i v w h => match i with | 0 => v = .pointer (some ⟨b7, 3, none⟩) | 1 => v = .string x1.s | 2 => v = .string (x1.s ++ (⟨#[91]⟩ : ByteArray)) | 3 => v = .pointer (some ⟨b7, 5, none⟩) | 4 => v = .slice (some ⟨b150, o151, none⟩) (x1.args).length c146 | 5 => v = .pointer (some ⟨b150, o151 + Int.toNat 0 * 6, none⟩) | 6 => v = .agg cs155.toArray | 7 => v = .string r158 | _ => True) t_mixed S130.sub rfl rfl rfl rfl rfl ?_ ?_ ?_
              · intro i v w h w2 h2 hΦ hst
                match i, hΦ with
                | 0, hΦ => exact hΦ
                | 1, hΦ => exact hΦ
                | 2, hΦ => exact hΦ
                | 3, hΦ => exact hΦ
                | 4, hΦ => exact hΦ
                | 5, hΦ => exact hΦ
                | 6, hΦ => exact hΦ
                | 7, hΦ => exact hΦ
                | i + 8, _ => exact trivial
              · refine ⟨?_, ?_, ?_, ?_, ?_, ?_, ?_, ?_, trivial⟩
                · intro a w160 h161 s162 hat hF
                  exact front_val (show At _ [(1, .pointer (some ⟨b7, 0, none⟩))] _ from hat) rfl (ov_fieldAddr rfl t_field_32_3) s162.sub (by exact rfl)
                · intro a w160 h161 s162 hat hF
                  obtain hv0 := hF 0 82 rfl rfl
                  have ob163 := (ob131.step0 s162)
                  exact front_val (show At _ [(82, .pointer (some ⟨b7, 3, none⟩)), (1, .pointer (some ⟨b7, 0, none⟩))] _ from (At.cons hat hv0)) rfl (ov_load1 rfl t_agg_9 (OB.cell ob163 (j := 3) rfl)) s162.sub (by exact rfl)
                · intro a w160 h161 s162 hat hF
                  obtain hv1 := hF 1 83 rfl rfl
                  exact front_val (show At _ [(83, .string x1.s), (1, .pointer (some ⟨b7, 0, none⟩))] _ from (At.cons hat hv1)) rfl (ov_addS rfl rfl hl144) s162.sub (by exact rfl)
                · intro a w160 h161 s162 hat hF
                  exact front_val (show At _ [(1, .pointer (some ⟨b7, 0, none⟩))] _ from hat) rfl (ov_fieldAddr rfl t_field_32_5) s162.sub (by exact rfl)
                · intro a w160 h161 s162 hat hF
                  obtain hv3 := hF 3 85 rfl rfl
                  have ob164 := (ob131.step0 s162)
                  exact front_val (show At _ [(85, .pointer (some ⟨b7, 5, none⟩)), (1, .pointer (some ⟨b7, 0, none⟩))] _ from (At.cons hat hv3)) rfl (ov_load1 rfl t_agg_30 (OB.cell ob164 (j := 5) rfl)) s162.sub (by exact rfl)
                · intro a w160 h161 s162 hat hF
                  obtain hv4 := hF 4 86 rfl rfl
                  exact front_val (show At _ [(86, .slice (some ⟨b150, o151, none⟩) (x1.args).length c146), (1, .pointer (some ⟨b7, 0, none⟩))] _ from (At.cons hat hv4)) rfl (ov_indexAddr rfl rfl t_slice_30 t_size_32 h153 h154) s162.sub (by exact rfl)
                · intro a w160 h161 s162 hat hF
                  obtain hv5 := hF 5 87 rfl rfl
                  exact front_val (show At _ [(87, .pointer (some ⟨b150, o151 + Int.toNat 0 * 6, none⟩)), (1, .pointer (some ⟨b7, 0, none⟩))] _ from (At.cons hat hv5)) rfl (ov_loadN (cs := cs155) rfl t_agg_32 (by rw [Rp.len (Rp.mono (s162.le) r156)]; exact t_size_32) (fun j v hv => s162.sub.at_ _ _ _ ((fun i v hv => (s162.le).1 _ _ _ (hc157 i v hv)) j v hv))) s162.sub (by exact rfl)
                · intro a w160 h161 s162 hat hF
                  obtain hv6 := hF 6 88 rfl rfl
                  refine front_call (show At _ [(88, .agg cs155.toArray), (1, .pointer (some ⟨b7, 0, none⟩))] _ from (At.cons hat hv6)) rfl (oc_func (vs := [.agg cs155.toArray]) rfl t_ent_27) ((IH _ (Nat.le_refl _)).1 hr159 s162.sub (Rp.mono (s162.le) r156)) ?_
                  rintro _ w165 ⟨h166, s167, rfl⟩
                  exact ⟨_, h166, rfl, s167, (by exact rfl)⟩
              · intro a w160 h161 s162 hat hF
                obtain hv0 := hF 0 82 (by decide) rfl
                obtain hv1 := hF 1 83 (by decide) rfl
                obtain hv2 := hF 2 84 (by decide) rfl
                obtain hv3 := hF 3 85 (by decide) rfl
                obtain hv4 := hF 4 86 (by decide) rfl
                obtain hv5 := hF 5 87 (by decide) rfl
                obtain hv6 := hF 6 88 (by decide) rfl
                obtain hv7 := hF 7 89 (by decide) rfl
                refine WL.at_ [(89, .string r158), (88, .agg cs155.toArray), (87, .pointer (some ⟨b150, o151 + Int.toNat 0 * 6, none⟩)), (86, .slice (some ⟨b150, o151, none⟩) (x1.args).length c146), (85, .pointer (some ⟨b7, 5, none⟩)), (84, .string (x1.s ++ (⟨#[91]⟩ : ByteArray))), (83, .string x1.s), (82, .pointer (some ⟨b7, 3, none⟩)), (1, .pointer (some ⟨b7, 0, none⟩))] (At.cons (At.cons (At.cons (At.cons (At.cons (At.cons (At.cons (At.cons hat hv0) hv1) hv2) hv3) hv4) hv5) hv6) hv7) ?_
                have S168 := S130.trans0 s162
                obtain ⟨hl169, HF⟩ := ite_none HF
                refine WL.val rfl rfl rfl (ov_addS rfl rfl hl169) ?_
                obtain ⟨hl170, HF⟩ := ite_none HF
                refine WL.val rfl rfl rfl (ov_addS rfl rfl hl170) ?_
                refine WL.val rfl rfl rfl (ov_assign rfl) ?_
                refine WL.nil ?_
                refine WQ.seqN ?_
                refine WC.ret ?_
                refine WQ.blockRet ?_
                refine WQ.thenRet ?_
                refine WQ.ret1 rfl rfl ?_
                obtain rfl := Option.some.inj HF
                exact ⟨_, rfl, h161, S168, rfl⟩
            · replace HF := bif_f hb143 HF
              refine WC.seq ?_
              refine WC.region ?_
              refine WL.val rfl rfl rfl (ov_eql rfl rfl) ?_
              refine WL.val rfl rfl rfl (ov_assign rfl) ?_
              refine WL.nil ?_
              refine WQ.seqN ?_
              refine WC.cond (b := (x1.op : Int) == 5) rfl (fun hb171 => ?_) (fun hb171 => ?_)
              · replace HF := bif_t hb171 HF
                refine WC.seq ?_
                obtain ⟨hl172, HF⟩ := ite_none HF
                obtain ⟨r173, hr174, HF⟩ := bind_some HF
                refine WC.drawn (m := 6) [(1, .pointer (some ⟨b7, 0, none⟩))] [1] rfl (fun i v w h => match i with | 0 => v = .pointer (some ⟨b7, 3, none⟩) | 1 => v = .string x1.s | 2 => v = .string (x1.s ++ (⟨#[40]⟩ : ByteArray)) | 3 => v = .pointer (some ⟨b7, 5, none⟩) | 4 => v = v4 | 5 => v = .string r173 | _ => True) t_mixed S130.sub rfl rfl rfl rfl rfl ?_ ?_ ?_
                · intro i v w h w2 h2 hΦ hst
                  match i, hΦ with
                  | 0, hΦ => exact hΦ
                  | 1, hΦ => exact hΦ
                  | 2, hΦ => exact hΦ
                  | 3, hΦ => exact hΦ
                  | 4, hΦ => exact hΦ
                  | 5, hΦ => exact hΦ
                  | i + 6, _ => exact trivial
                · refine ⟨?_, ?_, ?_, ?_, ?_, ?_, trivial⟩
                  · intro a w175 h176 s177 hat hF
                    exact front_val (show At _ [(1, .pointer (some ⟨b7, 0, none⟩))] _ from hat) rfl (ov_fieldAddr rfl t_field_32_3) s177.sub (by exact rfl)
                  · intro a w175 h176 s177 hat hF
                    obtain hv0 := hF 0 94 rfl rfl
                    have ob178 := (ob131.step0 s177)
                    exact front_val (show At _ [(94, .pointer (some ⟨b7, 3, none⟩)), (1, .pointer (some ⟨b7, 0, none⟩))] _ from (At.cons hat hv0)) rfl (ov_load1 rfl t_agg_9 (OB.cell ob178 (j := 3) rfl)) s177.sub (by exact rfl)
                  · intro a w175 h176 s177 hat hF
                    obtain hv1 := hF 1 95 rfl rfl
                    exact front_val (show At _ [(95, .string x1.s), (1, .pointer (some ⟨b7, 0, none⟩))] _ from (At.cons hat hv1)) rfl (ov_addS rfl rfl hl172) s177.sub (by exact rfl)
                  · intro a w175 h176 s177 hat hF
                    exact front_val (show At _ [(1, .pointer (some ⟨b7, 0, none⟩))] _ from hat) rfl (ov_fieldAddr rfl t_field_32_5) s177.sub (by exact rfl)
                  · intro a w175 h176 s177 hat hF
                    obtain hv3 := hF 3 97 rfl rfl
                    have ob179 := (ob131.step0 s177)
                    exact front_val (show At _ [(97, .pointer (some ⟨b7, 5, none⟩)), (1, .pointer (some ⟨b7, 0, none⟩))] _ from (At.cons hat hv3)) rfl (ov_load1 rfl t_agg_30 (OB.cell ob179 (j := 5) rfl)) s177.sub (by exact rfl)
                  · intro a w175 h176 s177 hat hF
                    obtain hv4 := hF 4 98 rfl rfl
                    refine front_call (show At _ [(98, v4), (1, .pointer (some ⟨b7, 0, none⟩))] _ from (At.cons hat hv4)) rfl (oc_func (vs := [v4, .string (⟨#[44, 32]⟩ : ByteArray), .func (.func 27) #[] #[]]) rfl t_ent_57) ((IH _ (Nat.le_refl _)).2.1 hr174 s177.sub (rs5.mono ((s9.le).trans ((s25.le).trans ((s36.le).trans ((le129).trans s177.le)))))) ?_
                    rintro _ w180 ⟨h181, s182, rfl⟩
                    exact ⟨_, h181, rfl, s182, (by exact rfl)⟩
                · intro a w175 h176 s177 hat hF
                  obtain hv0 := hF 0 94 (by decide) rfl
                  obtain hv1 := hF 1 95 (by decide) rfl
                  obtain hv2 := hF 2 96 (by decide) rfl
                  obtain hv3 := hF 3 97 (by decide) rfl
                  obtain hv4 := hF 4 98 (by decide) rfl
                  obtain hv5 := hF 5 99 (by decide) rfl
                  refine WL.at_ [(99, .string r173), (98, v4), (97, .pointer (some ⟨b7, 5, none⟩)), (96, .string (x1.s ++ (⟨#[40]⟩ : ByteArray))), (95, .string x1.s), (94, .pointer (some ⟨b7, 3, none⟩)), (1, .pointer (some ⟨b7, 0, none⟩))] (At.cons (At.cons (At.cons (At.cons (At.cons (At.cons hat hv0) hv1) hv2) hv3) hv4) hv5) ?_
                  have S183 := S130.trans0 s177
                  obtain ⟨hl184, HF⟩ := ite_none HF
                  refine WL.val rfl rfl rfl (ov_addS rfl rfl hl184) ?_
                  obtain ⟨hl185, HF⟩ := ite_none HF
                  refine WL.val rfl rfl rfl (ov_addS rfl rfl hl185) ?_
                  refine WL.val rfl rfl rfl (ov_assign rfl) ?_
                  refine WL.nil ?_
                  refine WQ.seqN ?_
                  refine WC.ret ?_
                  refine WQ.blockRet ?_
                  refine WQ.thenRet ?_
                  refine WQ.ret1 rfl rfl ?_
                  obtain rfl := Option.some.inj HF
                  exact ⟨_, rfl, h176, S183, rfl⟩
              · replace HF := bif_f hb171 HF
                refine WC.skip ?_
                refine WQ.blockN ?_
                refine WC.to [1] [(1, .pointer (some ⟨b7, 0, none⟩))] rfl ?_
                exact J191 ⟨h127, HF, rfl, S130, Hle.refl _, ob131⟩
    · intro J192
      refine WC.block ?_
      refine WC.join (fun E w45 => ∃ (h44 : Hp) (x48 : Bool), print_Of_j1 k (tie_print_Of k) x1 r17 x48 = some r ∧ E = [(1, .pointer (some ⟨b7, 0, none⟩)), (3, .pointer (some ⟨b19, 0, none⟩)), (4, .bool r17.isSome), (5, .func (.func 56) #[] #[]), (15, .bool x48)] ∧ Stp [] w0 h0 w45 h44 ∧ Hle h24 h44 ∧ OB w45 h44 b7 32 [.int .i64 x1.op, .int .i64 x1.kind, .int .i64 x1.n, .string x1.s, .string x1.f, v4] ∧ OB w45 h44 b19 91 [.string ((r17.getD ((⟨#[]⟩ : ByteArray), 0)).1), .int .i64 ((r17.getD ((⟨#[]⟩ : ByteArray), 0)).2)]) ?_ ?_
      · rintro E w45 ⟨h44, x48, HF, rfl, S47, le46, ob49, ob50⟩
        refine WC.cond (b := x48) rfl (fun hb51 => ?_) (fun hb51 => ?_)
        · replace HF := bif_t hb51 HF
          refine WC.seq ?_
          obtain ⟨A52, c53, rfl, rs54⟩ := RS.form (rs5.mono ((s9.le).trans ((s25.le).trans ((s36.le).trans le46))))
          obtain ⟨e55, he56, HF⟩ := bind_some HF
          obtain ⟨b57, o58, rfl, h60, h61, ra59⟩ := RS.atO rs54 he56
          obtain ⟨cs62, r63, hc64⟩ := ra59
          obtain ⟨r65, hr66, HF⟩ := bind_some HF
          refine WC.drawn (m := 10) [(1, .pointer (some ⟨b7, 0, none⟩)), (3, .pointer (some ⟨b19, 0, none⟩)), (5, .func (.func 56) #[] #[])] [1, 3, 5] rfl (fun i v w h => match i with | 0 => v = .pointer (some ⟨b19, 0, none⟩) | 1 => v = .string ((r17.getD ((⟨#[]⟩ : ByteArray), 0)).1) | 2 => v = .func (.func 56) #[] #[] | 3 => v = .pointer (some ⟨b7, 5, none⟩) | 4 => v = .slice (some ⟨b57, o58, none⟩) (x1.args).length c53 | 5 => v = .pointer (some ⟨b57, o58 + Int.toNat 0 * 6, none⟩) | 6 => v = .agg cs62.toArray | 7 => v = .pointer (some ⟨b19, 1, none⟩) | 8 => v = .int .i64 ((r17.getD ((⟨#[]⟩ : ByteArray), 0)).2) | 9 => v = .string r65 | _ => True) t_mixed S47.sub rfl rfl rfl rfl rfl ?_ ?_ ?_
          · intro i v w h w2 h2 hΦ hst
            match i, hΦ with
            | 0, hΦ => exact hΦ
            | 1, hΦ => exact hΦ
            | 2, hΦ => exact hΦ
            | 3, hΦ => exact hΦ
            | 4, hΦ => exact hΦ
            | 5, hΦ => exact hΦ
            | 6, hΦ => exact hΦ
            | 7, hΦ => exact hΦ
            | 8, hΦ => exact hΦ
            | 9, hΦ => exact hΦ
            | i + 10, _ => exact trivial
          · refine ⟨?_, ?_, ?_, ?_, ?_, ?_, ?_, ?_, ?_, ?_, trivial⟩
            · intro a w67 h68 s69 hat hF
              exact front_val (show At _ [(1, .pointer (some ⟨b7, 0, none⟩)), (3, .pointer (some ⟨b19, 0, none⟩)), (5, .func (.func 56) #[] #[])] _ from hat) rfl (ov_fieldAddr rfl t_field_91_0) s69.sub (by exact rfl)
            · intro a w67 h68 s69 hat hF
              obtain hv0 := hF 0 23 rfl rfl
              have ob70 := (ob50.step0 s69)
              exact front_val (show At _ [(23, .pointer (some ⟨b19, 0, none⟩)), (1, .pointer (some ⟨b7, 0, none⟩)), (3, .pointer (some ⟨b19, 0, none⟩)), (5, .func (.func 56) #[] #[])] _ from (At.cons hat hv0)) rfl (ov_load1 rfl t_agg_9 (OB.cell ob70 (j := 0) rfl)) s69.sub (by exact rfl)
            · intro a w67 h68 s69 hat hF
              exact front_val (show At _ [(1, .pointer (some ⟨b7, 0, none⟩)), (3, .pointer (some ⟨b19, 0, none⟩)), (5, .func (.func 56) #[] #[])] _ from hat) rfl (ov_move rfl) s69.sub (by exact rfl)
            · intro a w67 h68 s69 hat hF
              exact front_val (show At _ [(1, .pointer (some ⟨b7, 0, none⟩)), (3, .pointer (some ⟨b19, 0, none⟩)), (5, .func (.func 56) #[] #[])] _ from hat) rfl (ov_fieldAddr rfl t_field_32_5) s69.sub (by exact rfl)
            · intro a w67 h68 s69 hat hF
              obtain hv3 := hF 3 26 rfl rfl
              have ob71 := (ob49.step0 s69)
              exact front_val (show At _ [(26, .pointer (some ⟨b7, 5, none⟩)), (1, .pointer (some ⟨b7, 0, none⟩)), (3, .pointer (some ⟨b19, 0, none⟩)), (5, .func (.func 56) #[] #[])] _ from (At.cons hat hv3)) rfl (ov_load1 rfl t_agg_30 (OB.cell ob71 (j := 5) rfl)) s69.sub (by exact rfl)
            · intro a w67 h68 s69 hat hF
              obtain hv4 := hF 4 27 rfl rfl
              exact front_val (show At _ [(27, .slice (some ⟨b57, o58, none⟩) (x1.args).length c53), (1, .pointer (some ⟨b7, 0, none⟩)), (3, .pointer (some ⟨b19, 0, none⟩)), (5, .func (.func 56) #[] #[])] _ from (At.cons hat hv4)) rfl (ov_indexAddr rfl rfl t_slice_30 t_size_32 h60 h61) s69.sub (by exact rfl)
            · intro a w67 h68 s69 hat hF
              obtain hv5 := hF 5 28 rfl rfl
              exact front_val (show At _ [(28, .pointer (some ⟨b57, o58 + Int.toNat 0 * 6, none⟩)), (1, .pointer (some ⟨b7, 0, none⟩)), (3, .pointer (some ⟨b19, 0, none⟩)), (5, .func (.func 56) #[] #[])] _ from (At.cons hat hv5)) rfl (ov_loadN (cs := cs62) rfl t_agg_32 (by rw [Rp.len (Rp.mono (s69.le) r63)]; exact t_size_32) (fun j v hv => s69.sub.at_ _ _ _ ((fun i v hv => (s69.le).1 _ _ _ (hc64 i v hv)) j v hv))) s69.sub (by exact rfl)
            · intro a w67 h68 s69 hat hF
              exact front_val (show At _ [(1, .pointer (some ⟨b7, 0, none⟩)), (3, .pointer (some ⟨b19, 0, none⟩)), (5, .func (.func 56) #[] #[])] _ from hat) rfl (ov_fieldAddr rfl t_field_91_1) s69.sub (by exact rfl)
            · intro a w67 h68 s69 hat hF
              obtain hv7 := hF 7 30 rfl rfl
              have ob72 := (ob50.step0 s69)
              exact front_val (show At _ [(30, .pointer (some ⟨b19, 1, none⟩)), (1, .pointer (some ⟨b7, 0, none⟩)), (3, .pointer (some ⟨b19, 0, none⟩)), (5, .func (.func 56) #[] #[])] _ from (At.cons hat hv7)) rfl (ov_load1 rfl t_agg_3 (OB.cell ob72 (j := 1) rfl)) s69.sub (by exact rfl)
            · intro a w67 h68 s69 hat hF
              obtain hv2 := hF 2 25 rfl rfl
              obtain hv6 := hF 6 29 rfl rfl
              obtain hv8 := hF 8 31 rfl rfl
              refine front_call (show At _ [(31, .int .i64 ((r17.getD ((⟨#[]⟩ : ByteArray), 0)).2)), (29, .agg cs62.toArray), (25, .func (.func 56) #[] #[]), (1, .pointer (some ⟨b7, 0, none⟩)), (3, .pointer (some ⟨b19, 0, none⟩)), (5, .func (.func 56) #[] #[])] _ from (At.cons (At.cons (At.cons hat hv2) hv6) hv8)) rfl (oc_val (vs := [.agg cs62.toArray, .int .i64 ((r17.getD ((⟨#[]⟩ : ByteArray), 0)).2)]) (caps := []) rfl rfl t_ent_56) ((IH _ (Nat.le_refl _)).2.2 hr66 s69.sub (Rp.mono (s69.le) r63)) ?_
              rintro _ w73 ⟨h74, s75, rfl⟩
              exact ⟨_, h74, rfl, s75, (by exact rfl)⟩
          · intro a w67 h68 s69 hat hF
            obtain hv0 := hF 0 23 (by decide) rfl
            obtain hv1 := hF 1 24 (by decide) rfl
            obtain hv2 := hF 2 25 (by decide) rfl
            obtain hv3 := hF 3 26 (by decide) rfl
            obtain hv4 := hF 4 27 (by decide) rfl
            obtain hv5 := hF 5 28 (by decide) rfl
            obtain hv6 := hF 6 29 (by decide) rfl
            obtain hv7 := hF 7 30 (by decide) rfl
            obtain hv8 := hF 8 31 (by decide) rfl
            obtain hv9 := hF 9 32 (by decide) rfl
            refine WL.at_ [(32, .string r65), (31, .int .i64 ((r17.getD ((⟨#[]⟩ : ByteArray), 0)).2)), (30, .pointer (some ⟨b19, 1, none⟩)), (29, .agg cs62.toArray), (28, .pointer (some ⟨b57, o58 + Int.toNat 0 * 6, none⟩)), (27, .slice (some ⟨b57, o58, none⟩) (x1.args).length c53), (26, .pointer (some ⟨b7, 5, none⟩)), (25, .func (.func 56) #[] #[]), (24, .string ((r17.getD ((⟨#[]⟩ : ByteArray), 0)).1)), (23, .pointer (some ⟨b19, 0, none⟩)), (1, .pointer (some ⟨b7, 0, none⟩)), (3, .pointer (some ⟨b19, 0, none⟩)), (5, .func (.func 56) #[] #[])] (At.cons (At.cons (At.cons (At.cons (At.cons (At.cons (At.cons (At.cons (At.cons (At.cons hat hv0) hv1) hv2) hv3) hv4) hv5) hv6) hv7) hv8) hv9) ?_
            have S76 := S47.trans0 s69
            obtain ⟨hl77, HF⟩ := ite_none HF
            refine WL.val rfl rfl rfl (ov_addS rfl rfl hl77) ?_
            refine WL.val rfl rfl rfl (ov_assign rfl) ?_
            refine WL.nil ?_
            refine WQ.seqN ?_
            refine WC.ret ?_
            refine WQ.blockRet ?_
            refine WQ.thenRet ?_
            refine WQ.ret1 rfl rfl ?_
            obtain rfl := Option.some.inj HF
            exact ⟨_, rfl, h68, S76, rfl⟩
        · replace HF := bif_f hb51 HF
          refine WC.seq ?_
          refine WC.region ?_
          refine WL.val rfl rfl rfl (ov_move rfl) ?_
          refine WL.val rfl rfl rfl (ov_assign rfl) ?_
          refine WL.nil ?_
          refine WQ.seqN ?_
          refine WC.cond (b := r17.isSome) rfl (fun hb78 => ?_) (fun hb78 => ?_)
          · replace HF := bif_t hb78 HF
            refine WC.seq ?_
            obtain ⟨A79, c80, rfl, rs81⟩ := RS.form (rs5.mono ((s9.le).trans ((s25.le).trans ((s36.le).trans le46))))
            obtain ⟨e82, he83, HF⟩ := bind_some HF
            obtain ⟨b84, o85, rfl, h87, h88, ra86⟩ := RS.atO rs81 he83
            obtain ⟨cs89, r90, hc91⟩ := ra86
            obtain ⟨r92, hr93, HF⟩ := bind_some HF
            obtain ⟨hl94, HF⟩ := ite_none HF
            obtain ⟨hl95, HF⟩ := ite_none HF
            obtain ⟨hl96, HF⟩ := ite_none HF
            obtain ⟨e97, he98, HF⟩ := bind_some HF
            obtain ⟨b99, o100, hA, h102, h103, ra101⟩ := RS.atO rs81 he98
            obtain ⟨rfl, rfl⟩ := some_addr hA
            obtain ⟨cs104, r105, hc106⟩ := ra101
            obtain ⟨r107, hr108, HF⟩ := bind_some HF
            refine WC.drawn (m := 22) [(1, .pointer (some ⟨b7, 0, none⟩)), (3, .pointer (some ⟨b19, 0, none⟩)), (5, .func (.func 56) #[] #[])] [1, 3, 5] rfl (fun i v w h => match i with | 0 => v = .func (.func 56) #[] #[] | 1 => v = .pointer (some ⟨b7, 5, none⟩) | 2 => v = .slice (some ⟨b84, o85, none⟩) (x1.args).length c80 | 3 => v = .pointer (some ⟨b84, o85 + Int.toNat 0 * 6, none⟩) | 4 => v = .agg cs89.toArray | 5 => v = .pointer (some ⟨b19, 1, none⟩) | 6 => v = .int .i64 ((r17.getD ((⟨#[]⟩ : ByteArray), 0)).2) | 7 => v = .string r92 | 8 => v = .string (r92 ++ (⟨#[32]⟩ : ByteArray)) | 9 => v = .pointer (some ⟨b19, 0, none⟩) | 10 => v = .string ((r17.getD ((⟨#[]⟩ : ByteArray), 0)).1) | 11 => v = .string ((r92 ++ (⟨#[32]⟩ : ByteArray)) ++ ((r17.getD ((⟨#[]⟩ : ByteArray), 0)).1)) | 12 => v = .string (((r92 ++ (⟨#[32]⟩ : ByteArray)) ++ ((r17.getD ((⟨#[]⟩ : ByteArray), 0)).1)) ++ (⟨#[32]⟩ : ByteArray)) | 13 => v = .func (.func 56) #[] #[] | 14 => v = .pointer (some ⟨b7, 5, none⟩) | 15 => v = .slice (some ⟨b84, o85, none⟩) (x1.args).length c80 | 16 => v = .pointer (some ⟨b84, o85 + Int.toNat 1 * 6, none⟩) | 17 => v = .agg cs104.toArray | 18 => v = .pointer (some ⟨b19, 1, none⟩) | 19 => v = .int .i64 ((r17.getD ((⟨#[]⟩ : ByteArray), 0)).2) | 20 => v = .int .i64 (IntKind.i64.wrap (((r17.getD ((⟨#[]⟩ : ByteArray), 0)).2) + 1)) | 21 => v = .string r107 | _ => True) t_mixed S47.sub rfl rfl rfl rfl rfl ?_ ?_ ?_
            · intro i v w h w2 h2 hΦ hst
              match i, hΦ with
              | 0, hΦ => exact hΦ
              | 1, hΦ => exact hΦ
              | 2, hΦ => exact hΦ
              | 3, hΦ => exact hΦ
              | 4, hΦ => exact hΦ
              | 5, hΦ => exact hΦ
              | 6, hΦ => exact hΦ
              | 7, hΦ => exact hΦ
              | 8, hΦ => exact hΦ
              | 9, hΦ => exact hΦ
              | 10, hΦ => exact hΦ
              | 11, hΦ => exact hΦ
              | 12, hΦ => exact hΦ
              | 13, hΦ => exact hΦ
              | 14, hΦ => exact hΦ
              | 15, hΦ => exact hΦ
              | 16, hΦ => exact hΦ
              | 17, hΦ => exact hΦ
              | 18, hΦ => exact hΦ
              | 19, hΦ => exact hΦ
              | 20, hΦ => exact hΦ
              | 21, hΦ => exact hΦ
              | i + 22, _ => exact trivial
            · refine ⟨?_, ?_, ?_, ?_, ?_, ?_, ?_, ?_, ?_, ?_, ?_, ?_, ?_, ?_, ?_, ?_, ?_, ?_, ?_, ?_, ?_, ?_, trivial⟩
              · intro a w109 h110 s111 hat hF
                exact front_val (show At _ [(1, .pointer (some ⟨b7, 0, none⟩)), (3, .pointer (some ⟨b19, 0, none⟩)), (5, .func (.func 56) #[] #[])] _ from hat) rfl (ov_move rfl) s111.sub (by exact rfl)
              · intro a w109 h110 s111 hat hF
                exact front_val (show At _ [(1, .pointer (some ⟨b7, 0, none⟩)), (3, .pointer (some ⟨b19, 0, none⟩)), (5, .func (.func 56) #[] #[])] _ from hat) rfl (ov_fieldAddr rfl t_field_32_5) s111.sub (by exact rfl)
              · intro a w109 h110 s111 hat hF
                obtain hv1 := hF 1 37 rfl rfl
                have ob112 := (ob49.step0 s111)
                exact front_val (show At _ [(37, .pointer (some ⟨b7, 5, none⟩)), (1, .pointer (some ⟨b7, 0, none⟩)), (3, .pointer (some ⟨b19, 0, none⟩)), (5, .func (.func 56) #[] #[])] _ from (At.cons hat hv1)) rfl (ov_load1 rfl t_agg_30 (OB.cell ob112 (j := 5) rfl)) s111.sub (by exact rfl)
              · intro a w109 h110 s111 hat hF
                obtain hv2 := hF 2 38 rfl rfl
                exact front_val (show At _ [(38, .slice (some ⟨b84, o85, none⟩) (x1.args).length c80), (1, .pointer (some ⟨b7, 0, none⟩)), (3, .pointer (some ⟨b19, 0, none⟩)), (5, .func (.func 56) #[] #[])] _ from (At.cons hat hv2)) rfl (ov_indexAddr rfl rfl t_slice_30 t_size_32 h87 h88) s111.sub (by exact rfl)
              · intro a w109 h110 s111 hat hF
                obtain hv3 := hF 3 39 rfl rfl
                exact front_val (show At _ [(39, .pointer (some ⟨b84, o85 + Int.toNat 0 * 6, none⟩)), (1, .pointer (some ⟨b7, 0, none⟩)), (3, .pointer (some ⟨b19, 0, none⟩)), (5, .func (.func 56) #[] #[])] _ from (At.cons hat hv3)) rfl (ov_loadN (cs := cs89) rfl t_agg_32 (by rw [Rp.len (Rp.mono (s111.le) r90)]; exact t_size_32) (fun j v hv => s111.sub.at_ _ _ _ ((fun i v hv => (s111.le).1 _ _ _ (hc91 i v hv)) j v hv))) s111.sub (by exact rfl)
              · intro a w109 h110 s111 hat hF
                exact front_val (show At _ [(1, .pointer (some ⟨b7, 0, none⟩)), (3, .pointer (some ⟨b19, 0, none⟩)), (5, .func (.func 56) #[] #[])] _ from hat) rfl (ov_fieldAddr rfl t_field_91_1) s111.sub (by exact rfl)
              · intro a w109 h110 s111 hat hF
                obtain hv5 := hF 5 41 rfl rfl
                have ob113 := (ob50.step0 s111)
                exact front_val (show At _ [(41, .pointer (some ⟨b19, 1, none⟩)), (1, .pointer (some ⟨b7, 0, none⟩)), (3, .pointer (some ⟨b19, 0, none⟩)), (5, .func (.func 56) #[] #[])] _ from (At.cons hat hv5)) rfl (ov_load1 rfl t_agg_3 (OB.cell ob113 (j := 1) rfl)) s111.sub (by exact rfl)
              · intro a w109 h110 s111 hat hF
                obtain hv0 := hF 0 36 rfl rfl
                obtain hv4 := hF 4 40 rfl rfl
                obtain hv6 := hF 6 42 rfl rfl
                refine front_call (show At _ [(42, .int .i64 ((r17.getD ((⟨#[]⟩ : ByteArray), 0)).2)), (40, .agg cs89.toArray), (36, .func (.func 56) #[] #[]), (1, .pointer (some ⟨b7, 0, none⟩)), (3, .pointer (some ⟨b19, 0, none⟩)), (5, .func (.func 56) #[] #[])] _ from (At.cons (At.cons (At.cons hat hv0) hv4) hv6)) rfl (oc_val (vs := [.agg cs89.toArray, .int .i64 ((r17.getD ((⟨#[]⟩ : ByteArray), 0)).2)]) (caps := []) rfl rfl t_ent_56) ((IH _ (Nat.le_refl _)).2.2 hr93 s111.sub (Rp.mono (s111.le) r90)) ?_
                rintro _ w114 ⟨h115, s116, rfl⟩
                exact ⟨_, h115, rfl, s116, (by exact rfl)⟩
              · intro a w109 h110 s111 hat hF
                obtain hv7 := hF 7 43 rfl rfl
                exact front_val (show At _ [(43, .string r92), (1, .pointer (some ⟨b7, 0, none⟩)), (3, .pointer (some ⟨b19, 0, none⟩)), (5, .func (.func 56) #[] #[])] _ from (At.cons hat hv7)) rfl (ov_addS rfl rfl hl94) s111.sub (by exact rfl)
              · intro a w109 h110 s111 hat hF
                exact front_val (show At _ [(1, .pointer (some ⟨b7, 0, none⟩)), (3, .pointer (some ⟨b19, 0, none⟩)), (5, .func (.func 56) #[] #[])] _ from hat) rfl (ov_fieldAddr rfl t_field_91_0) s111.sub (by exact rfl)
              · intro a w109 h110 s111 hat hF
                obtain hv9 := hF 9 45 rfl rfl
                have ob117 := (ob50.step0 s111)
                exact front_val (show At _ [(45, .pointer (some ⟨b19, 0, none⟩)), (1, .pointer (some ⟨b7, 0, none⟩)), (3, .pointer (some ⟨b19, 0, none⟩)), (5, .func (.func 56) #[] #[])] _ from (At.cons hat hv9)) rfl (ov_load1 rfl t_agg_9 (OB.cell ob117 (j := 0) rfl)) s111.sub (by exact rfl)
              · intro a w109 h110 s111 hat hF
                obtain hv8 := hF 8 44 rfl rfl
                obtain hv10 := hF 10 46 rfl rfl
                exact front_val (show At _ [(46, .string ((r17.getD ((⟨#[]⟩ : ByteArray), 0)).1)), (44, .string (r92 ++ (⟨#[32]⟩ : ByteArray))), (1, .pointer (some ⟨b7, 0, none⟩)), (3, .pointer (some ⟨b19, 0, none⟩)), (5, .func (.func 56) #[] #[])] _ from (At.cons (At.cons hat hv8) hv10)) rfl (ov_addS rfl rfl hl95) s111.sub (by exact rfl)
              · intro a w109 h110 s111 hat hF
                obtain hv11 := hF 11 47 rfl rfl
                exact front_val (show At _ [(47, .string ((r92 ++ (⟨#[32]⟩ : ByteArray)) ++ ((r17.getD ((⟨#[]⟩ : ByteArray), 0)).1))), (1, .pointer (some ⟨b7, 0, none⟩)), (3, .pointer (some ⟨b19, 0, none⟩)), (5, .func (.func 56) #[] #[])] _ from (At.cons hat hv11)) rfl (ov_addS rfl rfl hl96) s111.sub (by exact rfl)
              · intro a w109 h110 s111 hat hF
                exact front_val (show At _ [(1, .pointer (some ⟨b7, 0, none⟩)), (3, .pointer (some ⟨b19, 0, none⟩)), (5, .func (.func 56) #[] #[])] _ from hat) rfl (ov_move rfl) s111.sub (by exact rfl)
              · intro a w109 h110 s111 hat hF
                exact front_val (show At _ [(1, .pointer (some ⟨b7, 0, none⟩)), (3, .pointer (some ⟨b19, 0, none⟩)), (5, .func (.func 56) #[] #[])] _ from hat) rfl (ov_fieldAddr rfl t_field_32_5) s111.sub (by exact rfl)
              · intro a w109 h110 s111 hat hF
                obtain hv14 := hF 14 50 rfl rfl
                have ob118 := (ob49.step0 s111)
                exact front_val (show At _ [(50, .pointer (some ⟨b7, 5, none⟩)), (1, .pointer (some ⟨b7, 0, none⟩)), (3, .pointer (some ⟨b19, 0, none⟩)), (5, .func (.func 56) #[] #[])] _ from (At.cons hat hv14)) rfl (ov_load1 rfl t_agg_30 (OB.cell ob118 (j := 5) rfl)) s111.sub (by exact rfl)
              · intro a w109 h110 s111 hat hF
                obtain hv15 := hF 15 51 rfl rfl
                exact front_val (show At _ [(51, .slice (some ⟨b84, o85, none⟩) (x1.args).length c80), (1, .pointer (some ⟨b7, 0, none⟩)), (3, .pointer (some ⟨b19, 0, none⟩)), (5, .func (.func 56) #[] #[])] _ from (At.cons hat hv15)) rfl (ov_indexAddr rfl rfl t_slice_30 t_size_32 h102 h103) s111.sub (by exact rfl)
              · intro a w109 h110 s111 hat hF
                obtain hv16 := hF 16 52 rfl rfl
                exact front_val (show At _ [(52, .pointer (some ⟨b84, o85 + Int.toNat 1 * 6, none⟩)), (1, .pointer (some ⟨b7, 0, none⟩)), (3, .pointer (some ⟨b19, 0, none⟩)), (5, .func (.func 56) #[] #[])] _ from (At.cons hat hv16)) rfl (ov_loadN (cs := cs104) rfl t_agg_32 (by rw [Rp.len (Rp.mono (s111.le) r105)]; exact t_size_32) (fun j v hv => s111.sub.at_ _ _ _ ((fun i v hv => (s111.le).1 _ _ _ (hc106 i v hv)) j v hv))) s111.sub (by exact rfl)
              · intro a w109 h110 s111 hat hF
                exact front_val (show At _ [(1, .pointer (some ⟨b7, 0, none⟩)), (3, .pointer (some ⟨b19, 0, none⟩)), (5, .func (.func 56) #[] #[])] _ from hat) rfl (ov_fieldAddr rfl t_field_91_1) s111.sub (by exact rfl)
              · intro a w109 h110 s111 hat hF
                obtain hv18 := hF 18 54 rfl rfl
                have ob119 := (ob50.step0 s111)
                exact front_val (show At _ [(54, .pointer (some ⟨b19, 1, none⟩)), (1, .pointer (some ⟨b7, 0, none⟩)), (3, .pointer (some ⟨b19, 0, none⟩)), (5, .func (.func 56) #[] #[])] _ from (At.cons hat hv18)) rfl (ov_load1 rfl t_agg_3 (OB.cell ob119 (j := 1) rfl)) s111.sub (by exact rfl)
              · intro a w109 h110 s111 hat hF
                obtain hv19 := hF 19 55 rfl rfl
                exact front_val (show At _ [(55, .int .i64 ((r17.getD ((⟨#[]⟩ : ByteArray), 0)).2)), (1, .pointer (some ⟨b7, 0, none⟩)), (3, .pointer (some ⟨b19, 0, none⟩)), (5, .func (.func 56) #[] #[])] _ from (At.cons hat hv19)) rfl (ov_add rfl rfl) s111.sub (by exact rfl)
              · intro a w109 h110 s111 hat hF
                obtain hv13 := hF 13 49 rfl rfl
                obtain hv17 := hF 17 53 rfl rfl
                obtain hv20 := hF 20 56 rfl rfl
                refine front_call (show At _ [(56, .int .i64 (IntKind.i64.wrap (((r17.getD ((⟨#[]⟩ : ByteArray), 0)).2) + 1))), (53, .agg cs104.toArray), (49, .func (.func 56) #[] #[]), (1, .pointer (some ⟨b7, 0, none⟩)), (3, .pointer (some ⟨b19, 0, none⟩)), (5, .func (.func 56) #[] #[])] _ from (At.cons (At.cons (At.cons hat hv13) hv17) hv20)) rfl (oc_val (vs := [.agg cs104.toArray, .int .i64 (IntKind.i64.wrap (((r17.getD ((⟨#[]⟩ : ByteArray), 0)).2) + 1))]) (caps := []) rfl rfl t_ent_56) ((IH _ (Nat.le_refl _)).2.2 hr108 s111.sub (Rp.mono (s111.le) r105)) ?_
                rintro _ w120 ⟨h121, s122, rfl⟩
                exact ⟨_, h121, rfl, s122, (by exact rfl)⟩
            · intro a w109 h110 s111 hat hF
              obtain hv0 := hF 0 36 (by decide) rfl
              obtain hv1 := hF 1 37 (by decide) rfl
              obtain hv2 := hF 2 38 (by decide) rfl
              obtain hv3 := hF 3 39 (by decide) rfl
              obtain hv4 := hF 4 40 (by decide) rfl
              obtain hv5 := hF 5 41 (by decide) rfl
              obtain hv6 := hF 6 42 (by decide) rfl
              obtain hv7 := hF 7 43 (by decide) rfl
              obtain hv8 := hF 8 44 (by decide) rfl
              obtain hv9 := hF 9 45 (by decide) rfl
              obtain hv10 := hF 10 46 (by decide) rfl
              obtain hv11 := hF 11 47 (by decide) rfl
              obtain hv12 := hF 12 48 (by decide) rfl
              obtain hv13 := hF 13 49 (by decide) rfl
              obtain hv14 := hF 14 50 (by decide) rfl
              obtain hv15 := hF 15 51 (by decide) rfl
              obtain hv16 := hF 16 52 (by decide) rfl
              obtain hv17 := hF 17 53 (by decide) rfl
              obtain hv18 := hF 18 54 (by decide) rfl
              obtain hv19 := hF 19 55 (by decide) rfl
              obtain hv20 := hF 20 56 (by decide) rfl
              obtain hv21 := hF 21 57 (by decide) rfl
              refine WL.at_ [(57, .string r107), (56, .int .i64 (IntKind.i64.wrap (((r17.getD ((⟨#[]⟩ : ByteArray), 0)).2) + 1))), (55, .int .i64 ((r17.getD ((⟨#[]⟩ : ByteArray), 0)).2)), (54, .pointer (some ⟨b19, 1, none⟩)), (53, .agg cs104.toArray), (52, .pointer (some ⟨b84, o85 + Int.toNat 1 * 6, none⟩)), (51, .slice (some ⟨b84, o85, none⟩) (x1.args).length c80), (50, .pointer (some ⟨b7, 5, none⟩)), (49, .func (.func 56) #[] #[]), (48, .string (((r92 ++ (⟨#[32]⟩ : ByteArray)) ++ ((r17.getD ((⟨#[]⟩ : ByteArray), 0)).1)) ++ (⟨#[32]⟩ : ByteArray))), (47, .string ((r92 ++ (⟨#[32]⟩ : ByteArray)) ++ ((r17.getD ((⟨#[]⟩ : ByteArray), 0)).1))), (46, .string ((r17.getD ((⟨#[]⟩ : ByteArray), 0)).1)), (45, .pointer (some ⟨b19, 0, none⟩)), (44, .string (r92 ++ (⟨#[32]⟩ : ByteArray))), (43, .string r92), (42, .int .i64 ((r17.getD ((⟨#[]⟩ : ByteArray), 0)).2)), (41, .pointer (some ⟨b19, 1, none⟩)), (40, .agg cs89.toArray), (39, .pointer (some ⟨b84, o85 + Int.toNat 0 * 6, none⟩)), (38, .slice (some ⟨b84, o85, none⟩) (x1.args).length c80), (37, .pointer (some ⟨b7, 5, none⟩)), (36, .func (.func 56) #[] #[]), (1, .pointer (some ⟨b7, 0, none⟩)), (3, .pointer (some ⟨b19, 0, none⟩)), (5, .func (.func 56) #[] #[])] (At.cons (At.cons (At.cons (At.cons (At.cons (At.cons (At.cons (At.cons (At.cons (At.cons (At.cons (At.cons (At.cons (At.cons (At.cons (At.cons (At.cons (At.cons (At.cons (At.cons (At.cons (At.cons hat hv0) hv1) hv2) hv3) hv4) hv5) hv6) hv7) hv8) hv9) hv10) hv11) hv12) hv13) hv14) hv15) hv16) hv17) hv18) hv19) hv20) hv21) ?_
              have S123 := S47.trans0 s111
              obtain ⟨hl124, HF⟩ := ite_none HF
              refine WL.val rfl rfl rfl (ov_addS rfl rfl hl124) ?_
              refine WL.val rfl rfl rfl (ov_assign rfl) ?_
              refine WL.nil ?_
              refine WQ.seqN ?_
              refine WC.ret ?_
              refine WQ.blockRet ?_
              refine WQ.thenRet ?_
              refine WQ.ret1 rfl rfl ?_
              obtain rfl := Option.some.inj HF
              exact ⟨_, rfl, h110, S123, rfl⟩
          · replace HF := bif_f hb78 HF
            refine WC.skip ?_
            refine WQ.blockN ?_
            refine WC.to [1] [(1, .pointer (some ⟨b7, 0, none⟩))] rfl ?_
            exact J192 ⟨h44, HF, rfl, S47, le46, ob49⟩
      · intro J125
        refine WC.region ?_
        refine WL.val rfl rfl rfl (ov_move rfl) ?_
        refine WL.val rfl rfl rfl (ov_move rfl) ?_
        refine WL.split 17 (b := r17.isSome) rfl (fun hb39 => ?_) (fun hb39 => ?_)
        · replace HF := bif_t hb39 HF
          refine WL.val rfl rfl rfl (ov_fieldAddr rfl t_field_32_5) ?_
          have ob40 := ((ob10.step0 s25).step1 s36 ne21)
          refine WL.val rfl rfl rfl (ov_load1 rfl t_agg_30 (OB.cell ob40 (j := 5) rfl)) ?_
          obtain ⟨A41, c42, rfl, rs43⟩ := RS.form (rs5.mono ((s9.le).trans ((s25.le).trans s36.le)))
          refine WL.val rfl rfl rfl (ov_lenL rfl t_slice_30) ?_
          refine WL.val rfl rfl rfl (ov_eql rfl rfl) ?_
          refine WL.val rfl rfl rfl (ov_pickT rfl rfl) ?_
          refine WL.val rfl rfl rfl (ov_assign rfl) ?_
          refine WL.nil ?_
          refine WC.to [1, 3, 4, 5, 15] [(1, .pointer (some ⟨b7, 0, none⟩)), (3, .pointer (some ⟨b19, 0, none⟩)), (4, .bool r17.isSome), (5, .func (.func 56) #[] #[]), (15, .bool (((x1.args.length : Int) : Int) == 1))] rfl ?_
          exact J125 ⟨h24, ((x1.args.length : Int) : Int) == 1, HF, rfl, S38, Hle.refl _, ob40, ob37⟩
        · replace HF := bif_f hb39 HF
          refine WL.pass rfl rfl rfl ?_
          refine WL.pass rfl rfl rfl ?_
          refine WL.pass rfl rfl rfl ?_
          refine WL.pass rfl rfl rfl ?_
          refine WL.val rfl rfl rfl (ov_pickF rfl rfl) ?_
          refine WL.val rfl rfl rfl (ov_assign rfl) ?_
          refine WL.nil ?_
          have ob126 := ((ob10.step0 s25).step1 s36 ne21)
          refine WC.to [1, 3, 4, 5, 15] [(1, .pointer (some ⟨b7, 0, none⟩)), (3, .pointer (some ⟨b19, 0, none⟩)), (4, .bool r17.isSome), (5, .func (.func 56) #[] #[]), (15, .bool false)] rfl ?_
          exact J125 ⟨h24, false, HF, rfl, S38, Hle.refl _, ob126, ob37⟩
set_option maxRecDepth 20000 in
set_option maxHeartbeats 4000000 in
theorem s_print_Joined_api_Expr (k : Nat) (IH : ∀ j, j ≤ k → C_print_Of (tie_print_Of j).print_Of ∧ C_print_Joined_api_Expr (tie_print_Of j).print_Joined_api_Expr ∧ C_print_Of_1 (tie_print_Of j).print_Of_1) : C_print_Joined_api_Expr (m_print_Joined_api_Expr k (tie_print_Of k)) := by
  intro xs1 x4 r HF w0 h0 v2 hs0 rs3
  have S0 : Stp [] w0 h0 w0 h0 := Stp.refl hs0 _
  refine enter (n := 26) Tryz.func57 rfl Tryz.ntmps57 rfl [(0, v2), (1, .string x4), (2, .func (.func 27) #[] #[])] rfl ?_
  refine WC.seq ?_
  refine WC.region ?_
  refine WL.val rfl rfl rfl (ov_assign rfl) ?_
  refine WL.nil ?_
  refine WQ.seqN ?_
  refine WC.seq ?_
  refine WC.region ?_
  refine WL.val rfl rfl rfl (ov_assign rfl) ?_
  refine WL.nil ?_
  refine WQ.seqN ?_
  refine WC.seq ?_
  refine WC.seq ?_
  refine WC.region ?_
  refine WL.val rfl rfl rfl (ov_move rfl) ?_
  obtain ⟨A5, c6, rfl, rs7⟩ := RS.form rs3
  refine WL.val rfl rfl rfl (ov_lenL rfl t_slice_30) ?_
  refine WL.val rfl rfl rfl (ov_move rfl) ?_
  refine WL.nil ?_
  refine WQ.seqN ?_
  refine WC.block ?_
  refine WC.loop ?_
  refine WP.to [1, 2, 7, 10, 11, 12] [(1, .string x4), (2, .func (.func 27) #[] #[]), (7, .slice none 0 0), (10, .slice A5 (xs1).length c6), (11, .int .i64 (xs1.length : Int)), (12, .int .i64 0)] rfl ?_
  refine WP_rule (K := k) (fun j E w9 => ∃ (h8 : Hp) (xs12 : List ByteArray) (v13 : Value) (x16 : Int), (tie_print_Of j).print_Joined_api_Expr_l1 xs1 x4 xs12 x16 = some r ∧ E = [(1, .string x4), (2, .func (.func 27) #[] #[]), (7, v13), (10, .slice A5 (xs1).length c6), (11, .int .i64 (xs1.length : Int)), (12, .int .i64 x16)] ∧ Stp [] w0 h0 w9 h8 ∧ Hle h0 h8 ∧ RS h8 v13 xs12 ∧ Own w9 h8 w0.heap.size 9 1 v13 xs12.length) ?_ ?_ (j := k) (Nat.le_refl _) ?_
  · rintro E w9 ⟨_, _, _, _, HF, _⟩; cases HF
  · rintro j17 hj19 IHL18 E w9 ⟨h8, xs12, v13, x16, HF, rfl, S11, le10, rs14, ow15⟩
    refine WC.seq ?_
    refine WC.region ?_
    refine WL.val rfl rfl rfl (ov_lss rfl rfl) ?_
    refine WL.nil ?_
    refine WQ.seqN ?_
    refine WC.join (fun E w29 => ∃ (h28 : Hp) (xs32 : List ByteArray) (v33 : Value), print_Joined_api_Expr_j2 j17 (tie_print_Of j17) xs1 x4 x16 xs32 = some r ∧ E = [(1, .string x4), (2, .func (.func 27) #[] #[]), (7, v33), (10, .slice A5 (xs1).length c6), (11, .int .i64 (xs1.length : Int)), (12, .int .i64 x16)] ∧ Stp [] w0 h0 w29 h28 ∧ Hle h8 h28 ∧ RS h28 v33 xs32 ∧ Own w29 h28 w0.heap.size 9 1 v33 xs32.length) ?_ ?_
    · rintro E w29 ⟨h28, xs32, v33, HF, rfl, S31, le30, rs34, ow35⟩
      refine WC.seq ?_
      refine WC.block ?_
      refine WC.seq ?_
      refine WC.region ?_
      obtain ⟨e36, he37, HF⟩ := bind_some HF
      obtain ⟨b38, o39, rfl, h41, h42, ra40⟩ := RS.atO (rs7.mono ((le10).trans le30)) he37
      obtain ⟨cs43, r44, hc45⟩ := ra40
      refine WL.val rfl rfl rfl (ov_indexAddr rfl rfl t_slice_30 t_size_32 h41 h42) ?_
      refine WL.val rfl rfl rfl (ov_loadN (cs := cs43) rfl t_agg_32 (by rw [Rp.len r44]; exact t_size_32) (fun j v hv => S31.sub.at_ _ _ _ (hc45 j v hv))) ?_
      refine WL.alloc (zs := [.int .i64 0, .int .i64 0, .int .i64 0, .string (⟨#[]⟩ : ByteArray), .string (⟨#[]⟩ : ByteArray), .slice none 0 0]) rfl rfl t_zero_32 rfl S31.sub (fun w46 b47 hb48 s49 ob50 => ?_)
      have g51 : w0.heap.size ≤ b47 := by rw [hb48]; exact S31.size
      have S52 := S31.trans0 s49
      obtain ⟨v53, rfl, rs54⟩ := rp_Ex.1 (Rp.mono (s49.le) r44)
      refine WL.store (vs := [.int .i64 e36.op, .int .i64 e36.kind, .int .i64 e36.n, .string e36.s, .string e36.f, v53]) rfl rfl rfl rfl t_size_32 (one_cons rfl (one_cons rfl (one_cons rfl (one_cons rfl (one_cons rfl (one_cons (RS.one rs54) one_nil)))))) ob50 S52.sub (by simp) (ds := [.int .i64 e36.op, .int .i64 e36.kind, .int .i64 e36.n, .string e36.s, .string e36.f, v53]) rfl (fun w55 s56 ob57 => ?_)
      have S58 := S52.trans1 s56 (.inr g51)
      refine WL.nil ?_
      refine WQ.seqN ?_
      refine WC.region ?_
      refine WL.val rfl rfl rfl (ov_move rfl) ?_
      refine WL.val rfl rfl rfl (ov_move rfl) ?_
      refine WL.val rfl rfl rfl (ov_loadN (cs := [.int .i64 e36.op, .int .i64 e36.kind, .int .i64 e36.n, .string e36.s, .string e36.f, v53]) rfl t_agg_32 t_size_32 (OB.cells ob57 0 rfl)) ?_
      obtain ⟨r59, hr60, HF⟩ := bind_some HF
      refine WL.call rfl rfl rfl (oc_val (vs := [.agg #[.int .i64 e36.op, .int .i64 e36.kind, .int .i64 e36.n, .string e36.s, .string e36.f, v53]]) (caps := []) rfl rfl t_ent_27) ((IH _ (Nat.le_trans (Nat.le_of_succ_le hj19) (Nat.le_refl _))).1 hr60 S58.sub (rp_Ex.2 ⟨_, rfl, (rs54.mono (s56.le))⟩)) ?_
      rintro _ w62 ⟨h63, s64, rfl⟩
      have S65 := S58.trans0 s64
      have ob73 := (ob57.step0 s64)
      refine WL.buildSliceD (us := [.string r59]) (cs := [.string r59]) rfl rfl rfl t_slice_41 t_size_9 t_zero_9 rfl (cl_cons rfl cl_nil) rfl rfl rfl S65.sub (fun w66 h67 b68 hb69 s70 hk71 hc72 => ?_)
      have S74 := S65.trans0 s70
      have rs75 : RS h67 (.slice (some ⟨b68, 0, none⟩) 1 1) ([r59] : List ByteArray) := RS.litL _ [[.string r59]] rfl rfl hc72 ⟨rfl, trivial⟩
      have ow76 := Own.lit (base := w0.heap.size) (sz := 1) (m := 1) hk71 hc72 (by rw [hb69]; exact S65.size) rfl (by decide)
      obtain ⟨hl77, HF⟩ := ite_none HF
      have ob85 := (ob73.step0 s70)
      refine WL.append (xs := (xs32 : List ByteArray)) (ys := [r59]) rfl rfl rfl rfl t_slice_41 t_size_9 t_zero_9 rfl t_bytes_9 rfl ((((ow35.step0 s49).step s56 (on_cons ((ow35.step0 s49).ne_ob ob50 (by decide)) on_nil)).step0 s64).step0 s70) (rs34.mono ((s49.le).trans ((s56.le).trans ((s64.le).trans s70.le)))) rs75 hl77 S74.sub S74.size (by rw [S74.eqb]; exact hs0.big) (fun v78 w79 h80 rs81 ow82 s83 at84 => ?_)
      have S86 := S74.trans s83 (fun i hi => .inr (((((ow35.step0 s49).step s56 (on_cons ((ow35.step0 s49).ne_ob ob50 (by decide)) on_nil)).step0 s64).step0 s70).base_le i hi))
      refine WL.val rfl rfl rfl (ov_assign rfl) ?_
      refine WL.nil ?_
      refine WQ.blockN ?_
      refine WQ.seqN ?_
      refine WC.region ?_
      refine WL.val rfl rfl rfl (ov_add rfl rfl) ?_
      refine WL.val rfl rfl rfl (ov_move rfl) ?_
      refine WL.nil ?_
      refine WQ.loopN ?_
      refine WP.to [1, 2, 7, 10, 11, 12] [(1, .string x4), (2, .func (.func 27) #[] #[]), (7, v78), (10, .slice (some ⟨b38, o39, none⟩) (xs1).length c6), (11, .int .i64 (xs1.length : Int)), (12, .int .i64 (IntKind.i64.wrap (x16 + 1)))] rfl ?_
      exact IHL18 j17 (Nat.le_refl _) _ _ ⟨h80, xs32 ++ [r59], v78, IntKind.i64.wrap (x16 + 1), HF, rfl, S86, (le10).trans ((le30).trans ((s49.le).trans ((s56.le).trans ((s64.le).trans ((s70.le).trans s83.le))))), rs81, ow82⟩
    · intro J87
      refine WC.cond (b := decide ((x16 : Int) < (xs1.length : Int))) rfl (fun hb20 => ?_) (fun hb20 => ?_)
      · replace HF := bif_t hb20 HF
        refine WC.skip ?_
        refine WC.to [1, 2, 7, 10, 11, 12] [(1, .string x4), (2, .func (.func 27) #[] #[]), (7, v13), (10, .slice A5 (xs1).length c6), (11, .int .i64 (xs1.length : Int)), (12, .int .i64 x16)] rfl ?_
        exact J87 ⟨h8, xs12, v13, HF, rfl, S11, Hle.refl _, rs14, ow15⟩
      · replace HF := bif_f hb20 HF
        refine WC.exit ?_
        refine WQ.thenExit ?_
        refine WQ.thenExit ?_
        refine WQ.blockHit ?_
        refine WQ.seqN ?_
        refine WC.seq ?_
        refine WC.region ?_
        refine WL.val rfl rfl rfl (ov_move rfl) ?_
        refine WL.val rfl rfl rfl (ov_move rfl) ?_
        obtain ⟨r21, hr22, HF⟩ := bind_some HF
        refine WL.call rfl rfl rfl (oc_func (vs := [v13, .string x4]) rfl t_ent_67) (ok_strings_Join _ hr22 S11.sub rs14) ?_
        rintro _ w24 ⟨h25, s26, rfl⟩
        have S27 := S11.trans0 s26
        refine WL.val rfl rfl rfl (ov_assign rfl) ?_
        refine WL.nil ?_
        refine WQ.seqN ?_
        refine WC.ret ?_
        refine WQ.ret1 rfl rfl ?_
        obtain rfl := Option.some.inj HF
        exact ⟨_, rfl, h25, S27, rfl⟩
  · exact ⟨h0, ([] : List ByteArray), .slice none 0 0, 0, HF, rfl, S0, Hle.refl _, (RS.nil _), (Own.nil _ _ _ _ _)⟩
set_option maxRecDepth 20000 in
set_option maxHeartbeats 4000000 in
theorem s_print_Of_1 (k : Nat) (IH : ∀ j, j ≤ k → C_print_Of (tie_print_Of j).print_Of ∧ C_print_Joined_api_Expr (tie_print_Of j).print_Joined_api_Expr ∧ C_print_Of_1 (tie_print_Of j).print_Of_1) : C_print_Of_1 (m_print_Of_1 k (tie_print_Of k)) := by
  intro x1 x4 r HF w0 h0 cs2 hs0 r3
  have S0 : Stp [] w0 h0 w0 h0 := Stp.refl hs0 _
  refine enter (n := 33) Tryz.func56 rfl Tryz.ntmps56 rfl [(0, .agg cs2.toArray), (1, .int .i64 x4)] rfl ?_
  refine WC.seq ?_
  refine WC.region ?_
  obtain ⟨v5, rfl, rs6⟩ := rp_Ex.1 r3
  refine WL.box (cs := [.int .i64 x1.op, .int .i64 x1.kind, .int .i64 x1.n, .string x1.s, .string x1.f, v5]) rfl rfl rfl rfl S0.sub (fun w7 b8 hb9 s10 ob11 => ?_)
  have g12 : w0.heap.size ≤ b8 := by rw [hb9]; exact S0.size
  have S13 := S0.trans0 s10
  refine WL.val rfl rfl rfl (ov_assign rfl) ?_
  refine WL.nil ?_
  refine WQ.seqN ?_
  refine WC.join (fun E w65 => ∃ (h64 : Hp), print_Of_1_j2 k (tie_print_Of k) x1 = some r ∧ E = [(2, .pointer (some ⟨b8, 0, none⟩))] ∧ Stp [] w0 h0 w65 h64 ∧ Hle h0 h64 ∧ OB w65 h64 b8 32 [.int .i64 x1.op, .int .i64 x1.kind, .int .i64 x1.n, .string x1.s, .string x1.f, v5]) ?_ ?_
  · rintro E w65 ⟨h64, HF, rfl, S67, le66, ob68⟩
    refine WC.seq ?_
    refine WC.region ?_
    refine WL.val rfl rfl rfl (ov_loadN (cs := [.int .i64 x1.op, .int .i64 x1.kind, .int .i64 x1.n, .string x1.s, .string x1.f, v5]) rfl t_agg_32 t_size_32 (OB.cells ob68 0 rfl)) ?_
    obtain ⟨r69, hr70, HF⟩ := bind_some HF
    refine WL.call rfl rfl rfl (oc_func (vs := [.agg #[.int .i64 x1.op, .int .i64 x1.kind, .int .i64 x1.n, .string x1.s, .string x1.f, v5]]) rfl t_ent_27) ((IH _ (Nat.le_refl _)).1 hr70 S67.sub (rp_Ex.2 ⟨_, rfl, (rs6.mono ((s10.le).trans le66))⟩)) ?_
    rintro _ w72 ⟨h73, s74, rfl⟩
    have S75 := S67.trans0 s74
    refine WL.val rfl rfl rfl (ov_assign rfl) ?_
    refine WL.nil ?_
    refine WQ.seqN ?_
    refine WC.ret ?_
    refine WQ.ret1 rfl rfl ?_
    obtain rfl := Option.some.inj HF
    exact ⟨_, rfl, h73, S75, rfl⟩
  · intro J76
    refine WC.seq ?_
    obtain ⟨r14, hr15, HF⟩ := bind_some HF
    obtain ⟨r18, hr19, HF⟩ := bind_some HF
    replace hr19 := Option.some.inj hr19
    refine WC.drawnF (m := 8) [(1, .int .i64 x4), (2, .pointer (some ⟨b8, 0, none⟩))] [1, 2] [6] rfl (fun i v w h => match i with | 0 => ∃ (v16 : Value), v = v16 ∧ RM (fun x : ByteArray × Int => .agg #[.string x.1, .int .i64 x.2]) h v16 r14 | 1 => v = .pointer (some ⟨b8, 0, none⟩) | 2 => v = .int .i64 x1.op | 3 => v = .tuple #[.agg #[.string ((r18.getD ((⟨#[]⟩ : ByteArray), 0)).1), .int .i64 ((r18.getD ((⟨#[]⟩ : ByteArray), 0)).2)], .bool r18.isSome] | 4 => v = .tuple #[.agg #[.string ((r18.getD ((⟨#[]⟩ : ByteArray), 0)).1), .int .i64 ((r18.getD ((⟨#[]⟩ : ByteArray), 0)).2)], .bool r18.isSome] | 5 => v = .agg #[.string ((r18.getD ((⟨#[]⟩ : ByteArray), 0)).1), .int .i64 ((r18.getD ((⟨#[]⟩ : ByteArray), 0)).2)] | 6 => v = .bool r18.isSome | 7 => ∃ (b20 : Nat), v = .pointer (some ⟨b20, 0, none⟩) ∧ OB w h b20 91 [.string (⟨#[]⟩ : ByteArray), .int .i64 0] ∧ w0.heap.size ≤ b20 ∧ b8 ≠ b20 | _ => True) t_mixed S13.sub rfl rfl rfl rfl rfl rfl rfl ?_ ?_ ?_
    · intro i v w h w2 h2 hΦ hst
      match i, hΦ with
      | 0, ⟨v16, hv0, rm17⟩ => exact ⟨v16, hv0, rm17.mono hst.le⟩
      | 1, hΦ => exact hΦ
      | 2, hΦ => exact hΦ
      | 3, hΦ => exact hΦ
      | 4, hΦ => exact hΦ
      | 5, hΦ => exact hΦ
      | 6, hΦ => exact hΦ
      | 7, ⟨b20, hv7, ob21, g23, ne22⟩ => exact ⟨b20, hv7, ob21.step0 hst, g23, ne22⟩
      | i + 8, _ => exact trivial
    · refine (FrontsF.front rfl ?_ (FrontsF.front rfl ?_ (FrontsF.front rfl ?_ (FrontsF.front rfl ?_ (FrontsF.front rfl ?_ (FrontsF.front rfl ?_ (FrontsF.float rfl ?_ (FrontsF.front rfl ?_ FrontsF.nil))))))))
      · intro a w24 h25 s26 hat hF
        refine front_call (show At _ [(1, .int .i64 x4), (2, .pointer (some ⟨b8, 0, none⟩))] _ from hat) rfl (oc_func (vs := []) rfl t_ent_55) (ok_print_signs _ hr15 s26.sub) ?_
        rintro v16 w27 ⟨h28, s29, rm17⟩
        exact ⟨_, h28, rfl, s29, (by exact ⟨v16, rfl, rm17⟩)⟩
      · intro a w24 h25 s26 hat hF
        exact front_val (show At _ [(1, .int .i64 x4), (2, .pointer (some ⟨b8, 0, none⟩))] _ from hat) rfl (ov_fieldAddr rfl t_field_32_0) s26.sub (by exact rfl)
      · intro a w24 h25 s26 hat hF
        obtain hv1 := hF 1 9 rfl rfl
        have ob30 := (ob11.step0 s26)
        exact front_val (show At _ [(9, .pointer (some ⟨b8, 0, none⟩)), (1, .int .i64 x4), (2, .pointer (some ⟨b8, 0, none⟩))] _ from (At.cons hat hv1)) rfl (ov_load1 rfl t_agg_3 (OB.cell ob30 (j := 0) rfl)) s26.sub (by exact rfl)
      · intro a w24 h25 s26 hat hF
        obtain ⟨v16, hv0, rm17⟩ := hF 0 8 rfl rfl
        obtain hv2 := hF 2 10 rfl rfl
        exact front_val (show At _ [(10, .int .i64 x1.op), (8, v16), (1, .int .i64 x4), (2, .pointer (some ⟨b8, 0, none⟩))] _ from (At.cons (At.cons hat hv0) hv2)) rfl (ov_lookupI2 (evl := (fun x : ByteArray × Int => .agg #[.string x.1, .int .i64 x.2])) (z := ((⟨#[]⟩ : ByteArray), 0)) rfl rfl t_map_93 t_int_3 t_zero_91 rm17 s26.sub hr19) s26.sub (by exact rfl)
      · intro a w24 h25 s26 hat hF
        obtain hv3 := hF 3 11 rfl rfl
        exact front_val (show At _ [(11, .tuple #[.agg #[.string ((r18.getD ((⟨#[]⟩ : ByteArray), 0)).1), .int .i64 ((r18.getD ((⟨#[]⟩ : ByteArray), 0)).2)], .bool r18.isSome]), (1, .int .i64 x4), (2, .pointer (some ⟨b8, 0, none⟩))] _ from (At.cons hat hv3)) rfl (ov_move rfl) s26.sub (by exact rfl)
      · intro a w24 h25 s26 hat hF
        obtain hv4 := hF 4 7 rfl rfl
        exact front_val (show At _ [(7, .tuple #[.agg #[.string ((r18.getD ((⟨#[]⟩ : ByteArray), 0)).1), .int .i64 ((r18.getD ((⟨#[]⟩ : ByteArray), 0)).2)], .bool r18.isSome]), (1, .int .i64 x4), (2, .pointer (some ⟨b8, 0, none⟩))] _ from (At.cons hat hv4)) rfl (ov_extract rfl rfl) s26.sub (by exact rfl)
      · intro a w24 h25 ww s26 hat hF
        obtain hv4 := hF 4 7 rfl rfl
        exact front_float (show At _ [(7, .tuple #[.agg #[.string ((r18.getD ((⟨#[]⟩ : ByteArray), 0)).1), .int .i64 ((r18.getD ((⟨#[]⟩ : ByteArray), 0)).2)], .bool r18.isSome]), (1, .int .i64 x4), (2, .pointer (some ⟨b8, 0, none⟩))] _ from (At.cons hat hv4)) rfl (ov_extract rfl rfl) (by exact rfl)
      · intro a w24 h25 s26 hat hF
        have ob34 := (ob11.step0 s26)
        exact front_alloc (zs := [.string (⟨#[]⟩ : ByteArray), .int .i64 0]) (show At _ [(1, .int .i64 x4), (2, .pointer (some ⟨b8, 0, none⟩))] _ from hat) rfl t_zero_91 rfl s26.sub (fun w33 b20 hb31 s32 ob21 => ⟨b20, rfl, ob21, by rw [hb31]; exact Nat.le_trans S13.size s26.size, ob34.ne_new hb31⟩)
    · intro a w24 h25 s26 hat hF
      obtain ⟨v16, hv0, rm17⟩ := hF 0 8 (by decide) rfl rfl
      obtain hv1 := hF 1 9 (by decide) rfl rfl
      obtain hv2 := hF 2 10 (by decide) rfl rfl
      obtain hv3 := hF 3 11 (by decide) rfl rfl
      obtain hv4 := hF 4 7 (by decide) rfl rfl
      obtain hv5 := hF 5 12 (by decide) rfl rfl
      obtain ⟨b20, hv7, ob21, g23, ne22⟩ := hF 7 5 (by decide) rfl rfl
      have S35 := S13.trans0 s26
      refine F.store [(5, .pointer (some ⟨b20, 0, none⟩)), (12, .agg #[.string ((r18.getD ((⟨#[]⟩ : ByteArray), 0)).1), .int .i64 ((r18.getD ((⟨#[]⟩ : ByteArray), 0)).2)]), (7, .tuple #[.agg #[.string ((r18.getD ((⟨#[]⟩ : ByteArray), 0)).1), .int .i64 ((r18.getD ((⟨#[]⟩ : ByteArray), 0)).2)], .bool r18.isSome]), (11, .tuple #[.agg #[.string ((r18.getD ((⟨#[]⟩ : ByteArray), 0)).1), .int .i64 ((r18.getD ((⟨#[]⟩ : ByteArray), 0)).2)], .bool r18.isSome]), (10, .int .i64 x1.op), (9, .pointer (some ⟨b8, 0, none⟩)), (8, v16), (1, .int .i64 x4), (2, .pointer (some ⟨b8, 0, none⟩))] (At.cons (At.cons (At.cons (At.cons (At.cons (At.cons (At.cons hat hv0) hv1) hv2) hv3) hv4) hv5) hv7) rfl (vs := [.string ((r18.getD ((⟨#[]⟩ : ByteArray), 0)).1), .int .i64 ((r18.getD ((⟨#[]⟩ : ByteArray), 0)).2)]) rfl rfl rfl t_size_91 (one_cons rfl (one_cons rfl one_nil)) ob21 S35.sub (by simp) (ds := [.string ((r18.getD ((⟨#[]⟩ : ByteArray), 0)).1), .int .i64 ((r18.getD ((⟨#[]⟩ : ByteArray), 0)).2)]) rfl (fun w36 s37 ob38 a2 hat2 hG => ?_)
      have S39 := S35.trans1 s37 (.inr g23)
      obtain hv6 := hG 6 13 (by decide) rfl rfl
      refine WL.at_ [(13, .bool r18.isSome), (5, .pointer (some ⟨b20, 0, none⟩)), (12, .agg #[.string ((r18.getD ((⟨#[]⟩ : ByteArray), 0)).1), .int .i64 ((r18.getD ((⟨#[]⟩ : ByteArray), 0)).2)]), (7, .tuple #[.agg #[.string ((r18.getD ((⟨#[]⟩ : ByteArray), 0)).1), .int .i64 ((r18.getD ((⟨#[]⟩ : ByteArray), 0)).2)], .bool r18.isSome]), (11, .tuple #[.agg #[.string ((r18.getD ((⟨#[]⟩ : ByteArray), 0)).1), .int .i64 ((r18.getD ((⟨#[]⟩ : ByteArray), 0)).2)], .bool r18.isSome]), (10, .int .i64 x1.op), (9, .pointer (some ⟨b8, 0, none⟩)), (8, v16), (1, .int .i64 x4), (2, .pointer (some ⟨b8, 0, none⟩))] (At.cons hat2 hv6) ?_
      refine WL.val rfl rfl rfl (ov_assign rfl) ?_
      refine WL.nil ?_
      refine WQ.seqN ?_
      refine WC.join (fun E w47 => ∃ (h46 : Hp) (x50 : Bool), print_Of_1_j1 k (tie_print_Of k) x1 x50 = some r ∧ E = [(2, .pointer (some ⟨b8, 0, none⟩)), (26, .bool x50)] ∧ Stp [] w0 h0 w47 h46 ∧ Hle h25 h46 ∧ OB w47 h46 b8 32 [.int .i64 x1.op, .int .i64 x1.kind, .int .i64 x1.n, .string x1.s, .string x1.f, v5]) ?_ ?_
      · rintro E w47 ⟨h46, x50, HF, rfl, S49, le48, ob51⟩
        refine WC.cond (b := x50) rfl (fun hb52 => ?_) (fun hb52 => ?_)
        · replace HF := bif_t hb52 HF
          refine WC.seq ?_
          refine WC.region ?_
          refine WL.val rfl rfl rfl (ov_loadN (cs := [.int .i64 x1.op, .int .i64 x1.kind, .int .i64 x1.n, .string x1.s, .string x1.f, v5]) rfl t_agg_32 t_size_32 (OB.cells ob51 0 rfl)) ?_
          obtain ⟨r53, hr54, HF⟩ := bind_some HF
          refine WL.call rfl rfl rfl (oc_func (vs := [.agg #[.int .i64 x1.op, .int .i64 x1.kind, .int .i64 x1.n, .string x1.s, .string x1.f, v5]]) rfl t_ent_27) ((IH _ (Nat.le_refl _)).1 hr54 S49.sub (rp_Ex.2 ⟨_, rfl, (rs6.mono ((s10.le).trans ((s26.le).trans ((s37.le).trans le48))))⟩)) ?_
          rintro _ w56 ⟨h57, s58, rfl⟩
          have S59 := S49.trans0 s58
          obtain ⟨hl60, HF⟩ := ite_none HF
          refine WL.val rfl rfl rfl (ov_addS rfl rfl hl60) ?_
          obtain ⟨hl61, HF⟩ := ite_none HF
          refine WL.val rfl rfl rfl (ov_addS rfl rfl hl61) ?_
          refine WL.val rfl rfl rfl (ov_assign rfl) ?_
          refine WL.nil ?_
          refine WQ.seqN ?_
          refine WC.ret ?_
          refine WQ.thenRet ?_
          refine WQ.ret1 rfl rfl ?_
          obtain rfl := Option.some.inj HF
          exact ⟨_, rfl, h57, S59, rfl⟩
        · replace HF := bif_f hb52 HF
          refine WC.skip ?_
          refine WC.to [2] [(2, .pointer (some ⟨b8, 0, none⟩))] rfl ?_
          exact J76 ⟨h46, HF, rfl, S49, (s26.le).trans ((s37.le).trans le48), ob51⟩
      · intro J62
        refine WC.region ?_
        refine WL.val rfl rfl rfl (ov_move rfl) ?_
        refine WL.val rfl rfl rfl (ov_move rfl) ?_
        refine WL.split 15 (b := r18.isSome) rfl (fun hb40 => ?_) (fun hb40 => ?_)
        · replace HF := bif_t hb40 HF
          refine WL.val rfl rfl rfl (ov_fieldAddr rfl t_field_32_5) ?_
          have ob41 := ((ob11.step0 s26).step1 s37 ne22)
          refine WL.val rfl rfl rfl (ov_load1 rfl t_agg_30 (OB.cell ob41 (j := 5) rfl)) ?_
          obtain ⟨A42, c43, rfl, rs44⟩ := RS.form (rs6.mono ((s10.le).trans ((s26.le).trans s37.le)))
          refine WL.val rfl rfl rfl (ov_lenL rfl t_slice_30) ?_
          refine WL.val rfl rfl rfl (ov_eql rfl rfl) ?_
          refine WL.val rfl rfl rfl (ov_pickT rfl rfl) ?_
          refine WL.val rfl rfl rfl (ov_move rfl) ?_
          refine WL.split 21 (b := ((x1.args.length : Int) : Int) == 2) rfl (fun hb45 => ?_) (fun hb45 => ?_)
          · replace HF := bif_t hb45 HF
            refine WL.val rfl rfl rfl (ov_fieldAddr rfl t_field_91_1) ?_
            refine WL.val rfl rfl rfl (ov_load1 rfl t_agg_3 (OB.cell ob38 (j := 1) rfl)) ?_
            refine WL.val rfl rfl rfl (ov_move rfl) ?_
            refine WL.val rfl rfl rfl (ov_lss rfl rfl) ?_
            refine WL.val rfl rfl rfl (ov_pickT rfl rfl) ?_
            refine WL.nil ?_
            refine WC.to [2, 26] [(2, .pointer (some ⟨b8, 0, none⟩)), (26, .bool (decide ((((r18.getD ((⟨#[]⟩ : ByteArray), 0)).2) : Int) < x4)))] rfl ?_
            exact J62 ⟨h25, decide ((((r18.getD ((⟨#[]⟩ : ByteArray), 0)).2) : Int) < x4), HF, rfl, S39, Hle.refl _, ob41⟩
          · replace HF := bif_f hb45 HF
            refine WL.pass rfl rfl rfl ?_
            refine WL.pass rfl rfl rfl ?_
            refine WL.pass rfl rfl rfl ?_
            refine WL.pass rfl rfl rfl ?_
            refine WL.val rfl rfl rfl (ov_pickF rfl rfl) ?_
            refine WL.nil ?_
            refine WC.to [2, 26] [(2, .pointer (some ⟨b8, 0, none⟩)), (26, .bool false)] rfl ?_
            exact J62 ⟨h25, false, HF, rfl, S39, Hle.refl _, ob41⟩
        · replace HF := bif_f hb40 HF
          refine WL.pass rfl rfl rfl ?_
          refine WL.pass rfl rfl rfl ?_
          refine WL.pass rfl rfl rfl ?_
          refine WL.pass rfl rfl rfl ?_
          refine WL.val rfl rfl rfl (ov_pickF rfl rfl) ?_
          refine WL.val rfl rfl rfl (ov_move rfl) ?_
          refine WL.pass rfl rfl rfl ?_
          refine WL.pass rfl rfl rfl ?_
          refine WL.pass rfl rfl rfl ?_
          refine WL.pass rfl rfl rfl ?_
          refine WL.val rfl rfl rfl (ov_pickF rfl rfl) ?_
          refine WL.nil ?_
          have ob63 := ((ob11.step0 s26).step1 s37 ne22)
          refine WC.to [2, 26] [(2, .pointer (some ⟨b8, 0, none⟩)), (26, .bool false)] rfl ?_
          exact J62 ⟨h25, false, HF, rfl, S39, Hle.refl _, ob63⟩
theorem all_print_Of : ∀ k j, j ≤ k → C_print_Of (tie_print_Of j).print_Of ∧ C_print_Joined_api_Expr (tie_print_Of j).print_Joined_api_Expr ∧ C_print_Of_1 (tie_print_Of j).print_Of_1 := by
  intro k
  induction k with
  | zero =>
    intro j hj
    obtain rfl : j = 0 := by omega
    exact ⟨(fun _ _ => by intro h; cases h), (fun _ _ _ => by intro h; cases h), (fun _ _ _ => by intro h; cases h)⟩
  | succ k ih =>
    intro j hj
    by_cases h : j ≤ k
    · exact ih j h
    · obtain rfl : j = k + 1 := by omega
      exact ⟨s_print_Of k ih, s_print_Joined_api_Expr k ih, s_print_Of_1 k ih⟩
theorem ok_print_Of (k : Nat) : C_print_Of (F_print_Of k) := (all_print_Of k k (Nat.le_refl _)).1
theorem ok_print_Joined_api_Expr (k : Nat) : C_print_Joined_api_Expr (F_print_Joined_api_Expr k) := (all_print_Of k k (Nat.le_refl _)).2.1
theorem ok_print_Of_1 (k : Nat) : C_print_Of_1 (F_print_Of_1 k) := (all_print_Of k k (Nat.le_refl _)).2.2

def C_print_Inputs (φ : (List ByteArray) → (List Ex) → Option ByteArray) : Prop := ∀ ⦃xs1 : List ByteArray⦄ ⦃xs4 : List Ex⦄ ⦃r : ByteArray⦄, φ xs1 xs4 = some r → ∀ ⦃w0 : World⦄ ⦃h0 : Hp⦄ ⦃v2 : Value⦄ ⦃v5 : Value⦄, Sub h0 w0 → RS h0 v2 xs1 → RS h0 v5 xs4 →
  Calls Tryz.prog 40 #[v2, v5] w0 fun e w1 => ∃ v, e = .returned v ∧ ∃ h1, Stp [] w0 h0 w1 h1 ∧ v = .string r
set_option maxRecDepth 20000 in
set_option maxHeartbeats 4000000 in
theorem s_print_Inputs (k : Nat) (IH : ∀ j, j ≤ k → C_print_Inputs (tie_print_Inputs j).print_Inputs) : C_print_Inputs (m_print_Inputs k (tie_print_Inputs k)) := by
  intro xs1 xs4 r HF w0 h0 v2 v5 hs0 rs3 rs6
  have S0 : Stp [] w0 h0 w0 h0 := Stp.refl hs0 _
  refine enter (n := 29) Tryz.func40 rfl Tryz.ntmps40 rfl [(0, v2), (1, v5)] rfl ?_
  refine WC.seq ?_
  refine WC.region ?_
  refine WL.val rfl rfl rfl (ov_assign rfl) ?_
  refine WL.nil ?_
  refine WQ.seqN ?_
  refine WC.seq ?_
  refine WC.region ?_
  refine WL.val rfl rfl rfl (ov_assign rfl) ?_
  refine WL.nil ?_
  refine WQ.seqN ?_
  refine WC.seq ?_
  refine WC.seq ?_
  refine WC.region ?_
  refine WL.val rfl rfl rfl (ov_move rfl) ?_
  obtain ⟨A7, c8, rfl, rs9⟩ := RS.form rs3
  refine WL.val rfl rfl rfl (ov_lenL rfl t_slice_41) ?_
  refine WL.val rfl rfl rfl (ov_move rfl) ?_
  refine WL.nil ?_
  refine WQ.seqN ?_
  refine WC.block ?_
  refine WC.loop ?_
  refine WP.to [1, 5, 8, 9, 10] [(1, v5), (5, .slice none 0 0), (8, .slice A7 (xs1).length c8), (9, .int .i64 (xs1.length : Int)), (10, .int .i64 0)] rfl ?_
  refine WP_rule (K := k) (fun j E w11 => ∃ (h10 : Hp) (xs14 : List ByteArray) (v15 : Value) (x18 : Int), (tie_print_Inputs j).print_Inputs_l1 xs1 xs4 xs14 x18 = some r ∧ E = [(1, v5), (5, v15), (8, .slice A7 (xs1).length c8), (9, .int .i64 (xs1.length : Int)), (10, .int .i64 x18)] ∧ Stp [] w0 h0 w11 h10 ∧ Hle h0 h10 ∧ RS h10 v15 xs14 ∧ Own w11 h10 w0.heap.size 9 1 v15 xs14.length) ?_ ?_ (j := k) (Nat.le_refl _) ?_
  · rintro E w11 ⟨_, _, _, _, HF, _⟩; cases HF
  · rintro j19 hj21 IHL20 E w11 ⟨h10, xs14, v15, x18, HF, rfl, S13, le12, rs16, ow17⟩
    refine WC.seq ?_
    refine WC.region ?_
    refine WL.val rfl rfl rfl (ov_lss rfl rfl) ?_
    refine WL.nil ?_
    refine WQ.seqN ?_
    refine WC.join (fun E w31 => ∃ (h30 : Hp) (xs34 : List ByteArray) (v35 : Value), print_Inputs_j2 j19 (tie_print_Inputs j19) xs1 xs4 x18 xs34 = some r ∧ E = [(1, v5), (5, v35), (8, .slice A7 (xs1).length c8), (9, .int .i64 (xs1.length : Int)), (10, .int .i64 x18)] ∧ Stp [] w0 h0 w31 h30 ∧ Hle h10 h30 ∧ RS h30 v35 xs34 ∧ Own w31 h30 w0.heap.size 9 1 v35 xs34.length) ?_ ?_
    · rintro E w31 ⟨h30, xs34, v35, HF, rfl, S33, le32, rs36, ow37⟩
      refine WC.seq ?_
      refine WC.block ?_
      refine WC.seq ?_
      refine WC.region ?_
      refine WL.val rfl rfl rfl (ov_move rfl) ?_
      obtain ⟨e38, he39, HF⟩ := bind_some HF
      obtain ⟨b40, o41, rfl, h43, h44, ra42⟩ := RS.atO (rs9.mono ((le12).trans le32)) he39
      obtain ⟨cs45, r46, hc47⟩ := ra42
      obtain rfl := (show cs45 = _ from r46)
      refine WL.val rfl rfl rfl (ov_indexAddr rfl rfl t_slice_41 t_size_9 h43 h44) ?_
      refine WL.val rfl rfl rfl (ov_load1 rfl t_agg_9 (S33.sub.at_ _ _ _ (hc47 0 _ rfl))) ?_
      refine WL.val rfl rfl rfl (ov_assign rfl) ?_
      refine WL.val rfl rfl rfl (ov_assign rfl) ?_
      refine WL.nil ?_
      refine WQ.seqN ?_
      refine WC.region ?_
      refine WL.val rfl rfl rfl (ov_move rfl) ?_
      refine WL.val rfl rfl rfl (ov_move rfl) ?_
      obtain ⟨hl48, HF⟩ := ite_none HF
      refine WL.val rfl rfl rfl (ov_addS rfl rfl hl48) ?_
      refine WL.val rfl rfl rfl (ov_move rfl) ?_
      refine WL.val rfl rfl rfl (ov_move rfl) ?_
      obtain ⟨A49, c50, rfl, rs51⟩ := RS.form (rs6.mono ((le12).trans le32))
      obtain ⟨e52, he53, HF⟩ := bind_some HF
      obtain ⟨b54, o55, rfl, h57, h58, ra56⟩ := RS.atO rs51 he53
      obtain ⟨cs59, r60, hc61⟩ := ra56
      refine WL.val rfl rfl rfl (ov_indexAddr rfl rfl t_slice_30 t_size_32 h57 h58) ?_
      refine WL.val rfl rfl rfl (ov_loadN (cs := cs59) rfl t_agg_32 (by rw [Rp.len r60]; exact t_size_32) (fun j v hv => S33.sub.at_ _ _ _ (hc61 j v hv))) ?_
      obtain ⟨r62, hr63, HF⟩ := bind_some HF
      refine WL.call rfl rfl rfl (oc_func (vs := [.agg cs59.toArray]) rfl t_ent_27) (ok_print_Of _ hr63 S33.sub r60) ?_
      rintro _ w65 ⟨h66, s67, rfl⟩
      have S68 := S33.trans0 s67
      obtain ⟨hl69, HF⟩ := ite_none HF
      refine WL.val rfl rfl rfl (ov_addS rfl rfl hl69) ?_
      refine WL.buildSliceD (us := [.string ((e38 ++ (⟨#[32, 58, 61, 32]⟩ : ByteArray)) ++ r62)]) (cs := [.string ((e38 ++ (⟨#[32, 58, 61, 32]⟩ : ByteArray)) ++ r62)]) rfl rfl rfl t_slice_41 t_size_9 t_zero_9 rfl (cl_cons rfl cl_nil) rfl rfl rfl S68.sub (fun w70 h71 b72 hb73 s74 hk75 hc76 => ?_)
      have S77 := S68.trans0 s74
      have rs78 : RS h71 (.slice (some ⟨b72, 0, none⟩) 1 1) ([(e38 ++ (⟨#[32, 58, 61, 32]⟩ : ByteArray)) ++ r62] : List ByteArray) := RS.litL _ [[.string ((e38 ++ (⟨#[32, 58, 61, 32]⟩ : ByteArray)) ++ r62)]] rfl rfl hc76 ⟨rfl, trivial⟩
      have ow79 := Own.lit (base := w0.heap.size) (sz := 1) (m := 1) hk75 hc76 (by rw [hb73]; exact S68.size) rfl (by decide)
      obtain ⟨hl80, HF⟩ := ite_none HF
      refine WL.append (xs := (xs34 : List ByteArray)) (ys := [(e38 ++ (⟨#[32, 58, 61, 32]⟩ : ByteArray)) ++ r62]) rfl rfl rfl rfl t_slice_41 t_size_9 t_zero_9 rfl t_bytes_9 rfl ((ow37.step0 s67).step0 s74) (rs36.mono ((s67.le).trans s74.le)) rs78 hl80 S77.sub S77.size (by rw [S77.eqb]; exact hs0.big) (fun v81 w82 h83 rs84 ow85 s86 at87 => ?_)
      have S88 := S77.trans s86 (fun i hi => .inr (((ow37.step0 s67).step0 s74).base_le i hi))
      refine WL.val rfl rfl rfl (ov_assign rfl) ?_
      refine WL.nil ?_
      refine WQ.blockN ?_
      refine WQ.seqN ?_
      refine WC.region ?_
      refine WL.val rfl rfl rfl (ov_add rfl rfl) ?_
      refine WL.val rfl rfl rfl (ov_move rfl) ?_
      refine WL.nil ?_
      refine WQ.loopN ?_
      refine WP.to [1, 5, 8, 9, 10] [(1, .slice (some ⟨b54, o55, none⟩) (xs4).length c50), (5, v81), (8, .slice (some ⟨b40, o41, none⟩) (xs1).length c8), (9, .int .i64 (xs1.length : Int)), (10, .int .i64 (IntKind.i64.wrap (x18 + 1)))] rfl ?_
      exact IHL20 j19 (Nat.le_refl _) _ _ ⟨h83, xs34 ++ [(e38 ++ (⟨#[32, 58, 61, 32]⟩ : ByteArray)) ++ r62], v81, IntKind.i64.wrap (x18 + 1), HF, rfl, S88, (le12).trans ((le32).trans ((s67.le).trans ((s74.le).trans s86.le))), rs84, ow85⟩
    · intro J89
      refine WC.cond (b := decide ((x18 : Int) < (xs1.length : Int))) rfl (fun hb22 => ?_) (fun hb22 => ?_)
      · replace HF := bif_t hb22 HF
        refine WC.skip ?_
        refine WC.to [1, 5, 8, 9, 10] [(1, v5), (5, v15), (8, .slice A7 (xs1).length c8), (9, .int .i64 (xs1.length : Int)), (10, .int .i64 x18)] rfl ?_
        exact J89 ⟨h10, xs14, v15, HF, rfl, S13, Hle.refl _, rs16, ow17⟩
      · replace HF := bif_f hb22 HF
        refine WC.exit ?_
        refine WQ.thenExit ?_
        refine WQ.thenExit ?_
        refine WQ.blockHit ?_
        refine WQ.seqN ?_
        refine WC.seq ?_
        refine WC.region ?_
        refine WL.val rfl rfl rfl (ov_move rfl) ?_
        obtain ⟨r23, hr24, HF⟩ := bind_some HF
        refine WL.call rfl rfl rfl (oc_func (vs := [v15, .string (⟨#[44, 32]⟩ : ByteArray)]) rfl t_ent_67) (ok_strings_Join _ hr24 S13.sub rs16) ?_
        rintro _ w26 ⟨h27, s28, rfl⟩
        have S29 := S13.trans0 s28
        refine WL.val rfl rfl rfl (ov_assign rfl) ?_
        refine WL.nil ?_
        refine WQ.seqN ?_
        refine WC.ret ?_
        refine WQ.ret1 rfl rfl ?_
        obtain rfl := Option.some.inj HF
        exact ⟨_, rfl, h27, S29, rfl⟩
  · exact ⟨h0, ([] : List ByteArray), .slice none 0 0, 0, HF, rfl, S0, Hle.refl _, (RS.nil _), (Own.nil _ _ _ _ _)⟩
theorem all_print_Inputs : ∀ k j, j ≤ k → C_print_Inputs (tie_print_Inputs j).print_Inputs := by
  intro k
  induction k with
  | zero =>
    intro j hj
    obtain rfl : j = 0 := by omega
    exact (fun _ _ _ => by intro h; cases h)
  | succ k ih =>
    intro j hj
    by_cases h : j ≤ k
    · exact ih j h
    · obtain rfl : j = k + 1 := by omega
      exact s_print_Inputs k ih
theorem ok_print_Inputs (k : Nat) : C_print_Inputs (F_print_Inputs k) := (all_print_Inputs k k (Nat.le_refl _))

def C_strings_Builder_copyCheck (φ : Bool → (List UInt8) → ByteArray → Option Bool) : Prop := ∀ ⦃x2 : Bool⦄ ⦃xs3 : List UInt8⦄ ⦃x9 : ByteArray⦄ ⦃r : Bool⦄, φ x2 xs3 x9 = some r → ∀ ⦃w0 : World⦄ ⦃h0 : Hp⦄ ⦃b1 : Nat⦄ ⦃A4 : Option Addr⦄ ⦃c5 : Nat⦄, Sub h0 w0 → RS h0 (.slice A4 xs3.length c5) xs3 → Own w0 h0 h0.base 5 1 (.slice A4 xs3.length c5) xs3.length → OB w0 h0 b1 55 [.pointer (bif x2 then some ⟨b1, 0, none⟩ else none), .slice A4 xs3.length c5, .string x9] → (5 : Nat) ≠ 55 →
  Calls Tryz.prog 88 #[.pointer (some ⟨b1, 0, none⟩)] w0 fun e w1 => ∃ v, e = .returned v ∧ ∃ h1, Stp [b1] w0 h0 w1 h1 ∧ v = .tuple #[] ∧ (OB w1 h1 b1 55 [.pointer (bif r then some ⟨b1, 0, none⟩ else none), .slice A4 xs3.length c5, .string x9])
set_option maxRecDepth 20000 in
theorem ok_strings_Builder_copyCheck (k : Nat) : C_strings_Builder_copyCheck (F_strings_Builder_copyCheck k) := by
  intro x2 xs3 x9 r HF w0 h0 b1 A4 c5 hs0 rs6 ow7 ob10 tn11
  simp only [F_strings_Builder_copyCheck] at HF
  cases HF
  cases x2 with
  | true =>
    refine (Any.Builder_copyCheck_used tryz240 Tryz.Builder_Extra_156.toX72 b1 w0 (OB.cell ob10 (j := 0) rfl)).mono ?_
    rintro e w1 ⟨rfl, rfl⟩
    exact ⟨_, rfl, h0, Stp.refl hs0 _, rfl, ob10⟩
  | false =>
    refine (YtaknpdhmhifpeaaGreatDoor.copyCheck_freshIn tryz240 Tryz.Builder_Extra_156.toX72 b1 55 3 w0 (OB.cell ob10 (j := 0) rfl) (OB.shape ob10) (by decide) (by kernel_rfl) (OB.unfrozen ob10)).mono ?_
    rintro e w1 ⟨rfl, rfl⟩
    have e1 := setCell_ob ob10 (.pointer (some ⟨b1, 0, none⟩)) (by simp)
    refine ⟨_, rfl, h0, ?_, rfl, ?_⟩
    · rw [e1]; exact setRow_stp hs0 ob10 _
    · rw [e1]; exact setRow_ob ob10 _

def C_strings_Builder_WriteString (φ : Bool → (List UInt8) → ByteArray → ByteArray → Option (Int × Unit × Bool × List UInt8)) : Prop := ∀ ⦃x2 : Bool⦄ ⦃xs3 : List UInt8⦄ ⦃x9 : ByteArray⦄ ⦃x11 : ByteArray⦄ ⦃r : Int × Unit × Bool × List UInt8⦄, φ x2 xs3 x9 x11 = some r → ∀ ⦃w0 : World⦄ ⦃h0 : Hp⦄ ⦃b1 : Nat⦄ ⦃A4 : Option Addr⦄ ⦃c5 : Nat⦄, Sub h0 w0 → RS h0 (.slice A4 xs3.length c5) xs3 → Own w0 h0 h0.base 5 1 (.slice A4 xs3.length c5) xs3.length → OB w0 h0 b1 55 [.pointer (bif x2 then some ⟨b1, 0, none⟩ else none), .slice A4 xs3.length c5, .string x9] → (5 : Nat) ≠ 55 →
  Calls Tryz.prog 66 #[.pointer (some ⟨b1, 0, none⟩), .string x11] w0 fun e w1 => ∃ v, e = .returned v ∧ ∃ h1, Stp (b1 :: ((Value.slice A4 xs3.length c5).ownBlock.toList ++ [])) w0 h0 w1 h1 ∧ (∃ u0 u1 : Value, v = .tuple #[u0, u1] ∧ (u0 = .int .i64 r.1) ∧ (u1 = .nilIface)) ∧ (∃ y0 : Value, RS h1 y0 r.2.2.2 ∧ Own w1 h1 h0.base 5 1 y0 r.2.2.2.length ∧ (∀ i ∈ y0.ownBlock.toList, i ∈ (Value.slice A4 xs3.length c5).ownBlock.toList ∨ w0.heap.size ≤ i) ∧ OB w1 h1 b1 55 [.pointer (bif r.2.2.1 then some ⟨b1, 0, none⟩ else none), y0, .string x9])
set_option maxRecDepth 20000 in
set_option maxHeartbeats 4000000 in
theorem s_strings_Builder_WriteString (k : Nat) : C_strings_Builder_WriteString (F_strings_Builder_WriteString k) := by
  intro x2 xs3 x9 x11 r HF w0 h0 b1 A4 c5 hs0 rs6 ow7 ob10 tn12
  have S0 : Stp (b1 :: ((Value.slice A4 xs3.length c5).ownBlock.toList ++ [])) w0 h0 w0 h0 := Stp.refl hs0 _
  have om8 : ∀ i ∈ (Value.slice A4 xs3.length c5).ownBlock.toList, i ∈ (Value.slice A4 xs3.length c5).ownBlock.toList ∨ w0.heap.size ≤ i := fun i hi => .inl hi
  have lt13 : b1 < w0.heap.size := OB.lt ob10
  refine enter (n := 19) Tryz.func66 rfl Tryz.ntmps66 rfl [(0, .pointer (some ⟨b1, 0, none⟩)), (1, .string x11)] rfl ?_
  refine WC.seq ?_
  refine WC.region ?_
  refine WL.val rfl rfl rfl (ov_assign rfl) ?_
  refine WL.val rfl rfl rfl (ov_assign rfl) ?_
  refine WL.nil ?_
  refine WQ.seqN ?_
  refine WC.seq ?_
  refine WC.region ?_
  refine WL.val rfl rfl rfl (ov_move rfl) ?_
  obtain ⟨r14, hr15, HF⟩ := bind_some HF
  refine WL.call rfl rfl rfl (oc_func (vs := [.pointer (some ⟨b1, 0, none⟩)]) rfl t_ent_88) (ok_strings_Builder_copyCheck _ hr15 S0.sub rs6 (by rw [S0.eqb]; exact ow7) ob10 tn12) ?_
  rintro v16 w17 ⟨h18, s19, rfl, ob20⟩
  have S21 := S0.trans s19 (in_cons (.inl (by simp)) in_nil)
  refine WL.nil ?_
  refine WQ.seqN ?_
  refine WC.seq ?_
  refine WC.region ?_
  refine WL.val rfl rfl rfl (ov_move rfl) ?_
  refine WL.val rfl rfl rfl (ov_move rfl) ?_
  refine WL.val rfl rfl rfl (ov_nilCheck rfl) ?_
  refine WL.val rfl rfl rfl (ov_fieldAddr rfl t_field_51_1) ?_
  refine WL.val rfl rfl rfl (ov_load1 rfl t_agg_49 (OB.cell ob20 (j := 1) rfl)) ?_
  refine WL.val rfl rfl rfl (ov_move rfl) ?_
  obtain ⟨hl22, HF⟩ := ite_none HF
  refine WL.appendS (xs := (xs3 : List UInt8)) (s := x11) rfl rfl rfl rfl t_slice_49 t_string_9 t_size_5 t_zero_5 t_bytes_5 rfl (ow7.step s19 (on_cons (ow7.ne_ob ob10 tn12) on_nil)) (rs6.mono (s19.le)) hl22 S21.sub (by have := S21.sub.big; rw [S21.eqb] at this; exact this) (by rw [S21.eqb]; exact Nat.le_refl _) (fun v23 w24 h25 rs26 ow27 s28 at29 => ?_)
  have om30 := om_next at29 om8 S21.size
  have S31 := S21.trans s28 (fun i hi => (om8 i hi).elim (fun q => .inl (by simp only [List.mem_cons, List.mem_append]; simp [q])) .inr)
  refine WL.val rfl rfl rfl (ov_nilCheck rfl) ?_
  refine WL.val rfl rfl rfl (ov_fieldAddr rfl t_field_51_1) ?_
  have ob32 := (ob20.step s28 (fun hm => (ow7.step s19 (on_cons (ow7.ne_ob ob10 tn12) on_nil)).ne ob20 tn12 _ hm rfl))
  refine WL.store (vs := [v23]) rfl rfl rfl (RS.cellsL rs26) t_size_49 (one_cons (RS.one rs26) one_nil) ob32 S31.sub (by simp) (ds := [.pointer (bif r14 then some ⟨b1, 0, none⟩ else none), v23, .string x9]) rfl (fun w33 s34 ob35 => ?_)
  have S36 := S31.trans1 s34 (.inl (by simp))
  refine WL.nil ?_
  refine WQ.seqN ?_
  refine WC.seq ?_
  refine WC.region ?_
  refine WL.val rfl rfl rfl (ov_move rfl) ?_
  refine WL.val rfl rfl rfl (ov_lenS rfl t_string_9) ?_
  refine WL.val rfl rfl rfl (ov_assign rfl) ?_
  refine WL.val rfl rfl rfl (ov_assign rfl) ?_
  refine WL.nil ?_
  refine WQ.seqN ?_
  refine WC.ret ?_
  refine WQ.ret2 rfl rfl rfl ?_
  obtain rfl := Option.some.inj HF
  exact ⟨_, rfl, h25, S36, ⟨_, _, rfl, rfl, rfl⟩, ⟨_, (rs26.mono (s34.le)), (ow27.step s34 (on_cons (ow27.ne_ob ob32 tn12) on_nil)), om30, ob35⟩⟩
theorem ok_strings_Builder_WriteString (k : Nat) : C_strings_Builder_WriteString (F_strings_Builder_WriteString k) := s_strings_Builder_WriteString k

def C_print_lines_line (φ : Bool → (List UInt8) → ByteArray → ByteArray → Option (Bool × List UInt8)) : Prop := ∀ ⦃x2 : Bool⦄ ⦃xs3 : List UInt8⦄ ⦃x9 : ByteArray⦄ ⦃x11 : ByteArray⦄ ⦃r : Bool × List UInt8⦄, φ x2 xs3 x9 x11 = some r → ∀ ⦃w0 : World⦄ ⦃h0 : Hp⦄ ⦃b1 : Nat⦄ ⦃A4 : Option Addr⦄ ⦃c5 : Nat⦄, Sub h0 w0 → RS h0 (.slice A4 xs3.length c5) xs3 → Own w0 h0 h0.base 5 1 (.slice A4 xs3.length c5) xs3.length → OB w0 h0 b1 55 [.pointer (bif x2 then some ⟨b1, 0, none⟩ else none), .slice A4 xs3.length c5, .string x9] → (5 : Nat) ≠ 55 →
  Calls Tryz.prog 39 #[.pointer (some ⟨b1, 0, none⟩), .string x11] w0 fun e w1 => ∃ v, e = .returned v ∧ ∃ h1, Stp (b1 :: ((Value.slice A4 xs3.length c5).ownBlock.toList ++ [])) w0 h0 w1 h1 ∧ v = .tuple #[] ∧ (∃ y0 : Value, RS h1 y0 r.2 ∧ Own w1 h1 h0.base 5 1 y0 r.2.length ∧ (∀ i ∈ y0.ownBlock.toList, i ∈ (Value.slice A4 xs3.length c5).ownBlock.toList ∨ w0.heap.size ≤ i) ∧ OB w1 h1 b1 55 [.pointer (bif r.1 then some ⟨b1, 0, none⟩ else none), y0, .string x9])
set_option maxRecDepth 20000 in
set_option maxHeartbeats 4000000 in
theorem s_print_lines_line (k : Nat) : C_print_lines_line (F_print_lines_line k) := by
  intro x2 xs3 x9 x11 r HF w0 h0 b1 A4 c5 hs0 rs6 ow7 ob10 tn12
  have S0 : Stp (b1 :: ((Value.slice A4 xs3.length c5).ownBlock.toList ++ [])) w0 h0 w0 h0 := Stp.refl hs0 _
  have om8 : ∀ i ∈ (Value.slice A4 xs3.length c5).ownBlock.toList, i ∈ (Value.slice A4 xs3.length c5).ownBlock.toList ∨ w0.heap.size ≤ i := fun i hi => .inl hi
  have lt13 : b1 < w0.heap.size := OB.lt ob10
  refine enter (n := 15) Tryz.func39 rfl Tryz.ntmps39 rfl [(0, .pointer (some ⟨b1, 0, none⟩)), (1, .string x11)] rfl ?_
  obtain ⟨hl14, HF⟩ := ite_none HF
  obtain ⟨hl15, HF⟩ := ite_none HF
  refine WC.drawn (m := 10) [(0, .pointer (some ⟨b1, 0, none⟩)), (1, .string x11)] [0, 1] rfl (fun i v w h => match i with | 0 => v = .pointer (some ⟨b1, 0, none⟩) | 1 => v = .pointer (some ⟨b1, 0, none⟩) | 2 => v = .pointer (some ⟨b1, 0, none⟩) | 3 => v = .pointer (some ⟨b1, 0, none⟩) | 4 => v = .pointer (some ⟨b1, 0, none⟩) | 5 => v = .pointer (some ⟨b1, 2, none⟩) | 6 => v = .string x9 | 7 => v = .string x11 | 8 => v = .string (x9 ++ x11) | 9 => v = .string ((x9 ++ x11) ++ (⟨#[10]⟩ : ByteArray)) | _ => True) t_mixed S0.sub rfl rfl rfl rfl rfl ?_ ?_ ?_
  · intro i v w h w2 h2 hΦ hst
    match i, hΦ with
    | 0, hΦ => exact hΦ
    | 1, hΦ => exact hΦ
    | 2, hΦ => exact hΦ
    | 3, hΦ => exact hΦ
    | 4, hΦ => exact hΦ
    | 5, hΦ => exact hΦ
    | 6, hΦ => exact hΦ
    | 7, hΦ => exact hΦ
    | 8, hΦ => exact hΦ
    | 9, hΦ => exact hΦ
    | i + 10, _ => exact trivial
  · refine ⟨?_, ?_, ?_, ?_, ?_, ?_, ?_, ?_, ?_, ?_, trivial⟩
    · intro a w16 h17 s18 hat hF
      exact front_val (show At _ [(0, .pointer (some ⟨b1, 0, none⟩)), (1, .string x11)] _ from hat) rfl (ov_move rfl) s18.sub (by exact rfl)
    · intro a w16 h17 s18 hat hF
      obtain hv0 := hF 0 4 rfl rfl
      exact front_val (show At _ [(4, .pointer (some ⟨b1, 0, none⟩)), (0, .pointer (some ⟨b1, 0, none⟩)), (1, .string x11)] _ from (At.cons hat hv0)) rfl (ov_nilCheck rfl) s18.sub (by exact rfl)
    · intro a w16 h17 s18 hat hF
      obtain hv1 := hF 1 5 rfl rfl
      exact front_val (show At _ [(5, .pointer (some ⟨b1, 0, none⟩)), (0, .pointer (some ⟨b1, 0, none⟩)), (1, .string x11)] _ from (At.cons hat hv1)) rfl (ov_fieldAddr rfl t_field_53_0) s18.sub (by exact rfl)
    · intro a w16 h17 s18 hat hF
      exact front_val (show At _ [(0, .pointer (some ⟨b1, 0, none⟩)), (1, .string x11)] _ from hat) rfl (ov_move rfl) s18.sub (by exact rfl)
    · intro a w16 h17 s18 hat hF
      obtain hv3 := hF 3 7 rfl rfl
      exact front_val (show At _ [(7, .pointer (some ⟨b1, 0, none⟩)), (0, .pointer (some ⟨b1, 0, none⟩)), (1, .string x11)] _ from (At.cons hat hv3)) rfl (ov_nilCheck rfl) s18.sub (by exact rfl)
    · intro a w16 h17 s18 hat hF
      obtain hv4 := hF 4 8 rfl rfl
      exact front_val (show At _ [(8, .pointer (some ⟨b1, 0, none⟩)), (0, .pointer (some ⟨b1, 0, none⟩)), (1, .string x11)] _ from (At.cons hat hv4)) rfl (ov_fieldAddr rfl t_field_53_1) s18.sub (by exact rfl)
    · intro a w16 h17 s18 hat hF
      obtain hv5 := hF 5 9 rfl rfl
      have ob19 := (ob10.step0 s18)
      exact front_val (show At _ [(9, .pointer (some ⟨b1, 2, none⟩)), (0, .pointer (some ⟨b1, 0, none⟩)), (1, .string x11)] _ from (At.cons hat hv5)) rfl (ov_load1 rfl t_agg_9 (OB.cell ob19 (j := 2) rfl)) s18.sub (by exact rfl)
    · intro a w16 h17 s18 hat hF
      exact front_val (show At _ [(0, .pointer (some ⟨b1, 0, none⟩)), (1, .string x11)] _ from hat) rfl (ov_move rfl) s18.sub (by exact rfl)
    · intro a w16 h17 s18 hat hF
      obtain hv6 := hF 6 10 rfl rfl
      obtain hv7 := hF 7 11 rfl rfl
      exact front_val (show At _ [(11, .string x11), (10, .string x9), (0, .pointer (some ⟨b1, 0, none⟩)), (1, .string x11)] _ from (At.cons (At.cons hat hv6) hv7)) rfl (ov_addS rfl rfl hl14) s18.sub (by exact rfl)
    · intro a w16 h17 s18 hat hF
      obtain hv8 := hF 8 12 rfl rfl
      exact front_val (show At _ [(12, .string (x9 ++ x11)), (0, .pointer (some ⟨b1, 0, none⟩)), (1, .string x11)] _ from (At.cons hat hv8)) rfl (ov_addS rfl rfl hl15) s18.sub (by exact rfl)
  · intro a w16 h17 s18 hat hF
    obtain hv0 := hF 0 4 (by decide) rfl
    obtain hv1 := hF 1 5 (by decide) rfl
    obtain hv2 := hF 2 6 (by decide) rfl
    obtain hv3 := hF 3 7 (by decide) rfl
    obtain hv4 := hF 4 8 (by decide) rfl
    obtain hv5 := hF 5 9 (by decide) rfl
    obtain hv6 := hF 6 10 (by decide) rfl
    obtain hv7 := hF 7 11 (by decide) rfl
    obtain hv8 := hF 8 12 (by decide) rfl
    obtain hv9 := hF 9 13 (by decide) rfl
    refine WL.at_ [(13, .string ((x9 ++ x11) ++ (⟨#[10]⟩ : ByteArray))), (12, .string (x9 ++ x11)), (11, .string x11), (10, .string x9), (9, .pointer (some ⟨b1, 2, none⟩)), (8, .pointer (some ⟨b1, 0, none⟩)), (7, .pointer (some ⟨b1, 0, none⟩)), (6, .pointer (some ⟨b1, 0, none⟩)), (5, .pointer (some ⟨b1, 0, none⟩)), (4, .pointer (some ⟨b1, 0, none⟩)), (0, .pointer (some ⟨b1, 0, none⟩)), (1, .string x11)] (At.cons (At.cons (At.cons (At.cons (At.cons (At.cons (At.cons (At.cons (At.cons (At.cons hat hv0) hv1) hv2) hv3) hv4) hv5) hv6) hv7) hv8) hv9) ?_
    have S20 := S0.trans0 s18
    have ob21 := (ob10.step0 s18)
    obtain ⟨r22, hr23, HF⟩ := bind_some HF
    refine WL.call rfl rfl rfl (oc_func (vs := [.pointer (some ⟨b1, 0, none⟩), .string ((x9 ++ x11) ++ (⟨#[10]⟩ : ByteArray))]) rfl t_ent_66) (ok_strings_Builder_WriteString _ hr23 S20.sub (rs6.mono (s18.le)) (by rw [S20.eqb]; exact (ow7.step0 s18)) ob21 tn12) ?_
    rintro _ w25 ⟨h26, s27, ⟨_, _, rfl, rfl, rfl⟩, ⟨v28, rs29, ow30, om31, ob34⟩⟩
    have ow32 := Own.rb ow30 S20.eqb
    have om33 : ∀ i ∈ v28.ownBlock.toList, i ∈ (Value.slice A4 xs3.length c5).ownBlock.toList ∨ w0.heap.size ≤ i := fun i hi => (om31 i hi).elim (fun q => om8 i q) (fun q => .inr (Nat.le_trans S20.size q))
    have S35 := S20.trans s27 (in_cons (.inl (by simp)) (in_own (fun i hi => (om8 i hi).elim (fun q => .inl (by simp only [List.mem_cons, List.mem_append]; simp [q])) .inr) in_nil))
    refine WL.nil ?_
    refine WQ.end0 rfl ?_
    obtain rfl := Option.some.inj HF
    exact ⟨_, rfl, h26, S35, rfl, ⟨_, rs29, ow32, om33, ob34⟩⟩
theorem ok_print_lines_line (k : Nat) : C_print_lines_line (F_print_lines_line k) := s_print_lines_line k

def C_print_Joined_int (φ : (List Int) → ByteArray → Option ByteArray) : Prop := ∀ ⦃xs1 : List Int⦄ ⦃x4 : ByteArray⦄ ⦃r : ByteArray⦄, φ xs1 x4 = some r → ∀ ⦃w0 : World⦄ ⦃h0 : Hp⦄ ⦃v2 : Value⦄, Sub h0 w0 → RS h0 v2 xs1 →
  Calls Tryz.prog 45 #[v2, .string x4, .func (.func 36) #[] #[]] w0 fun e w1 => ∃ v, e = .returned v ∧ ∃ h1, Stp [] w0 h0 w1 h1 ∧ v = .string r
set_option maxRecDepth 20000 in
set_option maxHeartbeats 4000000 in
theorem s_print_Joined_int (k : Nat) (IH : ∀ j, j ≤ k → C_print_Joined_int (tie_print_Joined_int j).print_Joined_int) : C_print_Joined_int (m_print_Joined_int k (tie_print_Joined_int k)) := by
  intro xs1 x4 r HF w0 h0 v2 hs0 rs3
  have S0 : Stp [] w0 h0 w0 h0 := Stp.refl hs0 _
  refine enter (n := 26) Tryz.func45 rfl Tryz.ntmps45 rfl [(0, v2), (1, .string x4), (2, .func (.func 36) #[] #[])] rfl ?_
  refine WC.seq ?_
  refine WC.region ?_
  refine WL.val rfl rfl rfl (ov_assign rfl) ?_
  refine WL.nil ?_
  refine WQ.seqN ?_
  refine WC.seq ?_
  refine WC.region ?_
  refine WL.val rfl rfl rfl (ov_assign rfl) ?_
  refine WL.nil ?_
  refine WQ.seqN ?_
  refine WC.seq ?_
  refine WC.seq ?_
  refine WC.region ?_
  refine WL.val rfl rfl rfl (ov_move rfl) ?_
  obtain ⟨A5, c6, rfl, rs7⟩ := RS.form rs3
  refine WL.val rfl rfl rfl (ov_lenL rfl t_slice_45) ?_
  refine WL.val rfl rfl rfl (ov_move rfl) ?_
  refine WL.nil ?_
  refine WQ.seqN ?_
  refine WC.block ?_
  refine WC.loop ?_
  refine WP.to [1, 2, 7, 10, 11, 12] [(1, .string x4), (2, .func (.func 36) #[] #[]), (7, .slice none 0 0), (10, .slice A5 (xs1).length c6), (11, .int .i64 (xs1.length : Int)), (12, .int .i64 0)] rfl ?_
  refine WP_rule (K := k) (fun j E w9 => ∃ (h8 : Hp) (xs12 : List ByteArray) (v13 : Value) (x16 : Int), (tie_print_Joined_int j).print_Joined_int_l1 xs1 x4 xs12 x16 = some r ∧ E = [(1, .string x4), (2, .func (.func 36) #[] #[]), (7, v13), (10, .slice A5 (xs1).length c6), (11, .int .i64 (xs1.length : Int)), (12, .int .i64 x16)] ∧ Stp [] w0 h0 w9 h8 ∧ Hle h0 h8 ∧ RS h8 v13 xs12 ∧ Own w9 h8 w0.heap.size 9 1 v13 xs12.length) ?_ ?_ (j := k) (Nat.le_refl _) ?_
  · rintro E w9 ⟨_, _, _, _, HF, _⟩; cases HF
  · rintro j17 hj19 IHL18 E w9 ⟨h8, xs12, v13, x16, HF, rfl, S11, le10, rs14, ow15⟩
    refine WC.seq ?_
    refine WC.region ?_
    refine WL.val rfl rfl rfl (ov_lss rfl rfl) ?_
    refine WL.nil ?_
    refine WQ.seqN ?_
    refine WC.join (fun E w29 => ∃ (h28 : Hp) (xs32 : List ByteArray) (v33 : Value), print_Joined_int_j2 j17 (tie_print_Joined_int j17) xs1 x4 x16 xs32 = some r ∧ E = [(1, .string x4), (2, .func (.func 36) #[] #[]), (7, v33), (10, .slice A5 (xs1).length c6), (11, .int .i64 (xs1.length : Int)), (12, .int .i64 x16)] ∧ Stp [] w0 h0 w29 h28 ∧ Hle h8 h28 ∧ RS h28 v33 xs32 ∧ Own w29 h28 w0.heap.size 9 1 v33 xs32.length) ?_ ?_
    · rintro E w29 ⟨h28, xs32, v33, HF, rfl, S31, le30, rs34, ow35⟩
      refine WC.seq ?_
      refine WC.block ?_
      refine WC.seq ?_
      refine WC.region ?_
      obtain ⟨e36, he37, HF⟩ := bind_some HF
      obtain ⟨b38, o39, rfl, h41, h42, ra40⟩ := RS.atO (rs7.mono ((le10).trans le30)) he37
      obtain ⟨cs43, r44, hc45⟩ := ra40
      obtain rfl := (show cs43 = _ from r44)
      refine WL.val rfl rfl rfl (ov_indexAddr rfl rfl t_slice_45 t_size_3 h41 h42) ?_
      refine WL.val rfl rfl rfl (ov_load1 rfl t_agg_3 (S31.sub.at_ _ _ _ (hc45 0 _ rfl))) ?_
      refine WL.val rfl rfl rfl (ov_assign rfl) ?_
      refine WL.nil ?_
      refine WQ.seqN ?_
      refine WC.region ?_
      refine WL.val rfl rfl rfl (ov_move rfl) ?_
      refine WL.val rfl rfl rfl (ov_move rfl) ?_
      refine WL.val rfl rfl rfl (ov_move rfl) ?_
      obtain ⟨r46, hr47, HF⟩ := bind_some HF
      refine WL.call rfl rfl rfl (oc_val (vs := [.int .i64 e36]) (caps := []) rfl rfl t_ent_36) (ok_strconv_Itoa _ hr47 S31.sub) ?_
      rintro _ w49 ⟨h50, s51, rfl⟩
      have S52 := S31.trans0 s51
      refine WL.buildSliceD (us := [.string r46]) (cs := [.string r46]) rfl rfl rfl t_slice_41 t_size_9 t_zero_9 rfl (cl_cons rfl cl_nil) rfl rfl rfl S52.sub (fun w53 h54 b55 hb56 s57 hk58 hc59 => ?_)
      have S60 := S52.trans0 s57
      have rs61 : RS h54 (.slice (some ⟨b55, 0, none⟩) 1 1) ([r46] : List ByteArray) := RS.litL _ [[.string r46]] rfl rfl hc59 ⟨rfl, trivial⟩
      have ow62 := Own.lit (base := w0.heap.size) (sz := 1) (m := 1) hk58 hc59 (by rw [hb56]; exact S52.size) rfl (by decide)
      obtain ⟨hl63, HF⟩ := ite_none HF
      refine WL.append (xs := (xs32 : List ByteArray)) (ys := [r46]) rfl rfl rfl rfl t_slice_41 t_size_9 t_zero_9 rfl t_bytes_9 rfl ((ow35.step0 s51).step0 s57) (rs34.mono ((s51.le).trans s57.le)) rs61 hl63 S60.sub S60.size (by rw [S60.eqb]; exact hs0.big) (fun v64 w65 h66 rs67 ow68 s69 at70 => ?_)
      have S71 := S60.trans s69 (fun i hi => .inr (((ow35.step0 s51).step0 s57).base_le i hi))
      refine WL.val rfl rfl rfl (ov_assign rfl) ?_
      refine WL.nil ?_
      refine WQ.blockN ?_
      refine WQ.seqN ?_
      refine WC.region ?_
      refine WL.val rfl rfl rfl (ov_add rfl rfl) ?_
      refine WL.val rfl rfl rfl (ov_move rfl) ?_
      refine WL.nil ?_
      refine WQ.loopN ?_
      refine WP.to [1, 2, 7, 10, 11, 12] [(1, .string x4), (2, .func (.func 36) #[] #[]), (7, v64), (10, .slice (some ⟨b38, o39, none⟩) (xs1).length c6), (11, .int .i64 (xs1.length : Int)), (12, .int .i64 (IntKind.i64.wrap (x16 + 1)))] rfl ?_
      exact IHL18 j17 (Nat.le_refl _) _ _ ⟨h66, xs32 ++ [r46], v64, IntKind.i64.wrap (x16 + 1), HF, rfl, S71, (le10).trans ((le30).trans ((s51.le).trans ((s57.le).trans s69.le))), rs67, ow68⟩
    · intro J72
      refine WC.cond (b := decide ((x16 : Int) < (xs1.length : Int))) rfl (fun hb20 => ?_) (fun hb20 => ?_)
      · replace HF := bif_t hb20 HF
        refine WC.skip ?_
        refine WC.to [1, 2, 7, 10, 11, 12] [(1, .string x4), (2, .func (.func 36) #[] #[]), (7, v13), (10, .slice A5 (xs1).length c6), (11, .int .i64 (xs1.length : Int)), (12, .int .i64 x16)] rfl ?_
        exact J72 ⟨h8, xs12, v13, HF, rfl, S11, Hle.refl _, rs14, ow15⟩
      · replace HF := bif_f hb20 HF
        refine WC.exit ?_
        refine WQ.thenExit ?_
        refine WQ.thenExit ?_
        refine WQ.blockHit ?_
        refine WQ.seqN ?_
        refine WC.seq ?_
        refine WC.region ?_
        refine WL.val rfl rfl rfl (ov_move rfl) ?_
        refine WL.val rfl rfl rfl (ov_move rfl) ?_
        obtain ⟨r21, hr22, HF⟩ := bind_some HF
        refine WL.call rfl rfl rfl (oc_func (vs := [v13, .string x4]) rfl t_ent_67) (ok_strings_Join _ hr22 S11.sub rs14) ?_
        rintro _ w24 ⟨h25, s26, rfl⟩
        have S27 := S11.trans0 s26
        refine WL.val rfl rfl rfl (ov_assign rfl) ?_
        refine WL.nil ?_
        refine WQ.seqN ?_
        refine WC.ret ?_
        refine WQ.ret1 rfl rfl ?_
        obtain rfl := Option.some.inj HF
        exact ⟨_, rfl, h25, S27, rfl⟩
  · exact ⟨h0, ([] : List ByteArray), .slice none 0 0, 0, HF, rfl, S0, Hle.refl _, (RS.nil _), (Own.nil _ _ _ _ _)⟩
theorem all_print_Joined_int : ∀ k j, j ≤ k → C_print_Joined_int (tie_print_Joined_int j).print_Joined_int := by
  intro k
  induction k with
  | zero =>
    intro j hj
    obtain rfl : j = 0 := by omega
    exact (fun _ _ _ => by intro h; cases h)
  | succ k ih =>
    intro j hj
    by_cases h : j ≤ k
    · exact ih j h
    · obtain rfl : j = k + 1 := by omega
      exact s_print_Joined_int k ih
theorem ok_print_Joined_int (k : Nat) : C_print_Joined_int (F_print_Joined_int k) := (all_print_Joined_int k k (Nat.le_refl _))
end Go.Proofs.YtaknpdhmhifpeaaGreatDoor
